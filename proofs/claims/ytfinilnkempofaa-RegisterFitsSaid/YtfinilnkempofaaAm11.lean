/- What is struck at a call's end, and at a loop's head. -/
import Derived.Test.YtfinilnkempofaaAm10
set_option linter.all false
set_option linter.unusedVariables false
set_option linter.unusedSimpArgs false
set_option linter.unnecessarySimpa false
namespace Go.Am

section
variable {P : Program} {ρ ρ' : Ren} {H : List Blk} {w : World}

theorem reach_inv (H : List Blk) (n : Nat) : ∀ (fuel : Nat) (work acc : List Nat), acc.Nodup → (∀ r ∈ acc, n ≤ r) → (reach H n fuel work acc).Nodup ∧ ∀ r ∈ reach H n fuel work acc, n ≤ r
  | 0, work, acc, h1, h2 => by simpa [reach] using ⟨h1, h2⟩
  | fuel + 1, [], acc, h1, h2 => by simpa [reach] using ⟨h1, h2⟩
  | fuel + 1, r :: rs, acc, h1, h2 => by
    simp only [reach]
    split
    · exact reach_inv H n fuel rs acc h1 h2
    · split
      · exact reach_inv H n fuel rs acc h1 h2
      · rename_i hr hc
        refine reach_inv H n fuel _ _ ?_ ?_
        · rw [List.nodup_append]
          refine ⟨h1, by simp, fun a ha b hb => ?_⟩
          simp at hb; subst hb
          intro he; subst he
          exact hc (by simpa using ha)
        · intro x hx
          simp at hx
          rcases hx with hx | rfl
          · exact h2 x hx
          · omega

theorem findIx_spec (r : Nat) : ∀ (l : List Nat) (i : Nat), r ∈ l → ∃ j, findIx r l i = some (i + j) ∧ l[j]? = some r
  | [], i, h => by simp at h
  | x :: xs, i, h => by
    simp only [findIx]
    by_cases hx : x = r
    · exact ⟨0, by simp [hx], by simp [hx]⟩
    · simp [Ne.symm hx] at h
      obtain ⟨j, h1, h2⟩ := findIx_spec r xs (i + 1) h
      exact ⟨j + 1, by rw [if_neg hx, h1]; congr 1; omega, by simpa using h2⟩

/-- every block that a live block names is known -/
theorem refs_known (h : Rel P ρ H w) {b : Nat} {k : Blk} (hb : H[b]? = some k) {r : Nat} (hr : r ∈ blkRefs k) : (ρ r).isSome = true := by
  cases k with
  | cells cs e own =>
    obtain ⟨_, _, _, _, _, _, _, _, hL, _⟩ := cells_get h hb
    exact hL.known r hr
  | map es clock =>
    obtain ⟨_, _, _, _, _, h4⟩ := map_get h hb
    simp only [blkRefs, List.mem_flatMap, List.mem_append] at hr
    obtain ⟨e, he, hr⟩ := hr
    obtain ⟨i, hi⟩ := List.mem_iff_getElem?.1 he
    obtain ⟨ce, _, h5, h6, _⟩ := h4 i e hi
    rcases hr with hr | hr
    · exact h5.known r hr
    · exact h6.known r hr
  | iter m a b' c =>
    obtain ⟨cb, base, o, _, _, _, cm, _, h2⟩ := h.blk b _ hb rfl
    rcases h2 with ⟨rfl, _⟩ | ⟨r', cr, rfl, _, h3⟩
    · simp [blkRefs] at hr
    · simp [blkRefs] at hr; subst hr; simp [h3]
  | dead => simp [blkRefs] at hr

theorem refs_lt (h : Rel P ρ H w) {b : Nat} {k : Blk} (hb : H[b]? = some k) {r : Nat} (hr : r ∈ blkRefs k) : r < H.length := by
  have := refs_known h hb hr
  by_cases hl : r < H.length
  · exact hl
  · rw [h.dom r (Nat.le_of_not_lt hl)] at this; simp at this

def renRho (n : Nat) (kept : List Nat) (ρ : Ren) : Ren := ⟨fun b => if b < n then ρ b else match kept[b - n]? with | some r => ρ r | none => none, ρ.fz⟩

theorem renRho_renum {n : Nat} {kept : List Nat} {r : Nat} (h : r < n ∨ r ∈ kept) : renRho n kept ρ (renum n kept r) = ρ r := by
  by_cases hr : r < n
  · simp [renum, hr, renRho]
  · have hk : r ∈ kept := h.resolve_left hr
    obtain ⟨j, h1, h2⟩ := findIx_spec r kept 0 hk
    simp only [renum, if_neg hr, h1, Nat.zero_add]
    simp [renRho, h2]
    intro hx; omega

theorem BRel.ren {n : Nat} {kept : List Nat} {k : Blk} {base : Nat} {o : Obj} {sh : Sh} (h : BRel P ρ sh k base o) (hc : ∀ r ∈ blkRefs k, r < n ∨ r ∈ kept) : BRel P (renRho n kept ρ) sh (renBlk (renum n kept) k) base o := by
  cases k with
  | cells cs e own =>
    obtain ⟨carr, fz, h1, h2, h3, h4⟩ := h
    refine ⟨carr, fz, h1, ?_, h3, ?_⟩
    · have := h2.ren (ρ' := renRho n kept ρ) (fun _ _ h => h) (sh' := sh) (σ := renum n kept) (fun b hb => renRho_renum (hc b hb)) (fun _ _ h => h)
      simpa [lren_map] using this
    · rw [lren_map]
      unfold allCells at *
      rw [List.all_eq_true] at *
      intro x hx
      obtain ⟨y, hy, rfl⟩ := List.mem_map.1 hx
      have := h4 y hy
      cases y with
      | pointer a => cases a <;> rfl
      | slice a l c => cases a <;> rfl
      | map r => cases r <;> rfl
      | agg _ => simp [cellV] at this
      | tuple _ => simp [cellV] at this
      | chan _ => simp [cellV] at this
      | _ => rfl
  | map es clock =>
    obtain ⟨h0, ces, h1, h2, h3⟩ := h
    refine ⟨h0, ces, h1, by simpa using h2, fun i e he => ?_⟩
    rw [List.getElem?_map] at he
    cases hi : es[i]? with
    | none => simp [hi] at he
    | some e' =>
      simp [hi] at he; subst he
      obtain ⟨ce, hc1, hk, hv, hb⟩ := h3 i e' hi
      have hm : ∀ r, r ∈ vrefs e'.key ∨ r ∈ vrefs e'.val → r < n ∨ r ∈ kept := fun r hr => hc r (by
        simp only [blkRefs, List.mem_flatMap, List.mem_append]; exact ⟨e', List.mem_of_getElem? hi, hr⟩)
      exact ⟨ce, hc1, hk.ren (fun _ _ h => h) (fun b hb => renRho_renum (hm b (.inl hb))) (fun _ _ h => h), hv.ren (fun _ _ h => h) (fun b hb => renRho_renum (hm b (.inr hb))) (fun _ _ h => h), hb⟩
  | iter m a b c =>
    obtain ⟨h0, cm, h1, h2⟩ := h
    refine ⟨h0, cm, h1, ?_⟩
    rcases h2 with ⟨rfl, g⟩ | ⟨r', cr, rfl, g, h3⟩
    · exact .inl ⟨rfl, g⟩
    · exact .inr ⟨_, cr, rfl, g, by rw [renRho_renum (hc r' (by simp [blkRefs])), h3]⟩
  | dead => trivial

theorem renBlk_owns (σ : Nat → Nat) (k : Blk) : (renBlk σ k).owns = k.owns := by cases k <;> rfl
theorem renBlk_live (σ : Nat → Nat) (k : Blk) : (renBlk σ k).live = k.live := by cases k <;> rfl

theorem closed_spec {n : Nat} {kept l : List Nat} (h : closed n kept l = true) : ∀ r ∈ l, r < n ∨ r ∈ kept := by
  intro r hr
  unfold closed at h
  rw [List.all_eq_true] at h
  have := h r hr
  simpa using this

/-- what is struck is named by nothing that stays -/
theorem gc_sound (h : Rel P ρ H w) {n : Nat} {vs cvs : List Value} {e : Option Nat} (hL : LRel P ρ w.shape? vs cvs) (hn : n ≤ H.length)
    (hold : (∀ m, e = some m → n ≤ m) → ∀ b k r, b < n → H[b]? = some k → r ∈ blkRefs k → r < n) :
    ∃ ρ', Rel P ρ' (gc n vs ⟨H, e⟩).2.H w ∧ LRel P ρ' w.shape? (gc n vs ⟨H, e⟩).1 cvs ∧ Step n ρ H w ρ' (gc n vs ⟨H, e⟩).2.H w ∧ n ≤ (gc n vs ⟨H, e⟩).2.H.length ∧
      (∀ b, b < n → (gc n vs ⟨H, e⟩).2.H[b]? = H[b]?) ∧ ((gc n vs ⟨H, e⟩).2.esc = e ∨ ((gc n vs ⟨H, e⟩).2.esc = none ∧ ∀ m, e = some m → n ≤ m)) ∧ (gc n vs ⟨H, e⟩).1.length = vs.length := by
  unfold gc
  split
  · rename_i he
    have he' : ∀ m, e = some m → n ≤ m := by intro m hm; subst hm; simpa [escOk] using he
    have hold := hold he'
    simp only
    generalize hkept : reach H n (H.length * 64 + 4096) (lrefs vs) [] = kept
    have hinv := reach_inv H n (H.length * 64 + 4096) (lrefs vs) [] List.nodup_nil (fun r hr => by simp at hr)
    rw [hkept] at hinv
    split
    · rename_i hcond
      obtain ⟨hc1, hc2, _⟩ := hcond
      have hc1 := closed_spec hc1
      rw [List.all_eq_true] at hc2
      have hget : ∀ b, b < n → (H.take n ++ (kept.map fun r => H.getD r .dead).map (renBlk (renum n kept)))[b]? = H[b]? := by
        intro b hb
        rw [List.getElem?_append_left (by simp; omega), List.getElem?_take, if_pos hb]
      have hget2 : ∀ i k, (H.take n ++ (kept.map fun r => H.getD r .dead).map (renBlk (renum n kept)))[n + i]? = some k → ∃ r, kept[i]? = some r ∧ k = renBlk (renum n kept) (H.getD r .dead) := by
        intro i k hk
        rw [List.getElem?_append_right (by simp; omega)] at hk
        have : n + i - (H.take n).length = i := by simp; omega
        rw [this] at hk
        cases hi : kept[i]? with
        | none => simp [hi] at hk
        | some r => simp [hi] at hk; exact ⟨r, rfl, by rw [← hk]; simp [List.getD]⟩
      -- a live block behind n
      have hlive : ∀ r, (H.getD r .dead).live = true → H[r]? = some (H.getD r .dead) := by
        intro r hr
        by_cases hlt : r < H.length
        · simp [List.getD, List.getElem?_eq_getElem hlt]
        · simp [List.getD, List.getElem?_eq_none (Nat.le_of_not_lt hlt), Blk.live] at hr
      have hol : ∀ {k : Blk}, k.owns = true → k.live = true := by intro k; cases k <;> simp [Blk.owns, Blk.live]
      -- where a live block of the new list comes from
      have hfrom : ∀ b k, (H.take n ++ (kept.map fun r => H.getD r .dead).map (renBlk (renum n kept)))[b]? = some k → k.live = true →
          ∃ b0 k0, H[b0]? = some k0 ∧ k0.live = true ∧ k0.owns = k.owns ∧ renRho n kept ρ b = ρ b0 ∧ (∀ base o, BRel P ρ w.shape? k0 base o → BRel P (renRho n kept ρ) w.shape? k base o) ∧ ((b < n ∧ b0 = b) ∨ (n ≤ b ∧ n ≤ b0 ∧ kept[b - n]? = some b0)) := by
        intro b k hk hl
        by_cases hb : b < n
        · rw [hget b hb] at hk
          refine ⟨b, k, hk, hl, rfl, by simp [renRho, hb], fun base o hB => ?_, .inl ⟨hb, rfl⟩⟩
          refine BRel.congr_rho hB (fun _ _ h => h) (fun r hr => ?_)
          have := hold b k r hb hk hr
          simp [renRho, this]
        · obtain ⟨i, rfl⟩ : ∃ i, b = n + i := ⟨b - n, by omega⟩
          obtain ⟨r, hr, rfl⟩ := hget2 i k hk
          rw [renBlk_live] at hl
          refine ⟨r, H.getD r .dead, hlive r hl, hl, (renBlk_owns _ _).symm, by simp [renRho, hr]; intro hx; omega, fun base o hB => ?_, .inr ⟨by omega, hinv.2 r (List.mem_of_getElem? hr), by simpa using hr⟩⟩
          exact hB.ren (closed_spec (hc2 _ (by simp only [List.mem_map]; exact ⟨r, List.mem_of_getElem? hr, rfl⟩)))
      have hown : ∀ cb, Owned (renRho n kept ρ) (H.take n ++ (kept.map fun r => H.getD r .dead).map (renBlk (renum n kept))) cb → Owned ρ H cb := by
        intro cb ho
        obtain ⟨b, k, x, hk, hown, hr⟩ := ho
        obtain ⟨b0, k0, h1, _, h3, h4, _, _⟩ := hfrom b k hk (hol hown)
        exact ⟨b0, k0, x, h1, by rw [h3]; exact hown, by rw [← h4]; exact hr⟩
      refine ⟨renRho n kept ρ, ⟨fun b k hk hl => ?_, fun b b' k k' hk hk' ho hl hne cb x y hx hy => ?_, fun b hb => ?_, fun cb c hc => ⟨(h.frozen cb c hc).1, fun ho => (h.frozen cb c hc).2 (hown cb ho)⟩⟩, ?_, ?_, by simp; omega, hget, .inr ⟨by trivial, he'⟩, by simp [lren_map]⟩
      · obtain ⟨b0, k0, h1, h2, _, h4, h5, _⟩ := hfrom b k hk hl
        obtain ⟨cb, base, o, g1, g2, g3⟩ := h.blk b0 k0 h1 h2
        exact ⟨cb, base, o, by rw [h4]; exact g1, g2, h5 _ _ g3⟩
      · obtain ⟨b0, k0, h1, h2, h3, h4, _, h6⟩ := hfrom b k hk (hol ho)
        obtain ⟨b1, k1, g1, g2, g3, g4, _, g6⟩ := hfrom b' k' hk' hl
        have hne' : b0 ≠ b1 := by
          intro he
          subst he
          rcases h6 with ⟨p1, p2⟩ | ⟨p1, p2, p3⟩ <;> rcases g6 with ⟨q1, q2⟩ | ⟨q1, q2, q3⟩
          · exact hne (p2.symm.trans q2)
          · omega
          · omega
          · have := (List.getElem?_inj (lt_of_get p3) hinv.1).1 (p3.trans q3.symm); omega
        rw [h4] at hx; rw [g4] at hy
        exact h.uniq b0 b1 k0 k1 h1 g1 (by rw [h3]; exact ho) g2 hne' cb x y hx hy
      · simp at hb
        have h1 : ¬ b < n := by omega
        have h2 : kept[b - n]? = none := List.getElem?_eq_none (by omega)
        simp [renRho, h1, h2]
      · exact hL.ren (fun _ _ h => h) (fun b hb => renRho_renum (hc1 b hb)) (fun _ _ h => h)
      · refine ⟨fun b hb => by simp [renRho, hb], fun _ _ h => h, Nat.le_refl _, fun _ _ _ => rfl, fun cb hcb ho => hown cb ho, rfl, rfl, fun _ _ h => h, fun cb hcb ho => ho.elim (fun ho => .inl ?_) .inr⟩
        obtain ⟨b, k, x, hk, hlv, hr⟩ := ho
        obtain ⟨b0, k0, h1, h2, _, h4, _, _⟩ := hfrom b k hk hlv
        exact ⟨b0, k0, x, h1, h2, by rw [← h4]; exact hr⟩
    · exact ⟨ρ, h, hL, .refl _, hn, fun _ _ => rfl, .inl rfl, rfl⟩
  · exact ⟨ρ, h, hL, .refl _, hn, fun _ _ => rfl, .inl rfl, rfl⟩
where
  BRel.congr_rho {ρ ρ' : Ren} {k : Blk} {base : Nat} {o : Obj} {sh : Sh} (h : BRel P ρ sh k base o) (hz : ∀ cb c, ρ.fz cb = some c → ρ'.fz cb = some c) (hc : ∀ r ∈ blkRefs k, ρ' r = ρ r) : BRel P ρ' sh k base o := by
    cases k with
    | cells cs e own =>
      obtain ⟨carr, fz, h1, h2, h3, h4⟩ := h
      refine ⟨carr, fz, h1, ⟨h2.1, fun i v hv => ?_⟩, h3, h4⟩
      obtain ⟨y, hy, hr⟩ := h2.2 i v hv
      exact ⟨y, hy, hr.congr hz (fun b hb => hc b (mem_lrefs.2 ⟨v, List.mem_of_getElem? hv, hb⟩))⟩
    | map es clock =>
      obtain ⟨h0, ces, h1, h2, h3⟩ := h
      refine ⟨h0, ces, h1, h2, fun i e he => ?_⟩
      obtain ⟨ce, hc1, hk, hv, hb⟩ := h3 i e he
      have hm : ∀ r, r ∈ vrefs e.key ∨ r ∈ vrefs e.val → ρ' r = ρ r := fun r hr => hc r (by
        simp only [blkRefs, List.mem_flatMap, List.mem_append]; exact ⟨e, List.mem_of_getElem? he, hr⟩)
      exact ⟨ce, hc1, hk.congr hz (fun b hb => hm b (.inl hb)), hv.congr hz (fun b hb => hm b (.inr hb)), hb⟩
    | iter m a b c =>
      obtain ⟨h0, cm, h1, h2⟩ := h
      refine ⟨h0, cm, h1, ?_⟩
      rcases h2 with ⟨rfl, g⟩ | ⟨r', cr, rfl, g, h3⟩
      · exact .inl ⟨rfl, g⟩
      · exact .inr ⟨r', cr, rfl, g, by rw [hc r' (by simp [blkRefs]), h3]⟩
    | dead => trivial
end
end Go.Am
