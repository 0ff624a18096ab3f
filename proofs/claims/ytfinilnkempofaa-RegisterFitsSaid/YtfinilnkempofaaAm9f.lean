/- Own rows become part of the values that name them. -/
import Derived.Test.YtfinilnkempofaaAm9
set_option linter.all false
set_option linter.unusedVariables false
set_option linter.unusedSimpArgs false
set_option linter.unnecessarySimpa false
namespace Go.Am

section
variable {P : Program} {ρ ρ' : Ren} {H : List Blk} {w : World}

theorem freeze_rel (h : Rel P ρ H w) {b cb base : Nat} {cs : List Value} {e : TypeId} {carr : Array Value} {fz : Nat × Nat} (hk : H[b]? = some (.cells cs e true)) (hr : ρ b = some (cb, base)) (ho : w.heap[cb]? = some (.cells carr e fz)) :
    ∃ ρ' : Ren, ρ'.at_ = ρ.at_ ∧ ρ'.fz cb = some carr ∧ (∀ x c, ρ.fz x = some c → ρ'.fz x = some c) ∧ Rel P ρ' (H.set b .dead) w ∧ Step H.length ρ H w ρ' (H.set b .dead) w := by
  have hown : Owned ρ H cb := ⟨b, _, base, hk, rfl, hr⟩
  have hmono : ∀ x c, ρ.fz x = some c → (if x = cb then some carr else ρ.fz x) = some c := by
    intro x c hc
    by_cases hx : x = cb
    · subst hx; exact absurd hown (h.frozen _ _ hc).2
    · rw [if_neg hx]; exact hc
  obtain ⟨h1, h2⟩ := kill_rel h (b := b)
  have hlt := lt_of_get hk
  have hno : ¬ Owned ρ (H.set b .dead) cb := by
    rintro ⟨b', k', x, hk', ho', hr'⟩
    by_cases hb : b' = b
    · subst hb
      rw [List.getElem?_set_self hlt] at hk'
      simp at hk'; subst hk'; simp [Blk.owns] at ho'
    · rw [List.getElem?_set_ne (Ne.symm hb)] at hk'
      exact h.uniq b' b k' _ hk' hk ho' rfl hb cb x base hr' hr
  refine ⟨⟨ρ.at_, fun x => if x = cb then some carr else ρ.fz x⟩, rfl, by simp, hmono, ⟨fun c k hc hl => ?_, h1.uniq, h1.dom, fun x c hc => ?_⟩, ⟨h2.ext, h2.shape, h2.size, h2.keep, h2.own, h2.os, h2.output, hmono, fun x hx hm => ?_⟩⟩
  · obtain ⟨cb1, base1, o1, e1, e2, e3⟩ := h1.blk c k hc hl
    exact ⟨cb1, base1, o1, e1, e2, e3.mono hmono (fun _ _ h => h) (fun _ _ h => h)⟩
  · by_cases hx : x = cb
    · subst hx
      have hcc : carr = c := by simpa using hc
      subst hcc
      exact ⟨⟨e, fz, ho⟩, hno⟩
    · have hcc : ρ.fz x = some c := by simpa [hx] using hc
      exact h1.frozen x c hcc
  · rcases hm with hm | ⟨c, hc⟩
    · exact h2.old x hx (.inl hm)
    · by_cases hxc : x = cb
      · subst hxc; exact .inl ⟨b, _, base, hk, rfl, hr⟩
      · exact .inr ⟨c, by simpa [hxc] using hc⟩

/-- to become part of a value: what it may do -/
def FOk (P : Program) (w : World) (f : Value → List Blk → Value × List Blk) : Prop := ∀ (ρ : Ren) (H : List Blk) (v cv : Value), Rel P ρ H w → VRel P ρ w.shape? v cv →
  ∃ ρ' : Ren, ρ'.at_ = ρ.at_ ∧ Rel P ρ' (f v H).2 w ∧ Step H.length ρ H w ρ' (f v H).2 w ∧ VRel P ρ' w.shape? (f v H).1 cv ∧ (f v H).2.length = H.length

theorem frzL_sound {f : Value → List Blk → Value × List Blk} (hf : FOk P w f) : ∀ (l l' : List Value) (ρ : Ren) (H : List Blk), Rel P ρ H w → LRel P ρ w.shape? l l' →
    ∃ ρ' : Ren, ρ'.at_ = ρ.at_ ∧ Rel P ρ' (frzL f l H).2 w ∧ Step H.length ρ H w ρ' (frzL f l H).2 w ∧ LRel P ρ' w.shape? (frzL f l H).1 l' ∧ (frzL f l H).2.length = H.length
  | [], l', ρ, H, h, hL => ⟨ρ, rfl, h, .refl _, hL, rfl⟩
  | v :: vs, [], ρ, H, h, hL => by have := hL.1; simp at this
  | v :: vs, c :: cs, ρ, H, h, hL => by
    obtain ⟨h1, h2⟩ := hL.head
    obtain ⟨ρ1, a1, r1, s1, v1, n1⟩ := hf ρ H v c h h1
    have hr1 : ∀ b x, ρ b = some x → ρ1 b = some x := fun b x hb => by rw [a1]; exact hb
    obtain ⟨ρ2, a2, r2, s2, v2, n2⟩ := frzL_sound hf vs cs ρ1 (f v H).2 r1 (h2.mono s1.fz hr1 (fun _ _ h => h))
    have hr2 : ∀ b x, ρ1 b = some x → ρ2 b = some x := fun b x hb => by rw [a2]; exact hb
    refine ⟨ρ2, a2.trans a1, r2, s1.trans (s2.less (by omega)), ?_, n2.trans n1⟩
    exact .cons (v1.mono s2.fz hr2 (fun _ _ h => h)) v2

theorem frz_sound (n0 : Nat) : ∀ k, FOk P w (frz P n0 k)
  | 0 => fun ρ H v cv h hv => ⟨ρ, rfl, h, .refl _, hv, rfl⟩
  | k + 1 => fun ρ H v cv h hv => by
    unfold frz
    split
    · have := hv.eq_of_plain rfl
      subst this
      exact ⟨ρ, rfl, h, .refl _, .tree0 (fun _ => rfl), rfl⟩
    · rename_i a len c
      split
      · rename_i cs e hb
        split
        · rename_i n hn
          split
          · rename_i hc
            obtain ⟨hn0, hle⟩ := hc
            obtain ⟨cb, base, carr, fz, g1, g2, g3, g4, g5, g6⟩ := cells_get h hb
            obtain ⟨ρ1, a1, z1, m1, r1, s1⟩ := freeze_rel h hb g1 g2
            have hr1 : ∀ b x, ρ b = some x → ρ1 b = some x := fun b x hb => by rw [a1]; exact hb
            have hL := ((g5.drop a.off).take (len * n)).mono m1 hr1 (fun _ _ h => h)
            obtain ⟨ρ2, a2, r2, s2, L2, n2⟩ := frzL_sound (frz_sound n0 k) _ _ ρ1 _ r1 hL
            refine ⟨ρ2, a2.trans a1, r2, s1.trans (s2.less (by simp)), ?_, by simpa using n2⟩
            rcases hv.slice_inv with ⟨cb', base', cap', hsp, hr, rfl, _, hl, _⟩ | ⟨a', hsp, hb', rfl, rfl, _⟩
            · rw [g1] at hr; simp at hr; obtain ⟨rfl, rfl⟩ := hr
              refine VRel.tree_list (s2.fz _ _ z1) ?_ hl L2
              have hlen := L2.1
              rw [← List.drop_drop, List.length_take, List.length_drop]
              have hg := g5.1
              rw [List.length_take, List.length_drop] at hg ⊢
              rw [Nat.min_eq_left (by omega)]
              rw [List.drop_take, List.take_take]
              congr 1
              omega
            · have : (frzL (frz P n0 k) (List.take (0 * n) (List.drop a.off cs)) (H.set a.block .dead)).1 = [] := by
                rw [Nat.zero_mul, List.take_zero]; rfl
              show VRel P ρ2 w.shape? (tSl 0 (frzL (frz P n0 k) (List.take (0 * n) (List.drop a.off cs)) (H.set a.block .dead)).1) _
              rw [this]
              exact .tree0 (fun h => by simp at h)
          · exact ⟨ρ, rfl, h, .refl _, hv, rfl⟩
        · exact ⟨ρ, rfl, h, .refl _, hv, rfl⟩
      · exact ⟨ρ, rfl, h, .refl _, hv, rfl⟩
    · rename_i cs
      obtain ⟨cs', rfl, hL⟩ := hv.agg_inv
      obtain ⟨ρ2, a2, r2, s2, L2, n2⟩ := frzL_sound (frz_sound n0 k) _ _ ρ H h hL
      refine ⟨ρ2, a2, r2, s2, ?_, n2⟩
      simpa using VRel.agg_list L2
    · exact ⟨ρ, rfl, h, .refl _, hv, rfl⟩

theorem frzL_len {f : Value → List Blk → Value × List Blk} : ∀ (l : List Value) (H : List Blk), (frzL f l H).1.length = l.length
  | [], _ => rfl
  | v :: vs, H => by simp [frzL, frzL_len vs]

/-- what of the blocks it may change: some are given up -/
def FKill (f : Value → List Blk → Value × List Blk) : Prop := ∀ (v : Value) (H : List Blk), (f v H).2.length = H.length ∧ ∀ b : Nat, (f v H).2[b]? = H[b]? ∨ (f v H).2[b]? = some Blk.dead

theorem frzL_kill {f : Value → List Blk → Value × List Blk} (hf : FKill f) : ∀ (l : List Value) (H : List Blk), (frzL f l H).2.length = H.length ∧ ∀ b : Nat, (frzL f l H).2[b]? = H[b]? ∨ (frzL f l H).2[b]? = some Blk.dead
  | [], _ => ⟨rfl, fun _ => .inl rfl⟩
  | v :: vs, H => by
    obtain ⟨h1, h2⟩ := hf v H
    obtain ⟨h3, h4⟩ := frzL_kill hf vs (f v H).2
    refine ⟨h3.trans h1, fun b => ?_⟩
    rcases h4 b with h | h
    · rcases h2 b with h' | h'
      · exact .inl (h.trans h')
      · exact .inr (h.trans h')
    · exact .inr h

theorem frz_kill (n0 : Nat) : ∀ k, FKill (frz P n0 k)
  | 0 => fun v H => ⟨rfl, fun _ => .inl rfl⟩
  | k + 1 => fun v H => by
    unfold frz
    split
    · exact ⟨rfl, fun _ => .inl rfl⟩
    · rename_i a len c
      split
      · rename_i cs e hb
        split
        · rename_i n hn
          split
          · obtain ⟨h1, h2⟩ := frzL_kill (frz_kill n0 k) ((cs.drop a.off).take (len * n)) (H.set a.block .dead)
            refine ⟨by simpa using h1, fun b => ?_⟩
            rcases h2 b with h | h
            · by_cases hb' : a.block = b
              · subst hb'
                refine .inr (h.trans ?_)
                rw [List.getElem?_set_self (lt_of_get hb)]
              · exact .inl (h.trans (List.getElem?_set_ne hb'))
            · exact .inr h
          · exact ⟨rfl, fun _ => .inl rfl⟩
        · exact ⟨rfl, fun _ => .inl rfl⟩
      · exact ⟨rfl, fun _ => .inl rfl⟩
    · exact frzL_kill (frz_kill n0 k) _ _
    · exact ⟨rfl, fun _ => .inl rfl⟩

/-- a value that names nothing but itself: it is left as it is -/
theorem frz_id (n0 : Nat) : ∀ (k : Nat) (v : Value) (H : List Blk), (match v with | .slice _ _ _ => False | .agg _ => False | _ => True) → frz P n0 k v H = (v, H)
  | 0, v, H, _ => rfl
  | k + 1, v, H, h => by cases v <;> simp_all [frz]

end
end Go.Am
