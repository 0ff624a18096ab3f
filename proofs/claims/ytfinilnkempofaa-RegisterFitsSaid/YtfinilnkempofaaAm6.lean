/- Operations, further: slices, numbers, strings, append, copy. -/
import Derived.Test.YtfinilnkempofaaAm5
import Derived.Laws.IdiomStrings
import Derived.Laws.MakeOwn
set_option linter.all false
set_option linter.unusedVariables false
set_option linter.unusedSimpArgs false
set_option linter.unnecessarySimpa false
namespace Go.Am

section
variable {P : Program} {ρ ρ' : Ren} {H : List Blk} {w : World}

theorem ite_eq_some_iff {α : Type} {c : Prop} [Decidable c] {x y : α} : (if c then some x else none) = some y ↔ c ∧ some x = some y := by
  by_cases h : c <;> simp [h]

theorem run_bound {i : Int} {k : IntKind} {y : Nat} {c : BoundsCode} (h : 0 ≤ i) (h' : i ≤ y) (w : World) : (Instr.sliceBound (.int k i) y c).run P w = .ok i.toNat w := by
  simp [Instr.sliceBound, asIntOf, h, h']

/-- what the bounds come to, for a capacity that is as great, or the same -/
theorem aBounds_run {sh : Sh} {isS : Bool} {len cap cap' l h c : Nat} {lo hi mx lo' hi' mx' : Option Value} (hb : aBounds len cap lo hi mx = some (l, h, c)) (hc : cap ≠ UNK → cap' = cap) (hl : len ≤ cap')
    (hlo : ∀ v, lo = some v → ∃ v', lo' = some v' ∧ VRel P ρ sh v v') (hlo' : lo = none → lo' = none)
    (hhi : ∀ v, hi = some v → ∃ v', hi' = some v' ∧ VRel P ρ sh v v') (hhi' : hi = none → hi' = none)
    (hmx : ∀ v, mx = some v → ∃ v', mx' = some v' ∧ VRel P ρ sh v v') (hmx' : mx = none → mx' = none) :
    ∃ m, (∀ w, (Instr.sliceBounds isS len cap' lo' hi' mx').run P w = .ok (l, h, m) w) ∧ l ≤ h ∧ h ≤ m ∧ m ≤ cap' ∧ (c ≠ UNK → c = m - l) ∧ (c = UNK → cap = UNK ∧ m = cap') ∧ (cap ≠ UNK → mx = none → m = cap) := by
  unfold aBounds at hb
  simp only at hb
  -- each of the three numbers
  have num : ∀ (o o' : Option Value) (d r : Nat), (match o with | none => some d | some (.int _ i) => if 0 ≤ i then some i.toNat else none | _ => none) = some r →
      (∀ v, o = some v → ∃ v', o' = some v' ∧ VRel P ρ sh v v') → (o = none → o' = none) → (o = none ∧ o' = none ∧ r = d) ∨ (∃ k i, o = some (.int k i) ∧ o' = some (.int k i) ∧ 0 ≤ i ∧ r = i.toNat) := by
    intro o o' d r hr h1 h2
    cases o with
    | none => simp at hr; exact .inl ⟨rfl, h2 rfl, hr.symm⟩
    | some v =>
      cases v with
      | int k i =>
        simp at hr
        obtain ⟨v', hv', hrel⟩ := h1 _ rfl
        have := hrel.int_inv; subst this
        exact .inr ⟨k, i, rfl, hv', hr.1, hr.2.symm⟩
      | _ => simp at hr
  split at hb
  · rename_i l' h' m' e1 e2 e3
    rw [ite_eq_some_iff] at hb
    · obtain ⟨hcond, hb⟩ := hb
      simp only [Option.some.injEq, Prod.mk.injEq] at hb
      obtain ⟨rfl, rfl, rfl⟩ := hb
      obtain ⟨hlh, hhm, hml, hmh, hmu⟩ := hcond
      have n1 := num _ lo' _ _ e1 hlo hlo'
      have n2 := num _ hi' _ _ e2 hhi hhi'
      have n3 := num _ mx' _ _ e3 hmx hmx'
      have hlim : (if cap = UNK then len else cap) ≤ cap' := by
        by_cases hu : cap = UNK
        · rw [if_pos hu]; exact hl
        · rw [if_neg hu, hc hu]; exact Nat.le_refl _
      -- the model's m
      rcases n3 with ⟨rfl, rfl, hm⟩ | ⟨k3, i3, rfl, rfl, h3, hm⟩
      · -- no max
        refine ⟨cap', fun w => ?_, hlh, by omega, Nat.le_refl _, ?_, ?_, fun hne _ => hc hne⟩
        · rcases n2 with ⟨rfl, rfl, hh⟩ | ⟨k2, i2, rfl, rfl, h2, hh⟩ <;> rcases n1 with ⟨rfl, rfl, hl0⟩ | ⟨k1, i1, rfl, rfl, h1, hl0⟩
          · simp [Instr.sliceBounds, hh, hl0]
          · have := run_bound (P := P) (k := k1) (y := len) (c := .sliceB) h1 (by omega) w
            simp [Instr.sliceBounds, hh, hl0, this]
          · have := run_bound (P := P) (k := k2) (y := cap') (c := if isS then .sliceAcap else .sliceAlen) h2 (by omega) w
            simp [Instr.sliceBounds, hh, hl0, this]
          · have t2 := run_bound (P := P) (k := k2) (y := cap') (c := if isS then .sliceAcap else .sliceAlen) h2 (by omega) w
            have t1 := run_bound (P := P) (k := k1) (y := i2.toNat) (c := .sliceB) h1 (by omega) w
            simp [Instr.sliceBounds, hh, hl0, t1, t2]
        · by_cases hu : cap = UNK
          · simp [hu]
          · rw [if_neg (by simp [hu])]; intro _; rw [hm, if_neg hu, hc hu]
        · by_cases hu : cap = UNK
          · intro _; exact ⟨hu, rfl⟩
          · rw [if_neg (by simp [hu])]; intro hx; omega
      · refine ⟨i3.toNat, fun w => ?_, hlh, by omega, by omega, ?_, ?_, fun _ hx => by simp at hx⟩
        · have t3 := run_bound (P := P) (k := k3) (y := cap') (c := if isS then .slice3Acap else .slice3Alen) h3 (by omega) w
          rcases n2 with ⟨rfl, rfl, hh⟩ | ⟨k2, i2, rfl, rfl, h2, hh⟩
          · simp at hmh
          · have t2 := run_bound (P := P) (k := k2) (y := i3.toNat) (c := .slice3B) h2 (by omega) w
            rcases n1 with ⟨rfl, rfl, hl0⟩ | ⟨k1, i1, rfl, rfl, h1, hl0⟩
            · simp [Instr.sliceBounds, hh, hl0, t2, t3]
            · have t1 := run_bound (P := P) (k := k1) (y := i2.toNat) (c := .slice3C) h1 (by omega) w
              simp [Instr.sliceBounds, hh, hl0, t1, t2, t3]
        · simp; intro _; rw [hm]
        · simp; intro hx; omega
  · simp at hb


/-- an option of a value, and the model's -/
def ORel (P : Program) (ρ : Ren) (sh : Sh) (o o' : Option Value) : Prop := (∀ v, o = some v → ∃ v', o' = some v' ∧ VRel P ρ sh v v') ∧ (o = none → o' = none)

theorem ORel.plain_eq {sh : Sh} {o o' : Option Value} (h : ORel P ρ sh o o') (hp : isPlainO o = true) : o' = o := by
  cases o with
  | none => exact h.2 rfl
  | some v => obtain ⟨v', hv', hr⟩ := h.1 v rfl; rw [hv', hr.eq_of_plain hp]

theorem aBounds_lim {len l h c : Nat} {lo hi mx : Option Value} (hb : aBounds len UNK lo hi mx = some (l, h, c)) : h ≤ len := by
  unfold aBounds at hb
  simp only [if_true] at hb
  split at hb
  · simp only [ite_eq_some_iff] at hb
    obtain ⟨h1, h2⟩ := hb
    simp at h2
    omega
  · simp at hb

theorem slice_sound (h : Rel P ρ H w) {e : Option Nat} {t : TypeId} {x cx v : Value} {lo hi mx lo' hi' mx' : Option Value} (hs : aSlice P t x lo hi mx ⟨H, e⟩ = some v) (hx : VRel P ρ w.shape? x cx)
    (hlo : ORel P ρ w.shape? lo lo') (hhi : ORel P ρ w.shape? hi hi') (hmx : ORel P ρ w.shape? mx mx') :
    ∃ cv, (Instr.sliceAt t cx lo' hi' mx').run P w = .ok cv w ∧ VRel P ρ w.shape? v cv := by
  unfold aSlice at hs
  split at hs
  · rename_i elem a len cap hu
    split at hs
    · rename_i n l hh c hn hb
      cases a with
      | none =>
        simp only [ite_eq_some_iff] at hs
        obtain ⟨⟨rfl, rfl⟩, hv⟩ := hs
        simp at hv; subst hv
        have : cx = .slice none 0 0 := hx.eq_of_plain rfl
        subst this
        obtain ⟨m, hm, h1, h2, h3, _, _, _⟩ := aBounds_run (P := P) (ρ := ρ) (sh := w.shape?) (isS := true) (cap' := 0) hb (fun _ => rfl) (Nat.le_refl _) hlo.1 hlo.2 hhi.1 hhi.2 hmx.1 hmx.2
        have hm0 : m = 0 := by omega
        have hh0 : hh = 0 := by omega
        have hl0 : l = 0 := by omega
        refine ⟨.slice none 0 0, ?_, .same _ rfl⟩
        simp [Instr.sliceAt, run_underlying hu, Instr.slice, hm, run_sizeP hn, hm0, hh0, hl0]
      | some a =>
        simp only at hs
        have hsv : v = .slice (some (a.add (l * n))) (hh - l) c ∧ (c = UNK → ∃ cs et o, H[a.block]? = some (.cells cs et o) ∧ sizeP P et = some n) := by
          split at hs
          · rename_i hc
            split at hs
            · rename_i cs et o hbk
              simp only [ite_eq_some_iff] at hs
              obtain ⟨h1, h2⟩ := hs
              simp at h2; exact ⟨h2.symm, fun _ => ⟨cs, et, o, hbk, h1⟩⟩
            · simp at hs
          · rename_i hc; simp at hs; exact ⟨hs.symm, fun hx => absurd hx hc⟩
        obtain ⟨rfl, hunk⟩ := hsv
        rcases hx.slice_inv with ⟨cb, base, cap', hsp, hr, rfl, hc, hl, hun⟩ | ⟨a', hsp, hb', rfl, rfl, hc⟩
        · obtain ⟨m, hm, h1, h2, h3, h4, h5, h6⟩ := aBounds_run (P := P) (ρ := ρ) (sh := w.shape?) (isS := true) hb hc hl hlo.1 hlo.2 hhi.1 hhi.2 hmx.1 hmx.2
          obtain ⟨ab, ao, asp⟩ := a
          simp only at hsp hr hunk hun; subst hsp
          by_cases hml : m = l
          · have hhl : hh = l := by omega
            refine ⟨.slice (some ⟨cb, base + ao, none⟩) 0 0, ?_, ?_⟩
            · simp [Instr.sliceAt, run_underlying hu, Instr.slice, hm, run_sizeP hn, hml, hhl]
            · rw [add_none, hhl, Nat.sub_self]
              exact .slice0 (by rw [hr]; rfl) (fun hne => by rw [h4 hne]; omega)
          · refine ⟨.slice (some ⟨cb, base + ao + l * n, none⟩) (hh - l) (m - l), ?_, ?_⟩
            · simp [Instr.sliceAt, run_underlying hu, Instr.slice, hm, run_sizeP hn, hml, add_none]
            · rw [add_none, Nat.add_assoc]
              refine .slice hr (fun hne => (h4 hne).symm) (by omega) (fun hcu => ?_)
              obtain ⟨cs, et, o, hbk, hsz⟩ := hunk hcu
              obtain ⟨cb', base', carr, fz, g1, g2, _, _, _, _⟩ := cells_get h hbk
              rw [g1] at hr; simp at hr; obtain ⟨rfl, rfl⟩ := hr
              obtain ⟨hcap, hmc⟩ := h5 hcu
              obtain ⟨e1, n1, hs1, hs2⟩ := hun hcap
              have : w.shape? cb' = some (et, carr.size) := by simp [World.shape?, g2]
              rw [this] at hs1; simp at hs1; obtain ⟨rfl, rfl⟩ := hs1
              refine ⟨et, carr.size, this, ?_⟩
              have hce : P.cellsOf et = n := by unfold sizeP at hsz; simp [Program.cellsOf, hsz]
              rw [hce] at hs2 ⊢
              have : l * n + (m - l) * n = m * n := by rw [← Nat.add_mul]; congr 1; omega
              have : m * n ≤ cap' * n := Nat.mul_le_mul_right _ h3
              omega
        · obtain ⟨m, hm, h1, h2, h3, h4, _, _⟩ := aBounds_run (P := P) (ρ := ρ) (sh := w.shape?) (isS := true) (cap' := 0) hb (fun hne => (hc hne).symm) (Nat.le_refl _) hlo.1 hlo.2 hhi.1 hhi.2 hmx.1 hmx.2
          have hm0 : m = 0 := by omega
          have hh0 : hh = 0 := by omega
          have hl0 : l = 0 := by omega
          subst hm0; subst hh0; subst hl0
          obtain ⟨ab, ao, asp⟩ := a
          simp only at hsp hb'; subst hsp
          refine ⟨.slice (some a') 0 0, ?_, ?_⟩
          · simp [Instr.sliceAt, run_underlying hu, Instr.slice, hm, run_sizeP hn]
          · rw [add_none]
            exact .slice0 hb' (fun hne => by rw [h4 hne])
    · simp at hs
  · rename_i k elem a hu
    split at hs
    · rename_i n l hh c hn hb
      split at hs
      · simp at hs
      · rename_i hk
        simp at hs; subst hs
        obtain ⟨cb, base, hsp, hr, rfl⟩ := hx.ptr_inv
        obtain ⟨m, hm, h1, h2, h3, h4, h5, h6⟩ := aBounds_run (P := P) (ρ := ρ) (sh := w.shape?) (isS := false) (cap' := k) hb (fun _ => rfl) (Nat.le_refl _) hlo.1 hlo.2 hhi.1 hhi.2 hmx.1 hmx.2
        obtain ⟨ab, ao, asp⟩ := a
        simp only at hsp hr; subst hsp
        have hcu : c ≠ UNK := fun he => hk (h5 he).1
        by_cases hml : m = l
        · have hhl : hh = l := by omega
          refine ⟨.slice (some ⟨cb, base + ao, none⟩) 0 0, ?_, ?_⟩
          · simp [Instr.sliceAt, run_underlying hu, Instr.sureAddr, hm, run_sizeP hn, hml, hhl]
          · rw [add_none, hhl, Nat.sub_self]
            exact .slice0 (by rw [hr]; rfl) (fun hne => by rw [h4 hne]; omega)
        · refine ⟨.slice (some ⟨cb, base + ao + l * n, none⟩) (hh - l) (m - l), ?_, ?_⟩
          · simp [Instr.sliceAt, run_underlying hu, Instr.sureAddr, hm, run_sizeP hn, hml, add_none]
          · rw [add_none, Nat.add_assoc]
            exact .slice hr (fun hne => (h4 hne).symm) (by omega) (fun he => absurd he hcu)
    · simp at hs
  · rename_i elem len row hu
    split at hs
    · rename_i n l hh c hn hb
      unfold tSlice at hs
      simp only [ite_eq_some_iff] at hs
      obtain ⟨⟨hsz, hlu⟩, hv⟩ := hs
      simp at hv; subst hv
      have sub : ∀ (a' : List Value), LRel P ρ w.shape? row.toList a' → LRel P ρ w.shape? ((row.toList.drop (l * n)).take ((hh - l) * n)) ((a'.drop (l * n)).take ((hh - l) * n)) := fun a' hL => (hL.drop _).take _
      rcases hx.ptree_inv with ⟨cb, base, cap', c0, a', rfl, hz, hc0, hl, hL⟩ | ⟨rfl, rfl, a', cap', hnil, rfl⟩
      · obtain ⟨m, hm, h1, h2, h3, h4, h5, h6⟩ := aBounds_run (P := P) (ρ := ρ) (sh := w.shape?) (isS := true) (cap := UNK) hb (fun h => absurd rfl h) hl hlo.1 hlo.2 hhi.1 hhi.2 hmx.1 hmx.2
        have hlim : hh ≤ len := aBounds_lim hb
        by_cases hml : m = l
        · have hhl : hh = l := by omega
          refine ⟨.slice (some ⟨cb, base, none⟩) 0 0, ?_, ?_⟩
          · simp [Instr.sliceAt, run_underlying hu, Instr.slice, hm, run_sizeP hn, hml, hhl]
          · rw [hhl, Nat.sub_self]
            simp [tSl]
            exact .tree0 (fun h => by simp at h)
        · refine ⟨.slice (some ⟨cb, base + l * n, none⟩) (hh - l) (m - l), ?_, ?_⟩
          · simp [Instr.sliceAt, run_underlying hu, Instr.slice, hm, run_sizeP hn, hml, add_none]
          · have hlen : row.size = a'.length := by simpa using hL.1
            simp only [tSl, Nat.zero_add]
            refine VRel.tree_list hz ?_ (by omega) (sub a' hL)
            rw [← List.drop_drop]
            have hx1 : l * n + (hh - l) * n = hh * n := by rw [← Nat.add_mul]; congr 1; omega
            have hx2 : hh * n ≤ len * n := Nat.mul_le_mul_right _ hlim
            have e1 : ((c0.toList.drop base).drop (l * n)).take ((hh - l) * n) = (a'.drop (l * n)).take ((hh - l) * n) := by
              conv => rhs; rw [← hc0]
              rw [List.drop_take, List.take_take]
              congr 1
              omega
            rw [List.length_take, List.length_drop, Nat.min_eq_left (by omega)]
            exact e1
      · obtain ⟨m, hm, h1, h2, h3, h4, h5, h6⟩ := aBounds_run (P := P) (ρ := ρ) (sh := w.shape?) (isS := true) (cap := UNK) (cap' := cap') hb (fun h => absurd rfl h) (Nat.zero_le _) hlo.1 hlo.2 hhi.1 hhi.2 hmx.1 hmx.2
        have hlim : hh ≤ 0 := aBounds_lim hb
        have hh0 : hh = 0 := by omega
        have hl0 : l = 0 := by omega
        subst hh0; subst hl0
        cases a' with
        | none =>
          have := hnil rfl; subst this
          have hm0 : m = 0 := by omega
          subst hm0
          refine ⟨.slice none 0 0, ?_, ?_⟩
          · simp [Instr.sliceAt, run_underlying hu, Instr.slice, hm, run_sizeP hn]
          · simp [tSl]; exact .tree0 (fun _ => rfl)
        | some a' =>
          by_cases hm0 : m = 0
          · subst hm0
            refine ⟨.slice (some a') 0 0, ?_, ?_⟩
            · simp [Instr.sliceAt, run_underlying hu, Instr.slice, hm, run_sizeP hn]
            · simp [tSl]; exact .tree0 (fun h => by simp at h)
          · refine ⟨.slice (some (a'.add 0)) 0 m, ?_, ?_⟩
            · simp [Instr.sliceAt, run_underlying hu, Instr.slice, hm, run_sizeP hn, hm0]
            · simp [tSl]; exact .tree0 (fun h => by simp at h)
    · simp at hs
  · rename_i k elem off row hu
    split at hs
    · rename_i n l hh c hn hb
      unfold tSlice at hs
      simp only [ite_eq_some_iff] at hs
      obtain ⟨⟨hsz, hk⟩, hv⟩ := hs
      simp at hv; subst hv
      obtain ⟨cb, base, c0, a', rfl, hz, hc0, hL⟩ := hx.tptr_inv
      obtain ⟨m, hm, h1, h2, h3, h4, h5, h6⟩ := aBounds_run (P := P) (ρ := ρ) (sh := w.shape?) (isS := false) (cap' := k) hb (fun _ => rfl) (Nat.le_refl _) hlo.1 hlo.2 hhi.1 hhi.2 hmx.1 hmx.2
      have hlen : row.size = a'.length := by simpa using hL.1
      by_cases hml : m = l
      · have hhl : hh = l := by omega
        refine ⟨.slice (some ⟨cb, base + off, none⟩) 0 0, ?_, ?_⟩
        · simp [Instr.sliceAt, run_underlying hu, Instr.sureAddr, hm, run_sizeP hn, hml, hhl]
        · rw [hhl, Nat.sub_self]
          simp [tSl]
          exact .tree0 (fun h => by simp at h)
      · refine ⟨.slice (some ⟨cb, base + off + l * n, none⟩) (hh - l) (m - l), ?_, ?_⟩
        · simp [Instr.sliceAt, run_underlying hu, Instr.sureAddr, hm, run_sizeP hn, hml, add_none]
        · simp only [tSl]
          rw [Nat.add_assoc]
          refine VRel.tree_list hz ?_ (by omega) ((hL.drop (off + l * n)).take ((hh - l) * n))
          have hx1 : l * n + (hh - l) * n = hh * n := by rw [← Nat.add_mul]; congr 1; omega
          have hx2 : hh * n ≤ k * n := Nat.mul_le_mul_right _ (by omega)
          have e1 : ((c0.toList.drop base).drop (off + l * n)).take ((hh - l) * n) = (a'.drop (off + l * n)).take ((hh - l) * n) := by
            conv => rhs; rw [← hc0]
            rw [List.drop_take, List.take_take]
            congr 1
            omega
          rw [List.drop_drop] at e1
          rw [List.length_take, List.length_drop, Nat.min_eq_left (by omega)]
          exact e1
    · simp at hs
  · rename_i s hu
    split at hs
    · rename_i hcond
      obtain ⟨hp1, hp2, hm⟩ := hcond
      have := hx.string_inv; subst this
      rw [hlo.plain_eq hp1, hhi.plain_eq hp2]
      have : mx' = none := hmx.2 (by simpa using hm)
      subst this
      cases hq : pureRun P (Instr.slice t (.string s) lo hi none) with
      | none => simp [hq] at hs
      | some u =>
        simp only [hq, Option.bind_some, ite_eq_some_iff] at hs
        obtain ⟨hpl, hv⟩ := hs
        simp at hv; subst hv
        refine ⟨u, ?_, .same _ hpl⟩
        have := pureRun_run _ _ hq w
        simp [Instr.sliceAt, run_underlying hu, this]
    · simp at hs
  · simp at hs

/-- one operand is the bare nil, the other one is not: concretely -/
def NilPair (d : TypeDesc) (x y : Value) : Prop :=
  match d with
  | .pointer _ => (∃ a, x = .pointer (some a) ∧ y = .pointer none) ∨ (∃ a, x = .pointer none ∧ y = .pointer (some a))
  | .slice _ => (∃ a l c l' c', x = .slice (some a) l c ∧ y = .slice none l' c') ∨ (∃ a l c l' c', x = .slice none l' c' ∧ y = .slice (some a) l c)
  | .map _ _ => (∃ a, x = .map (some a) ∧ y = .map none) ∨ (∃ a, x = .map none ∧ y = .map (some a))
  | .func _ _ _ => (∃ f a b, x = .func f a b ∧ y = .nilFunc) ∨ (∃ f a b, x = .nilFunc ∧ y = .func f a b)
  | _ => False

theorem nilPair_eqIn {t : TypeId} {d : TypeDesc} {x y : Value} (hd : P.underlying t = some d) (h : NilPair d x y) (n : Nat) (w : World) : (Op.equalIn (n + 1) t x y).run P w = .ok false w := by
  unfold Op.equalIn
  cases d <;> simp only [NilPair] at h
  all_goals
    rcases h with h | h
    all_goals
      first
      | (obtain ⟨a, rfl, rfl⟩ := h; simp [run_underlying hd]; done)
      | (obtain ⟨a, l, c, rfl, rfl⟩ := h; simp [run_underlying hd]; done)
      | (obtain ⟨a, l, c, l', c', rfl, rfl⟩ := h; simp [run_underlying hd]; done)

theorem nilPair_run {t : TypeId} {d : TypeDesc} {x y : Value} (hd : P.underlying t = some d) (h : NilPair d x y) (ox oy : Operand) (w : World) :
    (eqGuard .eql t ox oy x y).run P w = .ok () w ∧ (eqGuard .neq t ox oy x y).run P w = .ok () w ∧ (binOp .eql t x y).run P w = .ok (.bool false) w ∧ (binOp .neq t x y).run P w = .ok (.bool true) w := by
  have e : ∀ w, (Op.equal t x y).run P w = .ok false w := fun w => nilPair_eqIn hd h 9999 w
  have hb : binOp .eql t x y = (do pure (.bool (← Op.equal t x y))) ∧ binOp .neq t x y = (do pure (.bool (!(← Op.equal t x y)))) ∧ (∀ op, (op = .eql ∨ op = .neq) → (eqGuard op t ox oy x y).run P w = .ok () w) := by
    cases d <;> simp only [NilPair] at h
    all_goals
      rcases h with h | h
      all_goals
        first
        | (obtain ⟨a, rfl, rfl⟩ := h; exact ⟨rfl, rfl, fun op ho => by rcases ho with rfl | rfl <;> simp [eqGuard]⟩)
        | (obtain ⟨a, l, c, rfl, rfl⟩ := h; exact ⟨rfl, rfl, fun op ho => by rcases ho with rfl | rfl <;> simp [eqGuard]⟩)
        | (obtain ⟨a, l, c, l', c', rfl, rfl⟩ := h; exact ⟨rfl, rfl, fun op ho => by rcases ho with rfl | rfl <;> simp [eqGuard]⟩)
  refine ⟨hb.2.2 _ (.inl rfl), hb.2.2 _ (.inr rfl), ?_, ?_⟩
  · rw [hb.1]; simp [e]
  · rw [hb.2.1]; simp [e]

theorem aNilEq_pair {sh : Sh} {d : TypeDesc} {x y cx cy : Value} {b : Bool} (hb : aNilEq d x y = some b) (hx : VRel P ρ sh x cx) (hy : VRel P ρ sh y cy) : b = false ∧ NilPair d cx cy := by
  unfold aNilEq at hb
  split at hb
  all_goals try (simp at hb; done)
  all_goals simp at hb; subst hb
  all_goals refine ⟨rfl, ?_⟩
  · obtain ⟨cb, base, _, _, rfl⟩ := hx.ptr_inv
    have := hy.eq_of_plain rfl; subst this
    exact .inl ⟨_, rfl, rfl⟩
  · obtain ⟨cb, base, _, _, rfl⟩ := hy.ptr_inv
    have := hx.eq_of_plain rfl; subst this
    exact .inr ⟨_, rfl, rfl⟩
  · have := hy.eq_of_plain rfl; subst this
    rcases hx.slice_inv with ⟨_, _, _, _, _, rfl, _⟩ | ⟨_, _, _, rfl, _⟩ <;> exact .inl ⟨_, _, _, _, _, rfl, rfl⟩
  · have := hx.eq_of_plain rfl; subst this
    rcases hy.slice_inv with ⟨_, _, _, _, _, rfl, _⟩ | ⟨_, _, _, rfl, _⟩ <;> exact .inr ⟨_, _, _, _, _, rfl, rfl⟩
  · have := hy.eq_of_plain rfl; subst this
    obtain ⟨a', rfl⟩ : ∃ a', cx = .map (some a') := by
      cases hx with
      | same _ h => simp [plain] at h
      | map h => exact ⟨_, rfl⟩
    exact .inl ⟨_, rfl, rfl⟩
  · have := hx.eq_of_plain rfl; subst this
    obtain ⟨a', rfl⟩ : ∃ a', cy = .map (some a') := by
      cases hy with
      | same _ h => simp [plain] at h
      | map h => exact ⟨_, rfl⟩
    exact .inr ⟨_, rfl, rfl⟩
  · have := hy.eq_of_plain rfl; subst this
    obtain ⟨a', b', rfl, _, _⟩ := hx.func_inv
    exact .inl ⟨_, _, _, rfl, rfl⟩
  · have := hx.eq_of_plain rfl; subst this
    obtain ⟨a', b', rfl, _, _⟩ := hy.func_inv
    exact .inr ⟨_, _, _, rfl, rfl⟩

theorem aBin_sound {sh : Sh} {op : BinOp} {t : TypeId} {ox oy : Operand} {x y cx cy v : Value} (h : aBin P op t ox oy x y = some v) (hx : VRel P ρ sh x cx) (hy : VRel P ρ sh y cy) :
    ∃ cv, (∀ w, (do eqGuard op t ox oy cx cy; binOp op t cx cy : Sem Value).run P w = .ok cv w) ∧ VRel P ρ sh v cv := by
  unfold aBin at h
  split at h
  · rename_i hp
    have := hx.eq_of_plain hp.1; subst this
    have := hy.eq_of_plain hp.2; subst this
    cases hq : pureRun P (do eqGuard op t ox oy cx cy; binOp op t cx cy) with
    | none => simp [hq] at h
    | some u =>
      simp only [hq, Option.bind_some, ite_eq_some_iff] at h
      obtain ⟨hpl, hv⟩ := h
      simp at hv; subst hv
      exact ⟨u, fun w => pureRun_run _ _ hq w, .same _ hpl⟩
  · split at h
    · rename_i d hd
      cases hb : aNilEq d x y with
      | none => simp [hb] at h
      | some b =>
        simp [hb] at h; subst h
        obtain ⟨rfl, hnp⟩ := aNilEq_pair hb hx hy
        refine ⟨.bool false, fun w => ?_, .same _ rfl⟩
        obtain ⟨h1, _, h2, _⟩ := nilPair_run hd hnp ox oy w
        simp only [Sem.run_bind, h1, Result.andThen_ok, h2]
    · rename_i d hd
      cases hb : aNilEq d x y with
      | none => simp [hb] at h
      | some b =>
        simp [hb] at h; subst h
        obtain ⟨rfl, hnp⟩ := aNilEq_pair hb hx hy
        refine ⟨.bool true, fun w => ?_, .same _ rfl⟩
        obtain ⟨_, h1, _, h2⟩ := nilPair_run hd hnp ox oy w
        simp only [Sem.run_bind, h1, Result.andThen_ok, h2]
    · simp at h

theorem aUn_sound {sh : Sh} {op : UnOp} {x cx v : Value} (h : aUn P op x = some v) (hx : VRel P ρ sh x cx) : ∃ cv, (∀ w, (Op.unary op cx).run P w = .ok cv w) ∧ VRel P ρ sh v cv := by
  unfold aUn at h
  split at h
  · rename_i hp
    have := hx.eq_of_plain hp; subst this
    cases hq : pureRun P (Op.unary op cx) with
    | none => simp [hq] at h
    | some u =>
      simp only [hq, Option.bind_some, ite_eq_some_iff] at h
      obtain ⟨hpl, hv⟩ := h
      simp at hv; subst hv
      exact ⟨u, fun w => pureRun_run _ _ hq w, .same _ hpl⟩
  · simp at h

end
end Go.Am
