/- A part of the proof: Am6, Am7, Am8, Am9, Am9f, Am9g. Its conditions: none. -/
import Derived.Test.YtpklhjeccbjalaaAm1
import Derived.Laws.IdiomStrings
import Derived.Laws.MakeOwn
import Derived.Laws.AppendOwn
import Derived.Maps.RangeRun
import Derived.Laws.Cover3
set_option linter.all false
set_option linter.unusedVariables false
set_option linter.unusedSimpArgs false
set_option linter.unnecessarySimpa false
section
namespace Go.Am

section
variable {P : Program} {ρ ρ' : Ren} {H : List Blk} {w : World}

theorem ite_eq_some_iff {α : Type} {c : Prop} [Decidable c] {x y : α} : (if c then some x else none) = some y ↔ c ∧ some x = some y := by
  by_cases h : c <;> simp [h]

theorem run_bound {i : Int} {k : IntKind} {y : Nat} {c : BoundsCode} (h : 0 ≤ i) (h' : i ≤ y) (w : World) : (Instr.sliceBound (.int k i) y c).run P w = .ok i.toNat w := by
  simp [Instr.sliceBound, asIntOf, h, h']

/-- what the bounds come to, for a capacity that is as great, or the same -/
theorem aBounds_run {sh : Sh} {isS : Bool} {len cap cap' l h c : Nat} {lo hi mx lo' hi' mx' : Option Value} (hb : aBounds len cap lo hi mx = some (l, h, c)) (hc : cap ≠ UNK → cap' = cap) (hl : len ≤ cap')
    (hlo : ∀ v, lo = some v → ∃ v', lo' = some v' ∧ VRel P ρ sh v v') (hlo' : lo = none → lo' = none)
    (hhi : ∀ v, hi = some v → ∃ v', hi' = some v' ∧ VRel P ρ sh v v') (hhi' : hi = none → hi' = none)
    (hmx : ∀ v, mx = some v → ∃ v', mx' = some v' ∧ VRel P ρ sh v v') (hmx' : mx = none → mx' = none) :
    ∃ m, (∀ w, (Instr.sliceBounds isS len cap' lo' hi' mx').run P w = .ok (l, h, m) w) ∧ l ≤ h ∧ h ≤ m ∧ m ≤ cap' ∧ (c ≠ UNK → c = m - l) ∧ (c = UNK → cap = UNK ∧ m = cap') ∧ (cap ≠ UNK → mx = none → m = cap) := by
  unfold aBounds at hb
  simp only at hb
  -- each of the three numbers
  have num : ∀ (o o' : Option Value) (d r : Nat), (match o with | none => some d | some (.int _ i) => if 0 ≤ i then some i.toNat else none | _ => none) = some r →
      (∀ v, o = some v → ∃ v', o' = some v' ∧ VRel P ρ sh v v') → (o = none → o' = none) → (o = none ∧ o' = none ∧ r = d) ∨ (∃ k i, o = some (.int k i) ∧ o' = some (.int k i) ∧ 0 ≤ i ∧ r = i.toNat) := by
    intro o o' d r hr h1 h2
    cases o with
    | none => simp at hr; exact .inl ⟨rfl, h2 rfl, hr.symm⟩
    | some v =>
      cases v with
      | int k i =>
        simp at hr
        obtain ⟨v', hv', hrel⟩ := h1 _ rfl
        have := hrel.int_inv; subst this
        exact .inr ⟨k, i, rfl, hv', hr.1, hr.2.symm⟩
      | _ => simp at hr
  split at hb
  · rename_i l' h' m' e1 e2 e3
    rw [ite_eq_some_iff] at hb
    · obtain ⟨hcond, hb⟩ := hb
      simp only [Option.some.injEq, Prod.mk.injEq] at hb
      obtain ⟨rfl, rfl, rfl⟩ := hb
      obtain ⟨hlh, hhm, hml, hmh, hmu⟩ := hcond
      have n1 := num _ lo' _ _ e1 hlo hlo'
      have n2 := num _ hi' _ _ e2 hhi hhi'
      have n3 := num _ mx' _ _ e3 hmx hmx'
      have hlim : (if cap = UNK then len else cap) ≤ cap' := by
        by_cases hu : cap = UNK
        · rw [if_pos hu]; exact hl
        · rw [if_neg hu, hc hu]; exact Nat.le_refl _
      -- the model's m
      rcases n3 with ⟨rfl, rfl, hm⟩ | ⟨k3, i3, rfl, rfl, h3, hm⟩
      · -- no max
        refine ⟨cap', fun w => ?_, hlh, by omega, Nat.le_refl _, ?_, ?_, fun hne _ => hc hne⟩
        · rcases n2 with ⟨rfl, rfl, hh⟩ | ⟨k2, i2, rfl, rfl, h2, hh⟩ <;> rcases n1 with ⟨rfl, rfl, hl0⟩ | ⟨k1, i1, rfl, rfl, h1, hl0⟩
          · simp [Instr.sliceBounds, hh, hl0]
          · have := run_bound (P := P) (k := k1) (y := len) (c := .sliceB) h1 (by omega) w
            simp [Instr.sliceBounds, hh, hl0, this]
          · have := run_bound (P := P) (k := k2) (y := cap') (c := if isS then .sliceAcap else .sliceAlen) h2 (by omega) w
            simp [Instr.sliceBounds, hh, hl0, this]
          · have t2 := run_bound (P := P) (k := k2) (y := cap') (c := if isS then .sliceAcap else .sliceAlen) h2 (by omega) w
            have t1 := run_bound (P := P) (k := k1) (y := i2.toNat) (c := .sliceB) h1 (by omega) w
            simp [Instr.sliceBounds, hh, hl0, t1, t2]
        · by_cases hu : cap = UNK
          · simp [hu]
          · rw [if_neg (by simp [hu])]; intro _; rw [hm, if_neg hu, hc hu]
        · by_cases hu : cap = UNK
          · intro _; exact ⟨hu, rfl⟩
          · rw [if_neg (by simp [hu])]; intro hx; omega
      · refine ⟨i3.toNat, fun w => ?_, hlh, by omega, by omega, ?_, ?_, fun _ hx => by simp at hx⟩
        · have t3 := run_bound (P := P) (k := k3) (y := cap') (c := if isS then .slice3Acap else .slice3Alen) h3 (by omega) w
          rcases n2 with ⟨rfl, rfl, hh⟩ | ⟨k2, i2, rfl, rfl, h2, hh⟩
          · simp at hmh
          · have t2 := run_bound (P := P) (k := k2) (y := i3.toNat) (c := .slice3B) h2 (by omega) w
            rcases n1 with ⟨rfl, rfl, hl0⟩ | ⟨k1, i1, rfl, rfl, h1, hl0⟩
            · simp [Instr.sliceBounds, hh, hl0, t2, t3]
            · have t1 := run_bound (P := P) (k := k1) (y := i2.toNat) (c := .slice3C) h1 (by omega) w
              simp [Instr.sliceBounds, hh, hl0, t1, t2, t3]
        · simp; intro _; rw [hm]
        · simp; intro hx; omega
  · simp at hb


/-- an option of a value, and the model's -/
def ORel (P : Program) (ρ : Ren) (sh : Sh) (o o' : Option Value) : Prop := (∀ v, o = some v → ∃ v', o' = some v' ∧ VRel P ρ sh v v') ∧ (o = none → o' = none)

theorem ORel.plain_eq {sh : Sh} {o o' : Option Value} (h : ORel P ρ sh o o') (hp : isPlainO o = true) : o' = o := by
  cases o with
  | none => exact h.2 rfl
  | some v => obtain ⟨v', hv', hr⟩ := h.1 v rfl; rw [hv', hr.eq_of_plain hp]

theorem aBounds_lt {len cap : Nat} {lo hi mx : Option Value} {l h c : Nat} (hb : aBounds len cap lo hi mx = some (l, h, c)) : h < UNK := by
  unfold aBounds at hb
  simp only at hb
  split at hb
  · simp only [ite_eq_some_iff] at hb
    obtain ⟨⟨_, h2, _, _, h5⟩, h6⟩ := hb
    simp at h6
    omega
  · simp at hb

theorem VRel.tight_if {P : Program} {ρ : Ren} {sh : Sh} {len cap' c : Nat} {row : List Value} {a : Option Addr} (h : VRel P ρ sh (tSl len row) (.slice a len cap')) (hc : c = len → cap' = len) : VRel P ρ sh (if c = len then Am.tight (tSl len row) else tSl len row) (.slice a len cap') := by
  split
  · rename_i he
    have := hc he
    subst this
    exact .tight h
  · exact h

theorem aBounds_lim {len l h c : Nat} {lo hi mx : Option Value} (hb : aBounds len UNK lo hi mx = some (l, h, c)) : h ≤ len := by
  unfold aBounds at hb
  simp only [if_true] at hb
  split at hb
  · simp only [ite_eq_some_iff] at hb
    obtain ⟨h1, h2⟩ := hb
    simp at h2
    omega
  · simp at hb

theorem slice_sound (h : Rel P ρ H w) {e : Option Nat} {t : TypeId} {x cx v : Value} {lo hi mx lo' hi' mx' : Option Value} (hs : aSlice P t x lo hi mx ⟨H, e⟩ = some v) (hx : VRel P ρ w.shape? x cx)
    (hlo : ORel P ρ w.shape? lo lo') (hhi : ORel P ρ w.shape? hi hi') (hmx : ORel P ρ w.shape? mx mx') :
    ∃ cv, (Instr.sliceAt t cx lo' hi' mx').run P w = .ok cv w ∧ VRel P ρ w.shape? v cv := by
  unfold aSlice at hs
  split at hs
  · rename_i elem a len cap hu
    split at hs
    · rename_i n l hh c hn hb
      cases a with
      | none =>
        simp only [ite_eq_some_iff] at hs
        obtain ⟨⟨rfl, rfl⟩, hv⟩ := hs
        simp at hv; subst hv
        have : cx = .slice none 0 0 := hx.eq_of_plain rfl
        subst this
        obtain ⟨m, hm, h1, h2, h3, _, _, _⟩ := aBounds_run (P := P) (ρ := ρ) (sh := w.shape?) (isS := true) (cap' := 0) hb (fun _ => rfl) (Nat.le_refl _) hlo.1 hlo.2 hhi.1 hhi.2 hmx.1 hmx.2
        have hm0 : m = 0 := by omega
        have hh0 : hh = 0 := by omega
        have hl0 : l = 0 := by omega
        refine ⟨.slice none 0 0, ?_, .same _ rfl⟩
        simp [Instr.sliceAt, run_underlying hu, Instr.slice, hm, run_sizeP hn, hm0, hh0, hl0]
      | some a =>
        simp only at hs
        have hsv : v = .slice (some (a.add (l * n))) (hh - l) c ∧ (c = UNK → ∃ cs et o, H[a.block]? = some (.cells cs et o) ∧ sizeP P et = some n) := by
          split at hs
          · rename_i hc
            split at hs
            · rename_i cs et o hbk
              simp only [ite_eq_some_iff] at hs
              obtain ⟨h1, h2⟩ := hs
              simp at h2; exact ⟨h2.symm, fun _ => ⟨cs, et, o, hbk, h1⟩⟩
            · simp at hs
          · rename_i hc; simp at hs; exact ⟨hs.symm, fun hx => absurd hx hc⟩
        obtain ⟨rfl, hunk⟩ := hsv
        rcases hx.slice_inv with ⟨cb, base, cap', hsp, hr, rfl, hc, hl, hun⟩ | ⟨a', hsp, hb', rfl, rfl, hc⟩
        · obtain ⟨m, hm, h1, h2, h3, h4, h5, h6⟩ := aBounds_run (P := P) (ρ := ρ) (sh := w.shape?) (isS := true) hb hc hl hlo.1 hlo.2 hhi.1 hhi.2 hmx.1 hmx.2
          obtain ⟨ab, ao, asp⟩ := a
          simp only at hsp hr hunk hun; subst hsp
          by_cases hml : m = l
          · have hhl : hh = l := by omega
            refine ⟨.slice (some ⟨cb, base + ao, none⟩) 0 0, ?_, ?_⟩
            · simp [Instr.sliceAt, run_underlying hu, Instr.slice, hm, run_sizeP hn, hml, hhl]
            · rw [add_none, hhl, Nat.sub_self]
              exact .slice0 (by rw [hr]; rfl) (fun hne => by rw [h4 hne]; omega)
          · refine ⟨.slice (some ⟨cb, base + ao + l * n, none⟩) (hh - l) (m - l), ?_, ?_⟩
            · simp [Instr.sliceAt, run_underlying hu, Instr.slice, hm, run_sizeP hn, hml, add_none]
            · rw [add_none, Nat.add_assoc]
              refine .slice hr (fun hne => (h4 hne).symm) (by omega) (fun hcu => ?_)
              obtain ⟨cs, et, o, hbk, hsz⟩ := hunk hcu
              obtain ⟨cb', base', carr, fz, g1, g2, _, _, _, _⟩ := cells_get h hbk
              rw [g1] at hr; simp at hr; obtain ⟨rfl, rfl⟩ := hr
              obtain ⟨hcap, hmc⟩ := h5 hcu
              obtain ⟨e1, n1, hs1, hs2⟩ := hun hcap
              have : w.shape? cb' = some (et, carr.size) := by simp [World.shape?, g2]
              rw [this] at hs1; simp at hs1; obtain ⟨rfl, rfl⟩ := hs1
              refine ⟨et, carr.size, this, ?_⟩
              have hce : P.cellsOf et = n := by unfold sizeP at hsz; simp [Program.cellsOf, hsz]
              rw [hce] at hs2 ⊢
              have : l * n + (m - l) * n = m * n := by rw [← Nat.add_mul]; congr 1; omega
              have : m * n ≤ cap' * n := Nat.mul_le_mul_right _ h3
              omega
        · obtain ⟨m, hm, h1, h2, h3, h4, _, _⟩ := aBounds_run (P := P) (ρ := ρ) (sh := w.shape?) (isS := true) (cap' := 0) hb (fun hne => (hc hne).symm) (Nat.le_refl _) hlo.1 hlo.2 hhi.1 hhi.2 hmx.1 hmx.2
          have hm0 : m = 0 := by omega
          have hh0 : hh = 0 := by omega
          have hl0 : l = 0 := by omega
          subst hm0; subst hh0; subst hl0
          obtain ⟨ab, ao, asp⟩ := a
          simp only at hsp hb'; subst hsp
          refine ⟨.slice (some a') 0 0, ?_, ?_⟩
          · simp [Instr.sliceAt, run_underlying hu, Instr.slice, hm, run_sizeP hn]
          · rw [add_none]
            exact .slice0 hb' (fun hne => by rw [h4 hne])
    · simp at hs
  · rename_i k elem a hu
    split at hs
    · rename_i n l hh c hn hb
      split at hs
      · simp at hs
      · rename_i hk
        simp at hs; subst hs
        obtain ⟨cb, base, hsp, hr, rfl⟩ := hx.ptr_inv
        obtain ⟨m, hm, h1, h2, h3, h4, h5, h6⟩ := aBounds_run (P := P) (ρ := ρ) (sh := w.shape?) (isS := false) (cap' := k) hb (fun _ => rfl) (Nat.le_refl _) hlo.1 hlo.2 hhi.1 hhi.2 hmx.1 hmx.2
        obtain ⟨ab, ao, asp⟩ := a
        simp only at hsp hr; subst hsp
        have hcu : c ≠ UNK := fun he => hk (h5 he).1
        by_cases hml : m = l
        · have hhl : hh = l := by omega
          refine ⟨.slice (some ⟨cb, base + ao, none⟩) 0 0, ?_, ?_⟩
          · simp [Instr.sliceAt, run_underlying hu, Instr.sureAddr, hm, run_sizeP hn, hml, hhl]
          · rw [add_none, hhl, Nat.sub_self]
            exact .slice0 (by rw [hr]; rfl) (fun hne => by rw [h4 hne]; omega)
        · refine ⟨.slice (some ⟨cb, base + ao + l * n, none⟩) (hh - l) (m - l), ?_, ?_⟩
          · simp [Instr.sliceAt, run_underlying hu, Instr.sureAddr, hm, run_sizeP hn, hml, add_none]
          · rw [add_none, Nat.add_assoc]
            exact .slice hr (fun hne => (h4 hne).symm) (by omega) (fun he => absurd he hcu)
    · simp at hs
  · rename_i elem len row hu
    split at hs
    · rename_i n l hh c hn hb
      rw [Option.map_eq_some_iff] at hs
      obtain ⟨v0, hs, hv0⟩ := hs
      unfold tSlice at hs
      simp only [ite_eq_some_iff] at hs
      obtain ⟨⟨hsz, hlu⟩, hv⟩ := hs
      simp at hv; subst hv; subst hv0
      have hlt := aBounds_lt hb
      try simp only [Nat.zero_add]
      have sub : ∀ (a' : List Value), LRel P ρ w.shape? row.toList a' → LRel P ρ w.shape? ((row.toList.drop (l * n)).take ((hh - l) * n)) ((a'.drop (l * n)).take ((hh - l) * n)) := fun a' hL => (hL.drop _).take _
      rcases hx.ptree_inv with ⟨cb, base, cap', c0, a', rfl, hz, hc0, hl, hL⟩ | ⟨rfl, rfl, a', cap', hnil, rfl⟩
      · obtain ⟨m, hm, h1, h2, h3, h4, h5, h6⟩ := aBounds_run (P := P) (ρ := ρ) (sh := w.shape?) (isS := true) (cap := UNK) hb (fun h => absurd rfl h) hl hlo.1 hlo.2 hhi.1 hhi.2 hmx.1 hmx.2
        have hlim : hh ≤ len := aBounds_lim hb
        by_cases hml : m = l
        · have hhl : hh = l := by omega
          refine ⟨.slice (some ⟨cb, base, none⟩) 0 0, ?_, ?_⟩
          · simp [Instr.sliceAt, run_underlying hu, Instr.slice, hm, run_sizeP hn, hml, hhl]
          · rw [hhl, Nat.sub_self]
            refine VRel.tight_if ?_ (fun _ => rfl)
            simp [tSl]
            exact .tree0 (fun h => by simp at h)
        · refine ⟨.slice (some ⟨cb, base + l * n, none⟩) (hh - l) (m - l), ?_, ?_⟩
          · simp [Instr.sliceAt, run_underlying hu, Instr.slice, hm, run_sizeP hn, hml, add_none]
          · have hlen : row.size = a'.length := by simpa using hL.1
            refine VRel.tight_if ?_ (fun hc => by have := h4 (by omega); omega)
            simp only [tSl]
            refine VRel.tree_list hz ?_ (by omega) (sub a' hL)
            rw [← List.drop_drop]
            have hx1 : l * n + (hh - l) * n = hh * n := by rw [← Nat.add_mul]; congr 1; omega
            have hx2 : hh * n ≤ len * n := Nat.mul_le_mul_right _ hlim
            have e1 : ((c0.toList.drop base).drop (l * n)).take ((hh - l) * n) = (a'.drop (l * n)).take ((hh - l) * n) := by
              conv => rhs; rw [← hc0]
              rw [List.drop_take, List.take_take]
              congr 1
              omega
            rw [List.length_take, List.length_drop, Nat.min_eq_left (by omega)]
            exact e1
      · obtain ⟨m, hm, h1, h2, h3, h4, h5, h6⟩ := aBounds_run (P := P) (ρ := ρ) (sh := w.shape?) (isS := true) (cap := UNK) (cap' := cap') hb (fun h => absurd rfl h) (Nat.zero_le _) hlo.1 hlo.2 hhi.1 hhi.2 hmx.1 hmx.2
        have hlim : hh ≤ 0 := aBounds_lim hb
        have hh0 : hh = 0 := by omega
        have hl0 : l = 0 := by omega
        subst hh0; subst hl0
        cases a' with
        | none =>
          have := hnil rfl; subst this
          have hm0 : m = 0 := by omega
          subst hm0
          refine ⟨.slice none 0 0, ?_, ?_⟩
          · simp [Instr.sliceAt, run_underlying hu, Instr.slice, hm, run_sizeP hn]
          · refine VRel.tight_if ?_ (fun _ => rfl)
            simp [tSl]; exact .tree0 (fun _ => rfl)
        | some a' =>
          by_cases hm0 : m = 0
          · subst hm0
            refine ⟨.slice (some a') 0 0, ?_, ?_⟩
            · simp [Instr.sliceAt, run_underlying hu, Instr.slice, hm, run_sizeP hn]
            · refine VRel.tight_if ?_ (fun _ => rfl)
              simp [tSl]; exact .tree0 (fun h => by simp at h)
          · refine ⟨.slice (some (a'.add 0)) 0 m, ?_, ?_⟩
            · simp [Instr.sliceAt, run_underlying hu, Instr.slice, hm, run_sizeP hn, hm0]
            · refine VRel.tight_if ?_ (fun hc => by have := h4 (by omega); omega)
              simp [tSl]; exact .tree0 (fun h => by simp at h)
    · simp at hs
  · rename_i k elem off row hu
    split at hs
    · rename_i n l hh c hn hb
      unfold tSlice at hs
      simp only [ite_eq_some_iff] at hs
      obtain ⟨⟨hsz, hk⟩, hv⟩ := hs
      simp at hv; subst hv
      obtain ⟨cb, base, c0, a', rfl, hz, hc0, hL⟩ := hx.tptr_inv
      obtain ⟨m, hm, h1, h2, h3, h4, h5, h6⟩ := aBounds_run (P := P) (ρ := ρ) (sh := w.shape?) (isS := false) (cap' := k) hb (fun _ => rfl) (Nat.le_refl _) hlo.1 hlo.2 hhi.1 hhi.2 hmx.1 hmx.2
      have hlen : row.size = a'.length := by simpa using hL.1
      by_cases hml : m = l
      · have hhl : hh = l := by omega
        refine ⟨.slice (some ⟨cb, base + off, none⟩) 0 0, ?_, ?_⟩
        · simp [Instr.sliceAt, run_underlying hu, Instr.sureAddr, hm, run_sizeP hn, hml, hhl]
        · rw [hhl, Nat.sub_self]
          simp [tSl]
          exact .tree0 (fun h => by simp at h)
      · refine ⟨.slice (some ⟨cb, base + off + l * n, none⟩) (hh - l) (m - l), ?_, ?_⟩
        · simp [Instr.sliceAt, run_underlying hu, Instr.sureAddr, hm, run_sizeP hn, hml, add_none]
        · simp only [tSl]
          rw [Nat.add_assoc]
          refine VRel.tree_list hz ?_ (by omega) ((hL.drop (off + l * n)).take ((hh - l) * n))
          have hx1 : l * n + (hh - l) * n = hh * n := by rw [← Nat.add_mul]; congr 1; omega
          have hx2 : hh * n ≤ k * n := Nat.mul_le_mul_right _ (by omega)
          have e1 : ((c0.toList.drop base).drop (off + l * n)).take ((hh - l) * n) = (a'.drop (off + l * n)).take ((hh - l) * n) := by
            conv => rhs; rw [← hc0]
            rw [List.drop_take, List.take_take]
            congr 1
            omega
          rw [List.drop_drop] at e1
          rw [List.length_take, List.length_drop, Nat.min_eq_left (by omega)]
          exact e1
    · simp at hs
  · rename_i s hu
    split at hs
    · rename_i hcond
      obtain ⟨hp1, hp2, hm⟩ := hcond
      have := hx.string_inv; subst this
      rw [hlo.plain_eq hp1, hhi.plain_eq hp2]
      have : mx' = none := hmx.2 (by simpa using hm)
      subst this
      cases hq : pureRun P (Instr.slice t (.string s) lo hi none) with
      | none => simp [hq] at hs
      | some u =>
        simp only [hq, Option.bind_some, ite_eq_some_iff] at hs
        obtain ⟨hpl, hv⟩ := hs
        simp at hv; subst hv
        refine ⟨u, ?_, .same _ hpl⟩
        have := pureRun_run _ _ hq w
        simp [Instr.sliceAt, run_underlying hu, this]
    · simp at hs
  · simp at hs

/-- one operand is the bare nil, the other one is not: concretely -/
def NilPair (d : TypeDesc) (x y : Value) : Prop :=
  match d with
  | .pointer _ => (∃ a, x = .pointer (some a) ∧ y = .pointer none) ∨ (∃ a, x = .pointer none ∧ y = .pointer (some a))
  | .slice _ => (∃ a l c l' c', x = .slice (some a) l c ∧ y = .slice none l' c') ∨ (∃ a l c l' c', x = .slice none l' c' ∧ y = .slice (some a) l c)
  | .map _ _ => (∃ a, x = .map (some a) ∧ y = .map none) ∨ (∃ a, x = .map none ∧ y = .map (some a))
  | .func _ _ _ => (∃ f a b, x = .func f a b ∧ y = .nilFunc) ∨ (∃ f a b, x = .nilFunc ∧ y = .func f a b)
  | _ => False

theorem nilPair_eqIn {t : TypeId} {d : TypeDesc} {x y : Value} (hd : P.underlying t = some d) (h : NilPair d x y) (n : Nat) (w : World) : (Op.equalIn (n + 1) t x y).run P w = .ok false w := by
  unfold Op.equalIn
  cases d <;> simp only [NilPair] at h
  all_goals
    rcases h with h | h
    all_goals
      first
      | (obtain ⟨a, rfl, rfl⟩ := h; simp [run_underlying hd]; done)
      | (obtain ⟨a, l, c, rfl, rfl⟩ := h; simp [run_underlying hd]; done)
      | (obtain ⟨a, l, c, l', c', rfl, rfl⟩ := h; simp [run_underlying hd]; done)

theorem nilPair_run {t : TypeId} {d : TypeDesc} {x y : Value} (hd : P.underlying t = some d) (h : NilPair d x y) (ox oy : Operand) (w : World) :
    (eqGuard .eql t ox oy x y).run P w = .ok () w ∧ (eqGuard .neq t ox oy x y).run P w = .ok () w ∧ (binOp .eql t x y).run P w = .ok (.bool false) w ∧ (binOp .neq t x y).run P w = .ok (.bool true) w := by
  have e : ∀ w, (Op.equal t x y).run P w = .ok false w := fun w => nilPair_eqIn hd h 9999 w
  have hb : binOp .eql t x y = (do pure (.bool (← Op.equal t x y))) ∧ binOp .neq t x y = (do pure (.bool (!(← Op.equal t x y)))) ∧ (∀ op, (op = .eql ∨ op = .neq) → (eqGuard op t ox oy x y).run P w = .ok () w) := by
    cases d <;> simp only [NilPair] at h
    all_goals
      rcases h with h | h
      all_goals
        first
        | (obtain ⟨a, rfl, rfl⟩ := h; exact ⟨rfl, rfl, fun op ho => by rcases ho with rfl | rfl <;> simp [eqGuard]⟩)
        | (obtain ⟨a, l, c, rfl, rfl⟩ := h; exact ⟨rfl, rfl, fun op ho => by rcases ho with rfl | rfl <;> simp [eqGuard]⟩)
        | (obtain ⟨a, l, c, l', c', rfl, rfl⟩ := h; exact ⟨rfl, rfl, fun op ho => by rcases ho with rfl | rfl <;> simp [eqGuard]⟩)
  refine ⟨hb.2.2 _ (.inl rfl), hb.2.2 _ (.inr rfl), ?_, ?_⟩
  · rw [hb.1]; simp [e]
  · rw [hb.2.1]; simp [e]

theorem treeSome {sh : Sh} {n : Nat} {a : Array Value} {v : Value} (h : VRel P ρ sh (.iface (n + 1) (.tuple a)) v) : ∃ a' c', v = .slice (some a') (n + 1) c' := by
  cases h with
  | same _ h => simp [plain] at h
  | tree h1 h2 h3 h4 h5 => exact ⟨_, _, rfl⟩
theorem tightSome {sh : Sh} {n : Nat} {a : Array Value} {v : Value} (h : VRel P ρ sh (.iface (n + 1) (.iface 0 (.tuple a))) v) : ∃ a' c', v = .slice (some a') (n + 1) c' := by
  cases h with
  | same _ h => simp [plain] at h
  | tight h =>
    obtain ⟨a', c', he⟩ := treeSome h
    injection he with he _ _
    subst he
    exact ⟨_, _, rfl⟩

theorem aNilEq_pair {sh : Sh} {d : TypeDesc} {x y cx cy : Value} {b : Bool} (hb : aNilEq d x y = some b) (hx : VRel P ρ sh x cx) (hy : VRel P ρ sh y cy) : b = false ∧ NilPair d cx cy := by
  unfold aNilEq at hb
  split at hb
  all_goals try (simp at hb; done)
  all_goals simp at hb; subst hb
  all_goals refine ⟨rfl, ?_⟩
  · obtain ⟨cb, base, _, _, rfl⟩ := hx.ptr_inv
    have := hy.eq_of_plain rfl; subst this
    exact .inl ⟨_, rfl, rfl⟩
  · obtain ⟨cb, base, _, _, rfl⟩ := hy.ptr_inv
    have := hx.eq_of_plain rfl; subst this
    exact .inr ⟨_, rfl, rfl⟩
  · have := hy.eq_of_plain rfl; subst this
    rcases hx.slice_inv with ⟨_, _, _, _, _, rfl, _⟩ | ⟨_, _, _, rfl, _⟩ <;> exact .inl ⟨_, _, _, _, _, rfl, rfl⟩
  · have := hx.eq_of_plain rfl; subst this
    rcases hy.slice_inv with ⟨_, _, _, _, _, rfl, _⟩ | ⟨_, _, _, rfl, _⟩ <;> exact .inr ⟨_, _, _, _, _, rfl, rfl⟩
  · have := hy.eq_of_plain rfl; subst this
    obtain ⟨a', rfl⟩ : ∃ a', cx = .map (some a') := by
      cases hx with
      | same _ h => simp [plain] at h
      | map h => exact ⟨_, rfl⟩
    exact .inl ⟨_, rfl, rfl⟩
  · have := hx.eq_of_plain rfl; subst this
    obtain ⟨a', rfl⟩ : ∃ a', cy = .map (some a') := by
      cases hy with
      | same _ h => simp [plain] at h
      | map h => exact ⟨_, rfl⟩
    exact .inr ⟨_, rfl, rfl⟩
  · have := hy.eq_of_plain rfl; subst this
    obtain ⟨a', b', rfl, _, _⟩ := hx.func_inv
    exact .inl ⟨_, _, _, rfl, rfl⟩
  · have := hx.eq_of_plain rfl; subst this
    obtain ⟨a', b', rfl, _, _⟩ := hy.func_inv
    exact .inr ⟨_, _, _, rfl, rfl⟩
  · obtain ⟨cb, base, _, _, rfl, _⟩ := hx.tptr_inv
    have := hy.eq_of_plain rfl; subst this
    exact .inl ⟨_, rfl, rfl⟩
  · obtain ⟨cb, base, _, _, rfl, _⟩ := hy.tptr_inv
    have := hx.eq_of_plain rfl; subst this
    exact .inr ⟨_, rfl, rfl⟩
  · have := hy.eq_of_plain rfl; subst this
    obtain ⟨a', c', rfl⟩ := treeSome hx
    exact .inl ⟨_, _, _, _, _, rfl, rfl⟩
  · have := hx.eq_of_plain rfl; subst this
    obtain ⟨a', c', rfl⟩ := treeSome hy
    exact .inr ⟨_, _, _, _, _, rfl, rfl⟩
  · have := hy.eq_of_plain rfl; subst this
    obtain ⟨a', c', rfl⟩ := tightSome hx
    exact .inl ⟨_, _, _, _, _, rfl, rfl⟩
  · have := hx.eq_of_plain rfl; subst this
    obtain ⟨a', c', rfl⟩ := tightSome hy
    exact .inr ⟨_, _, _, _, _, rfl, rfl⟩

theorem aBin_sound {sh : Sh} {op : BinOp} {t : TypeId} {ox oy : Operand} {x y cx cy v : Value} (h : aBin P op t ox oy x y = some v) (hx : VRel P ρ sh x cx) (hy : VRel P ρ sh y cy) :
    ∃ cv, (∀ w, (do eqGuard op t ox oy cx cy; binOp op t cx cy : Sem Value).run P w = .ok cv w) ∧ VRel P ρ sh v cv := by
  unfold aBin at h
  split at h
  · rename_i hp
    have := hx.eq_of_plain hp.1; subst this
    have := hy.eq_of_plain hp.2; subst this
    cases hq : pureRun P (do eqGuard op t ox oy cx cy; binOp op t cx cy) with
    | none => simp [hq] at h
    | some u =>
      simp only [hq, Option.bind_some, ite_eq_some_iff] at h
      obtain ⟨hpl, hv⟩ := h
      simp at hv; subst hv
      exact ⟨u, fun w => pureRun_run _ _ hq w, .same _ hpl⟩
  · split at h
    · rename_i d hd
      cases hb : aNilEq d x y with
      | none => simp [hb] at h
      | some b =>
        simp [hb] at h; subst h
        obtain ⟨rfl, hnp⟩ := aNilEq_pair hb hx hy
        refine ⟨.bool false, fun w => ?_, .same _ rfl⟩
        obtain ⟨h1, _, h2, _⟩ := nilPair_run hd hnp ox oy w
        simp only [Sem.run_bind, h1, Result.andThen_ok, h2]
    · rename_i d hd
      cases hb : aNilEq d x y with
      | none => simp [hb] at h
      | some b =>
        simp [hb] at h; subst h
        obtain ⟨rfl, hnp⟩ := aNilEq_pair hb hx hy
        refine ⟨.bool true, fun w => ?_, .same _ rfl⟩
        obtain ⟨_, h1, _, h2⟩ := nilPair_run hd hnp ox oy w
        simp only [Sem.run_bind, h1, Result.andThen_ok, h2]
    · simp at h

theorem aUn_sound {sh : Sh} {op : UnOp} {x cx v : Value} (h : aUn P op x = some v) (hx : VRel P ρ sh x cx) : ∃ cv, (∀ w, (Op.unary op cx).run P w = .ok cv w) ∧ VRel P ρ sh v cv := by
  unfold aUn at h
  split at h
  · rename_i hp
    have := hx.eq_of_plain hp; subst this
    cases hq : pureRun P (Op.unary op cx) with
    | none => simp [hq] at h
    | some u =>
      simp only [hq, Option.bind_some, ite_eq_some_iff] at h
      obtain ⟨hpl, hv⟩ := h
      simp at hv; subst hv
      exact ⟨u, fun w => pureRun_run _ _ hq w, .same _ hpl⟩
  · simp at h

end
end Go.Am

end
section
namespace Go.Am

section
variable {P : Program} {ρ ρ' : Ren} {H : List Blk} {w : World}

theorem isByte_spec {e : TypeId} (h : isByte P e = true) : P.underlying e = some (.int .u8) ∧ sizeP P e = some 1 := by
  unfold isByte at h
  split at h
  · rename_i h1 h2; exact ⟨h1, h2⟩
  · simp at h

theorem cellsOf_sizeP {e : TypeId} {n : Nat} (h : sizeP P e = some n) : P.cellsOf e = n := by unfold sizeP at h; simp [Program.cellsOf, h]

theorem Rel.drew (h : Rel P ρ H w) : Rel P ρ H w.drew := h.congr rfl
theorem Step.drew (n : Nat) : Step n ρ H w ρ H w.drew := .congr n rfl rfl rfl

/-- a new row, its frozen range behind it -/
theorem row_sound' (h : Rel P ρ H w) {e : TypeId} {cs cs' : List Value} {arr : Array Value} {fz : Nat × Nat} (harr : arr.toList.take cs.length = cs') (hL : LRel P ρ w.shape? cs cs') (hac : allCells cs = true)
    (hfz : FzOk arr.size fz) :
    Rel P (upd ρ H.length (w.heap.size, 0)) (H ++ [.cells cs e true]) (w.alloc (.cells arr e fz)) ∧
    Step H.length ρ H w (upd ρ H.length (w.heap.size, 0)) (H ++ [.cells cs e true]) (w.alloc (.cells arr e fz)) := by
  refine alloc_rel h _ _ ⟨_, fz, rfl, ?_, fun _ => hfz, hac⟩
  rw [List.drop_zero, harr]
  exact hL.mono (fun _ _ h => h) (upd_mono (h.dom _ (Nat.le_refl _))) (shape_alloc _ _)

theorem shape_alloc_new (w : World) (c : Array Value) (e : TypeId) (fz : Nat × Nat) : (w.alloc (.cells c e fz)).shape? w.heap.size = some (e, c.size) := by
  simp only [World.shape?, heap_alloc_new]

/-- bytes that are taken for bytes: their row is marked behind its end -/
theorem run_mark (w : World) (t e : TypeId) (a : Addr) (len cap : Nat) (carr : Array Value) (et : TypeId) (fz : Nat × Nat) (ht : P.underlying t = some (.slice e)) (he : P.underlying e = some (.int .u8))
    (hb : w.heap[a.block]? = some (.cells carr et fz)) (hfz : FzOk carr.size fz) :
    ∃ fz', FzOk carr.size fz' ∧ (convert t t (.slice (some a) len cap)).run P w = .ok (.slice (some a) len cap) (setBlk w a.block (.cells carr et fz')) := by
  have hsh : w.shape? a.block = some (et, carr.size) := by simp [World.shape?, hb]
  have hlt := lt_of_getA hb
  obtain ⟨lo, hi⟩ := fz
  refine ⟨if lo == hi then (carr.size, carr.size + 1) else (min lo carr.size, max hi (carr.size + 1)), ?_, ?_⟩
  · right
    split
    · exact Nat.le_refl _
    · rename_i hne
      rcases hfz with hz | hz
      · simp at hz; obtain ⟨rfl, rfl⟩ := hz; simp at hne
      · exact Nat.le_min.2 ⟨hz, Nat.le_refl _⟩
  · have hfr : w.freeze { block := a.block, off := carr.size } 1 = setBlk w a.block (.cells carr et (if lo == hi then (carr.size, carr.size + 1) else (min lo carr.size, max hi (carr.size + 1)))) := by
      unfold World.freeze
      rw [if_neg (by decide)]
      unfold setBlk
      congr 1
      apply Array.ext_getElem?
      intro i
      rw [Array.getElem?_modify]
      by_cases hi : a.block = i
      · subst hi
        rw [if_pos rfl, Array.getElem?_setIfInBounds_self_of_lt hlt, hb]
        rfl
      · rw [if_neg hi, Array.getElem?_setIfInBounds_ne hi]
    simp [convert, run_underlying ht, run_underlying he, markStringish, hsh, hfr]

/-- what stands behind a step that made a block -/
structure Out (P : Program) (n : Nat) (ρ : Ren) (H : List Blk) (w : World) (H' : List Blk) (v : Value) (cv : Value) (w' : World) : Prop where
  ex : ∃ ρ', Rel P ρ' H' w' ∧ Step n ρ H w ρ' H' w' ∧ VRel P ρ' w'.shape? v cv
  len : n ≤ H'.length

theorem bytesOf_spec : ∀ (l : List Value) (bs : List UInt8), bytesOf l = some bs → plainL l = true ∧ l.length = bs.length ∧ ∀ (j : Nat) (b : UInt8), bs[j]? = some b → ∃ n : Int, l[j]? = some (.int .u8 n) ∧ b = UInt8.ofNat n.toNat
  | [], bs, h => by simp [bytesOf] at h; subst h; exact ⟨rfl, rfl, fun j b hb => by simp at hb⟩
  | v :: r, bs, h => by
    cases v with
    | int k n =>
      cases k <;> simp [bytesOf] at h
      obtain ⟨bs', h1, rfl⟩ := h
      obtain ⟨h2, h3, h4⟩ := bytesOf_spec r bs' h1
      refine ⟨by simp [plainL, plain, h2], by simp [h3], fun j b hb => ?_⟩
      cases j with
      | zero => simp at hb; exact ⟨n, by simp, hb.symm⟩
      | succ j => simp at hb; obtain ⟨m, hm, he⟩ := h4 j b hb; exact ⟨m, by simpa using hm, he⟩
    | _ => simp [bytesOf] at h

theorem foldl_push : ∀ (l : List Int) (r : ByteArray), l.foldl (fun r n => r.push (UInt8.ofNat n.toNat)) r = ⟨r.data ++ (l.map fun n => UInt8.ofNat n.toNat).toArray⟩
  | [], r => by simp
  | b :: l, r => by simp only [List.foldl_cons]; rw [foldl_push l]; simp [ByteArray.push]

theorem bytesOf_ints : ∀ (l : List Value) (bs : List UInt8), bytesOf l = some bs → ∃ ns : List Int, l = ns.map (Value.int .u8) ∧ bs = ns.map fun n => UInt8.ofNat n.toNat
  | [], bs, h => by simp [bytesOf] at h; subst h; exact ⟨[], rfl, rfl⟩
  | v :: r, bs, h => by
    cases v with
    | int k n =>
      cases k <;> simp [bytesOf] at h
      obtain ⟨bs', h1, rfl⟩ := h
      obtain ⟨ns, rfl, rfl⟩ := bytesOf_ints r bs' h1
      exact ⟨n :: ns, rfl, rfl⟩
    | _ => simp [bytesOf] at h

theorem plain_bytes (l : List UInt8) : plainL (l.map fun c => Value.int .u8 (c.toNat : Int)) = true := by
  induction l with
  | nil => rfl
  | cons x xs ih => simp [plainL, plain, ih]

theorem cells_bytes (l : List UInt8) : allCells (l.map fun c => Value.int .u8 (c.toNat : Int)) = true := by
  induction l with
  | nil => rfl
  | cons x xs ih => simp [allCells, cellV]

theorem conv_sound (h : Rel P ρ H w) {s d : TypeId} {x cx v : Value} {st' : AS} {e : Option Nat} (hs : aConv P s d x ⟨H, e⟩ = some (v, st')) (hx : VRel P ρ w.shape? x cx) :
    ∃ cv w', (convert s d cx).run P w = .ok cv w' ∧ Out P H.length ρ H w st'.H v cv w' := by
  unfold aConv at hs
  split at hs
  · rename_i d1 k k' n h1 h2
    simp at hs; obtain ⟨rfl, rfl⟩ := hs
    have := hx.int_inv; subst this
    refine ⟨.int k (k.wrap n), w, ?_, ⟨ρ, h, .refl _, .same _ rfl⟩, Nat.le_refl _⟩
    simp [convert, run_underlying h1, run_underlying h2, Conv.intToInt]
  · rename_i b h1 h2
    simp at hs; obtain ⟨rfl, rfl⟩ := hs
    have := hx.string_inv; subst this
    refine ⟨.string b, w, ?_, ⟨ρ, h, .refl _, .same _ rfl⟩, Nat.le_refl _⟩
    simp [convert, run_underlying h1, run_underlying h2]
  · rename_i el b h1 h2
    split at hs
    · rename_i hby
      obtain ⟨hu8, hsz⟩ := isByte_spec hby
      simp [aRow, newBlk] at hs; obtain ⟨rfl, rfl⟩ := hs
      have := hx.string_inv; subst this
      have hrun := run_bytes_of_string (P := P) w s d el b h1 h2 hu8
      have hcap := grownCap_ge w b.size 0 el
      have hsize : (bytesRow b (grownCap w b.size 0 el)).size = grownCap w b.size 0 el := by
        have : b.data.size = b.size := rfl
        simp [bytesRow]; omega
      have hrow := row_sound' (w := w.drew) h.drew (e := el) (cs := b.data.toList.map fun c => Value.int .u8 c.toNat) (cs' := b.data.toList.map fun c => Value.int .u8 c.toNat) (arr := bytesRow b (grownCap w b.size 0 el))
        (fz := ((bytesRow b (grownCap w b.size 0 el)).size, (bytesRow b (grownCap w b.size 0 el)).size + 1)) (by simp [bytesRow])
        (.refl_plain (plain_bytes _)) (cells_bytes _) (.inr (Nat.le_refl _))
      refine ⟨_, _, hrun, ⟨_, hrow.1, (Step.drew _).trans hrow.2, ?_⟩, by simp⟩
      have hq := VRel.slice (P := P) (ρ := upd ρ H.length (w.drew.heap.size, 0)) (sh := (w.drew.alloc (.cells (bytesRow b (grownCap w b.size 0 el)) el ((bytesRow b (grownCap w b.size 0 el)).size, (bytesRow b (grownCap w b.size 0 el)).size + 1))).shape?)
        (b := H.length) (o := 0) (cb := w.heap.size) (base := 0) (len := b.size) (cap := UNK) (cap' := grownCap w b.size 0 el) (upd_self _ _ _) (fun hne => absurd rfl hne) hcap
        (fun _ => ⟨el, (bytesRow b (grownCap w b.size 0 el)).size, shape_alloc_new _ _ _ _, by rw [cellsOf_sizeP hsz, hsize]; omega⟩)
      exact hq
    · simp at hs
  · rename_i el l c h1 h2
    split at hs
    · rename_i hby
      obtain ⟨hu8, _⟩ := isByte_spec hby
      simp at hs; obtain ⟨rfl, rfl⟩ := hs
      have := hx.eq_of_plain rfl; subst this
      refine ⟨.string .empty, w, ?_, ⟨ρ, h, .refl _, .same _ rfl⟩, Nat.le_refl _⟩
      simp [convert, run_underlying h1, run_underlying h2, run_underlying hu8, Conv.bytesToString]
    · simp at hs
  · rename_i el a len cap h1 h2
    split at hs
    · rename_i hby
      obtain ⟨hu8, _⟩ := isByte_spec hby
      simp only [Option.map_eq_some_iff, Option.bind_eq_some_iff] at hs
      obtain ⟨bs, ⟨l, hl, hbs⟩, hv⟩ := hs
      simp at hv; obtain ⟨rfl, rfl⟩ := hv
      obtain ⟨ns, rfl, rfl⟩ := bytesOf_ints l bs hbs
      rcases hx.slice_inv with ⟨cb, base, cap', hsp, hr, rfl, _, _, _⟩ | ⟨a', hsp, hb', rfl, rfl, _⟩
      · obtain ⟨l', hl1, hl2, hL, hc⟩ := cellsAt_rel h hl hr
        have : l' = ns.map (Value.int .u8) := hL.eq_of_plain (by
          have hp : ∀ l : List Int, plainL (l.map (Value.int .u8)) = true := fun l => by induction l with
            | nil => rfl
            | cons x xs ih => simp [plainL, plain, ih]
          exact hp _)
        subst this
        have hlc := run_loadCells_list (P := P) w ⟨cb, base + a.off, none⟩ _ hc
        rw [hl1] at hlc
        refine ⟨_, w, ?_, ⟨ρ, h, .refl _, .same _ rfl⟩, Nat.le_refl _⟩
        rw [run_convert_bytes_string w s d el (some ⟨cb, base + a.off, none⟩) len cap' h1 hu8 h2, run_bytesToString w _ len cap' ns hlc, foldl_push]
        have he0 : ByteArray.empty.data = #[] := rfl
        rw [he0]; simp
      · -- nothing is read
        have hns : ns = [] := by
          unfold cellsAt at hl
          split at hl
          · split at hl
            · simp at hl; cases ns <;> simp_all
            · simp at hl
          · simp at hl
        subst hns
        refine ⟨_, w, ?_, ⟨ρ, h, .refl _, .same _ rfl⟩, Nat.le_refl _⟩
        have hlc := run_loadCells_list (P := P) w a' [] (fun j v hj => by simp at hj)
        rw [run_convert_bytes_string w s d el (some a') 0 0 h1 hu8 h2, run_bytesToString w a' 0 0 [] (by simpa using hlc)]
        rfl
    · simp at hs
  · rename_i el0 el a len cap h1 h2
    split at hs
    · rename_i cs et hb
      split at hs
      · rename_i hc
        obtain ⟨rfl, hby, hlen⟩ := hc
        rw [h2] at h1; simp at h1; subst h1
        obtain ⟨hu8, _⟩ := isByte_spec hby
        simp at hs; obtain ⟨rfl, rfl⟩ := hs
        rcases id hx.slice_inv with ⟨cb, base, cap', hsp, hr, rfl, _, _, _⟩ | ⟨a', hsp, hb', rfl, rfl, _⟩
        · obtain ⟨cb', base', carr, fz, g1, g2, g3, g4, g5, g6⟩ := cells_get h hb
          rw [g1] at hr; simp at hr; obtain ⟨rfl, rfl⟩ := hr
          have hfz := g6.1 rfl
          obtain ⟨fz', hfz', hrun⟩ := run_mark (P := P) w s el ⟨cb', base' + a.off, none⟩ len cap' carr et fz h2 hu8 g2 hfz
          have hset := set_rel h (k' := .cells cs et true) (o' := .cells carr et fz') hb rfl g1 g2 rfl rfl ⟨_, _, rfl, g5, fun _ => hfz', g6.2⟩
          have e2 : H.set a.block (.cells cs et true) = H := by
            apply List.ext_getElem?; intro i
            by_cases hi : a.block = i
            · subst hi; rw [List.getElem?_set_self (lt_of_get hb), hb]
            · rw [List.getElem?_set_ne hi]
          rw [e2] at hset
          refine ⟨_, _, hrun, ⟨ρ, hset.1, hset.2, hx.mono (fun _ _ h => h) (fun _ _ h => h) hset.2.shape⟩, Nat.le_refl _⟩
        · exact absurd rfl hlen
      · simp at hs
    · simp at hs
  · rename_i el len row h1 h2
    split at hs
    · rename_i hby
      obtain ⟨hu8, _⟩ := isByte_spec hby
      simp only [Option.map_eq_some_iff, Option.bind_eq_some_iff, tStr, ite_eq_some_iff] at hs
      obtain ⟨bs, ⟨l, ⟨hsz, hl⟩, hbs⟩, hv⟩ := hs
      simp at hl; subst hl
      simp at hv; obtain ⟨rfl, rfl⟩ := hv
      obtain ⟨ns, hns, rfl⟩ := bytesOf_ints _ bs hbs
      rcases hx.ptree_inv with ⟨cb, base, cap', c, l', rfl, hz, hc, hle, hL⟩ | ⟨rfl, rfl, a', cap', hnil, rfl⟩
      · have hll : l'.length = len := by have := hL.1; simp at this; omega
        rw [hns] at hL
        have : l' = ns.map (Value.int .u8) := hL.eq_of_plain (by
          have hp : ∀ l : List Int, plainL (l.map (Value.int .u8)) = true := fun l => by induction l with
            | nil => rfl
            | cons x xs ih => simp [plainL, plain, ih]
          exact hp _)
        subst this
        have hlc := run_loadCells_list (P := P) w ⟨cb, base, none⟩ (ns.map (Value.int .u8)) (fun j v hj => by rw [add_none]; exact fz_cell h hz hc j v hj)
        rw [hll] at hlc
        refine ⟨_, w, ?_, ⟨ρ, h, .refl _, .same _ rfl⟩, Nat.le_refl _⟩
        rw [run_convert_bytes_string w s d el (some ⟨cb, base, none⟩) len cap' h1 hu8 h2, run_bytesToString w _ len cap' ns hlc, foldl_push]
        have he0 : ByteArray.empty.data = #[] := rfl
        rw [he0]; simp
      · have hns0 : ns = [] := by simpa using hns.symm
        subst hns0
        cases a' with
        | none =>
          have := hnil rfl; subst this
          refine ⟨.string .empty, w, ?_, ⟨ρ, h, .refl _, .same _ rfl⟩, Nat.le_refl _⟩
          simp [convert, run_underlying h1, run_underlying h2, run_underlying hu8, Conv.bytesToString]
        | some a' =>
          refine ⟨_, w, ?_, ⟨ρ, h, .refl _, .same _ rfl⟩, Nat.le_refl _⟩
          have hlc := run_loadCells_list (P := P) w a' [] (fun j v hj => by simp at hj)
          rw [run_convert_bytes_string w s d el (some a') 0 cap' h1 hu8 h2, run_bytesToString w a' 0 cap' [] (by simpa using hlc)]
          rfl
    · simp at hs
  · simp at hs

theorem madeCells_flat (z : Array Value) (hz : 0 < z.size) : ∀ c : Nat, (madeCells z (c * z.size)).toList = (List.replicate c z.toList).flatten := by
  intro c
  induction c with
  | zero => simp [madeCells]
  | succ c ih =>
    rw [List.replicate_succ', List.flatten_append, ← ih]
    apply List.ext_getElem?; intro i
    have hsz : ∀ n, (madeCells z n).toList.length = n := fun n => by simp [madeCells]
    have hget : ∀ n i, i < n → (madeCells z n).toList[i]? = some z[i % z.size]! := by
      intro n i hi
      simp [madeCells, hi]
    by_cases h1 : i < c * z.size
    · rw [List.getElem?_append_left (by rw [hsz]; exact h1), hget _ _ h1, hget _ _ (by rw [Nat.add_mul]; omega)]
    · rw [List.getElem?_append_right (by rw [hsz]; omega), hsz]
      by_cases h2 : i < (c + 1) * z.size
      · rw [hget _ _ h2]
        obtain ⟨j, rfl⟩ : ∃ j, i = c * z.size + j := ⟨i - c * z.size, by omega⟩
        have hj : j < z.size := by rw [Nat.add_mul] at h2; omega
        rw [Nat.add_sub_cancel_left, Nat.add_comm (c * z.size) j, Nat.add_mul_mod_self_right, Nat.mod_eq_of_lt hj]
        simp [hj]
      · rw [List.getElem?_eq_none (by rw [hsz]; omega), List.getElem?_eq_none (by simp; rw [Nat.add_mul] at h2; omega)]

theorem allCells_flat {l : List Value} (h : allCells l = true) : ∀ c : Nat, allCells (List.replicate c l).flatten = true
  | 0 => rfl
  | c + 1 => by rw [List.replicate_succ, List.flatten_cons, allCells_append, h, allCells_flat h c]; rfl

theorem makeSlice_sound (h : Rel P ρ H w) {t : TypeId} {l c cl cc v : Value} {st' : AS} {e : Option Nat} (hs : aMakeSlice P t l c ⟨H, e⟩ = some (v, st')) (hl : VRel P ρ w.shape? l cl) (hc : VRel P ρ w.shape? c cc) :
    ∃ cv w', (Instr.makeSlice t cl cc).run P w = .ok cv w' ∧ Out P H.length ρ H w st'.H v cv w' := by
  unfold aMakeSlice at hs
  split at hs
  · rename_i elem kl li kc ci hu
    split at hs
    · rename_i size bytes zero hsz hby hz
      simp only [ite_eq_some_iff] at hs
      obtain ⟨⟨h0, hlc, hb, hb2, hzs, hpos, hac, hpl⟩, hv⟩ := hs
      simp [aRow, newBlk] at hv; obtain ⟨rfl, rfl⟩ := hv
      have := hl.int_inv; subst this
      have := hc.int_inv; subst this
      obtain ⟨i, hi, hisz⟩ := sizeP_info hsz
      have hiz : i.zero = some zero := by unfold zeroP at hz; simpa [hi] using hz
      have hib : i.bytes = bytes := by unfold bytesP at hby; simpa [hi] using hby
      have hrun := run_make (P := P) w t elem i zero hu hi hiz kl kc li ci h0 hlc (by rw [hib]; have := Int.mul_comm ci (bytes : Int); omega) (by omega)
      rw [hisz] at hrun
      have hmc : (madeCells zero.cells (ci.toNat * size)).toList = (List.replicate ci.toNat zero.cells.toList).flatten := by rw [← hzs]; exact madeCells_flat _ (by omega) _
      have hlen : ((List.replicate ci.toNat zero.cells.toList).flatten).length = ci.toNat * size := by rw [← hmc]; simp [madeCells]
      have hrow := row_sound' h (e := elem) (cs := (List.replicate ci.toNat zero.cells.toList).flatten) (cs' := (List.replicate ci.toNat zero.cells.toList).flatten) (arr := madeCells zero.cells (ci.toNat * size)) (fz := (0, 0))
        (by rw [hmc]; exact List.take_of_length_le (by rw [hlen]; exact Nat.le_refl _)) (.flatten_replicate hpl _) (allCells_flat hac _) (.inl rfl)
      refine ⟨_, _, hrun, ⟨_, hrow.1, hrow.2, ?_⟩, by simp⟩
      refine VRel.slice (cap' := ci.toNat) (base := 0) (o := 0) (upd_self _ _ _) (fun _ => rfl) (by omega) (fun he => ?_)
      exfalso; unfold UNK at he; omega
    · simp at hs
  · simp at hs

end
end Go.Am

end
section
namespace Go.Am

section
variable {P : Program} {ρ ρ' : Ren} {H : List Blk} {w : World}

theorem ite_some {α : Type} {c : Prop} [Decidable c] {x : Option α} {y : α} : (if c then x else none) = some y ↔ c ∧ x = some y := by
  by_cases h : c <;> simp [h]

theorem allCells_cellsAt (h : Rel P ρ H w) {b off n : Nat} {l : List Value} (hc : cellsAt H b off n = some l) : allCells l = true := by
  unfold cellsAt at hc
  split at hc
  · rename_i cs e own hb
    split at hc
    · simp at hc; subst hc
      obtain ⟨_, _, _, _, _, _, _, _, _, _, h6⟩ := cells_get h hb
      exact allCells_take (allCells_drop h6 _) _
    · simp at hc
  · simp at hc

theorem cell?_drew (w : World) (a : Addr) : w.drew.cell? a = w.cell? a := rfl

/-- what is appended, or copied -/
theorem src_sound (h : Rel P ρ H w) {size : Nat} {tx : TypeId} {y cy : Value} {n : Nat} {new : List Value} (hk : (∃ e', P.underlying tx = some (.slice e')) ∨ P.underlying tx = some .string)
    (hs : srcCells size H y = some (n, new)) (hy : VRel P ρ w.shape? y cy) : ∃ new', Src P size tx cy n new' w ∧ LRel P ρ w.shape? new new' ∧ allCells new = true ∧ new.length = n * size := by
  cases y with
  | slice a len cap =>
    cases a with
    | none =>
      simp only [srcCells, ite_eq_some_iff] at hs
      obtain ⟨rfl, hv⟩ := hs
      simp at hv; obtain ⟨rfl, rfl⟩ := hv
      have := hy.eq_of_plain rfl; subst this
      exact ⟨[], ⟨hk, fun _ => rfl, run_firstCells_none w size 0 0 cap, run_firstCells_none w.drew size 0 0 cap, by simp, fun u hu => by simp at hu⟩, .nil, rfl, by simp⟩
    | some a =>
      simp only [srcCells, Option.map_eq_some_iff] at hs
      obtain ⟨l, hl, hv⟩ := hs
      simp at hv; obtain ⟨rfl, rfl⟩ := hv
      have hac := allCells_cellsAt h hl
      rcases hy.slice_inv with ⟨cb, base, cap', hsp, hr, rfl, _, _, _⟩ | ⟨a', hsp, hb', rfl, rfl, _⟩
      · obtain ⟨l', hl1, hl2, hL, hc⟩ := cellsAt_rel h hl hr
        exact ⟨l', ⟨hk, fun _ => rfl, run_firstCells_some w size len _ len cap' l' hl1 hc, run_firstCells_some w.drew size len _ len cap' l' hl1 hc, hl1, one_of hL hac⟩, hL, hac, hl2⟩
      · have hl0 : l = [] := by
          unfold cellsAt at hl
          split at hl
          · split at hl
            · simp at hl; exact hl
            · simp at hl
          · simp at hl
        subst hl0
        exact ⟨[], ⟨hk, fun _ => rfl, run_firstCells_some w size 0 a' 0 0 [] (by simp) (fun j u hj => by simp at hj), run_firstCells_some w.drew size 0 a' 0 0 [] (by simp) (fun j u hj => by simp at hj), by simp, fun u hu => by simp at hu⟩, .nil, rfl, by simp⟩
  | string b =>
    simp only [srcCells, ite_eq_some_iff] at hs
    obtain ⟨rfl, hv⟩ := hs
    simp at hv; obtain ⟨rfl, rfl⟩ := hv
    have := hy.string_inv; subst this
    exact ⟨byteCells b, ⟨hk, fun _ => rfl, firstCells_string b w, firstCells_string b w.drew, by rw [byteCells_length, Nat.mul_one], fun u hu => by
      obtain ⟨_, _, rfl⟩ := List.mem_map.1 hu; rfl⟩, .refl_plain (plain_bytes _), cells_bytes _, by simp⟩
  | iface len x =>
    cases x with
    | tuple row =>
      simp only [srcCells, tSrc, ite_eq_some_iff] at hs
      obtain ⟨⟨hsz, hac⟩, hv⟩ := hs
      simp at hv; obtain ⟨rfl, rfl⟩ := hv
      rcases hy.ptree_inv with ⟨cb, base, cap', c, l', rfl, hz, hc, hle, hL⟩ | ⟨rfl, rfl, a', cap', hnil, rfl⟩
      · have hl1 : l'.length = len * size := by have := hL.1; simp at this; omega
        have hcell : ∀ (w' : World), w'.heap = w.heap → ∀ (j : Nat) (v : Value), l'[j]? = some v → w'.cell? ((⟨cb, base, none⟩ : Addr).add j) = some v := fun w' hw j v hj => by
          rw [add_none]
          have := fz_cell h hz hc j v hj
          simpa [World.cell?, hw] using this
        exact ⟨l', ⟨hk, fun _ => rfl, run_firstCells_some w size len _ len cap' l' hl1 (hcell w rfl), run_firstCells_some w.drew size len _ len cap' l' hl1 (hcell w.drew rfl), hl1, one_of hL hac⟩, hL, hac, by simpa using hsz⟩
      · cases a' with
        | none =>
          exact ⟨[], ⟨hk, fun _ => rfl, run_firstCells_none w size 0 0 cap', run_firstCells_none w.drew size 0 0 cap', by simp, fun u hu => by simp at hu⟩, .nil, rfl, by simp⟩
        | some a' =>
          exact ⟨[], ⟨hk, fun _ => rfl, run_firstCells_some w size 0 a' 0 cap' [] (by simp) (fun j u hj => by simp at hj), run_firstCells_some w.drew size 0 a' 0 cap' [] (by simp) (fun j u hj => by simp at hj), by simp, fun u hu => by simp at hu⟩, .nil, rfl, by simp⟩
    | _ => simp [srcCells] at hs
  | _ => simp [srcCells] at hs

theorem zeroCells_size (zero : Array Value) (n : Nat) : (Builtin.zeroCells zero n).size = n * zero.size := by simp [Builtin.zeroCells]

/-- an append that makes a new row -/
theorem grow_sound (h : Rel P ρ H w) {t tx ty elem : TypeId} {size bytes : Nat} {zero : Value} (hu : P.underlying t = some (.slice elem)) (hsz : sizeP P elem = some size) (hby : bytesP P elem = some bytes) (hz : zeroP P elem = some zero)
    (hzs : zero.cells.size = size) (hs0 : size ≠ 0) (hb0 : bytes ≠ 0) {base : Option Addr} {sLen sCap n : Nat} {olds olds' new new' : List Value} {y : Value} (hs : Src P size tx y n new' w) (hL : LRel P ρ w.shape? new new') (hac : allCells new = true)
    (ho : LRel P ρ w.shape? olds olds') (hoac : allCells olds = true) (hol : olds.length = sLen * size) (hnl : new.length = n * size)
    (hold : (Builtin.firstCells size sLen (.slice base sLen sCap)).run P w.drew = .ok olds'.toArray w.drew) (hg : sCap < sLen + n) (hbound : (sLen + n) * bytes ≤ 140737488355328) :
    ∃ cv w', (Builtin.append_ #[t, tx] ty #[.slice base sLen sCap, y]).run P w = .ok cv w' ∧
      Out P H.length ρ H w (H ++ [.cells (olds ++ new) elem true]) (.slice (some ⟨H.length, 0, none⟩) (sLen + n) UNK) cv w' := by
  obtain ⟨i, hi, hisz⟩ := sizeP_info hsz
  have hiz : i.zero = some zero := by unfold zeroP at hz; simpa [hi] using hz
  have hib : i.bytes = bytes := by unfold bytesP at hby; simpa [hi] using hby
  have h47 : sLen + n ≤ 140737488355328 := Nat.le_trans (Nat.le_mul_of_pos_right _ (Nat.pos_of_ne_zero hb0)) hbound
  subst hisz; subst hib
  have hrun := run_append_grow_src (P := P) w t tx ty elem i zero hu hi hiz base sLen sCap olds' hold y n new' hs hg (by omega) (growslice_fits hg hbound)
  have hge := grownCap_ge w (sLen + n) sCap elem
  have hlen : ((olds' ++ new').toArray ++ Builtin.zeroCells zero.cells (grownCap w (sLen + n) sCap elem - (sLen + n))).size = grownCap w (sLen + n) sCap elem * i.size := by
    have e1 := ho.1; have e2 := hL.1
    simp only [Array.size_append, List.size_toArray, List.length_append, zeroCells_size, hzs, ← e1, ← e2, hol, hnl]
    rw [← Nat.add_mul, ← Nat.add_mul]; congr 1; omega
  have hrow := row_sound' (w := w.drew) h.drew (e := elem) (cs := olds ++ new) (cs' := olds' ++ new') (arr := (olds' ++ new').toArray ++ Builtin.zeroCells zero.cells (grownCap w (sLen + n) sCap elem - (sLen + n))) (fz := (0, 0))
    (by simp only [Array.toList_append]; rw [List.take_append_of_le_length (by simp [ho.1, hL.1])]; exact List.take_of_length_le (by simp [ho.1, hL.1]))
    (ho.append hL) (by rw [allCells_append, hoac, hac]; rfl) (.inl rfl)
  refine ⟨_, _, hrun, ⟨_, hrow.1, (Step.drew _).trans hrow.2, ?_⟩, by simp⟩
  refine VRel.slice (base := 0) (o := 0) (upd_self _ _ _) (fun hne => absurd rfl hne) hge (fun _ => ⟨elem, _, shape_alloc_new _ _ _ _, ?_⟩)
  rw [cellsOf_sizeP hsz, hlen]; omega

theorem append_sound (h : Rel P ρ H w) {argTypes : Array TypeId} {ty : TypeId} {x y cx cy v : Value} {st' : AS} {e : Option Nat} (hs : aAppend P argTypes x y ⟨H, e⟩ = some (v, st')) (hx : VRel P ρ w.shape? x cx) (hy : VRel P ρ w.shape? y cy) :
    ∃ cv w', (Builtin.append_ argTypes ty #[cx, cy]).run P w = .ok cv w' ∧ Out P H.length ρ H w st'.H v cv w' := by
  unfold aAppend at hs
  split at hs
  case h_2 => simp at hs
  rename_i t tx hat
  have hat' : argTypes = #[t, tx] := by cases argTypes; simp at hat; subst hat; rfl
  subst hat'
  split at hs
  case h_2 => simp at hs
  rename_i elem hu
  split at hs
  case h_2 => simp at hs
  rename_i size bytes zero n new hsz hby hz hsrc
  rw [hsz] at hsrc; simp only [Option.getD_some] at hsrc
  rw [ite_some] at hs
  obtain ⟨⟨hk, hs0, hb0, hzs⟩, hs⟩ := hs
  have hk' : (∃ e', P.underlying tx = some (.slice e')) ∨ P.underlying tx = some .string := by
    split at hk
    · rename_i e' he; exact .inl ⟨e', he⟩
    · rename_i he; exact .inr he
    · simp at hk
  obtain ⟨new', hS, hL, hac, hnl⟩ := src_sound h hk' hsrc hy
  obtain ⟨i, hi, hisz⟩ := sizeP_info hsz
  cases x with
  | slice a len cap =>
    cases a with
    | none =>
      simp only at hs
      split at hs
      case isFalse => simp at hs
      rename_i hlc
      obtain ⟨rfl, rfl⟩ := hlc
      have := hx.eq_of_plain rfl; subst this
      split at hs
      · rename_i hn
        simp at hs; obtain ⟨rfl, rfl⟩ := hs
        subst hn
        have hnew : new' = [] := by have := hL.1; rw [hnl] at this; simp at this; exact List.eq_nil_of_length_eq_zero this.symm
        subst hnew
        refine ⟨_, w, run_append_nothing w t tx ty elem i hu hi none 0 0 (Nat.le_refl _) cy (by rw [hisz]; exact hS), ⟨ρ, h, .refl _, .same _ rfl⟩, Nat.le_refl _⟩
      · rename_i hn
        simp only [ite_eq_some_iff] at hs
        obtain ⟨hb, hv⟩ := hs
        simp [aRow, newBlk] at hv; obtain ⟨rfl, rfl⟩ := hv
        have := grow_sound (olds := []) (olds' := []) (base := none) (sLen := 0) (sCap := 0) (ty := ty) h hu hsz hby hz hzs hs0 hb0 hS hL hac .nil rfl (by simp) hnl (run_firstCells_none w.drew size 0 0 0) (by omega) (by simpa using hb)
        simpa using this
    | some a =>
      simp only at hs
      split at hs
      · rename_i hn
        simp at hs; obtain ⟨rfl, rfl⟩ := hs
        subst hn
        have hnew : new' = [] := by have := hL.1; rw [hnl] at this; simp at this; exact List.eq_nil_of_length_eq_zero this.symm
        subst hnew
        rcases hx.slice_inv with ⟨cb, base, cap', hsp, hr, rfl, hc, hl, _⟩ | ⟨a', hsp, hb', rfl, rfl, hc⟩
        · exact ⟨_, w, run_append_nothing w t tx ty elem i hu hi _ len cap' hl cy (by rw [hisz]; exact hS), ⟨ρ, h, .refl _, hx⟩, Nat.le_refl _⟩
        · exact ⟨_, w, run_append_nothing w t tx ty elem i hu hi _ 0 0 (Nat.le_refl _) cy (by rw [hisz]; exact hS), ⟨ρ, h, .refl _, hx⟩, Nat.le_refl _⟩
      · rename_i hn
        split at hs
        case isFalse => simp at hs
        rename_i hb
        split at hs
        · -- the capacity is known
          rename_i hcap
          split at hs
          · -- there is room
            rename_i hroom
            simp only [Option.map_eq_some_iff] at hs
            obtain ⟨s, hst, hv⟩ := hs
            simp at hv; obtain ⟨rfl, rfl⟩ := hv
            rcases hx.slice_inv with ⟨cb, base, cap', hsp, hr, rfl, hc, hl, _⟩ | ⟨a', hsp, hb', rfl, rfl, hc⟩
            · have hcc := hc hcap; subst hcc
              obtain ⟨g1, g2, g3, g4, g5, g6⟩ := storeL_sound h hst hr hL
              have hrun := run_append_room_src (P := P) w t tx ty elem i hu hi cb (base + a.off) len cap' cy n new' (by rw [hisz]; exact hS) hroom (by rw [hisz]; simpa [Nat.add_assoc] using g4) (by rw [hisz]; simpa [Nat.add_assoc] using g5)
              rw [hisz] at hrun
              rw [show base + a.off + len * size = base + (a.off + len * size) by omega] at hrun
              refine ⟨_, _, hrun, ⟨ρ, g1, g2, ?_⟩, by omega⟩
              obtain ⟨ab, ao, asp⟩ := a
              simp only at hsp hr; subst hsp
              exact .slice hr (fun _ => rfl) hroom (fun he => absurd he hcap)
            · exfalso; have := hc hcap; omega
          · rename_i hroom
            simp only [Option.map_eq_some_iff] at hs
            obtain ⟨old, hold, hv⟩ := hs
            simp [aRow, newBlk] at hv; obtain ⟨rfl, rfl⟩ := hv
            have hoac := allCells_cellsAt h hold
            rcases hx.slice_inv with ⟨cb, base, cap', hsp, hr, rfl, hc, hl, _⟩ | ⟨a', hsp, hb', rfl, rfl, hc⟩
            · have hcc := hc hcap; subst hcc
              obtain ⟨old', ho1, ho2, hoL, hoc⟩ := cellsAt_rel h hold hr
              exact grow_sound (ty := ty) h hu hsz hby hz hzs hs0 hb0 hS hL hac hoL hoac ho2 hnl (run_firstCells_some w.drew size len _ len cap' old' ho1 hoc) (by omega) hb
            · have hcc := hc hcap; subst hcc
              have hl0 : old = [] := by
                unfold cellsAt at hold
                split at hold
                · split at hold
                  · simp at hold; exact hold
                  · simp at hold
                · simp at hold
              subst hl0
              exact grow_sound (ty := ty) h hu hsz hby hz hzs hs0 hb0 hS hL hac .nil rfl (by simp) hnl (run_firstCells_some w.drew size 0 a' 0 0 [] (by simp) (fun j u hj => by simp at hj)) (by omega) hb
        · -- it is not
          rename_i hcap
          have hcap : cap = UNK := by simpa using hcap
          split at hs
          case h_2 => simp at hs
          rename_i cs et hbk
          simp only [ite_eq_some_iff] at hs
          obtain ⟨⟨rfl, hin⟩, hv⟩ := hs
          simp [aRow, newBlk] at hv; obtain ⟨rfl, rfl⟩ := hv
          obtain ⟨cb', base', carr, fz, q1, q2, q3, q4, q5, q6, q7⟩ := cells_get h hbk
          have hcell : cellsAt H a.block a.off (len * size) = some ((cs.drop a.off).take (len * size)) := by unfold cellsAt; rw [hbk]; simp [hin]
          have hoac := allCells_cellsAt h hcell
          have holdl : ((cs.drop a.off).take (len * size)).length = len * size := by simp; omega
          -- the new row, grown
          have grown : ∀ (base : Option Addr) (sCap : Nat) (olds' : List Value), LRel P ρ w.shape? ((cs.drop a.off).take (len * size)) olds' → (Builtin.firstCells size len (.slice base len sCap)).run P w.drew = .ok olds'.toArray w.drew → sCap < len + n →
              ∃ cv w', (Builtin.append_ #[t, tx] ty #[.slice base len sCap, cy]).run P w = .ok cv w' ∧
                Out P H.length ρ H w (H.set a.block .dead ++ [.cells ((cs.drop a.off).take (len * size) ++ new) et true]) (.slice (some ⟨H.length, 0, none⟩) (len + n) UNK) cv w' := by
            intro base sCap olds' hoL hfc hg
            have hk := kill_rel h (b := a.block)
            obtain ⟨cv, w', hrun, ⟨ρ2, r1, r2, r3⟩, r4⟩ := grow_sound (ty := ty) hk.1 hu hsz hby hz hzs hs0 hb0 hS hL hac hoL hoac holdl hnl hfc hg hb
            rw [List.length_set] at r2 r3
            exact ⟨cv, w', hrun, ⟨ρ2, r1, hk.2.trans r2, r3⟩, by simp⟩
          rcases hx.slice_inv with ⟨cb, base, cap', hsp, hr, rfl, hc, hl, hun⟩ | ⟨a', hsp, hb', rfl, rfl, hc⟩
          · rw [q1] at hr; simp at hr; obtain ⟨rfl, rfl⟩ := hr
            obtain ⟨old', ho1, ho2, hoL, hoc⟩ := cellsAt_rel h hcell q1
            by_cases hroom : len + n ≤ cap'
            · -- in place: the row goes on under a new name
              obtain ⟨e1, n1, u1, u2⟩ := hun hcap
              have hshp : w.shape? cb' = some (et, carr.size) := by simp [World.shape?, q2]
              rw [hshp] at u1; simp at u1; obtain ⟨rfl, rfl⟩ := u1
              rw [cellsOf_sizeP hsz] at u2
              have hfz0 := q6 rfl
              have hfz := hfz0.not
              have hnl' : new'.length = n * size := by rw [← hL.1]; exact hnl
              have hmul : (len + n) * size ≤ cap' * size := Nat.mul_le_mul_right _ hroom
              rw [Nat.add_mul] at hmul
              have hfit : base' + a.off + len * size + new'.length ≤ carr.size := by rw [hnl']; omega
              have hrun := run_append_room_src (P := P) w t tx ty et i hu hi cb' (base' + a.off) len cap' cy n new' (by rw [hisz]; exact hS) hroom
                (by rw [hisz]; intro j hj; rw [cell_at q2, Array.getElem?_eq_getElem (by omega)]; rfl)
                (by
                  rw [hisz]; intro j hj
                  simp only [World.frozen?, q2]
                  have := hfz (base' + a.off + len * size + j) (by omega)
                  simp only [Bool.and_eq_false_iff, decide_eq_false_iff_not]
                  by_cases hx : fz.1 ≤ base' + a.off + len * size + j
                  · exact .inr (fun hy => this ⟨hx, hy⟩)
                  · exact .inl hx)
              rw [hisz, heap_setCells cb' et fz new' (base' + a.off + len * size) w carr q2 hfit] at hrun
              have hpl : (putCells carr.toList (base' + a.off + len * size) new').length = carr.size := by rw [putCells_length (by simpa using hfit)]; simp
              have hmv := move_rel h (k' := .cells ((cs.drop a.off).take (len * size) ++ new) et true) (base' := base' + a.off) (o' := .cells (putCells carr.toList (base' + a.off + len * size) new').toArray et fz) hbk rfl q1 q2 rfl (by simp [hpl])
                (by
                  refine ⟨_, fz, rfl, ?_, fun _ => by simpa [hpl] using hfz0, by rw [allCells_append, hoac, hac]; rfl⟩
                  have : List.take ((cs.drop a.off).take (len * size) ++ new).length (List.drop (base' + a.off) (putCells carr.toList (base' + a.off + len * size) new').toArray.toList) = old' ++ new' := by
                    apply List.ext_getElem?; intro j
                    rw [List.length_append, holdl, hnl, List.getElem?_take, List.getElem?_drop]
                    rw [putCells_get (by simpa using hfit)]
                    by_cases h0 : j < len * size
                    · rw [if_pos (by omega), if_pos (by omega), List.getElem?_append_left (by omega)]
                      have := hoc j
                      cases hj : old'[j]? with
                      | none => rw [List.getElem?_eq_none_iff] at hj; omega
                      | some u =>
                        have := this u hj
                        rw [add_none, cell_at q2] at this
                        simpa using this
                    · by_cases h1 : j < len * size + n * size
                      · rw [if_pos (by omega), if_neg (by omega), if_pos (by omega), List.getElem?_append_right (by omega)]
                        congr 1; omega
                      · rw [if_neg (by omega), List.getElem?_eq_none (by simp; omega)]
                  rw [this]
                  exact (hoL.append hL).mono (fun _ _ h => h) (upd_mono (h.dom _ (Nat.le_refl _))) (fun _ _ h => h))
              refine ⟨_, _, hrun, ⟨_, hmv.1, hmv.2, ?_⟩, by simp⟩
              have hsh2 := setBlk_shape (o := .cells (putCells carr.toList (base' + a.off + len * size) new').toArray et fz) q2 (by simp [hpl])
              have := VRel.slice (P := P) (ρ := upd ρ H.length (cb', base' + a.off)) (sh := (setBlk w cb' (.cells (putCells carr.toList (base' + a.off + len * size) new').toArray et fz)).shape?) (b := H.length) (o := 0) (len := len + n) (cap := UNK) (cap' := cap')
                (upd_self _ _ _) (fun hne => absurd rfl hne) hroom (fun _ => ⟨et, carr.size, by rw [hsh2]; exact hshp, by rw [cellsOf_sizeP hsz]; omega⟩)
              simpa using this
            · exact grown _ cap' old' hoL (run_firstCells_some w.drew size len _ len cap' old' ho1 hoc) (by omega)
          · exact grown _ 0 [] (by simp; exact .nil) (run_firstCells_some w.drew size 0 a' 0 0 [] (by simp) (fun j u hj => by simp at hj)) (by omega)
  | iface len x =>
    cases x with
    | iface z x =>
      cases x with
      | tuple row =>
        cases z with
        | succ z => simp at hs
        | zero =>
          simp only [ite_some] at hs
          obtain ⟨⟨hn, hb⟩, hs⟩ := hs
          rw [Option.map_eq_some_iff] at hs
          obtain ⟨cs, hcs, hv⟩ := hs
          unfold tApp at hcs
          simp only [ite_eq_some_iff] at hcs
          obtain ⟨⟨hrl, hrc⟩, hcs⟩ := hcs
          simp at hcs; subst hcs
          simp [aRow, newBlk] at hv; obtain ⟨rfl, rfl⟩ := hv
          cases hx with
          | same _ h => simp [plain] at h
          | @tight _ _ a' hx =>
            rcases hx.ptree_inv with ⟨cb, base, cap', c, l', he, hz1, hc, hle, hL1⟩ | ⟨h0, h1, a2, cap', hnil, he⟩
            · simp at he
              obtain ⟨rfl, rfl⟩ := he
              have hl1 : l'.length = len * size := by have := hL1.1; simp at this; omega
              exact grow_sound (ty := ty) h hu hsz hby hz hzs hs0 hb0 hS hL hac hL1 (by simpa [allCells] using hrc) (by simpa using hrl) hnl
                (run_firstCells_some w.drew size len _ len len l' hl1 (fun j v hj => by rw [add_none]; exact fz_cell h hz1 hc j v hj)) (by omega) hb
            · subst h0 h1
              simp at hb ⊢
              cases a' with
              | none => simpa using grow_sound (olds := []) (olds' := []) (sLen := 0) (sCap := 0) (ty := ty) h hu hsz hby hz hzs hs0 hb0 hS hL hac .nil rfl (by simp) hnl (run_firstCells_none w.drew size 0 0 0) (by omega) (by simpa using hb)
              | some a' => simpa using grow_sound (olds := []) (olds' := []) (sLen := 0) (sCap := 0) (ty := ty) h hu hsz hby hz hzs hs0 hb0 hS hL hac .nil rfl (by simp) hnl (run_firstCells_some w.drew size 0 a' 0 0 [] (by simp) (fun j u hj => by simp at hj)) (by omega) (by simpa using hb)
      | _ => simp at hs
    | _ => simp at hs
  | _ => simp at hs

end
end Go.Am

end
section
namespace Go.Am

section
variable {P : Program} {ρ ρ' : Ren} {H : List Blk} {w : World}

/-- the first n elements of what is copied -/
theorem first_sound (h : Rel P ρ H w) {size : Nat} {y cy : Value} {m n : Nat} {cells : List Value} (hs : srcCells size H y = some (m, cells)) (hy : VRel P ρ w.shape? y cy) (hn : n ≤ m) :
    ∃ cells', (Builtin.lenOf cy).run P w = .ok m w ∧ (Builtin.firstCells size n cy).run P w = .ok cells'.toArray w ∧ LRel P ρ w.shape? (cells.take (n * size)) cells' := by
  cases y with
  | slice a len cap =>
    cases a with
    | none =>
      simp only [srcCells, ite_eq_some_iff] at hs
      obtain ⟨rfl, hv⟩ := hs
      simp at hv; obtain ⟨rfl, rfl⟩ := hv
      have := hy.eq_of_plain rfl; subst this
      exact ⟨[], rfl, run_firstCells_none w size n 0 cap, by simp; exact .nil⟩
    | some a =>
      simp only [srcCells, Option.map_eq_some_iff] at hs
      obtain ⟨l, hl, hv⟩ := hs
      simp at hv; obtain ⟨rfl, rfl⟩ := hv
      have hmul : n * size ≤ len * size := Nat.mul_le_mul_right _ hn
      rcases hy.slice_inv with ⟨cb, base, cap', hsp, hr, rfl, _, _, _⟩ | ⟨a', hsp, hb', rfl, rfl, _⟩
      · obtain ⟨l', hl1, hl2, hL, hc⟩ := cellsAt_rel h hl hr
        refine ⟨l'.take (n * size), rfl, run_firstCells_some w size n _ len cap' _ (by simp; omega) (fun j v hj => ?_), hL.take _⟩
        rw [List.getElem?_take] at hj
        split at hj
        · exact hc j v hj
        · simp at hj
      · have : n = 0 := by omega
        subst this
        exact ⟨[], rfl, run_firstCells_some w size 0 a' 0 0 [] (by simp) (fun j u hj => by simp at hj), by simp; exact .nil⟩
  | string b =>
    simp only [srcCells, ite_eq_some_iff] at hs
    obtain ⟨rfl, hv⟩ := hs
    simp at hv; obtain ⟨rfl, rfl⟩ := hv
    have := hy.string_inv; subst this
    refine ⟨(b.data.toList.map fun c => Value.int .u8 (c.toNat : Int)).take n, rfl, ?_, ?_⟩
    · simp only [Builtin.firstCells, Sem.run_pure]
      congr 1
      apply Array.ext'
      rw [List.toList_toArray, ← List.map_take, Array.toList_map]
      congr 1
      have : (b.extract 0 n).data = b.data.extract 0 n := by
        simp [ByteArray.extract, ByteArray.copySlice]
      rw [this]; simp
    · rw [Nat.mul_one]
      exact .refl_plain (by rw [← List.map_take]; exact plain_bytes _)
  | iface len x =>
    cases x with
    | tuple row =>
      simp only [srcCells, tSrc, ite_eq_some_iff] at hs
      obtain ⟨⟨hsz, hac⟩, hv⟩ := hs
      simp at hv; obtain ⟨rfl, rfl⟩ := hv
      have hmul : n * size ≤ len * size := Nat.mul_le_mul_right _ hn
      rcases hy.ptree_inv with ⟨cb, base, cap', c, l', rfl, hz, hc, hle, hL⟩ | ⟨rfl, rfl, a', cap', hnil, rfl⟩
      · have hl1 : l'.length = len * size := by have := hL.1; simp at this; omega
        refine ⟨l'.take (n * size), rfl, run_firstCells_some w size n _ len cap' _ (by simp; omega) (fun j v hj => ?_), hL.take _⟩
        rw [List.getElem?_take] at hj
        split at hj
        · rw [add_none]; exact fz_cell h hz hc j v hj
        · simp at hj
      · have : n = 0 := by omega
        subst this
        cases a' with
        | none => exact ⟨[], rfl, run_firstCells_none w size 0 0 cap', by simp; exact .nil⟩
        | some a' => exact ⟨[], rfl, run_firstCells_some w size 0 a' 0 cap' [] (by simp) (fun j u hj => by simp at hj), by simp; exact .nil⟩
    | _ => simp [srcCells] at hs
  | _ => simp [srcCells] at hs

theorem copy_sound (h : Rel P ρ H w) {argTypes : Array TypeId} {ty : TypeId} {x y cx cy v : Value} {st' : AS} {e : Option Nat} (hs : aCopy P argTypes x y ⟨H, e⟩ = some (v, st')) (hx : VRel P ρ w.shape? x cx) (hy : VRel P ρ w.shape? y cy) :
    ∃ cv w', (Builtin.copy_ argTypes ty #[cx, cy]).run P w = .ok cv w' ∧ Out P H.length ρ H w st'.H v cv w' := by
  unfold aCopy at hs
  split at hs
  case h_1 => simp at hs
  rename_i t hat
  split at hs
  case h_2 => simp at hs
  rename_i elem hu
  split at hs
  · rename_i size m cells a len cap hsz hsrc
    rw [hsz] at hsrc; simp only [Option.getD_some] at hsrc
    obtain ⟨cells', hl, hf, hL⟩ := first_sound h hsrc hy (Nat.min_le_left m len)
    rcases hx.slice_inv with ⟨cb, base, cap', hsp, hr, rfl, _, _, _⟩ | ⟨a', hsp, hb', rfl, rfl, _⟩
    · split at hs
      · rename_i hmin
        simp at hs; obtain ⟨rfl, rfl⟩ := hs
        have hc0 : cells' = [] := by have := hL.1; rw [hmin] at this; simp at this; exact List.eq_nil_of_length_eq_zero this.symm
        subst hc0
        refine ⟨.int .i64 0, w, ?_, ⟨ρ, h, .refl _, .same _ rfl⟩, Nat.le_refl _⟩
        have hmin' : m.min len = 0 := hmin
        rw [hmin] at hf
        simp [Builtin.copy_, hat, run_underlying hu, hl, run_sizeP hsz, hmin', hf, storeCells, goInt]
      · simp only [Option.map_eq_some_iff] at hs
        obtain ⟨s, hst, hv⟩ := hs
        simp at hv; obtain ⟨rfl, rfl⟩ := hv
        obtain ⟨g1, g2, g3, g4, g5, g6⟩ := storeL_sound h hst hr hL
        have hrun := run_storeCells_cells (P := P) cb (base + a.off) cells' 0 w (by simpa using g4) (by simpa using g5) g6
        simp only [Nat.add_zero] at hrun
        refine ⟨.int .i64 (min m len : Nat), _, ?_, ⟨ρ, g1, g2, .same _ rfl⟩, by omega⟩
        have hmm : m.min len = min m len := rfl
        simp [Builtin.copy_, hat, run_underlying hu, hl, run_sizeP hsz, hmm, hf, hrun, goInt]
    · -- nothing is written
      split at hs
      · simp at hs; obtain ⟨rfl, rfl⟩ := hs
        have hc0 : cells' = [] := by have := hL.1; simp at this; exact List.eq_nil_of_length_eq_zero this.symm
        subst hc0
        refine ⟨.int .i64 0, w, ?_, ⟨ρ, h, .refl _, .same _ rfl⟩, Nat.le_refl _⟩
        have hmm : m.min 0 = 0 := by simp [Nat.min_def]
        simp only [Nat.min_zero] at hf
        simp [Builtin.copy_, hat, run_underlying hu, hl, run_sizeP hsz, hmm, hf, storeCells, goInt]
      · rename_i hne; simp at hne
  · rename_i size m cells len cap hsz hsrc
    rw [hsz] at hsrc; simp only [Option.getD_some] at hsrc
    simp only [ite_eq_some_iff] at hs
    obtain ⟨rfl, hv⟩ := hs
    simp at hv; obtain ⟨rfl, rfl⟩ := hv
    obtain ⟨cells', hl, hf, hL⟩ := first_sound h hsrc hy (Nat.zero_le m)
    have := hx.eq_of_plain rfl; subst this
    refine ⟨.int .i64 0, w, ?_, ⟨ρ, h, .refl _, .same _ rfl⟩, Nat.le_refl _⟩
    have hmm : m.min 0 = 0 := by simp [Nat.min_def]
    simp [Builtin.copy_, hat, run_underlying hu, hl, run_sizeP hsz, hmm, hf, goInt]
  · simp at hs

theorem map_get (h : Rel P ρ H w) {r : Nat} {es : List MapEntry} {clock : Nat} (hr : H[r]? = some (.map es clock)) :
    ∃ cr ces, ρ r = some (cr, 0) ∧ w.heap[cr]? = some (.map ces clock) ∧ ces.size = es.length ∧ ∀ (i : Nat) (e : MapEntry), es[i]? = some e → ∃ ce : MapEntry, ces[i]? = some ce ∧ ERel P ρ w.shape? e ce := by
  obtain ⟨cb, base, o, h1, h2, rfl, ces, rfl, h3, h4⟩ := h.blk r _ hr rfl
  exact ⟨cb, ces, h1, h2, h3, h4⟩

theorem VRel.map_inv {sh : Sh} {r : Nat} {v : Value} (h : VRel P ρ sh (.map (some r)) v) : ∃ cr, ρ r = some (cr, 0) ∧ v = .map (some cr) := by
  cases h with
  | same _ h => simp [plain] at h
  | map h => exact ⟨_, h, rfl⟩

theorem run_getMap {cr : Nat} {ces : Array MapEntry} {clock : Nat} (h : w.heap[cr]? = some (.map ces clock)) : (getObj cr).run P w = .ok (.map ces clock) w := by
  simp [getObj, Sem.run, h]

theorem run_setMap {cr : Nat} {ces : Array MapEntry} {clock : Nat} {o : Obj} (h : w.heap[cr]? = some (.map ces clock)) : (setObj cr o).run P w = .ok () (setBlk w cr o) := by
  simp [setObj, Sem.run, h, setBlk]

theorem len_sound (h : Rel P ρ H w) {argTypes : Array TypeId} {ty t : TypeId} {x cx v : Value} {e : Option Nat} (ht : argTypes[0]? = some t) (hs : aLen P t x ⟨H, e⟩ = some v) (hx : VRel P ρ w.shape? x cx) :
    ∃ cv, (Builtin.len_ argTypes ty #[cx]).run P w = .ok cv w ∧ VRel P ρ w.shape? v cv := by
  unfold aLen at hs
  split at hs
  · rename_i s hu
    simp at hs; subst hs
    have := hx.string_inv; subst this
    exact ⟨_, by simp [Builtin.len_, ht, run_underlying hu, goInt], .same _ rfl⟩
  · rename_i el a n c hu
    simp at hs; subst hs
    cases a with
    | none =>
      have := hx.eq_of_plain rfl; subst this
      exact ⟨_, by simp [Builtin.len_, ht, run_underlying hu, goInt], .same _ rfl⟩
    | some a =>
      rcases hx.slice_inv with ⟨cb, base, cap', hsp, hr, rfl, _, _, _⟩ | ⟨a', hsp, hb', rfl, rfl, _⟩
      · exact ⟨_, by simp [Builtin.len_, ht, run_underlying hu, goInt], .same _ rfl⟩
      · exact ⟨_, by simp [Builtin.len_, ht, run_underlying hu, goInt], .same _ rfl⟩
  · rename_i el n row hu
    simp at hs; subst hs
    rcases hx.ptree_inv with ⟨cb, base, cap', c, l', rfl, hz, hc, hle, hL⟩ | ⟨rfl, rfl, a', cap', hnil, rfl⟩
    · exact ⟨_, by simp [Builtin.len_, ht, run_underlying hu, goInt]; rfl, .same _ rfl⟩
    · exact ⟨_, by simp [Builtin.len_, ht, run_underlying hu, goInt]; rfl, .same _ rfl⟩
  · rename_i n el hu
    simp at hs; subst hs
    exact ⟨_, by simp [Builtin.len_, ht, run_underlying hu, goInt], .same _ rfl⟩
  · rename_i k el hu
    simp at hs; subst hs
    have := hx.eq_of_plain rfl; subst this
    exact ⟨_, by simp [Builtin.len_, ht, run_underlying hu, goInt], .same _ rfl⟩
  · rename_i k el r hu
    split at hs
    · rename_i es clock hr
      simp at hs; subst hs
      obtain ⟨cr, ces, h1, h2, h3, _⟩ := map_get h hr
      obtain ⟨cr', h4, rfl⟩ := hx.map_inv
      rw [h1] at h4; simp at h4; subst h4
      exact ⟨_, by simp [Builtin.len_, ht, run_underlying hu, run_getMap h2, goInt, h3], .same _ rfl⟩
    · simp at hs
  · simp at hs

/-- entries, and the model's, their keys being the same -/
def EsRel (P : Program) (ρ : Ren) (sh : Sh) (es ces : List MapEntry) : Prop := ces.length = es.length ∧ ∀ (i : Nat) (e : MapEntry), es[i]? = some e → ∃ ce : MapEntry, ces[i]? = some ce ∧ ERel P ρ sh e ce ∧ ce.key = e.key

theorem EsRel.tail {sh : Sh} {e ce : MapEntry} {es ces : List MapEntry} (h : EsRel P ρ sh (e :: es) (ce :: ces)) : EsRel P ρ sh es ces ∧ ce.key = e.key ∧ ERel P ρ sh e ce := by
  refine ⟨⟨by simpa using h.1, fun i x hx => ?_⟩, ?_, ?_⟩
  · obtain ⟨y, hy, hr⟩ := h.2 (i + 1) x (by simpa using hx); exact ⟨y, by simpa using hy, hr⟩
  · obtain ⟨y, hy, hr⟩ := h.2 0 e (by simp); simp at hy; subst hy; exact hr.2
  · obtain ⟨y, hy, hr⟩ := h.2 0 e (by simp); simp at hy; subst hy; exact hr.1

theorem findAsking_run {sh : Sh} (kt : TypeId) (k : Value) : ∀ (es ces : List MapEntry) (i : Nat) (r : Option Nat), EsRel P ρ sh es ces → keyIx P kt k es i = some r → ∀ w,
    (Instr.findAsking kt k ces i).run P w = .ok (r.bind fun j => (ces[j - i]?).map fun ce => (j, ce.val)) w ∧ (∀ j, r = some j → i ≤ j ∧ j < i + es.length)
  | [], ces, i, r, hE, hk, w => by
    have : ces = [] := List.eq_nil_of_length_eq_zero (by have := hE.1; simpa using this)
    subst this
    simp [keyIx] at hk; subst hk
    exact ⟨by simp [Instr.findAsking], fun j hj => by simp at hj⟩
  | e :: es, [], i, r, hE, hk, w => by have := hE.1; simp at this
  | e :: es, ce :: ces, i, r, hE, hk, w => by
    obtain ⟨hE', hkey, _⟩ := hE.tail
    simp only [keyIx] at hk
    cases hq : pureRun P (Op.equal kt k e.key) with
    | none => simp [hq] at hk
    | some b =>
      have hrun := pureRun_run _ _ hq w
      rw [← hkey] at hrun
      cases b with
      | true =>
        simp [hq] at hk; subst hk
        exact ⟨by simp [Instr.findAsking, hrun], fun j hj => by simp at hj; subst hj; simp⟩
      | false =>
        simp [hq] at hk
        obtain ⟨ih, ih2⟩ := findAsking_run kt k es ces (i + 1) r hE' hk w
        refine ⟨?_, fun j hj => by have := ih2 j hj; simp; omega⟩
        simp only [Instr.findAsking, Sem.run_bind, hrun, Result.andThen_ok]
        simp only [Bool.false_eq_true, if_false, ih]
        congr 1
        cases r with
        | none => rfl
        | some j =>
          have := ih2 j rfl
          simp only [Option.bind_some]
          rw [show j - i = (j - (i + 1)) + 1 by omega]; simp

theorem equal_ofNow {kt : TypeId} {d : TypeDesc} {k x : Value} {b : Bool} (hd : P.underlying kt = some d) (h : Instr.sameNow d k x = some b) : pureRun P (Op.equal kt k x) = some b := by
  have e : Op.equal kt k x = Op.equalIn (9999 + 1) kt k x := rfl
  rw [e]
  unfold Op.equalIn
  have hu : pureRun P (underlying kt) = some d := by simp [underlying, pureRun_bind, program, pureRun, hd, pure]
  unfold Instr.sameNow at h
  split at h
  · rename_i k1 k2 a k3 b'
    rw [pureRun_bind, hu]
    simp only [ite_eq_some_iff] at h
    obtain ⟨rfl, h⟩ := h
    simp at h; subst h
    simp [pureRun, pure]
  · rw [pureRun_bind, hu]; simp at h; subst h; simp [pureRun, pure]
  · rw [pureRun_bind, hu]; simp at h; subst h; simp [pureRun, pure]
  · simp at h

theorem findNow_run {sh : Sh} {kt : TypeId} {d : TypeDesc} (hd : P.underlying kt = some d) (k : Value) : ∀ (es ces : List MapEntry) (i : Nat) (r : Option Nat) (q : Option (Nat × Value)), EsRel P ρ sh es ces → keyIx P kt k es i = some r →
    Instr.findNow d k ces i = some q → q = r.bind fun j => (ces[j - i]?).map fun ce => (j, ce.val)
  | [], ces, i, r, q, hE, hk, hq => by
    have : ces = [] := List.eq_nil_of_length_eq_zero (by have := hE.1; simpa using this)
    subst this
    simp [keyIx] at hk; subst hk
    simp [Instr.findNow] at hq; subst hq; rfl
  | e :: es, [], i, r, q, hE, hk, hq => by have := hE.1; simp at this
  | e :: es, ce :: ces, i, r, q, hE, hk, hq => by
    obtain ⟨hE', hkey, _⟩ := hE.tail
    simp only [keyIx] at hk
    simp only [Instr.findNow, hkey] at hq
    cases hs : Instr.sameNow d k e.key with
    | none => simp [hs] at hq
    | some b =>
      have := equal_ofNow hd hs
      rw [this] at hk
      cases b with
      | true => simp at hk; subst hk; simp [hs] at hq; subst hq; simp
      | false =>
        simp at hk; simp [hs] at hq
        have ih := findNow_run hd k es ces (i + 1) r q hE' hk hq
        rw [ih]
        cases r with
        | none => rfl
        | some j =>
          have := (findAsking_run (P := P) (ρ := ρ) (sh := sh) kt k es ces (i + 1) (some j) hE' hk default).2 j rfl
          simp only [Option.bind_some]
          rw [show j - i = (j - (i + 1)) + 1 by omega]; simp

theorem findKey_run {sh : Sh} {kt : TypeId} {d : TypeDesc} (hd : P.underlying kt = some d) {k : Value} {es ces : List MapEntry} {r : Option Nat} (hE : EsRel P ρ sh es ces) (hk : keyIx P kt k es 0 = some r) (w : World) :
    (Instr.findKey kt k ces).run P w = .ok (r.bind fun j => (ces[j]?).map fun ce => (j, ce.val)) w ∧ (∀ j, r = some j → j < es.length) := by
  have h1 := findAsking_run (P := P) (ρ := ρ) (sh := sh) kt k es ces 0 r hE hk w
  refine ⟨?_, fun j hj => by have := h1.2 j hj; omega⟩
  simp only [Instr.findKey, Sem.run_bind, run_underlying hd, Result.andThen_ok]
  cases hq : Instr.findNow d k ces 0 with
  | none => simpa using h1.1
  | some q => have := findNow_run hd k es ces 0 r q hE hk hq; simp [this]

theorem EsRel.of {sh : Sh} {es : List MapEntry} {ces : Array MapEntry} (h1 : ces.size = es.length) (h2 : ∀ (i : Nat) (e : MapEntry), es[i]? = some e → ∃ ce : MapEntry, ces[i]? = some ce ∧ ERel P ρ sh e ce)
    (hp : (es.all fun e => plain e.key) = true) : EsRel P ρ sh es ces.toList := by
  refine ⟨by simpa using h1, fun i e he => ?_⟩
  obtain ⟨ce, hc, hr⟩ := h2 i e he
  rw [List.all_eq_true] at hp
  exact ⟨ce, by simpa using hc, hr, hr.1.eq_of_plain (hp e (List.mem_of_getElem? he))⟩

theorem lookup_sound (h : Rel P ρ H w) {t : TypeId} {m k cm ck v : Value} {ok : Bool} {e : Option Nat} (hs : aLookup P t m k ok ⟨H, e⟩ = some v) (hm : VRel P ρ w.shape? m cm) (hk : VRel P ρ w.shape? k ck) :
    ∃ cv, (Instr.lookup t cm ck ok).run P w = .ok cv w ∧ VRel P ρ w.shape? v cv := by
  unfold aLookup at hs
  split at hs
  case h_2 => simp at hs
  rename_i key elem hu
  split at hs
  case h_2 => simp at hs
  rename_i es zero hes hz
  rw [ite_some] at hs
  obtain ⟨⟨hpk, hpz, hck, hpe⟩, hs⟩ := hs
  have := hk.eq_of_plain hpk; subst this
  -- the model's entries
  have hces : ∃ ces : Array MapEntry, EsRel P ρ w.shape? es ces.toList ∧ ((cm = .map none ∧ ces = #[]) ∨ (∃ cr clock, cm = .map (some cr) ∧ w.heap[cr]? = some (.map ces clock))) := by
    split at hes
    · simp at hes; subst hes
      have := hm.eq_of_plain rfl; subst this
      exact ⟨#[], ⟨rfl, fun i e he => by simp at he⟩, .inl ⟨rfl, rfl⟩⟩
    · rename_i r
      split at hes
      · rename_i es' clock hr
        simp at hes; subst hes
        obtain ⟨cr, ces, h1, h2, h3, h4⟩ := map_get h hr
        obtain ⟨cr', h5, rfl⟩ := hm.map_inv
        rw [h1] at h5; simp at h5; subst h5
        exact ⟨ces, .of h3 h4 hpe, .inr ⟨cr, clock, rfl, h2⟩⟩
      · simp at hes
    · simp at hes
  obtain ⟨ces, hE, hcm⟩ := hces
  have hemp : ces.isEmpty = es.isEmpty := by have := hE.1; simp at this; cases es <;> simp_all [Array.isEmpty]
  obtain ⟨u, hcu⟩ := Option.isSome_iff_exists.1 hck
  have hcr := pureRun_run _ _ hcu w
  rw [← hemp] at hcr
  have hkt : ∃ d, P.underlying key = some d := by
    cases hq : P.underlying key with
    | none =>
      exfalso
      unfold Instr.checkKey at hcu
      simp [pureRun_bind, underlying, program, pureRun, hq, stuck] at hcu
    | some d => exact ⟨d, rfl⟩
  obtain ⟨d, hd⟩ := hkt
  have main : ∀ r, keyIx P key ck es 0 = some r → (Instr.lookup t cm ck ok).run P w = match (r.bind fun j => (ces[j]?).map fun ce => (j, ce.val)) with
      | some (_, v) => .ok (if ok then .tuple #[v, .bool true] else v) w
      | none => .ok (if ok then .tuple #[zero, .bool false] else zero) w := by
    intro r hr
    have hfk := (findKey_run hd hE hr w).1
    simp only [Array.getElem?_toList] at hfk
    rcases hcm with ⟨rfl, rfl⟩ | ⟨cr, clock, rfl, h2⟩
    · simp only [Instr.lookup, Sem.run_bind, run_underlying hu, Result.andThen_ok, Sem.run_pure, hcr, hfk]
      cases (r.bind fun j => ((#[] : Array MapEntry)[j]?).map fun ce => (j, ce.val)) with
      | none => simp [run_zeroP hz]
      | some x => simp
    · simp only [Instr.lookup, Sem.run_bind, run_underlying hu, Result.andThen_ok, Sem.run_pure, run_getMap h2, hcr, hfk]
      cases (r.bind fun j => (ces[j]?).map fun ce => (j, ce.val)) with
      | none => simp [run_zeroP hz]
      | some x => simp
  split at hs
  · rename_i i hix
    simp only [Option.map_eq_some_iff] at hs
    obtain ⟨en, hen, hv⟩ := hs
    obtain ⟨ce, hce, hr, _⟩ := hE.2 i en hen
    rw [main _ hix]
    have hce' : ces[i]? = some ce := by simpa using hce
    simp only [Option.bind_some, hce', Option.map_some]
    refine ⟨_, rfl, ?_⟩
    subst hv
    cases ok with
    | true => simp only [if_true]; exact .tuple_list (.cons hr.2.1 (.cons (.same _ rfl) .nil))
    | false => simpa using hr.2.1
  · rename_i hix
    rw [main _ hix]
    simp only [Option.bind_none]
    refine ⟨_, rfl, ?_⟩
    simp at hs; subst hs
    cases ok with
    | true => simp only [if_true]; exact .tuple_list (.cons (.same _ hpz) (.cons (.same _ rfl) .nil))
    | false => simpa using VRel.same _ hpz
  · simp at hs


theorem keyType_some {n : Nat} {key : TypeId} {k : Value} {b : Bool} (h : (pureRun P (Instr.checkKey b (n + 1) key k)).isSome = true) : ∃ d, P.underlying key = some d := by
  cases hq : P.underlying key with
  | none =>
    exfalso
    unfold Instr.checkKey at h
    simp [pureRun_bind, underlying, program, pureRun, hq, stuck] at h
  | some d => exact ⟨d, rfl⟩

theorem mapUpdate_sound (h : Rel P ρ H w) {t : TypeId} {m k v cm ck cv : Value} {st' : AS} {e : Option Nat} (hs : aMapUpdate P t m k v ⟨H, e⟩ = some st') (hm : VRel P ρ w.shape? m cm) (hk : VRel P ρ w.shape? k ck) (hv : VRel P ρ w.shape? v cv) :
    ∃ w', (Instr.mapUpdate t cm ck cv).run P w = .ok () w' ∧ Rel P ρ st'.H w' ∧ Step H.length ρ H w ρ st'.H w' ∧ st'.H.length = H.length := by
  unfold aMapUpdate at hs
  split at hs
  case h_2 => simp at hs
  rename_i key elem r hu
  split at hs
  case h_2 => simp at hs
  rename_i es clock hr
  rw [ite_some] at hs
  obtain ⟨⟨hpk, hck, hpe⟩, hs⟩ := hs
  have := hk.eq_of_plain hpk; subst this
  obtain ⟨cr, ces, h1, h2, h3, h4⟩ := map_get h hr
  obtain ⟨cr', h5, rfl⟩ := hm.map_inv
  rw [h1] at h5; simp at h5; subst h5
  have hE := EsRel.of h3 h4 hpe
  obtain ⟨d, hd⟩ := keyType_some (n := 9999) hck
  obtain ⟨u, hcu⟩ := Option.isSome_iff_exists.1 hck
  have hcr := pureRun_run _ _ hcu w
  split at hs
  · rename_i i hix
    split at hs
    case h_2 => simp at hs
    rename_i en hen
    simp only [ite_eq_some_iff] at hs
    obtain ⟨hsb, hst⟩ := hs
    simp at hst; subst hst
    have hfk := (findKey_run hd hE hix w).1
    simp only [Array.getElem?_toList] at hfk
    obtain ⟨ce, hce, hre, hkey⟩ := hE.2 i en hen
    have hce' : ces[i]? = some ce := by simpa using hce
    have hset := set_rel h (k' := .map (es.set i { en with key := ck, val := v }) clock) (o' := .map (ces.modify i fun e => { e with key := ck, val := cv }) clock) hr rfl h1 h2 rfl rfl
      (by
        refine ⟨rfl, _, rfl, by simp [h3], fun j e' he' => ?_⟩
        by_cases hij : i = j
        · subst hij
          rw [List.getElem?_set_self (lt_of_get hen)] at he'; simp at he'; subst he'
          refine ⟨{ ce with key := ck, val := cv }, by rw [Array.getElem?_modify]; simp [hce'], .same _ hpk, hv, hre.2.2⟩
        · rw [List.getElem?_set_ne hij] at he'
          obtain ⟨ce2, hc2, hr2⟩ := h4 j e' he'
          exact ⟨ce2, by rw [Array.getElem?_modify]; simp [hij, hc2], hr2⟩)
    refine ⟨_, ?_, hset.1, hset.2, by simp⟩
    simp only [Instr.mapUpdate, Sem.run_bind, run_underlying hu, Result.andThen_ok, run_getMap h2, hcr, hfk, Option.bind_some, hce', Option.map_some, Option.getD_some]
    rw [hkey]
    simp only [Instr.keyThatStays, hsb, if_true, Sem.run_pure, Result.andThen_ok, run_setMap h2]
  · rename_i hix
    simp at hs; subst hs
    have hfk := (findKey_run hd hE hix w).1
    have hset := set_rel h (k' := .map (es ++ [{ key := ck, val := v, born := clock }]) (clock + 1)) (o' := .map (ces.push { key := ck, val := cv, born := clock }) (clock + 1)) hr rfl h1 h2 rfl rfl
      (by
        refine ⟨rfl, _, rfl, by simp [h3], fun j e' he' => ?_⟩
        by_cases hj : j < es.length
        · rw [List.getElem?_append_left hj] at he'
          obtain ⟨ce2, hc2, hr2⟩ := h4 j e' he'
          exact ⟨ce2, by rw [Array.getElem?_push_lt (by omega)]; rw [← hc2]; simp [lt_of_getA hc2], hr2⟩
        · have hjl := lt_of_get he'
          simp at hjl
          have : j = es.length := by omega
          subst this
          rw [List.getElem?_append_right (Nat.le_refl _)] at he'
          simp at he'; subst he'
          exact ⟨{ key := ck, val := cv, born := clock }, by rw [← h3]; exact Array.getElem?_push_size, .same _ hpk, hv, rfl⟩)
    refine ⟨_, ?_, hset.1, hset.2, by simp⟩
    simp only [Instr.mapUpdate, Sem.run_bind, run_underlying hu, Result.andThen_ok, run_getMap h2, hcr, hfk, Option.bind_none, run_setMap h2]
  · simp at hs

theorem delete_sound (h : Rel P ρ H w) {argTypes : Array TypeId} {ty : TypeId} {m k cm ck : Value} {st' : AS} {e : Option Nat} (hs : aDelete P argTypes m k ⟨H, e⟩ = some st') (hm : VRel P ρ w.shape? m cm) (hk : VRel P ρ w.shape? k ck) :
    ∃ w', (Builtin.delete_ argTypes ty #[cm, ck]).run P w = .ok (.tuple #[]) w' ∧ Rel P ρ st'.H w' ∧ Step H.length ρ H w ρ st'.H w' ∧ st'.H.length = H.length := by
  unfold aDelete at hs
  split at hs
  case h_2 => simp at hs
  rename_i key elem r hut
  obtain ⟨t, hat, hu⟩ := Option.bind_eq_some_iff.1 hut
  split at hs
  case h_2 => simp at hs
  rename_i es clock hr
  rw [ite_some] at hs
  obtain ⟨⟨hpk, hck, hpe⟩, hs⟩ := hs
  have := hk.eq_of_plain hpk; subst this
  obtain ⟨cr, ces, h1, h2, h3, h4⟩ := map_get h hr
  obtain ⟨cr', h5, rfl⟩ := hm.map_inv
  rw [h1] at h5; simp at h5; subst h5
  have hE := EsRel.of h3 h4 hpe
  have hemp : ces.isEmpty = es.isEmpty := by cases es <;> simp_all [Array.isEmpty]
  obtain ⟨d, hd⟩ := keyType_some (n := 9999) hck
  obtain ⟨u, hcu⟩ := Option.isSome_iff_exists.1 hck
  have hcr := pureRun_run _ _ hcu w
  rw [← hemp] at hcr
  split at hs
  · rename_i i hix
    simp at hs; subst hs
    have hfk := findKey_run hd hE hix w
    have hi := hfk.2 i rfl
    have hfk := hfk.1
    simp only [Array.getElem?_toList] at hfk
    obtain ⟨ce, hce, _, _⟩ := hE.2 i es[i] (List.getElem?_eq_getElem hi)
    have hce' : ces[i]? = some ce := by simpa using hce
    have hset := set_rel h (k' := .map (es.eraseIdx i) clock) (o' := .map (ces.eraseIdxIfInBounds i) clock) hr rfl h1 h2 rfl rfl
      (by
        have hci : i < ces.size := by omega
        refine ⟨rfl, _, rfl, by simp [Array.eraseIdxIfInBounds, hci, List.length_eraseIdx, h3, hi], fun j e' he' => ?_⟩
        rw [List.getElem?_eraseIdx] at he'
        have e1 : (ces.eraseIdxIfInBounds i)[j]? = if j < i then ces[j]? else ces[j + 1]? := by
          simp only [Array.eraseIdxIfInBounds, hci, dite_true]
          rw [Array.getElem?_eraseIdx]
        rw [e1]
        split at he'
        · rename_i hj; rw [if_pos hj]; exact h4 j e' he'
        · rename_i hj; rw [if_neg hj]; exact h4 (j + 1) e' he')
    refine ⟨_, ?_, hset.1, hset.2, by simp⟩
    have a0 : (#[Value.map (some cr), ck] : Array Value)[0]? = some (.map (some cr)) := rfl
    have a1 : (#[Value.map (some cr), ck] : Array Value)[1]? = some ck := rfl
    simp only [Builtin.delete_, hat, a0, a1, Sem.run_bind, run_underlying hu, Result.andThen_ok, run_getMap h2, hcr, hfk, Option.bind_some, hce', Option.map_some, run_setMap h2, Sem.run_pure]
  · rename_i hix
    simp at hs; subst hs
    have hfk := (findKey_run hd hE hix w).1
    have hsame : setBlk w cr (.map ces clock) = w := by
      simp only [setBlk]
      have : w.heap.setIfInBounds cr (.map ces clock) = w.heap := by
        apply Array.ext_getElem?; intro i
        by_cases hi : i = cr
        · subst hi; rw [Array.getElem?_setIfInBounds_self_of_lt (lt_of_getA h2), h2]
        · rw [Array.getElem?_setIfInBounds_ne (Ne.symm hi)]
      rw [this]
    refine ⟨w, ?_, h, .refl _, rfl⟩
    have a0 : (#[Value.map (some cr), ck] : Array Value)[0]? = some (.map (some cr)) := rfl
    have a1 : (#[Value.map (some cr), ck] : Array Value)[1]? = some ck := rfl
    simp only [Builtin.delete_, hat, a0, a1, Sem.run_bind, run_underlying hu, Result.andThen_ok, run_getMap h2, hcr, hfk, Option.bind_none, run_setMap h2, hsame, Sem.run_pure]
  · simp at hs

end
end Go.Am

end
section
namespace Go.Am

section
variable {P : Program} {ρ ρ' : Ren} {H : List Blk} {w : World}

theorem freeze_rel (h : Rel P ρ H w) {b cb base : Nat} {cs : List Value} {e : TypeId} {carr : Array Value} {fz : Nat × Nat} (hk : H[b]? = some (.cells cs e true)) (hr : ρ b = some (cb, base)) (ho : w.heap[cb]? = some (.cells carr e fz)) :
    ∃ ρ' : Ren, ρ'.at_ = ρ.at_ ∧ ρ'.fz cb = some carr ∧ (∀ x c, ρ.fz x = some c → ρ'.fz x = some c) ∧ Rel P ρ' (H.set b .dead) w ∧ Step H.length ρ H w ρ' (H.set b .dead) w := by
  have hown : Owned ρ H cb := ⟨b, _, base, hk, rfl, hr⟩
  have hmono : ∀ x c, ρ.fz x = some c → (if x = cb then some carr else ρ.fz x) = some c := by
    intro x c hc
    by_cases hx : x = cb
    · subst hx; exact absurd hown (h.frozen _ _ hc).2
    · rw [if_neg hx]; exact hc
  obtain ⟨h1, h2⟩ := kill_rel h (b := b)
  have hlt := lt_of_get hk
  have hno : ¬ Owned ρ (H.set b .dead) cb := by
    rintro ⟨b', k', x, hk', ho', hr'⟩
    by_cases hb : b' = b
    · subst hb
      rw [List.getElem?_set_self hlt] at hk'
      simp at hk'; subst hk'; simp [Blk.owns] at ho'
    · rw [List.getElem?_set_ne (Ne.symm hb)] at hk'
      exact h.uniq b' b k' _ hk' hk ho' rfl hb cb x base hr' hr
  refine ⟨⟨ρ.at_, fun x => if x = cb then some carr else ρ.fz x⟩, rfl, by simp, hmono, ⟨fun c k hc hl => ?_, h1.uniq, h1.dom, fun x c hc => ?_⟩, ⟨h2.ext, h2.shape, h2.size, h2.keep, h2.own, h2.os, h2.output, hmono, fun x hx hm => ?_, fun _ r h => ⟨r, h⟩⟩⟩
  · obtain ⟨cb1, base1, o1, e1, e2, e3⟩ := h1.blk c k hc hl
    exact ⟨cb1, base1, o1, e1, e2, e3.mono hmono (fun _ _ h => h) (fun _ _ h => h)⟩
  · by_cases hx : x = cb
    · subst hx
      have hcc : carr = c := by simpa using hc
      subst hcc
      exact ⟨⟨e, fz, ho⟩, hno⟩
    · have hcc : ρ.fz x = some c := by simpa [hx] using hc
      exact h1.frozen x c hcc
  · rcases hm with hm | ⟨c, hc⟩
    · exact h2.old x hx (.inl hm)
    · by_cases hxc : x = cb
      · subst hxc; exact .inl ⟨b, _, base, hk, rfl, hr⟩
      · exact .inr ⟨c, by simpa [hxc] using hc⟩

/-- to become part of a value: what it may do -/
def FOk (P : Program) (w : World) (f : Value → List Blk → Value × List Blk) : Prop := ∀ (ρ : Ren) (H : List Blk) (v cv : Value), Rel P ρ H w → VRel P ρ w.shape? v cv →
  ∃ ρ' : Ren, ρ'.at_ = ρ.at_ ∧ Rel P ρ' (f v H).2 w ∧ Step H.length ρ H w ρ' (f v H).2 w ∧ VRel P ρ' w.shape? (f v H).1 cv ∧ (f v H).2.length = H.length

theorem frzL_sound {f : Value → List Blk → Value × List Blk} (hf : FOk P w f) : ∀ (l l' : List Value) (ρ : Ren) (H : List Blk), Rel P ρ H w → LRel P ρ w.shape? l l' →
    ∃ ρ' : Ren, ρ'.at_ = ρ.at_ ∧ Rel P ρ' (frzL f l H).2 w ∧ Step H.length ρ H w ρ' (frzL f l H).2 w ∧ LRel P ρ' w.shape? (frzL f l H).1 l' ∧ (frzL f l H).2.length = H.length
  | [], l', ρ, H, h, hL => ⟨ρ, rfl, h, .refl _, hL, rfl⟩
  | v :: vs, [], ρ, H, h, hL => by have := hL.1; simp at this
  | v :: vs, c :: cs, ρ, H, h, hL => by
    obtain ⟨h1, h2⟩ := hL.head
    obtain ⟨ρ1, a1, r1, s1, v1, n1⟩ := hf ρ H v c h h1
    have hr1 : ∀ b x, ρ b = some x → ρ1 b = some x := fun b x hb => by rw [a1]; exact hb
    obtain ⟨ρ2, a2, r2, s2, v2, n2⟩ := frzL_sound hf vs cs ρ1 (f v H).2 r1 (h2.mono s1.fz hr1 (fun _ _ h => h))
    have hr2 : ∀ b x, ρ1 b = some x → ρ2 b = some x := fun b x hb => by rw [a2]; exact hb
    refine ⟨ρ2, a2.trans a1, r2, s1.trans (s2.less (by omega)), ?_, n2.trans n1⟩
    exact .cons (v1.mono s2.fz hr2 (fun _ _ h => h)) v2

theorem frz_sound (n0 : Nat) : ∀ k, FOk P w (frz P n0 k)
  | 0 => fun ρ H v cv h hv => ⟨ρ, rfl, h, .refl _, hv, rfl⟩
  | k + 1 => fun ρ H v cv h hv => by
    unfold frz
    split
    · have := hv.eq_of_plain rfl
      subst this
      exact ⟨ρ, rfl, h, .refl _, .tree0 (fun _ => rfl), rfl⟩
    · rename_i a len c
      split
      · rename_i cs e hb
        split
        · rename_i n hn
          split
          · rename_i hc
            obtain ⟨hn0, hle⟩ := hc
            obtain ⟨cb, base, carr, fz, g1, g2, g3, g4, g5, g6⟩ := cells_get h hb
            obtain ⟨ρ1, a1, z1, m1, r1, s1⟩ := freeze_rel h hb g1 g2
            have hr1 : ∀ b x, ρ b = some x → ρ1 b = some x := fun b x hb => by rw [a1]; exact hb
            have hL := ((g5.drop a.off).take (len * n)).mono m1 hr1 (fun _ _ h => h)
            obtain ⟨ρ2, a2, r2, s2, L2, n2⟩ := frzL_sound (frz_sound n0 k) _ _ ρ1 _ r1 hL
            refine ⟨ρ2, a2.trans a1, r2, s1.trans (s2.less (by simp)), ?_, by simpa using n2⟩
            rcases hv.slice_inv with ⟨cb', base', cap', hsp, hr, rfl, _, hl, _⟩ | ⟨a', hsp, hb', rfl, rfl, _⟩
            · rw [g1] at hr; simp at hr; obtain ⟨rfl, rfl⟩ := hr
              refine VRel.tree_list (s2.fz _ _ z1) ?_ hl L2
              have hlen := L2.1
              rw [← List.drop_drop, List.length_take, List.length_drop]
              have hg := g5.1
              rw [List.length_take, List.length_drop] at hg ⊢
              rw [Nat.min_eq_left (by omega)]
              rw [List.drop_take, List.take_take]
              congr 1
              omega
            · have : (frzL (frz P n0 k) (List.take (0 * n) (List.drop a.off cs)) (H.set a.block .dead)).1 = [] := by
                rw [Nat.zero_mul, List.take_zero]; rfl
              show VRel P ρ2 w.shape? (tSl 0 (frzL (frz P n0 k) (List.take (0 * n) (List.drop a.off cs)) (H.set a.block .dead)).1) _
              rw [this]
              exact .tree0 (fun h => by simp at h)
          · exact ⟨ρ, rfl, h, .refl _, hv, rfl⟩
        · exact ⟨ρ, rfl, h, .refl _, hv, rfl⟩
      · exact ⟨ρ, rfl, h, .refl _, hv, rfl⟩
    · rename_i cs
      obtain ⟨cs', rfl, hL⟩ := hv.agg_inv
      obtain ⟨ρ2, a2, r2, s2, L2, n2⟩ := frzL_sound (frz_sound n0 k) _ _ ρ H h hL
      refine ⟨ρ2, a2, r2, s2, ?_, n2⟩
      simpa using VRel.agg_list L2
    · exact ⟨ρ, rfl, h, .refl _, hv, rfl⟩

theorem frzL_len {f : Value → List Blk → Value × List Blk} : ∀ (l : List Value) (H : List Blk), (frzL f l H).1.length = l.length
  | [], _ => rfl
  | v :: vs, H => by simp [frzL, frzL_len vs]

/-- what of the blocks it may change: some are given up -/
def FKill (f : Value → List Blk → Value × List Blk) : Prop := ∀ (v : Value) (H : List Blk), (f v H).2.length = H.length ∧ ∀ b : Nat, (f v H).2[b]? = H[b]? ∨ (f v H).2[b]? = some Blk.dead

theorem frzL_kill {f : Value → List Blk → Value × List Blk} (hf : FKill f) : ∀ (l : List Value) (H : List Blk), (frzL f l H).2.length = H.length ∧ ∀ b : Nat, (frzL f l H).2[b]? = H[b]? ∨ (frzL f l H).2[b]? = some Blk.dead
  | [], _ => ⟨rfl, fun _ => .inl rfl⟩
  | v :: vs, H => by
    obtain ⟨h1, h2⟩ := hf v H
    obtain ⟨h3, h4⟩ := frzL_kill hf vs (f v H).2
    refine ⟨h3.trans h1, fun b => ?_⟩
    rcases h4 b with h | h
    · rcases h2 b with h' | h'
      · exact .inl (h.trans h')
      · exact .inr (h.trans h')
    · exact .inr h

theorem frz_kill (n0 : Nat) : ∀ k, FKill (frz P n0 k)
  | 0 => fun v H => ⟨rfl, fun _ => .inl rfl⟩
  | k + 1 => fun v H => by
    unfold frz
    split
    · exact ⟨rfl, fun _ => .inl rfl⟩
    · rename_i a len c
      split
      · rename_i cs e hb
        split
        · rename_i n hn
          split
          · obtain ⟨h1, h2⟩ := frzL_kill (frz_kill n0 k) ((cs.drop a.off).take (len * n)) (H.set a.block .dead)
            refine ⟨by simpa using h1, fun b => ?_⟩
            rcases h2 b with h | h
            · by_cases hb' : a.block = b
              · subst hb'
                refine .inr (h.trans ?_)
                rw [List.getElem?_set_self (lt_of_get hb)]
              · exact .inl (h.trans (List.getElem?_set_ne hb'))
            · exact .inr h
          · exact ⟨rfl, fun _ => .inl rfl⟩
        · exact ⟨rfl, fun _ => .inl rfl⟩
      · exact ⟨rfl, fun _ => .inl rfl⟩
    · exact frzL_kill (frz_kill n0 k) _ _
    · exact ⟨rfl, fun _ => .inl rfl⟩

/-- a value that names nothing but itself: it is left as it is -/
theorem frz_id (n0 : Nat) : ∀ (k : Nat) (v : Value) (H : List Blk), (match v with | .slice _ _ _ => False | .agg _ => False | _ => True) → frz P n0 k v H = (v, H)
  | 0, v, H, _ => rfl
  | k + 1, v, H, h => by cases v <;> simp_all [frz]

end
end Go.Am

end
section
namespace Go.Am

section
variable {P : Program} {ρ ρ' : Ren} {H : List Blk} {w : World}

theorem arr_sound {sh : Sh} {t : TypeId} {x cx v : Value} (hs : aArr P t x = some v) (hx : VRel P ρ sh x cx) : ∃ cv, (∀ w : World, (Instr.arrayAt t cx).run P w = .ok cv w) ∧ VRel P ρ sh v cv := by
  unfold aArr at hs
  split at hs
  · rename_i n e a len cap hu
    rw [ite_some] at hs
    obtain ⟨⟨hn0, hn⟩, hv⟩ := hs
    simp at hv; subst hv
    rcases hx.slice_inv with ⟨cb, base, cap', hsp, hr, rfl, hc, hl, hun⟩ | ⟨a', hsp, hb', rfl, rfl, hc⟩
    · obtain ⟨ab, ao, asp⟩ := a
      simp only at hsp hr; subst hsp
      exact ⟨_, fun w => run_arrayAt w t e n _ _ _ hu hn, .ptr hr⟩
    · omega
  · rename_i n e len row hu
    rw [ite_some] at hs
    obtain ⟨⟨hn0, hn⟩, hv⟩ := hs
    simp at hv; subst hv
    cases hx with
    | same _ h => simp [plain] at h
    | tree hz hc hl ha ha' => exact ⟨_, fun w => run_arrayAt w t e n _ _ _ hu hn, .tptr (off := 0) hz hc ha ha'⟩
    | tree0 hn' => omega
  · simp at hs

theorem iter_get (h : Rel P ρ H w) {b : Nat} {m : Option Nat} {a c : Nat} {s : List Nat} (hb : H[b]? = some (.iter m a s c)) :
    ∃ cb cm, ρ b = some (cb, 0) ∧ w.heap[cb]? = some (.mapIter cm a s.toArray c) ∧ IRel ρ m cm := by
  obtain ⟨cb, base, o, h1, h2, rfl, cm, rfl, h3⟩ := h.blk b _ hb rfl
  exact ⟨cb, cm, h1, h2, h3⟩

theorem range_sound (h : Rel P ρ H w) {t : TypeId} {x cx v : Value} {s : AS} {e : Option Nat} (hs : aRange P t x ⟨H, e⟩ = some (v, s)) (hx : VRel P ρ w.shape? x cx) :
    ∃ cv w', (Instr.range t cx).run P w = .ok cv w' ∧ Out P H.length ρ H w s.H v cv w' := by
  unfold aRange at hs
  have hself : ∀ c, upd ρ H.length c H.length = some c := fun c => by simp [upd]
  split at hs
  · rename_i kt et hu
    simp at hs; obtain ⟨rfl, rfl⟩ := hs
    have : cx = .map none := hx.eq_of_plain rfl
    subst this
    have hal := alloc_rel h (.iter none 0 [] 0) (.mapIter none 0 #[] 0) ⟨rfl, none, rfl, .inl ⟨rfl, rfl⟩⟩
    refine ⟨_, _, run_range_nilMap w t kt et hu, ⟨⟨_, hal.1, hal.2, ?_⟩, by simp [newBlk]⟩⟩
    exact .ptr (hself _)
  · rename_i kt et r hu
    split at hs
    · rename_i es clock hr
      simp at hs; obtain ⟨rfl, rfl⟩ := hs
      obtain ⟨cr, ces, h1, h2, h3, h4⟩ := map_get h hr
      obtain ⟨cr', h5, rfl⟩ := hx.map_inv
      rw [h1] at h5; simp at h5; subst h5
      have hlt := lt_of_get hr
      have hal := alloc_rel h (.iter (some r) clock [] clock) (.mapIter (some cr) clock #[] clock) ⟨rfl, some cr, rfl, .inr ⟨r, cr, rfl, rfl, by
        have : r ≠ H.length := by simp only at hlt; omega
        show (if r = H.length then _ else ρ r) = _
        rw [if_neg this]; exact h1⟩⟩
      refine ⟨_, _, run_range_map w t kt et cr ces clock hu h2, ⟨⟨_, hal.1, hal.2, ?_⟩, by simp [newBlk]⟩⟩
      exact .ptr (hself _)
    · simp at hs
  · simp at hs

/-- what is left, of both -/
theorem left_fwd {sh : Sh} {es : List MapEntry} {ces : Array MapEntry} {seen : List Nat} (h1 : ces.size = es.length) (h2 : ∀ (i : Nat) (e : MapEntry), es[i]? = some e → ∃ ce : MapEntry, ces[i]? = some ce ∧ ERel P ρ sh e ce)
    {ce : MapEntry} (hc : ce ∈ (leftOf ces seen.toArray).toList) : ∃ e ∈ es.filter (fun e => !seen.contains e.born), ERel P ρ sh e ce := by
  obtain ⟨hm, hs⟩ := mem_left hc
  obtain ⟨i, hi⟩ := List.mem_iff_getElem?.1 hm
  have hlt := lt_of_get hi
  have hlt' : i < es.length := by simp at hlt; omega
  obtain ⟨ce', g1, g2⟩ := h2 i _ (List.getElem?_eq_getElem hlt')
  have : ce' = ce := by
    have h3 : ces.toList[i]? = some ce' := by simpa using g1
    rw [h3] at hi; simpa using hi
  subst this
  refine ⟨es[i], List.mem_filter.2 ⟨List.getElem_mem hlt', ?_⟩, g2⟩
  rw [← g2.2.2]
  simpa using hs

theorem left_bwd {sh : Sh} {es : List MapEntry} {ces : Array MapEntry} {seen : List Nat} (h2 : ∀ (i : Nat) (e : MapEntry), es[i]? = some e → ∃ ce : MapEntry, ces[i]? = some ce ∧ ERel P ρ sh e ce)
    {e : MapEntry} (hc : e ∈ es.filter (fun e => !seen.contains e.born)) : ∃ ce ∈ (leftOf ces seen.toArray).toList, ERel P ρ sh e ce := by
  obtain ⟨hm, hs⟩ := List.mem_filter.1 hc
  obtain ⟨i, hi⟩ := List.mem_iff_getElem?.1 hm
  obtain ⟨ce, g1, g2⟩ := h2 i _ hi
  refine ⟨ce, ?_, g2⟩
  unfold leftOf
  rw [Array.mem_toList_iff, Array.mem_filter]
  refine ⟨Array.mem_of_getElem? g1, ?_⟩
  rw [g2.2.2]
  simpa using hs

theorem next_sound (h : Rel P ρ H w) {x cx : Value} {e : Option Nat} {q : Nat × (Nat → Value × AS)} (ty : TypeId) (hs : aNext x ⟨H, e⟩ = some q) (hx : VRel P ρ w.shape? x cx) :
    ∃ i, i < q.1 ∧ ∃ cv w', (Instr.next cx false ty).run P w = .ok cv w' ∧ Out P H.length ρ H w (q.2 i).2.H (q.2 i).1 cv w' := by
  unfold aNext at hs
  split at hs
  case h_2 => simp at hs
  rename_i b
  obtain ⟨cb, base, _, hr, rfl⟩ := hx.ptr_inv
  split at hs
  · rename_i a s c hb
    simp at hs; subst hs
    obtain ⟨cb', cm, h1, h2, h3⟩ := iter_get h hb
    rw [h1] at hr; simp at hr; obtain ⟨rfl, rfl⟩ := hr
    rcases h3 with ⟨_, rfl⟩ | ⟨r, cr, h3, _, _⟩
    · refine ⟨0, by simp, .tuple #[.bool false], w, ?_, ⟨⟨ρ, h, .refl _, .same _ rfl⟩, Nat.le_refl _⟩⟩
      simp only [Instr.next, getObj, Sem.run_bind, Sem.run, h2, Result.andThen]
      rfl
    · simp at h3
  · rename_i r since seen stepped hb
    obtain ⟨cb', cm, h1, h2, h3⟩ := iter_get h hb
    rw [h1] at hr; simp at hr; obtain ⟨rfl, rfl⟩ := hr
    rcases h3 with ⟨h3, _⟩ | ⟨r', cr, h3, rfl, hrr⟩
    · simp at h3
    simp at h3; subst h3
    split at hs
    case h_2 => simp at hs
    rename_i es clock hm
    obtain ⟨cr', ces, m1, m2, m3, m4⟩ := map_get h hm
    rw [m1] at hrr; simp at hrr; subst hrr
    rw [ite_some] at hs
    obtain ⟨⟨hold, hsc⟩, hs⟩ := hs
    have hold' : ∀ x ∈ ces.toList, x.born < since := by
      intro x hx
      obtain ⟨i, hi⟩ := List.mem_iff_getElem?.1 hx
      have hlt := lt_of_get hi
      have hlt' : i < es.length := by simp at hlt; omega
      obtain ⟨ce', g1, g2⟩ := m4 i _ (List.getElem?_eq_getElem hlt')
      have : ce' = x := by
        have h3 : ces.toList[i]? = some ce' := by simpa using g1
        rw [h3] at hi; simpa using hi
      subst this
      rw [List.all_eq_true] at hold
      have := hold es[i] (List.getElem_mem hlt')
      rw [g2.2.2]; simpa using this
    have hrun := run_next_at (P := P) w ty cb' cr' since stepped seen.toArray ces clock h2 m2 hold' hsc
    split at hs
    · rename_i hl
      simp at hs; subst hs
      rcases hrun with ⟨_, hrun⟩ | ⟨ce, hce, _⟩
      · exact ⟨0, by simp, _, w, hrun, ⟨⟨ρ, h, .refl _, .same _ rfl⟩, Nat.le_refl _⟩⟩
      · obtain ⟨e', he', _⟩ := left_fwd m3 m4 hce
        rw [hl] at he'; simp at he'
    · rename_i e0 l hl
      simp at hs; subst hs
      rcases hrun with ⟨h0, _⟩ | ⟨ce, hce, w1, hw1, hrun⟩
      · obtain ⟨ce, hce, _⟩ := left_bwd (sh := w.shape?) (ρ := ρ) (P := P) (seen := seen) m4 (e := e0) (by rw [hl]; simp)
        have : leftOf ces seen.toArray = #[] := Array.eq_empty_of_size_eq_zero h0
        rw [this] at hce; simp at hce
      · obtain ⟨e', he', hE⟩ := left_fwd m3 m4 hce
        rw [hl] at he'
        obtain ⟨i, hi⟩ := List.mem_iff_getElem?.1 he'
        have hget : ((e0 :: l)[i]?).getD e0 = e' := by rw [hi]; rfl
        have hh : w1.heap = w.heap := by rcases hw1 with rfl | rfl <;> rfl
        have ho : w1.os = w.os := by rcases hw1 with rfl | rfl <;> rfl
        have hu : w1.output = w.output := by rcases hw1 with rfl | rfl <;> rfl
        have h' : Rel P ρ H w1 := h.congr hh
        have hst : Step H.length ρ H w ρ H w1 := .congr _ hh ho hu
        have hsh : w1.shape? = w.shape? := by funext r; simp [World.shape?, hh]
        have hset := set_rel h' (k' := .iter (some r) since (seen ++ [e'.born]) clock) (o' := .mapIter (some cr') since (seen.toArray.push ce.born) clock) hb rfl h1 (by rw [hh]; exact h2) rfl rfl
          ⟨rfl, some cr', by rw [hE.2.2]; simp, .inr ⟨r, cr', rfl, rfl, m1⟩⟩
        refine ⟨i, by have := lt_of_get hi; simpa using this, _, _, hrun, ⟨⟨ρ, ?_, ?_, ?_⟩, by simp⟩⟩
        · simp only [hget]; exact hset.1
        · simp only [hget]; exact hst.trans hset.2
        · simp only [hget]
          have hsh2 : (ChangeMaps.setBlock w1 cb' (.mapIter (some cr') since (seen.toArray.push ce.born) clock)).shape? = w.shape? := by
            have := setBlk_shape (w := w1) (cb := cb') (o := .mapIter (some cr') since (seen.toArray.push ce.born) clock) (o' := .mapIter (some cr') since seen.toArray stepped) (by rw [hh]; exact h2) rfl
            rw [← hsh, ← this]; rfl
          rw [hsh2]
          refine .tuple rfl (fun j g1 g2 => ?_)
          match j, g1, g2 with
          | 0, _, _ => exact .same _ rfl
          | 1, _, _ => exact hE.1
          | 2, _, _ => exact hE.2.1
          | j + 3, g1, _ => exact absurd g1 (by show ¬ (j + 3 < 3); omega)
  · simp at hs

theorem find_rel {sh : Sh} (q : Nat) : ∀ {es ces : List MapEntry}, es.length = ces.length → (∀ (i : Nat) (e : MapEntry), es[i]? = some e → ∃ ce : MapEntry, ces[i]? = some ce ∧ ERel P ρ sh e ce) → ∀ {e : MapEntry}, es.find? (·.born == q) = some e →
    ∃ ce, ces.find? (·.born == q) = some ce ∧ ERel P ρ sh e ce
  | [], _, _, _, e, h => by simp at h
  | x :: xs, [], hl, _, e, h => by simp at hl
  | x :: xs, c :: cs, hl, hi, e, h => by
    obtain ⟨ce, h1, h2⟩ := hi 0 x rfl
    simp at h1; subst h1
    rw [List.find?_cons] at h ⊢
    rw [h2.2.2]
    cases hb : x.born == q with
    | true => rw [hb] at h; simp at h; subst h; exact ⟨c, rfl, h2⟩
    | false =>
      rw [hb] at h
      exact find_rel q (by simpa using hl) (fun i e he => hi (i + 1) e (by simpa using he)) h

theorem entry_sound (h : Rel P ρ H w) {x cx v : Value} {e : Option Nat} (hs : aEntry x ⟨H, e⟩ = some v) (hx : VRel P ρ w.shape? x cx) :
    ∃ cv, (Instr.entry cx).run P w = .ok cv w ∧ VRel P ρ w.shape? v cv := by
  unfold aEntry at hs
  split at hs
  case h_2 => simp at hs
  rename_i b
  obtain ⟨cb, base, _, hr, rfl⟩ := hx.ptr_inv
  split at hs
  case h_2 => simp at hs
  rename_i r since seen stepped hb
  obtain ⟨cb', cm, h1, h2, h3⟩ := iter_get h hb
  rw [h1] at hr; simp at hr; obtain ⟨rfl, rfl⟩ := hr
  rcases h3 with ⟨h3, _⟩ | ⟨r', cr, h3, rfl, hrr⟩
  · simp at h3
  simp at h3; subst h3
  split at hs
  case h_2 => simp at hs
  rename_i q es clock hq hm
  obtain ⟨cr', ces, m1, m2, m3, m4⟩ := map_get h hm
  rw [m1] at hrr; simp at hrr; subst hrr
  rw [ite_some] at hs
  obtain ⟨rfl, hs⟩ := hs
  rw [Option.map_eq_some_iff] at hs
  obtain ⟨en, hen, rfl⟩ := hs
  obtain ⟨ce, g1, g2⟩ := find_rel (P := P) (ρ := ρ) (sh := w.shape?) q (es := es) (ces := ces.toList) (by simp [m3]) (fun i e he => by obtain ⟨ce, c1, c2⟩ := m4 i e he; exact ⟨ce, by simpa using c1, c2⟩) hen
  rw [Array.find?_toList] at g1
  have hbk : seen.toArray.back? = some q := by simpa using hq
  refine ⟨.tuple #[ce.key, ce.val], ?_, .tuple rfl (fun j h1 h2 => ?_)⟩
  · simp only [Instr.entry, getObj, Sem.run_bind, Sem.run, h2, m2, Result.andThen, hbk, bne_self_eq_false, Bool.false_eq_true, if_false, g1]
    rfl
  · match j, h1, h2 with
    | 0, _, _ => exact g2.1
    | 1, _, _ => exact g2.2.1
    | j + 2, h1, _ => exact absurd h1 (by show ¬ (j + 2 < 2); omega)

end
end Go.Am

end
