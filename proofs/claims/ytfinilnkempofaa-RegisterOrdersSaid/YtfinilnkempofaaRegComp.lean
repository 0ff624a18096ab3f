/- A part of the proof: RegComp. Its conditions: none. -/
import Derived.Test.YtfinilnkempofaaRegRaw
import Derived.Test.YtfinilnkempofaaRegOrder
import Derived.Test.YtfinilnkempofaaRegFits
set_option linter.all false
set_option linter.unusedVariables false
set_option linter.unusedSimpArgs false
set_option linter.unnecessarySimpa false
namespace Go.Proofs.Ytfinilnkempofaa
open Go Go.Am Go.Reg

theorem place_app (n : Int) (ys : List Int) : ∀ (xs : List Int) (i : Nat), ¬ n ∈ xs → placeFrom (xs ++ n :: ys) n i = ((i + xs.length : Nat) : Int)
  | [], i, _ => by simp [placeFrom]
  | x :: xs, i, h => by
    have h1 : ¬ x = n := fun hc => h (by simp [hc])
    have ih := place_app n ys xs (i + 1) (fun hc => h (by simp [hc]))
    simp only [List.cons_append, placeFrom, if_neg h1, ih, List.length_cons]
    omega

theorem place_lt (k : Int) (ys : List Int) : ∀ (xs : List Int) (i : Nat), k ∈ xs → (i : Int) ≤ placeFrom (xs ++ ys) k i ∧ placeFrom (xs ++ ys) k i < ((i + xs.length : Nat) : Int)
  | [], i, h => by simp at h
  | x :: xs, i, h => by
    simp only [List.cons_append, placeFrom, List.length_cons]
    by_cases h1 : x = k
    · rw [if_pos h1]; omega
    · rw [if_neg h1]
      have ih := place_lt k ys xs (i + 1) (by
        rcases List.mem_cons.1 h with h | h
        · exact absurd h.symm h1
        · exact h)
      omega

section
variable {l : List (Rw (List Value))}

def ints (r : List Nat) : List Int := r.map fun (n : Nat) => (n : Int)

theorem comp_go : ∀ (r done : List Nat) (u : List Value), Comp l (inRow (ints done)) u r → FitsGo l (ints (done ++ r)) done.length u (ints r) ∧ allMust l (inRow (ints (done ++ r)))
  | [], done, u, h => by
    cases h with
    | done h => exact ⟨trivial, by simpa using h⟩
  | n :: r, done, u, h => by
    cases h with
    | @step _ _ _ x _ hx hc hv h =>
      have hnd : ¬ (n : Int) ∈ ints done := by simpa [inRow] using hc.1
      have hrow : ints (done ++ n :: r) = ints done ++ (n : Int) :: ints r := by simp [ints]
      have hpi : placeFrom (ints (done ++ n :: r)) (n : Int) 0 = (done.length : Int) := by
        rw [hrow, place_app _ _ _ _ hnd]; simp [ints]
      have hD : ins (inRow (ints done)) n = inRow (ints (done ++ [n])) := by rw [← inRow_ins]; simp [ints]
      rw [hD] at h
      obtain ⟨ih1, ih2⟩ := comp_go r (done ++ [n]) _ h
      have happ : done ++ [n] ++ r = done ++ n :: r := by simp
      rw [happ] at ih1 ih2
      refine ⟨?_, ih2⟩
      show FitsGo l (ints (done ++ n :: r)) done.length u ((n : Int) :: ints r)
      rw [fits_step hx hpi]
      refine ⟨hv, fun k y hy ha => ?_, by simpa using ih1⟩
      by_cases hkn : k = n
      · subst hkn; rw [hpi]; omega
      · have hk := hc.2 k y x hy hx hkn ha
        have hk' : (k : Int) ∈ ints done := by simpa [inRow] using hk
        have := place_lt (k : Int) ((n : Int) :: ints r) (ints done) 0 hk'
        rw [hrow]
        simp only [ints, List.length_map] at this ⊢
        omega

theorem comp_len : ∀ (r : List Nat) (D : Nat → Bool) (u : List Value), Comp l D u r → r.length + cnt l.length D ≤ l.length
  | [], D, u, _ => by have := cnt_le D l.length; simpa using this
  | n :: r, D, u, h => by
    cases h with
    | @step _ _ _ x _ hx hc hv h =>
      have := comp_len r _ _ h
      rw [cnt_ins hc.1 _ (lt_of_get hx)] at this
      simp only [List.length_cons]
      omega

theorem inRow_nil : inRow [] = fun _ => false := by funext k; simp [inRow]

/-- an order that is complete fits -/
theorem comp_fits {u : List Value} {r : List Nat} (h : Comp l (fun _ => false) u r) : FitsDoc l u (ints r) := by
  have h' : Comp l (inRow (ints [])) u r := by rw [show ints [] = [] from rfl, inRow_nil]; exact h
  obtain ⟨h1, h2⟩ := comp_go r [] u h'
  refine ⟨by simpa using h1, fun k x hx hm => ?_⟩
  have := h2 k x hx hm
  simpa [inRow] using this

/-- three results, of which none leads anywhere -/
theorem fin_three {n0 : Nat} {st : AS} {v v' : Value} {b c : Bool} (hf : frz PP n0 8 v st.H = (v', st.H)) (hv : vrefs v' = []) :
    ∃ H' e, fin PP false n0 [v, .bool b, .bool c] st = some (.tuple #[v', .bool b, .bool c], H', e) ∧ (∀ r, r < n0 → H'[r]? = st.H[r]?) ∧ (n0 ≤ st.H.length → n0 ≤ H'.length) := by
  unfold fin endFrz
  simp only [Bool.false_eq_true, if_false, frzL, hf, frz_noSl n0 8 (.bool b) st.H rfl, frz_noSl n0 8 (.bool c) st.H rfl]
  obtain ⟨σ, _, h2, _, h4⟩ := gc_spec n0 [v', .bool b, .bool c] ⟨st.H, st.esc⟩
  rw [gc_vals n0 [v', .bool b, .bool c] ⟨st.H, st.esc⟩ (by simp [hv])]
  exact ⟨_, _, rfl, fun r hr => (h2 r hr).2, h4⟩

/-- the document's order -/
theorem doc_order (hl : OkOps l) (hm : l.length < 1000) (H0 : List Blk) {u : List Value} (hu : TOk PP t_api_Sector u) :
    ∃ (b kn : Bool) (out : Value) (H' : List Blk) (e : Option Nat), acall PP TT n_twainref37_Order [tSl l.length (opsC l), .agg u.toArray] H0 = some (.tuple #[out, .bool b, .bool kn], H', e) ∧ FSt H0 H' ∧
      (b = true → ∃ r, Comp l (fun _ => false) u r) ∧ (b = false → kn = true → Dead l (fun _ => false) u) := by
  obtain ⟨u1, u2, qu_int⟩ := sec_cells hu
  have un := sec_len hu
  have htu : u.take 16 = u := List.take_of_length_le (by omega)
  have hvl : vrefs (tSl l.length (opsC l)) = [] := by simp [opsC_refs hl]
  have hsp : (H0 ++ [Blk.cells u t_api_Sector true] ++ [Blk.cells [.int .i64 20000] t_int true])[(H0 ++ [Blk.cells u t_api_Sector true]).length]? = some (.cells [.int .i64 20000] t_int true) := by rw [get_app0]; rfl
  obtain ⟨b, s', out, hcall, hsays, hout⟩ := search_ok hvl hl hm (fun H => .tree _ _) (l.length + 1) (H0 ++ [Blk.cells u t_api_Sector true] ++ [Blk.cells [.int .i64 20000] t_int true]) (.slice none 0 0) [] u (H0 ++ [Blk.cells u t_api_Sector true]).length 20000
    (by omega) (by simp) hu .nil (by simp) hsp (by omega) (by omega)
  have hst : aStore 1 ⟨H0 ++ [Blk.cells u t_api_Sector true] ++ [Blk.cells [.int .i64 0] t_int true], none⟩ (.pointer (some ⟨(H0 ++ [Blk.cells u t_api_Sector true]).length, 0, none⟩)) (.int .i64 20000) = some ⟨H0 ++ [Blk.cells u t_api_Sector true] ++ [Blk.cells [.int .i64 20000] t_int true], none⟩ := by
    rw [store_int, storeL_app0]
    simp [storeL, putCells, escOf]
  have hlu : cellsAt (H0 ++ [Blk.cells u t_api_Sector true] ++ [Blk.cells [.int .i64 20000] t_int true]) H0.length 0 16 = some u := by
    simp only [cellsAt, List.append_assoc, get_app0]
    simp [un, htu]
  have qzg_int : (zeroP PP t_int).getD unk = .int .i64 0 := by kernel_rfl
  have hlen0 : (H0 ++ [Blk.cells u t_api_Sector true]).length < (H0 ++ [Blk.cells u t_api_Sector true] ++ [Blk.cells [.int .i64 20000] t_int true]).length := by simp
  have hls : cellAt ((H0 ++ [Blk.cells u t_api_Sector true] ++ [Blk.cells [.int .i64 20000] t_int true]).set (H0 ++ [Blk.cells u t_api_Sector true]).length (.cells [.int .i64 s'] t_int true)) (H0 ++ [Blk.cells u t_api_Sector true]).length 0 = some (.int .i64 s') := by
    simp only [cellAt, List.getElem?_set_self hlen0]
    rfl
  have hf1 : FSt H0 ((H0 ++ [Blk.cells u t_api_Sector true] ++ [Blk.cells [.int .i64 20000] t_int true]).set (H0 ++ [Blk.cells u t_api_Sector true]).length (.cells [.int .i64 s'] t_int true)) := (((FSt.refl H0).app _).app _).set (by simp) _
  obtain ⟨out', ho1, ho2⟩ : ∃ out', (∀ H, frz PP H0.length 8 out H = (out', H)) ∧ vrefs out' = [] := by
    rcases hout with rfl | ⟨n, cs, rfl, hcs⟩
    · exact ⟨tSl 0 [], fun H => rfl, rfl⟩
    · exact ⟨tSl n cs, fun H => frz_noSl _ _ _ _ rfl, by simp [hcs]⟩
  have hno : ∀ (kn : Bool), (b = false → kn = true → 0 < s') → b = false → kn = true → Dead l (fun _ => false) u := fun kn h hb hk => by
    have := hsays.not hb (h hb hk)
    rwa [inRow_nil] at this
  have hye : b = true → ∃ r, Comp l (fun _ => false) u r := fun hb => by
    have := hsays.found hb
    rwa [inRow_nil] at this
  cases b with
  | true =>
    obtain ⟨H', e, hfin, h1, h2⟩ := fin_three (n0 := H0.length) (b := true) (c := true) (st := ⟨_, none⟩) (ho1 ((H0 ++ [Blk.cells u t_api_Sector true] ++ [Blk.cells [.int .i64 20000] t_int true]).set (H0 ++ [Blk.cells u t_api_Sector true]).length (.cells [.int .i64 s'] t_int true))) ho2
    refine ⟨true, true, out', H', e, ?_, ⟨fun j hj => by rw [h1 j hj]; exact hf1.pre j hj, h2 hf1.len⟩, hye, fun h => by simp at h⟩
    rw [acall_eq, twainref37_Order.eq]
    simp only [twainref37_Order.sh, box_agg u1, Option.bind_some, qzg_int, box_int, hst, load_agg, hlu, Option.map_some, hcall, ext20, ext21, bcase_true, joinEsc_none]
    exact hfin
  | false =>
    obtain ⟨H', e, hfin, h1, h2⟩ := fin_three (n0 := H0.length) (b := false) (c := decide (0 < s')) (st := ⟨_, none⟩) (ho1 ((H0 ++ [Blk.cells u t_api_Sector true] ++ [Blk.cells [.int .i64 20000] t_int true]).set (H0 ++ [Blk.cells u t_api_Sector true]).length (.cells [.int .i64 s'] t_int true))) ho2
    refine ⟨false, decide (0 < s'), out', H', e, ?_, ⟨fun j hj => by rw [h1 j hj]; exact hf1.pre j hj, h2 hf1.len⟩, hye, hno _ (fun _ h => by simpa using h)⟩
    rw [acall_eq, twainref37_Order.eq]
    simp only [twainref37_Order.sh, box_agg u1, Option.bind_some, qzg_int, box_int, hst, load_agg, hlu, Option.map_some, hcall, ext20, ext21, bcase_false, joinEsc_none, load_one, hls, bin_gtr]
    exact hfin

theorem bin_neqB (ox oy : Operand) (a b : Bool) : aBin PP .neq t_bool ox oy (.bool a) (.bool b) = some (.bool (a != b)) := by cases a <;> cases b <;> kernel_rfl

end
end Go.Proofs.Ytfinilnkempofaa
