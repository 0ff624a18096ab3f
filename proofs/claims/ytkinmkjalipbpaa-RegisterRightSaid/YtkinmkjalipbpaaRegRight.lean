/- Of few ops, whether there is an order that is right is the document's; then the order that is told fits. -/
import Derived.Test.YtkinmkjalipbpaaRegRaw
import Derived.Test.YtkinmkjalipbpaaRegFits
set_option linter.all false
set_option linter.unusedVariables false
set_option linter.unusedSimpArgs false
set_option linter.unnecessarySimpa false
namespace Go.Proofs.Ytkinmkjalipbpaa
open Go Go.Am Go.Reg

theorem place_app (n : Int) (ys : List Int) : ∀ (xs : List Int) (i : Nat), ¬ n ∈ xs → placeFrom (xs ++ n :: ys) n i = ((i + xs.length : Nat) : Int)
  | [], i, _ => by simp [placeFrom]
  | x :: xs, i, h => by
    have h1 : ¬ x = n := fun hc => h (by simp [hc])
    have ih := place_app n ys xs (i + 1) (fun hc => h (by simp [hc]))
    simp only [List.cons_append, placeFrom, if_neg h1, ih, List.length_cons]
    omega

theorem place_lt (k : Int) (ys : List Int) : ∀ (xs : List Int) (i : Nat), k ∈ xs → (i : Int) ≤ placeFrom (xs ++ ys) k i ∧ placeFrom (xs ++ ys) k i < ((i + xs.length : Nat) : Int)
  | [], i, h => by simp at h
  | x :: xs, i, h => by
    simp only [List.cons_append, placeFrom, List.length_cons]
    by_cases h1 : x = k
    · rw [if_pos h1]; omega
    · rw [if_neg h1]
      have ih := place_lt k ys xs (i + 1) (by
        rcases List.mem_cons.1 h with h | h
        · exact absurd h.symm h1
        · exact h)
      omega

section
variable {l : List (Rw (List Value))}

def ints (r : List Nat) : List Int := r.map fun (n : Nat) => (n : Int)

theorem comp_go : ∀ (r done : List Nat) (u : List Value), Comp l (inRow (ints done)) u r → FitsGo l (ints (done ++ r)) done.length u (ints r) ∧ allMust l (inRow (ints (done ++ r)))
  | [], done, u, h => by
    cases h with
    | done h => exact ⟨trivial, by simpa using h⟩
  | n :: r, done, u, h => by
    cases h with
    | @step _ _ _ x _ hx hc hv h =>
      have hnd : ¬ (n : Int) ∈ ints done := by simpa [inRow] using hc.1
      have hrow : ints (done ++ n :: r) = ints done ++ (n : Int) :: ints r := by simp [ints]
      have hpi : placeFrom (ints (done ++ n :: r)) (n : Int) 0 = (done.length : Int) := by
        rw [hrow, place_app _ _ _ _ hnd]; simp [ints]
      have hD : ins (inRow (ints done)) n = inRow (ints (done ++ [n])) := by rw [← inRow_ins]; simp [ints]
      rw [hD] at h
      obtain ⟨ih1, ih2⟩ := comp_go r (done ++ [n]) _ h
      have happ : done ++ [n] ++ r = done ++ n :: r := by simp
      rw [happ] at ih1 ih2
      refine ⟨?_, ih2⟩
      show FitsGo l (ints (done ++ n :: r)) done.length u ((n : Int) :: ints r)
      rw [fits_step hx hpi]
      refine ⟨hv, fun k y hy ha => ?_, by simpa using ih1⟩
      by_cases hkn : k = n
      · subst hkn; rw [hpi]; omega
      · have hk := hc.2 k y x hy hx hkn ha
        have hk' : (k : Int) ∈ ints done := by simpa [inRow] using hk
        have := place_lt (k : Int) ((n : Int) :: ints r) (ints done) 0 hk'
        rw [hrow]
        simp only [ints, List.length_map] at this ⊢
        omega

theorem comp_len : ∀ (r : List Nat) (D : Nat → Bool) (u : List Value), Comp l D u r → r.length + cnt l.length D ≤ l.length
  | [], D, u, _ => by have := cnt_le D l.length; simpa using this
  | n :: r, D, u, h => by
    cases h with
    | @step _ _ _ x _ hx hc hv h =>
      have := comp_len r _ _ h
      rw [cnt_ins hc.1 _ (lt_of_get hx)] at this
      simp only [List.length_cons]
      omega

theorem inRow_nil : inRow [] = fun _ => false := by funext k; simp [inRow]

/-- an order that is complete fits -/
theorem comp_fits {u : List Value} {r : List Nat} (h : Comp l (fun _ => false) u r) : FitsDoc l u (ints r) := by
  have h' : Comp l (inRow (ints [])) u r := by rw [show ints [] = [] from rfl, inRow_nil]; exact h
  obtain ⟨h1, h2⟩ := comp_go r [] u h'
  refine ⟨by simpa using h1, fun k x hx hm => ?_⟩
  have := h2 k x hx hm
  simpa [inRow] using this

/-- three results, of which none leads anywhere -/
theorem fin_three {n0 : Nat} {st : AS} {v v' : Value} {b c : Bool} (hf : frz PP n0 8 v st.H = (v', st.H)) (hv : vrefs v' = []) :
    ∃ H' e, fin PP false n0 [v, .bool b, .bool c] st = some (.tuple #[v', .bool b, .bool c], H', e) ∧ (∀ r, r < n0 → H'[r]? = st.H[r]?) ∧ (n0 ≤ st.H.length → n0 ≤ H'.length) := by
  unfold fin endFrz
  simp only [Bool.false_eq_true, if_false, frzL, hf, frz_noSl n0 8 (.bool b) st.H rfl, frz_noSl n0 8 (.bool c) st.H rfl]
  obtain ⟨σ, _, h2, _, h4⟩ := gc_spec n0 [v', .bool b, .bool c] ⟨st.H, st.esc⟩
  rw [gc_vals n0 [v', .bool b, .bool c] ⟨st.H, st.esc⟩ (by simp [hv])]
  exact ⟨_, _, rfl, fun r hr => (h2 r hr).2, h4⟩

/-- the document's order -/
theorem doc_order (hl : OkOps l) (hm : l.length < 1000) (H0 : List Blk) {u : List Value} (hu : TOk PP 24 u) :
    ∃ (b kn : Bool) (out : Value) (H' : List Blk) (e : Option Nat), acall PP TT 13 [tSl l.length (opsC l), .agg u.toArray] H0 = some (.tuple #[out, .bool b, .bool kn], H', e) ∧ FSt H0 H' ∧
      (b = true → ∃ r, Comp l (fun _ => false) u r) ∧ (b = false → kn = true → Dead l (fun _ => false) u) := by
  obtain ⟨u1, u2, u3⟩ := sec_cells hu
  have un := sec_len hu
  have htu : u.take 16 = u := List.take_of_length_le (by omega)
  have hvl : vrefs (tSl l.length (opsC l)) = [] := by simp [opsC_refs hl]
  have hsp : (H0 ++ [Blk.cells u 24 true] ++ [Blk.cells [.int .i64 20000] 3 true])[(H0 ++ [Blk.cells u 24 true]).length]? = some (.cells [.int .i64 20000] 3 true) := by rw [get_app0]; rfl
  obtain ⟨b, s', out, hcall, hsays, hout⟩ := search_ok hvl hl hm (fun H => .tree _ _) (l.length + 1) (H0 ++ [Blk.cells u 24 true] ++ [Blk.cells [.int .i64 20000] 3 true]) (.slice none 0 0) [] u (H0 ++ [Blk.cells u 24 true]).length 20000
    (by omega) (by simp) hu .nil (by simp) hsp (by omega) (by omega)
  have hst : aStore 1 ⟨H0 ++ [Blk.cells u 24 true] ++ [Blk.cells [.int .i64 0] 3 true], none⟩ (.pointer (some ⟨(H0 ++ [Blk.cells u 24 true]).length, 0, none⟩)) (.int .i64 20000) = some ⟨H0 ++ [Blk.cells u 24 true] ++ [Blk.cells [.int .i64 20000] 3 true], none⟩ := by
    rw [store_int, storeL_app0]
    simp [storeL, putCells, escOf]
  have hlu : cellsAt (H0 ++ [Blk.cells u 24 true] ++ [Blk.cells [.int .i64 20000] 3 true]) H0.length 0 16 = some u := by
    simp only [cellsAt, List.append_assoc, get_app0]
    simp [un, htu]
  have zg3 : (zeroP PP 3).getD unk = .int .i64 0 := by kernel_rfl
  have hlen0 : (H0 ++ [Blk.cells u 24 true]).length < (H0 ++ [Blk.cells u 24 true] ++ [Blk.cells [.int .i64 20000] 3 true]).length := by simp
  have hls : cellAt ((H0 ++ [Blk.cells u 24 true] ++ [Blk.cells [.int .i64 20000] 3 true]).set (H0 ++ [Blk.cells u 24 true]).length (.cells [.int .i64 s'] 3 true)) (H0 ++ [Blk.cells u 24 true]).length 0 = some (.int .i64 s') := by
    simp only [cellAt, List.getElem?_set_self hlen0]
    rfl
  have hf1 : FSt H0 ((H0 ++ [Blk.cells u 24 true] ++ [Blk.cells [.int .i64 20000] 3 true]).set (H0 ++ [Blk.cells u 24 true]).length (.cells [.int .i64 s'] 3 true)) := (((FSt.refl H0).app _).app _).set (by simp) _
  obtain ⟨out', ho1, ho2⟩ : ∃ out', (∀ H, frz PP H0.length 8 out H = (out', H)) ∧ vrefs out' = [] := by
    rcases hout with rfl | ⟨n, cs, rfl, hcs⟩
    · exact ⟨tSl 0 [], fun H => rfl, rfl⟩
    · exact ⟨tSl n cs, fun H => frz_noSl _ _ _ _ rfl, by simp [hcs]⟩
  have hno : ∀ (kn : Bool), (b = false → kn = true → 0 < s') → b = false → kn = true → Dead l (fun _ => false) u := fun kn h hb hk => by
    have := hsays.not hb (h hb hk)
    rwa [inRow_nil] at this
  have hye : b = true → ∃ r, Comp l (fun _ => false) u r := fun hb => by
    have := hsays.found hb
    rwa [inRow_nil] at this
  cases b with
  | true =>
    obtain ⟨H', e, hfin, h1, h2⟩ := fin_three (n0 := H0.length) (b := true) (c := true) (st := ⟨_, none⟩) (ho1 ((H0 ++ [Blk.cells u 24 true] ++ [Blk.cells [.int .i64 20000] 3 true]).set (H0 ++ [Blk.cells u 24 true]).length (.cells [.int .i64 s'] 3 true))) ho2
    refine ⟨true, true, out', H', e, ?_, ⟨fun j hj => by rw [h1 j hj]; exact hf1.pre j hj, h2 hf1.len⟩, hye, fun h => by simp at h⟩
    rw [acall_eq, f13.eq]
    simp only [f13.sh, box_agg u1, Option.bind_some, zg3, box_int, hst, load_agg, hlu, Option.map_some, hcall, ext20, ext21, bcase_true, joinEsc_none]
    exact hfin
  | false =>
    obtain ⟨H', e, hfin, h1, h2⟩ := fin_three (n0 := H0.length) (b := false) (c := decide (0 < s')) (st := ⟨_, none⟩) (ho1 ((H0 ++ [Blk.cells u 24 true] ++ [Blk.cells [.int .i64 20000] 3 true]).set (H0 ++ [Blk.cells u 24 true]).length (.cells [.int .i64 s'] 3 true))) ho2
    refine ⟨false, decide (0 < s'), out', H', e, ?_, ⟨fun j hj => by rw [h1 j hj]; exact hf1.pre j hj, h2 hf1.len⟩, hye, hno _ (fun _ h => by simpa using h)⟩
    rw [acall_eq, f13.eq]
    simp only [f13.sh, box_agg u1, Option.bind_some, zg3, box_int, hst, load_agg, hlu, Option.map_some, hcall, ext20, ext21, bcase_false, joinEsc_none, load_one, hls, bin_gtr]
    exact hfin

/-- an op, as an argument -/
theorem op_of {r : List Value} (h : TOk PP 64 r) : ∃ x : Rw (List Value), OkRw x ∧ r = opc x := by
  have hty : (match PP.underlying 64 with | some (.struct fs) => fs.toList.map (·.type) | _ => []) = [4, 24, 3, 3] := by kernel_rfl
  have u4 : PP.underlying 4 = some .bool := by kernel_rfl
  split at hty
  · rename_i fs hfs
    obtain ⟨ps, rfl, hps⟩ := h.struct_inv hfs
    rw [hty] at hps
    match ps, hps with
    | [a, b, c, d], ⟨ha, hb, hc, hd, _⟩ =>
      obtain ⟨w, rfl⟩ := ha.bool_inv u4
      obtain ⟨f, rfl, hf⟩ := hc.int_inv u3
      obtain ⟨t, rfl, ht⟩ := hd.int_inv u3
      exact ⟨⟨w, b, f, t⟩, ⟨hb, hf, ht⟩, by simp [opc]⟩
  · simp at hty

theorem ops_of : ∀ (rows : List (List Value)), (∀ r ∈ rows, TOk PP 64 r) → ∃ l : List (Rw (List Value)), OkOps l ∧ rows = l.map opc
  | [], _ => ⟨[], fun _ h => by simp at h, rfl⟩
  | r :: rows, h => by
    obtain ⟨x, hx, rfl⟩ := op_of (h r (by simp))
    obtain ⟨l, hl, rfl⟩ := ops_of rows (fun y hy => h y (by simp [hy]))
    refine ⟨x :: l, fun y hy => ?_, rfl⟩
    rcases List.mem_cons.1 hy with rfl | hy
    · exact hx
    · exact hl y hy

theorem bin_neqB (ox oy : Operand) (a b : Bool) : aBin PP .neq 4 ox oy (.bool a) (.bool b) = some (.bool (a != b)) := by cases a <;> cases b <;> kernel_rfl

theorem right_law (hl : OkOps l) {u : List Value} (hu : TOk PP 24 u) :
    saysTrue (acall PP TT 3 [tSl l.length (opsC l), .agg u.toArray] []) = true := by
  obtain ⟨u1, u2, u3⟩ := sec_cells hu
  have un := sec_len hu
  have htu : u.take 16 = u := List.take_of_length_le (by omega)
  have hln := fun st => (Rd.tree (H := []) l.length (opsC l)).len (P := PP) u22 st
  have hlu : ∀ H : List Blk, H[0]? = some (.cells u 24 true) → cellsAt H 0 0 16 = some u := fun H h => by simp [cellsAt, h, un, htu]
  rw [acall_eq, f3.eq]
  by_cases hm : (9 : Int) < (l.length : Int)
  · simp only [f3.sh, box_agg u1, Option.bind_some, List.nil_append, hln, bin_gtr, hm, decide_true, bcase_true, f9.eq]
    exact says_fin
  · have hm' : l.length ≤ 9 := by omega
    obtain ⟨H1, e1, hraw, h1⟩ := raw_ok hl (by omega) [Blk.cells u 24 true]
    have g1 : H1[0]? = some (.cells u 24 true) := by rw [h1 0 (by simp)]; rfl
    obtain ⟨b1, o1, H2, e2, hright, hk2, ht1⟩ := right_ok hl (by omega) H1 hu
    have g2 := hk2 0 _ _ _ g1 (by decide)
    obtain ⟨b2, o2, H3, e3, hord, hk3, ht2⟩ := order_ok hl (by omega) H2 hu
    have g3 := hk3 0 _ _ _ g2 (by decide)
    obtain ⟨b3, kn, o3, H4, e4, hdoc, hf4, hd1, hd2⟩ := doc_order hl (by omega) H3 hu
    have g4 : H4[0]? = some (.cells u 24 true) := by rw [hf4.pre 0 (lt_of_get g3)]; exact g3
    have hb12 : b1 = b2 := by
      cases b1 with
      | true =>
        obtain ⟨r, _, hr⟩ := ht1.yes rfl
        cases b2 with
        | true => rfl
        | false => exact absurd hr ((ht2.no rfl).2 r)
      | false =>
        cases b2 with
        | false => rfl
        | true => obtain ⟨r, _, hr⟩ := ht2.yes rfl; exact absurd hr ((ht1.no rfl).2 r)
    subst hb12
    have hkn : kn = true → (b1 != b3) = false := fun hk => by
      cases b1 with
      | true =>
        obtain ⟨r, _, hr⟩ := ht1.yes rfl
        cases b3 with
        | true => rfl
        | false => exact absurd hr (hd2 rfl hk r)
      | false =>
        cases b3 with
        | false => rfl
        | true => obtain ⟨r, hr⟩ := hd1 rfl; exact absurd hr ((ht1.no rfl).2 r)
    have hne0 : aBin PP .neq 28 (.tmp 38) (.const (.int .i64 0)) (.int .i64 0) (.int .i64 0) = some (.bool false) := by kernel_rfl
    have hbb := bin_neqB (.tmp 41) (.tmp 42) b1 b1
    rw [show (b1 != b1) = false by simp] at hbb
    have hbk := bin_neqB (.tmp 48) (.tmp 49) b1 b3
    have start : ∀ K, (f3.sh (acall PP TT) loopG 0 (tSl l.length (opsC l)) (.agg u.toArray) ⟨[], none⟩ = K) ↔ (f3.j1 (acall PP TT) loopG 0 (tSl l.length (opsC l)) (.pointer (some ⟨0, 0, none⟩)) (.bool b1) o2 ⟨H4, joinEsc (joinEsc (joinEsc (joinEsc none e1) e2) e3) e4⟩ = K) := by
      intro K
      cases kn with
      | true =>
        have := hkn rfl
        rw [this] at hbk
        simp only [f3.sh, box_agg u1, Option.bind_some, List.nil_append, List.length_nil, hln, bin_gtr, hm, decide_false, bcase_false, hraw, load_agg, hlu _ g1, hlu _ g2, hlu _ g3, Option.map_some, hright, hord, hdoc, ext20, ext21, ext30, ext31, ext32, hne0, hbb, hbk, bcase_true, f3.j0, List.getD_cons_zero, List.getD_cons_succ]
      | false =>
        simp only [f3.sh, box_agg u1, Option.bind_some, List.nil_append, List.length_nil, hln, bin_gtr, hm, decide_false, bcase_false, hraw, load_agg, hlu _ g1, hlu _ g2, hlu _ g3, Option.map_some, hright, hord, hdoc, ext20, ext21, ext30, ext31, ext32, hne0, hbb, f3.j0, List.getD_cons_zero, List.getD_cons_succ]
    have hs : ∀ v, f3.j1 (acall PP TT) loopG 0 (tSl l.length (opsC l)) (.pointer (some ⟨0, 0, none⟩)) (.bool b1) o2 ⟨H4, joinEsc (joinEsc (joinEsc (joinEsc none e1) e2) e3) e4⟩ = v → saysTrue v = true → saysTrue (f3.sh (acall PP TT) loopG 0 (tSl l.length (opsC l)) (.agg u.toArray) ⟨[], none⟩) = true := fun v hv h => by
      rw [(start v).2 hv]; exact h
    refine hs _ rfl ?_
    cases b1 with
    | false =>
      simp only [f3.j1, un_not, Bool.not_false, Option.bind_some, bcase_true, f9.eq]
      exact says_fin
    | true =>
      obtain ⟨r, rfl, hr⟩ := ht2.yes rfl
      have hrl : (ints r).length < 2 ^ 62 := by
        have := comp_len _ _ _ hr
        simp only [ints, List.length_map]
        omega
      obtain ⟨b5, H5, e5, hfits, hf5, hiff⟩ := fits_ok hl (by omega) hrl H4 hu
      have hb5 : b5 = true := hiff.2 (comp_fits hr)
      subst hb5
      have hrow : tSl r.length (rowC r) = tSl (ints r).length (nums (ints r)) := by simp [rowC, ints]
      rw [hrow]
      simp only [f3.j1, un_not, Bool.not_true, Option.bind_some, bcase_false, load_agg, hlu _ g4, Option.map_some, hfits, bcase_true, f9.eq]
      exact says_fin

end
end Go.Proofs.Ytkinmkjalipbpaa
