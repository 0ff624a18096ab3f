/- A part of the proof: Gh0, Gh1, Gh2, Gh3. Its conditions: none. -/
import Derived.Test.YtfinilnkempofaaRegBegin
import Derived.Test.YtfinilnkempofaaHistConv
set_option linter.all false
set_option linter.unusedVariables false
set_option linter.unusedSimpArgs false
set_option linter.unnecessarySimpa false
section
namespace Go.Proofs.Ytfinilnkempofaa
open Go Go.Am Go.Reg
namespace GH

def rw1 (x : Hop) : Rw (List Value) := ⟨x.w, byt x.v, x.f, x.t⟩
theorem opc_rw (x : Hop) : opc (rw1 x) = opk x := rfl
theorem y460 (A : List Hop) : opsC (A.map rw1) = hopR A := by
  simp only [opsC, hopR, List.map_map]
  rfl
theorem ok_rw {x : Hop} (h : OkHop x) : OkRw (rw1 x) := by
  have hf := h.f
  have ht := h.t
  unfold isI at hf ht
  refine ⟨y434 h.v.1 h.v.2, ?_, ?_⟩ <;> rw [y513, y465] <;> simp only [rw1] <;> omega
theorem y596 {A : List Hop} (h : OkHops A) : OkOps (A.map rw1) := fun y hy => by
  obtain ⟨x, hx, rfl⟩ := List.mem_map.1 hy
  exact ok_rw (h x hx)

end GH
end Go.Proofs.Ytfinilnkempofaa

end
section
namespace Go.Proofs.Ytfinilnkempofaa
open Go Go.Am Go.Reg
namespace GH

theorem esc0 (e : Option Nat) : escOk ([] : List Blk).length e = true := by cases e <;> simp [escOk]
theorem gc0 {vs : List Value} {H : List Blk} {e : Option Nat} (h : lrefs vs = []) : gc 0 vs ⟨H, e⟩ = (vs, ⟨[], none⟩) := q300 (H0 := []) (l := H) h (esc0 e)

def fromA (A : List Hop) (i : Nat) : Int := match A[i]? with | some x => x.f | none => 0
def froms (A : List Hop) (r : List Nat) : List Int := r.map (fromA A)

section
variable {A : List Hop} {H : List Blk}

theorem ix_int {fs : List Int} {k : Nat} (hk : k < fs.length) : q37 PP q43 (tSl fs.length (intsH fs)) (.int .i64 (k : Int)) = some (tPtr k (intsH fs).toArray) := by
  have := q189 (P := PP) (t := q43) (row := intsH fs) (j := .i64) y266 y446 hk
  simpa using this
theorem q530 (fs : List Int) : RowsOf 1 (fs.map fun n => [Value.int .i64 n]) := by
  refine ⟨fun r hr => ?_, fun r hr => ?_, fun r hr => ?_, fun r hr => ?_⟩ <;> obtain ⟨x, _, rfl⟩ := List.mem_map.1 hr <;> rfl
theorem q339 (fs : List Int) : (fs.map fun n => [Value.int .i64 n]).flatten = intsH fs := by
  induction fs with
  | nil => rfl
  | cons x xs ih => simpa using ih
theorem ld_int {fs : List Int} {k : Nat} {n : Int} (hk : fs[k]? = some n) (st : AS) : aLoad false 1 st (tPtr k (intsH fs).toArray) = some (.int .i64 n) := by
  have := q258 (n := 1) (st := st) (k := k) (off := 0) (r := [.int .i64 n]) (v := .int .i64 n) (q530 fs) (by simp [hk]) rfl
  rw [q339] at this
  simpa using this
theorem ln_int (fs : List Int) (st : AS) : aLen PP q43 (tSl fs.length (intsH fs)) st = some (.int .i64 fs.length) := q215 y266
theorem pop_f (hA : OkHops A) {k : Nat} {x : Hop} (hx : A[k]? = some x) (st : AS) : aLoad false 1 st (tPtr (k * 19 + 17) (hopR A).toArray) = some (.int .i64 x.f) := by
  refine q258 (r := opk x) (y346 hA) (by simp [hx]) ?_
  have h := (hA x (List.mem_of_getElem? hx)).v.1
  simp only [opk, List.getElem?_cons_succ]
  rw [List.getElem?_append_right (by simp [byt, h])]
  simp [byt, h]

/-- the loop of the order's times -/
theorem q486 (hA : OkHops A) (hm : A.length < 60000) {r : List Nat} (hr : ∀ i ∈ r, i < A.length) (hrl : r.length < 60000) {vs : List Value} {st : AS}
    (hg : gc H.length vs st = ([tSl A.length (hopR A), .slice none 0 0, tSl r.length (rowC r), .int .i64 r.length, .int .i64 0], ⟨H, none⟩)) :
    loopG H.length (ghost_Order.loop7s (acall PP TT) loopG H.length) (vs, st) = some (.exit 0, [rowO H.length (froms A r)], ⟨H ++ blkO (froms A r), none⟩) := by
  have hlast : ¬ ((r.length : Int) < (r.length : Int)) := Int.lt_irrefl _
  have hrc : rowC r = intsH (r.map fun (n : Nat) => (n : Int)) := rfl
  have hrn : (r.map fun (n : Nat) => (n : Int)).length = r.length := by simp
  obtain ⟨q, hlp, rfl⟩ := y257 (n0 := H.length) (step := ghost_Order.loop7s (acall PP TT) loopG H.length) (len := r.length) (σ := Unit)
    (fun n _ => ([tSl A.length (hopR A), rowO H.length (froms A (r.take n)), tSl r.length (rowC r), .int .i64 r.length, .int .i64 n], ⟨H ++ blkO (froms A (r.take n)), none⟩))
    (fun _ _ => True) (fun q => q = (.exit 0, [rowO H.length (froms A r)], ⟨H ++ blkO (froms A r), none⟩))
    (fun n _ hn _ => by
      have hn' : ((n : Int) < (r.length : Int)) := by omega
      obtain ⟨i, hi⟩ : ∃ i, r[n]? = some i := ⟨_, List.getElem?_eq_getElem hn⟩
      have him := hr i (List.mem_of_getElem? hi)
      obtain ⟨x, hx⟩ : ∃ x, A[i]? = some x := ⟨_, List.getElem?_eq_getElem him⟩
      have hix : q37 PP q43 (tSl r.length (rowC r)) (.int .i64 (n : Int)) = some (tPtr n (rowC r).toArray) := by
        have := ix_int (fs := r.map fun (n : Nat) => (n : Int)) (k := n) (by simpa using hn)
        rw [hrn] at this
        exact this
      have hld : ∀ st, aLoad false 1 st (tPtr n (rowC r).toArray) = some (.int .i64 (i : Int)) := fun st => ld_int (fs := r.map fun (n : Nat) => (n : Int)) (by simp [hi]) st
      have hix2 := ix_pop (A := A) him
      have hlf := fun st => pop_f hA hx st
      have hw := q100 (n := n) (by omega)
      have htk : froms A (r.take (n + 1)) = froms A (r.take n) ++ [x.f] := by
        rw [q245 hi]
        simp [froms, fromA, hx]
      have hlen : (froms A (r.take n)).length ≤ 65535 := by simp [froms]; omega
      refine .inr ?_
      rw [htk]
      generalize froms A (r.take n) = B at hlen
      cases B with
      | nil =>
        refine ⟨[tSl A.length (hopR A), .slice (some ⟨H.length + 1, 0, none⟩) 1 UNK, tSl r.length (rowC r), .int .i64 r.length, .int .i64 ((n + 1 : Nat) : Int)], ⟨H ++ [.cells [.int .i64 x.f] t_int true, .cells [.int .i64 x.f] t_int true], none⟩, (), ?_, ?_, trivial⟩
        · have hp0 := fun (e : Option Nat) (v : Int) (R : Type) (F : Value → AS → Option R) => y188 (H := H) (L := []) (e := e) (v := v) (F := F)
          simp only [List.append_nil, List.nil_append, List.length_nil, Nat.zero_add] at hp0
          simp only [ghost_Order.loop7s, ghost_Order.loop7, rowO, blkO, Option.bind_some, Option.map_some, q9, y7, List.getD_cons_zero, List.getD_cons_succ, q27, q29, q30, q28, y27, q23, q31, y28, y25, q41, q14, decide_true, decide_false, Bool.not_true, Bool.not_false, y4, y14, ext20, ext21, ext30, ext31, ext32, if_true, q32, box_int, box_bool, box_slice, box_map, box_ptr, box_tSl, q18, store_int, store_bool, store_slice, store_map, store_ptr, store_tSl, q16, y19, q17, List.cons_append, List.nil_append, q34, List.length_cons, List.length_nil, Nat.zero_add, Nat.add_zero, Nat.reduceAdd, Nat.reduceLeDiff, Nat.le_refl, q10, q13, y8, y9, q11, y13, q22, q21, y16, q19, y43, q44, List.getElem?_cons_zero, List.getElem?_cons_succ, List.drop_zero, List.drop_succ_cons, List.take_zero, List.take_succ_cons, allCells_cons, allCells_nil, cellV_int, cellV_bool, cellV_string, cellV_ptr, cellV_slice, cellV_map, cellV_func, cellV_nilFunc, cellV_tSl, Bool.and_self, Bool.and_true, Bool.true_and, and_self, true_and, and_true, Bool.false_eq_true, if_false, lrefs_nil, lrefs_cons, vrefs_bool, vrefs_int, vrefs_string, vrefs_ptr, vrefs_ptr0, vrefs_slice, vrefs_slice0, vrefs_map, vrefs_tSl, vrefs_tPtr, vrefs_agg, q15, Int.reduceEq, Int.reduceLT, Int.reduceLE, y6, y5, y34, q33, hn', hix, hld, hix2, q217, hlf, hp0, hw, List.append_nil]
        · exact q131 [[], []] [1] [1] rfl rfl (by simp [y61, q193]) (by simp [y36]) (by simp [rowO, lren, vren, q125, q87, q65, y61, q193]) (by simp [blkO, y56, q90])
      | cons a tl =>
        have hpi := fun (L : List Blk) (e : Option Nat) (v : Int) (R : Type) (F : Value → AS → Option R) (hk : L[0]? = some (.cells (intsH (a :: tl)) t_int true)) => q333 (H := H) (A := a :: tl) (by omega) (e := e) (v := v) (F := F) hk
        simp only [List.length_cons, List.map_cons] at hpi
        refine ⟨[tSl A.length (hopR A), .slice (some ⟨H.length + 2, 0, none⟩) (tl.length + 1 + 1) UNK, tSl r.length (rowC r), .int .i64 r.length, .int .i64 ((n + 1 : Nat) : Int)], ⟨H ++ [.dead, .cells [.int .i64 x.f] t_int true, .cells (intsH (a :: tl ++ [x.f])) t_int true], none⟩, (), ?_, ?_, trivial⟩
        · simp only [ghost_Order.loop7s, ghost_Order.loop7, rowO, blkO, Option.bind_some, Option.map_some, q9, y7, List.getD_cons_zero, List.getD_cons_succ, q27, q29, q30, q28, y27, q23, q31, y28, y25, q41, q14, decide_true, decide_false, Bool.not_true, Bool.not_false, y4, y14, ext20, ext21, ext30, ext31, ext32, if_true, q32, box_int, box_bool, box_slice, box_map, box_ptr, box_tSl, q18, store_int, store_bool, store_slice, store_map, store_ptr, store_tSl, q16, y19, q17, List.cons_append, List.nil_append, q34, List.length_cons, List.length_nil, Nat.zero_add, Nat.add_zero, Nat.reduceAdd, Nat.reduceLeDiff, Nat.le_refl, q10, q13, y8, y9, q11, y13, q22, q21, y16, q19, y43, q44, List.getElem?_cons_zero, List.getElem?_cons_succ, List.drop_zero, List.drop_succ_cons, List.take_zero, List.take_succ_cons, allCells_cons, allCells_nil, cellV_int, cellV_bool, cellV_string, cellV_ptr, cellV_slice, cellV_map, cellV_func, cellV_nilFunc, cellV_tSl, Bool.and_self, Bool.and_true, Bool.true_and, and_self, true_and, and_true, Bool.false_eq_true, if_false, lrefs_nil, lrefs_cons, vrefs_bool, vrefs_int, vrefs_string, vrefs_ptr, vrefs_ptr0, vrefs_slice, vrefs_slice0, vrefs_map, vrefs_tSl, vrefs_tPtr, vrefs_agg, q15, Int.reduceEq, Int.reduceLT, Int.reduceLE, y6, y5, y34, q33, hn', hix, hld, hix2, q217, hlf, hpi, hw, List.append_nil, List.set_cons_zero, List.map_append, List.map_cons, List.map_nil]
        · exact q131 [[], [], []] [2] [2] rfl rfl (by simp [y61, q193]) (by simp [y36, q123, q69]) (by simp [rowO, lren, vren, q125, q87, q65, y61, q193]) (by simp [blkO, y56, q90, q69]))
    (fun _ _ => ⟨_, by simp only [ghost_Order.loop7s, ghost_Order.loop7, Option.bind_some, Option.map_some, q9, y7, List.getD_cons_zero, List.getD_cons_succ, q27, q29, q30, q28, y27, q23, q31, y28, y25, q41, q14, decide_true, decide_false, Bool.not_true, Bool.not_false, y4, y14, ext20, ext21, ext30, ext31, ext32, if_true, q32, box_int, box_bool, box_slice, box_map, box_ptr, box_tSl, q18, store_int, store_bool, store_slice, store_map, store_ptr, store_tSl, q16, y19, q17, List.cons_append, List.nil_append, q34, List.length_cons, List.length_nil, Nat.zero_add, Nat.add_zero, Nat.reduceAdd, Nat.reduceLeDiff, Nat.le_refl, q10, q13, y8, y9, q11, y13, q22, q21, y16, q19, y43, q44, List.getElem?_cons_zero, List.getElem?_cons_succ, List.drop_zero, List.drop_succ_cons, List.take_zero, List.take_succ_cons, allCells_cons, allCells_nil, cellV_int, cellV_bool, cellV_string, cellV_ptr, cellV_slice, cellV_map, cellV_func, cellV_nilFunc, cellV_tSl, Bool.and_self, Bool.and_true, Bool.true_and, and_self, true_and, and_true, Bool.false_eq_true, if_false, lrefs_nil, lrefs_cons, vrefs_bool, vrefs_int, vrefs_string, vrefs_ptr, vrefs_ptr0, vrefs_slice, vrefs_slice0, vrefs_map, vrefs_tSl, vrefs_tPtr, vrefs_agg, q15, Int.reduceEq, Int.reduceLT, Int.reduceLE, y6, y5, y34, q33, hlast, List.take_length], rfl⟩)
    r.length 0 () vs st (by omega) trivial (by rw [hg]; simp [froms, rowO, blkO])
  exact hlp

theorem y479 {l : List (Rw (List Value))} : ∀ {r : List Nat} {D : Nat → Bool} {u : List Value}, Comp l D u r → ∀ i ∈ r, i < l.length
  | [], _, _, _, i, hi => by simp at hi
  | n :: r, _, _, h, i, hi => by
    cases h with
    | step hx _ _ h =>
      rcases List.mem_cons.1 hi with rfl | hi
      · exact q25 hx
      · exact y479 h i hi

theorem zTok : TOk PP y1 (byt z16) := y434 z16_n (fun b hb => by simp [z16] at hb; omega)

end

section
variable {l : List Ev}

theorem y539 (hl : OkEvs l) (h6 : l.length < 60000) {at_ : Int} (hat : isI at_) {A : List Hop} (hAe : opsL (y87 l) l at_ l.length = A) (hA : OkHops A) (h60 : A.length ≤ 60) :
    ∃ (b : Bool) (out : Value), acall PP TT q158 [tSl l.length (evR l), .int .i64 at_] [] = some (.tuple #[out, .bool b], [], none) ∧
      (b = true → ∃ r, Comp (A.map rw1) (fun _ => false) (byt z16) r ∧ out = tSl r.length (intsH (froms A r))) ∧ (b = false → out = tSl 0 [] ∧ Dead (A.map rw1) (fun _ => false) (byt z16)) := by
  have hq := fun H => qops_ok hl h6 hat H
  rw [ops_eq, hAe] at hq
  obtain ⟨b, o, H2, e2, hord, _, ht⟩ := q478 (y596 hA) (by simpa using h60) [] zTok
  rw [y460, List.length_map] at hord
  cases b with
  | false =>
    obtain ⟨rfl, hd⟩ := ht.no rfl
    refine ⟨false, tSl 0 [], ?_, fun h => by simp at h, fun _ => ⟨rfl, hd⟩⟩
    rw [q50, ghost_Order.eq]
    simp only [ghost_Order.sh, hq, y186, hord, Option.bind_some, Option.map_some, q9, y7, List.getD_cons_zero, List.getD_cons_succ, q27, q29, q30, q28, y27, q23, q31, y28, y25, q41, q14, decide_true, decide_false, Bool.not_true, Bool.not_false, y4, y14, ext20, ext21, ext30, ext31, ext32, if_true, q32, box_int, box_bool, box_slice, box_map, box_ptr, box_tSl, q18, store_int, store_bool, store_slice, store_map, store_ptr, store_tSl, q16, y19, q17, List.cons_append, List.nil_append, q34, List.length_cons, List.length_nil, Nat.zero_add, Nat.add_zero, Nat.reduceAdd, Nat.reduceLeDiff, Nat.le_refl, q10, q13, y8, y9, q11, y13, q22, q21, y16, q19, y43, q44, List.getElem?_cons_zero, List.getElem?_cons_succ, List.drop_zero, List.drop_succ_cons, List.take_zero, List.take_succ_cons, allCells_cons, allCells_nil, cellV_int, cellV_bool, cellV_string, cellV_ptr, cellV_slice, cellV_map, cellV_func, cellV_nilFunc, cellV_tSl, Bool.and_self, Bool.and_true, Bool.true_and, and_self, true_and, and_true, Bool.false_eq_true, if_false, lrefs_nil, lrefs_cons, vrefs_bool, vrefs_int, vrefs_string, vrefs_ptr, vrefs_ptr0, vrefs_slice, vrefs_slice0, vrefs_map, vrefs_tSl, vrefs_tPtr, vrefs_agg, q15, Int.reduceEq, Int.reduceLT, Int.reduceLE, y6, y5, y34, q33]
    have := q435 (P := PP) (H0 := []) (l := H2) (vs := [.slice none 0 0, .bool false]) (vs' := [tSl 0 [], .bool false]) (l' := H2) (e := q20 none e2) (by simp [frzL, frz]) (by simp) (esc0 _)
    exact this
  | true =>
    obtain ⟨r, rfl, hc⟩ := ht.yes rfl
    have hin := y479 hc
    simp only [List.length_map] at hin
    have hrl := y384 _ _ _ hc
    rw [List.length_map] at hrl
    have hlp := q486 (H := []) hA (by omega) hin (by omega) (vs := [tSl A.length (hopR A), .slice none 0 0, tSl r.length (rowC r), .int .i64 r.length, .int .i64 0]) (st := ⟨H2, q20 none e2⟩) (gc0 (by simp [y61, q193]))
    have hln : ∀ st, aLen PP q43 (tSl r.length (rowC r)) st = some (.int .i64 r.length) := fun st => q215 y266
    refine ⟨true, _, ?_, fun _ => ⟨r, hc, rfl⟩, fun h => by simp at h⟩
    rw [q50, ghost_Order.eq]
    simp only [List.length_nil, List.nil_append] at hlp
    simp only [ghost_Order.sh, hq, y186, hord, Option.bind_some, Option.map_some, q9, y7, List.getD_cons_zero, List.getD_cons_succ, q27, q29, q30, q28, y27, q23, q31, y28, y25, q41, q14, decide_true, decide_false, Bool.not_true, Bool.not_false, y4, y14, ext20, ext21, ext30, ext31, ext32, if_true, q32, box_int, box_bool, box_slice, box_map, box_ptr, box_tSl, q18, store_int, store_bool, store_slice, store_map, store_ptr, store_tSl, q16, y19, q17, List.cons_append, List.nil_append, q34, List.length_cons, List.length_nil, Nat.zero_add, Nat.add_zero, Nat.reduceAdd, Nat.reduceLeDiff, Nat.le_refl, q10, q13, y8, y9, q11, y13, q22, q21, y16, q19, y43, q44, List.getElem?_cons_zero, List.getElem?_cons_succ, List.drop_zero, List.drop_succ_cons, List.take_zero, List.take_succ_cons, allCells_cons, allCells_nil, cellV_int, cellV_bool, cellV_string, cellV_ptr, cellV_slice, cellV_map, cellV_func, cellV_nilFunc, cellV_tSl, Bool.and_self, Bool.and_true, Bool.true_and, and_self, true_and, and_true, Bool.false_eq_true, if_false, lrefs_nil, lrefs_cons, vrefs_bool, vrefs_int, vrefs_string, vrefs_ptr, vrefs_ptr0, vrefs_slice, vrefs_slice0, vrefs_map, vrefs_tSl, vrefs_tPtr, vrefs_agg, q15, Int.reduceEq, Int.reduceLT, Int.reduceLE, y6, y5, y34, q33, hln, hlp, ghost_Order.j2]
    have hfl : (froms A r).length = r.length := by simp [froms]
    rw [← hfl]
    generalize froms A r = B
    cases B with
    | nil =>
      have := q435 (P := PP) (H0 := []) (l := []) (vs := [.slice none 0 0, .bool true]) (vs' := [tSl 0 [], .bool true]) (l' := []) (e := none) (by simp [frzL, frz]) (by simp) (esc0 _)
      exact this
    | cons a tl =>
      have hf := q509 (P := PP) (H0 := []) (l := [.cells (intsH (a :: tl)) t_int true]) (q := 7) (n := tl.length + 1) (c := UNK) (sz := 1) (cs := intsH (a :: tl)) (t := t_int) rfl y446 (by simp) (y272 _)
      have := q435 (P := PP) (H0 := []) (l := [.cells (intsH (a :: tl)) t_int true]) (vs := [.slice (some ⟨0, 0, none⟩) (tl.length + 1) UNK, .bool true]) (vs' := [tSl (tl.length + 1) (intsH (a :: tl)), .bool true]) (l' := [.dead]) (e := none) (by
        simp only [frzL]
        rw [show (⟨0, 0, none⟩ : Addr) = ⟨([] : List Blk).length, 0, none⟩ from rfl, hf]
        rfl) (by simp [q69]) (esc0 _)
      exact this
end
end GH
end Go.Proofs.Ytfinilnkempofaa

end
section
namespace Go.Proofs.Ytfinilnkempofaa
open Go Go.Am Go.Reg
namespace GH

/-- the last op that was asked at a time -/
def lastN (A : List Hop) (at_ : Int) : Nat → Int
  | 0 => -1
  | n + 1 => match A[n]? with
    | some x => if x.f = at_ then (n : Int) else lastN A at_ n
    | none => lastN A at_ n

section
variable {A : List Hop} {H : List Blk}

def fr17 (n0 : Nat) (A : List Hop) (ps : List Int) (a k : Int) (fs : List Int) (i : Nat) (j : Nat) : List Value :=
  [tSl A.length (hopR A), rowO n0 ps, .int .i64 a, .int .i64 k, tSl fs.length (intsH fs), .int .i64 fs.length, .int .i64 i, tSl A.length (hopR A), .int .i64 A.length, .int .i64 j]

theorem inner17 (hA : OkHops A) (hm : A.length < 60000) (ps : List Int) (a : Int) (fs : List Int) (i : Nat) :
    loopG H.length (twainlaw49_GhostOrder.loop17s (acall PP TT) loopG H.length) (fr17 H.length A ps a (-1) fs i 0, ⟨H ++ blkO ps, none⟩) =
      some (.exit 2, [tSl A.length (hopR A), rowO H.length ps, .int .i64 (lastN A a A.length), tSl fs.length (intsH fs), .int .i64 fs.length, .int .i64 i], ⟨H ++ blkO ps, none⟩) := by
  have hlast : ¬ ((A.length : Int) < (A.length : Int)) := Int.lt_irrefl _
  obtain ⟨q, hlp, rfl⟩ := y257 (n0 := H.length) (step := twainlaw49_GhostOrder.loop17s (acall PP TT) loopG H.length) (len := A.length) (σ := Unit)
    (fun n _ => (fr17 H.length A ps a (lastN A a n) fs i n, ⟨H ++ blkO ps, none⟩))
    (fun _ _ => True) (fun q => q = (.exit 2, [tSl A.length (hopR A), rowO H.length ps, .int .i64 (lastN A a A.length), tSl fs.length (intsH fs), .int .i64 fs.length, .int .i64 i], ⟨H ++ blkO ps, none⟩))
    (fun n _ hn _ => by
      have hn' : ((n : Int) < (A.length : Int)) := by omega
      obtain ⟨x, hx⟩ : ∃ x, A[n]? = some x := ⟨_, List.getElem?_eq_getElem hn⟩
      have hxo := hA x (List.mem_of_getElem? hx)
      have hix := ix_rop (A := A) hn
      have hld := fun st => y391 hA hx st
      have hw := q100 (n := n) (by omega)
      have hxl := y155 hxo.v.1
      have h17 : (opk x)[17]? = some (.int .i64 x.f) := by
        simp only [opk, List.getElem?_cons_succ]
        rw [List.getElem?_append_right (by simp [byt, hxo.v.1])]
        simp [byt, hxo.v.1]
      have hnx : lastN A a (n + 1) = if x.f = a then (n : Int) else lastN A a n := by simp [lastN, hx]
      refine .inr ⟨fr17 H.length A ps a (lastN A a (n + 1)) fs i (n + 1), ⟨H ++ (blkO ps ++ [.cells (opk x) y2 true]), none⟩, (), ?_, ?_, trivial⟩
      · rw [hnx]
        by_cases hxa : x.f = a
        · cases ps <;> simp only [fr17, twainlaw49_GhostOrder.loop17s, twainlaw49_GhostOrder.loop17, twainlaw49_GhostOrder.j6, rowO, blkO, Option.bind_some, Option.map_some, q9, y7, List.getD_cons_zero, List.getD_cons_succ, q27, q29, q30, q28, y27, q23, q31, y28, y25, q41, q14, decide_true, decide_false, Bool.not_true, Bool.not_false, y4, y14, ext20, ext21, ext30, ext31, ext32, if_true, q32, box_int, box_bool, box_slice, box_map, box_ptr, box_tSl, q18, store_int, store_bool, store_slice, store_map, store_ptr, store_tSl, q16, y19, q17, List.cons_append, List.nil_append, q34, List.length_cons, List.length_nil, Nat.zero_add, Nat.add_zero, Nat.reduceAdd, Nat.reduceLeDiff, Nat.le_refl, q10, q13, y8, y9, q11, y13, q22, q21, y16, q19, y43, q44, List.getElem?_cons_zero, List.getElem?_cons_succ, List.drop_zero, List.drop_succ_cons, List.take_zero, List.take_succ_cons, allCells_cons, allCells_nil, cellV_int, cellV_bool, cellV_string, cellV_ptr, cellV_slice, cellV_map, cellV_func, cellV_nilFunc, cellV_tSl, Bool.and_self, Bool.and_true, Bool.true_and, and_self, true_and, and_true, Bool.false_eq_true, if_false, lrefs_nil, lrefs_cons, vrefs_bool, vrefs_int, vrefs_string, vrefs_ptr, vrefs_ptr0, vrefs_slice, vrefs_slice0, vrefs_map, vrefs_tSl, vrefs_tPtr, vrefs_agg, q15, Int.reduceEq, Int.reduceLT, Int.reduceLE, y6, y5, y34, q33, hn', hix, hld, y109, y104, y107, hxl, y86, y77, y15, y180, h17, hxa, hw, List.append_nil]
        · cases ps <;> simp only [fr17, twainlaw49_GhostOrder.loop17s, twainlaw49_GhostOrder.loop17, twainlaw49_GhostOrder.j6, rowO, blkO, Option.bind_some, Option.map_some, q9, y7, List.getD_cons_zero, List.getD_cons_succ, q27, q29, q30, q28, y27, q23, q31, y28, y25, q41, q14, decide_true, decide_false, Bool.not_true, Bool.not_false, y4, y14, ext20, ext21, ext30, ext31, ext32, if_true, q32, box_int, box_bool, box_slice, box_map, box_ptr, box_tSl, q18, store_int, store_bool, store_slice, store_map, store_ptr, store_tSl, q16, y19, q17, List.cons_append, List.nil_append, q34, List.length_cons, List.length_nil, Nat.zero_add, Nat.add_zero, Nat.reduceAdd, Nat.reduceLeDiff, Nat.le_refl, q10, q13, y8, y9, q11, y13, q22, q21, y16, q19, y43, q44, List.getElem?_cons_zero, List.getElem?_cons_succ, List.drop_zero, List.drop_succ_cons, List.take_zero, List.take_succ_cons, allCells_cons, allCells_nil, cellV_int, cellV_bool, cellV_string, cellV_ptr, cellV_slice, cellV_map, cellV_func, cellV_nilFunc, cellV_tSl, Bool.and_self, Bool.and_true, Bool.true_and, and_self, true_and, and_true, Bool.false_eq_true, if_false, lrefs_nil, lrefs_cons, vrefs_bool, vrefs_int, vrefs_string, vrefs_ptr, vrefs_ptr0, vrefs_slice, vrefs_slice0, vrefs_map, vrefs_tSl, vrefs_tPtr, vrefs_agg, q15, Int.reduceEq, Int.reduceLT, Int.reduceLE, y6, y5, y34, q33, hn', hix, hld, y109, y104, y107, hxl, y86, y77, y15, y180, h17, hxa, hw, List.append_nil]
      · cases ps with
        | nil => exact q131 [[]] [] [] rfl rfl (by simp [fr17, rowO, y61, q69]) (by simp [blkO, y36, y77]) (by simp [fr17, rowO, lren, vren, q65, y61, q69]) (by simp [blkO])
        | cons b tl => exact q131 [[], []] [0] [0] rfl rfl (by simp [fr17, rowO, y61, q69]) (by simp [blkO, y36, y77, q69]) (by simp [fr17, rowO, lren, vren, q105, q87, q65, y61, q69]) (by simp [blkO, y56, q90, q69]))
    (fun _ _ => ⟨_, by simp only [fr17, twainlaw49_GhostOrder.loop17s, twainlaw49_GhostOrder.loop17, Option.bind_some, Option.map_some, q9, y7, List.getD_cons_zero, List.getD_cons_succ, q27, q29, q30, q28, y27, q23, q31, y28, y25, q41, q14, decide_true, decide_false, Bool.not_true, Bool.not_false, y4, y14, ext20, ext21, ext30, ext31, ext32, if_true, q32, box_int, box_bool, box_slice, box_map, box_ptr, box_tSl, q18, store_int, store_bool, store_slice, store_map, store_ptr, store_tSl, q16, y19, q17, List.cons_append, List.nil_append, q34, List.length_cons, List.length_nil, Nat.zero_add, Nat.add_zero, Nat.reduceAdd, Nat.reduceLeDiff, Nat.le_refl, q10, q13, y8, y9, q11, y13, q22, q21, y16, q19, y43, q44, List.getElem?_cons_zero, List.getElem?_cons_succ, List.drop_zero, List.drop_succ_cons, List.take_zero, List.take_succ_cons, allCells_cons, allCells_nil, cellV_int, cellV_bool, cellV_string, cellV_ptr, cellV_slice, cellV_map, cellV_func, cellV_nilFunc, cellV_tSl, Bool.and_self, Bool.and_true, Bool.true_and, and_self, true_and, and_true, Bool.false_eq_true, if_false, lrefs_nil, lrefs_cons, vrefs_bool, vrefs_int, vrefs_string, vrefs_ptr, vrefs_ptr0, vrefs_slice, vrefs_slice0, vrefs_map, vrefs_tSl, vrefs_tPtr, vrefs_agg, q15, Int.reduceEq, Int.reduceLT, Int.reduceLE, y6, y5, y34, q33, hlast], rfl⟩)
    A.length 0 () _ _ (by omega) trivial (by
      show gc H.length (fr17 H.length A ps a (-1) fs i 0) ⟨H ++ blkO ps, none⟩ = (fr17 H.length A ps a (-1) fs i 0, ⟨H ++ blkO ps, none⟩)
      cases ps with
      | nil => exact q131 [] [] [] rfl rfl (by simp [fr17, rowO, y61, q69]) (by simp [blkO]) (by simp [fr17, rowO, lren, vren, q65, y61, q69]) (by simp [blkO])
      | cons b tl => exact q131 [[]] [0] [0] rfl rfl (by simp [fr17, rowO, y61, q69]) (by simp [blkO, y36, q69]) (by simp [fr17, rowO, lren, vren, q105, q87, q65, y61, q69]) (by simp [blkO, y56, q90, q69]))
  exact hlp

def lasts (A : List Hop) (fs : List Int) : List Int := fs.map fun a => lastN A a A.length

theorem outer13 (hA : OkHops A) (hm : A.length < 60000) (fs : List Int) (hfl : fs.length < 60000) {vs : List Value} {st : AS}
    (hg : gc H.length vs st = ([tSl A.length (hopR A), .slice none 0 0, tSl fs.length (intsH fs), .int .i64 fs.length, .int .i64 0], ⟨H, none⟩)) :
    loopG H.length (twainlaw49_GhostOrder.loop13s (acall PP TT) loopG H.length) (vs, st) =
      some (.exit 0, [tSl A.length (hopR A), rowO H.length (lasts A fs)], ⟨H ++ blkO (lasts A fs), none⟩) := by
  have hlast : ¬ ((fs.length : Int) < (fs.length : Int)) := Int.lt_irrefl _
  obtain ⟨q, hlp, rfl⟩ := y257 (n0 := H.length) (step := twainlaw49_GhostOrder.loop13s (acall PP TT) loopG H.length) (len := fs.length) (σ := Unit)
    (fun n _ => ([tSl A.length (hopR A), rowO H.length (lasts A (fs.take n)), tSl fs.length (intsH fs), .int .i64 fs.length, .int .i64 n], ⟨H ++ blkO (lasts A (fs.take n)), none⟩))
    (fun _ _ => True) (fun q => q = (.exit 0, [tSl A.length (hopR A), rowO H.length (lasts A fs)], ⟨H ++ blkO (lasts A fs), none⟩))
    (fun n _ hn _ => by
      have hn' : ((n : Int) < (fs.length : Int)) := by omega
      obtain ⟨a, ha⟩ : ∃ a, fs[n]? = some a := ⟨_, List.getElem?_eq_getElem hn⟩
      have hix := ix_int hn
      have hld := fun st => ld_int ha st
      have hw := q100 (n := n) (by omega)
      have htk : lasts A (fs.take (n + 1)) = lasts A (fs.take n) ++ [lastN A a A.length] := by
        rw [q245 ha]
        simp [lasts]
      have hlen : (lasts A (fs.take n)).length ≤ 65535 := by simp [lasts]; omega
      have hin := fun ps => inner17 (H := H) hA hm ps a fs n
      refine .inr ?_
      rw [htk]
      generalize lastN A a A.length = k at hin
      generalize lasts A (fs.take n) = B at hlen
      cases B with
      | nil =>
        refine ⟨[tSl A.length (hopR A), .slice (some ⟨H.length + 1, 0, none⟩) 1 UNK, tSl fs.length (intsH fs), .int .i64 fs.length, .int .i64 ((n + 1 : Nat) : Int)], ⟨H ++ [.cells [.int .i64 k] t_int true, .cells [.int .i64 k] t_int true], none⟩, (), ?_, ?_, trivial⟩
        · have hp0 := fun (e : Option Nat) (v : Int) (R : Type) (F : Value → AS → Option R) => y188 (H := H) (L := []) (e := e) (v := v) (F := F)
          simp only [List.append_nil, List.nil_append, List.length_nil, Nat.zero_add] at hp0
          have hi := hin []
          simp only [fr17, rowO, blkO, List.append_nil] at hi
          simp only [twainlaw49_GhostOrder.loop13s, twainlaw49_GhostOrder.loop13, twainlaw49_GhostOrder.j8, twainlaw49_GhostOrder.j9, rowO, blkO, Option.bind_some, Option.map_some, q9, y7, List.getD_cons_zero, List.getD_cons_succ, q27, q29, q30, q28, y27, q23, q31, y28, y25, q41, q14, decide_true, decide_false, Bool.not_true, Bool.not_false, y4, y14, ext20, ext21, ext30, ext31, ext32, if_true, q32, box_int, box_bool, box_slice, box_map, box_ptr, box_tSl, q18, store_int, store_bool, store_slice, store_map, store_ptr, store_tSl, q16, y19, q17, List.cons_append, List.nil_append, q34, List.length_cons, List.length_nil, Nat.zero_add, Nat.add_zero, Nat.reduceAdd, Nat.reduceLeDiff, Nat.le_refl, q10, q13, y8, y9, q11, y13, q22, q21, y16, q19, y43, q44, List.getElem?_cons_zero, List.getElem?_cons_succ, List.drop_zero, List.drop_succ_cons, List.take_zero, List.take_succ_cons, allCells_cons, allCells_nil, cellV_int, cellV_bool, cellV_string, cellV_ptr, cellV_slice, cellV_map, cellV_func, cellV_nilFunc, cellV_tSl, Bool.and_self, Bool.and_true, Bool.true_and, and_self, true_and, and_true, Bool.false_eq_true, if_false, lrefs_nil, lrefs_cons, vrefs_bool, vrefs_int, vrefs_string, vrefs_ptr, vrefs_ptr0, vrefs_slice, vrefs_slice0, vrefs_map, vrefs_tSl, vrefs_tPtr, vrefs_agg, q15, Int.reduceEq, Int.reduceLT, Int.reduceLE, y6, y5, y34, q33, hn', hix, hld, y609, hp0, hw, List.append_nil]
          simp only [Int.ofNat_zero] at hi
          simp only [hi, Option.bind_some, Option.map_some, q9, y7, List.getD_cons_zero, List.getD_cons_succ, q27, q29, q30, q28, y27, q23, q31, y28, y25, q41, q14, decide_true, decide_false, Bool.not_true, Bool.not_false, y4, y14, ext20, ext21, ext30, ext31, ext32, if_true, q32, box_int, box_bool, box_slice, box_map, box_ptr, box_tSl, q18, store_int, store_bool, store_slice, store_map, store_ptr, store_tSl, q16, y19, q17, List.cons_append, List.nil_append, q34, List.length_cons, List.length_nil, Nat.zero_add, Nat.add_zero, Nat.reduceAdd, Nat.reduceLeDiff, Nat.le_refl, q10, q13, y8, y9, q11, y13, q22, q21, y16, q19, y43, q44, List.getElem?_cons_zero, List.getElem?_cons_succ, List.drop_zero, List.drop_succ_cons, List.take_zero, List.take_succ_cons, allCells_cons, allCells_nil, cellV_int, cellV_bool, cellV_string, cellV_ptr, cellV_slice, cellV_map, cellV_func, cellV_nilFunc, cellV_tSl, Bool.and_self, Bool.and_true, Bool.true_and, and_self, true_and, and_true, Bool.false_eq_true, if_false, lrefs_nil, lrefs_cons, vrefs_bool, vrefs_int, vrefs_string, vrefs_ptr, vrefs_ptr0, vrefs_slice, vrefs_slice0, vrefs_map, vrefs_tSl, vrefs_tPtr, vrefs_agg, q15, Int.reduceEq, Int.reduceLT, Int.reduceLE, y6, y5, y34, q33, hp0, hw]
        · exact q131 [[], []] [1] [1] rfl rfl (by simp [y61, q69]) (by simp [y36]) (by simp [rowO, lren, vren, q125, q87, q65, y61, q69]) (by simp [blkO, y56, q90])
      | cons b tl =>
        have hpi := fun (L : List Blk) (e : Option Nat) (v : Int) (R : Type) (F : Value → AS → Option R) (hk : L[0]? = some (.cells (intsH (b :: tl)) t_int true)) => q333 (H := H) (A := b :: tl) (by omega) (e := e) (v := v) (F := F) hk
        simp only [List.length_cons, List.map_cons] at hpi
        refine ⟨[tSl A.length (hopR A), .slice (some ⟨H.length + 2, 0, none⟩) (tl.length + 1 + 1) UNK, tSl fs.length (intsH fs), .int .i64 fs.length, .int .i64 ((n + 1 : Nat) : Int)], ⟨H ++ [.dead, .cells [.int .i64 k] t_int true, .cells (intsH (b :: tl ++ [k])) t_int true], none⟩, (), ?_, ?_, trivial⟩
        · have hi := hin (b :: tl)
          simp only [fr17, rowO, blkO, List.append_nil, List.map_cons, Int.ofNat_zero] at hi
          simp only [twainlaw49_GhostOrder.loop13s, twainlaw49_GhostOrder.loop13, twainlaw49_GhostOrder.j8, twainlaw49_GhostOrder.j9, rowO, blkO, Option.bind_some, Option.map_some, q9, y7, List.getD_cons_zero, List.getD_cons_succ, q27, q29, q30, q28, y27, q23, q31, y28, y25, q41, q14, decide_true, decide_false, Bool.not_true, Bool.not_false, y4, y14, ext20, ext21, ext30, ext31, ext32, if_true, q32, box_int, box_bool, box_slice, box_map, box_ptr, box_tSl, q18, store_int, store_bool, store_slice, store_map, store_ptr, store_tSl, q16, y19, q17, List.cons_append, List.nil_append, q34, List.length_cons, List.length_nil, Nat.zero_add, Nat.add_zero, Nat.reduceAdd, Nat.reduceLeDiff, Nat.le_refl, q10, q13, y8, y9, q11, y13, q22, q21, y16, q19, y43, q44, List.getElem?_cons_zero, List.getElem?_cons_succ, List.drop_zero, List.drop_succ_cons, List.take_zero, List.take_succ_cons, allCells_cons, allCells_nil, cellV_int, cellV_bool, cellV_string, cellV_ptr, cellV_slice, cellV_map, cellV_func, cellV_nilFunc, cellV_tSl, Bool.and_self, Bool.and_true, Bool.true_and, and_self, true_and, and_true, Bool.false_eq_true, if_false, lrefs_nil, lrefs_cons, vrefs_bool, vrefs_int, vrefs_string, vrefs_ptr, vrefs_ptr0, vrefs_slice, vrefs_slice0, vrefs_map, vrefs_tSl, vrefs_tPtr, vrefs_agg, q15, Int.reduceEq, Int.reduceLT, Int.reduceLE, y6, y5, y34, q33, hn', hix, hld, y609, List.map_cons, hi, hpi, hw, List.set_cons_zero, List.map_append, List.map_nil]
        · exact q131 [[], [], []] [2] [2] rfl rfl (by simp [y61, q69]) (by simp [y36, q123, q69]) (by simp [rowO, lren, vren, q125, q87, q65, y61, q69]) (by simp [blkO, y56, q90, q69]))
    (fun _ _ => ⟨_, by simp only [twainlaw49_GhostOrder.loop13s, twainlaw49_GhostOrder.loop13, Option.bind_some, Option.map_some, q9, y7, List.getD_cons_zero, List.getD_cons_succ, q27, q29, q30, q28, y27, q23, q31, y28, y25, q41, q14, decide_true, decide_false, Bool.not_true, Bool.not_false, y4, y14, ext20, ext21, ext30, ext31, ext32, if_true, q32, box_int, box_bool, box_slice, box_map, box_ptr, box_tSl, q18, store_int, store_bool, store_slice, store_map, store_ptr, store_tSl, q16, y19, q17, List.cons_append, List.nil_append, q34, List.length_cons, List.length_nil, Nat.zero_add, Nat.add_zero, Nat.reduceAdd, Nat.reduceLeDiff, Nat.le_refl, q10, q13, y8, y9, q11, y13, q22, q21, y16, q19, y43, q44, List.getElem?_cons_zero, List.getElem?_cons_succ, List.drop_zero, List.drop_succ_cons, List.take_zero, List.take_succ_cons, allCells_cons, allCells_nil, cellV_int, cellV_bool, cellV_string, cellV_ptr, cellV_slice, cellV_map, cellV_func, cellV_nilFunc, cellV_tSl, Bool.and_self, Bool.and_true, Bool.true_and, and_self, true_and, and_true, Bool.false_eq_true, if_false, lrefs_nil, lrefs_cons, vrefs_bool, vrefs_int, vrefs_string, vrefs_ptr, vrefs_ptr0, vrefs_slice, vrefs_slice0, vrefs_map, vrefs_tSl, vrefs_tPtr, vrefs_agg, q15, Int.reduceEq, Int.reduceLT, Int.reduceLE, y6, y5, y34, q33, hlast, List.take_length], rfl⟩)
    fs.length 0 () vs st (by omega) trivial (by rw [hg]; simp [lasts, rowO, blkO])
  exact hlp
end
end GH
end Go.Proofs.Ytfinilnkempofaa

end
section
namespace Go.Proofs.Ytfinilnkempofaa
open Go Go.Am Go.Reg
namespace GH

theorem opD_f {E : Nat → Int} {l : List Ev} {at_ : Int} {n : Nat} {h : Hop} (hd : opD E l at_ n = some h) : h.f = n := by
  unfold opD at hd
  split at hd
  · simp at hd
  · split at hd
    · split at hd
      · simp at hd; subst hd; rfl
      · split at hd
        · simp at hd
        · split at hd
          · simp at hd; subst hd; rfl
          · simp at hd
    · simp at hd

/-- ops stand in the order of their times -/
def y604 (A : List Hop) (m : Int) : Prop := (∀ x ∈ A, 0 ≤ x.f ∧ x.f < m) ∧ ∀ (i j : Nat) (x y : Hop), A[i]? = some x → A[j]? = some y → x.f = y.f → i = j

theorem q318 (E : Nat → Int) (l : List Ev) (at_ : Int) : ∀ n, y604 (opsL E l at_ n) n
  | 0 => ⟨fun x hx => by simp [opsL] at hx, fun i j x y hx => by simp [opsL] at hx⟩
  | n + 1 => by
    obtain ⟨h1, h2⟩ := q318 E l at_ n
    simp only [opsL]
    cases hd : opD E l at_ n with
    | none => exact ⟨fun x hx => by have := h1 x hx; omega, h2⟩
    | some z =>
      have hz := opD_f hd
      simp only
      generalize opsL E l at_ n = A at h1 h2
      refine ⟨fun x hx => ?_, fun i j x y hx hy he => ?_⟩
      · rcases List.mem_append.1 hx with hx | hx
        · have := h1 x hx; omega
        · simp at hx; subst hx; omega
      · have key : ∀ (i : Nat) (x : Hop), (A ++ [z])[i]? = some x → (A[i]? = some x ∧ x.f < n) ∨ (i = A.length ∧ x.f = n) := fun i x hx => by
          by_cases hi : i < A.length
          · rw [List.getElem?_append_left hi] at hx
            exact .inl ⟨hx, (h1 x (List.mem_of_getElem? hx)).2⟩
          · rw [List.getElem?_append_right (by omega)] at hx
            by_cases h0 : i - A.length = 0
            · rw [h0] at hx; simp at hx; subst hx; exact .inr ⟨by omega, hz⟩
            · rw [List.getElem?_eq_none (by simp; omega)] at hx; simp at hx
        rcases key i x hx with ⟨hx, h3⟩ | ⟨hx, h3⟩ <;> rcases key j y hy with ⟨hy, h4⟩ | ⟨hy, h4⟩
        · exact h2 i j x y hx hy he
        · omega
        · omega
        · omega

theorem y505 {A : List Hop} {m : Int} (h : y604 A m) {i : Nat} {x : Hop} (hx : A[i]? = some x) : ∀ n, i < n → lastN A x.f n = i
  | 0, hi => by omega
  | n + 1, hi => by
    simp only [lastN]
    by_cases hn : i = n
    · subst hn; simp [hx]
    · have ih := y505 h hx n (by omega)
      cases hy : A[n]? with
      | none => simp only; exact ih
      | some y =>
        simp only
        rw [if_neg (fun he => hn (h.2 i n x y hx hy he.symm))]
        exact ih

theorem q327 {A : List Hop} {m : Int} (h : y604 A m) : ∀ {r : List Nat}, (∀ i ∈ r, i < A.length) → lasts A (froms A r) = ints r
  | [], _ => rfl
  | i :: r, hr => by
    have ih := q327 h (r := r) (fun j hj => hr j (by simp [hj]))
    have hi := hr i (by simp)
    obtain ⟨x, hx⟩ : ∃ x, A[i]? = some x := ⟨_, List.getElem?_eq_getElem hi⟩
    have h1 := y505 h hx A.length hi
    have h2 : fromA A i = x.f := by simp [fromA, hx]
    simp only [lasts, froms, ints, List.map_cons, h2, h1] at ih ⊢
    rw [ih]

theorem jfo (H0 : List Blk) (A : List Hop) (ps : List Int) : jFrz PP H0.length [tSl A.length (hopR A), rowO H0.length ps] ⟨H0 ++ blkO ps, none⟩ true = ([tSl A.length (hopR A), tSl ps.length (intsH ps)], ⟨H0 ++ (if ps = [] then [] else [.dead]), none⟩) := by
  cases ps with
  | nil => rfl
  | cons a tl =>
    have := q509 (P := PP) (H0 := H0) (l := [.cells (intsH (a :: tl)) t_int true]) (q := 7) (n := tl.length + 1) (c := UNK) (sz := 1) (cs := intsH (a :: tl)) (t := t_int) rfl y446 (by simp) (y272 _)
    simp only [jFrz, frzL, blkO, rowO, q127 H0.length 8 (tSl A.length (hopR A)) _ rfl, this]
    rfl

theorem gorder_law {l : List Ev} (hlT : EvTs l) (hm : l.length < 9223372036854775808) {at_ : Int} (hat : isI at_) : q219 (acall PP TT y110 [tSl l.length (evR l), .int .i64 at_] []) = true := by
  rw [q50, twainlaw49_GhostOrder.eq]
  cases hf : fewB l with
  | false =>
    simp only [twainlaw49_GhostOrder.sh, twainlaw49_GhostOrder.j0, few_ok l hm, hf, twainlaw49_lives.eq, Option.bind_some, Option.map_some, q9, y7, List.getD_cons_zero, List.getD_cons_succ, q27, q29, q30, q28, y27, q23, q31, y28, y25, q41, q14, decide_true, decide_false, Bool.not_true, Bool.not_false, y4, y14, ext20, ext21, ext30, ext31, ext32, if_true, q32, box_int, box_bool, box_slice, box_map, box_ptr, box_tSl, q18, store_int, store_bool, store_slice, store_map, store_ptr, store_tSl, q16, y19, q17, List.cons_append, List.nil_append, q34, List.length_cons, List.length_nil, Nat.zero_add, Nat.add_zero, Nat.reduceAdd, Nat.reduceLeDiff, Nat.le_refl, q10, q13, y8, y9, q11, y13, q22, q21, y16, q19, y43, q44, List.getElem?_cons_zero, List.getElem?_cons_succ, List.drop_zero, List.drop_succ_cons, List.take_zero, List.take_succ_cons, allCells_cons, allCells_nil, cellV_int, cellV_bool, cellV_string, cellV_ptr, cellV_slice, cellV_map, cellV_func, cellV_nilFunc, cellV_tSl, Bool.and_self, Bool.and_true, Bool.true_and, and_self, true_and, and_true, Bool.false_eq_true, if_false, lrefs_nil, lrefs_cons, vrefs_bool, vrefs_int, vrefs_string, vrefs_ptr, vrefs_ptr0, vrefs_slice, vrefs_slice0, vrefs_map, vrefs_tSl, vrefs_tPtr, vrefs_agg, q15, Int.reduceEq, Int.reduceLT, Int.reduceLE, y6, y5, y34, q33]
    exact q261
  | true =>
    have hl := few_ok2 hlT hf
    have h100 := few_len hf
    have h6 : l.length < 60000 := Nat.lt_of_le_of_lt h100 (by decide)
    have h7 : l.length < 1000000 := Nat.lt_of_le_of_lt h100 (by decide)
    have hfw := fun H => few_ok l hm H
    clear hm
    have hlr := fun st => q295 l st
    by_cases h8 : (l.length : Int) > 8
    · simp only [twainlaw49_GhostOrder.sh, twainlaw49_GhostOrder.j0, hfw, hf, twainlaw49_lives.eq, Option.bind_some, Option.map_some, q9, y7, List.getD_cons_zero, List.getD_cons_succ, q27, q29, q30, q28, y27, q23, q31, y28, y25, q41, q14, decide_true, decide_false, Bool.not_true, Bool.not_false, y4, y14, ext20, ext21, ext30, ext31, ext32, if_true, q32, box_int, box_bool, box_slice, box_map, box_ptr, box_tSl, q18, store_int, store_bool, store_slice, store_map, store_ptr, store_tSl, q16, y19, q17, List.cons_append, List.nil_append, q34, List.length_cons, List.length_nil, Nat.zero_add, Nat.add_zero, Nat.reduceAdd, Nat.reduceLeDiff, Nat.le_refl, q10, q13, y8, y9, q11, y13, q22, q21, y16, q19, y43, q44, List.getElem?_cons_zero, List.getElem?_cons_succ, List.drop_zero, List.drop_succ_cons, List.take_zero, List.take_succ_cons, allCells_cons, allCells_nil, cellV_int, cellV_bool, cellV_string, cellV_ptr, cellV_slice, cellV_map, cellV_func, cellV_nilFunc, cellV_tSl, Bool.and_self, Bool.and_true, Bool.true_and, and_self, true_and, and_true, Bool.false_eq_true, if_false, lrefs_nil, lrefs_cons, vrefs_bool, vrefs_int, vrefs_string, vrefs_ptr, vrefs_ptr0, vrefs_slice, vrefs_slice0, vrefs_map, vrefs_tSl, vrefs_tPtr, vrefs_agg, q15, Int.reduceEq, Int.reduceLT, Int.reduceLE, y6, y5, y34, q33, hlr, h8]
      exact q261
    have hE : ∀ n, isI (y87 l n) := fun n => (q247 h7 n).1
    obtain ⟨hA, hlen⟩ := q403 (E := y87 l) hl h7 hE at_ l.length
    have hris := q318 (y87 l) l at_ l.length
    have hro := fun H => rops_ok hl h6 hat H
    have hraw := fun H => raw_ok (l := l) h6 H
    have hgo := fun A => y539 hl h6 hat (A := A)
    generalize hAe : opsL (y87 l) l at_ l.length = A at hA hlen hris hro
    obtain ⟨b, out, hord, hyes, hno⟩ := hgo A hAe hA (by omega)
    obtain ⟨b2, kn, out2, H2, e2, hdoc, _, hy2, hn2⟩ := q531 (y596 hA) (by rw [List.length_map]; omega) [] zTok
    rw [y460, List.length_map] at hdoc
    have hsame : kn = true → b2 = b := fun hk => by
      cases b2 with
      | true =>
        obtain ⟨r, hr⟩ := hy2 rfl
        cases b with
        | true => rfl
        | false => exact absurd hr ((hno rfl).2 r)
      | false =>
        have hd := hn2 rfl hk
        cases b with
        | false => rfl
        | true => obtain ⟨r, hr, _⟩ := hyes rfl; exact absurd hr (hd r)
    cases b with
    | false =>
      obtain ⟨rfl, _⟩ := hno rfl
      have hl0 : ∀ st, aLen PP q43 (tSl 0 []) st = some (.int .i64 0) := fun st => q215 y266
      cases kn with
      | true =>
        have := hsame rfl
        subst this
        simp only [twainlaw49_GhostOrder.sh, twainlaw49_GhostOrder.j0, twainlaw49_GhostOrder.j1, twainlaw49_GhostOrder.j2, twainlaw49_GhostOrder.j3, hfw, hf, twainlaw49_lives.eq, Option.bind_some, Option.map_some, q9, y7, List.getD_cons_zero, List.getD_cons_succ, q27, q29, q30, q28, y27, q23, q31, y28, y25, q41, q14, decide_true, decide_false, Bool.not_true, Bool.not_false, y4, y14, ext20, ext21, ext30, ext31, ext32, if_true, q32, box_int, box_bool, box_slice, box_map, box_ptr, box_tSl, q18, store_int, store_bool, store_slice, store_map, store_ptr, store_tSl, q16, y19, q17, List.cons_append, List.nil_append, q34, List.length_cons, List.length_nil, Nat.zero_add, Nat.add_zero, Nat.reduceAdd, Nat.reduceLeDiff, Nat.le_refl, q10, q13, y8, y9, q11, y13, q22, q21, y16, q19, y43, q44, List.getElem?_cons_zero, List.getElem?_cons_succ, List.drop_zero, List.drop_succ_cons, List.take_zero, List.take_succ_cons, allCells_cons, allCells_nil, cellV_int, cellV_bool, cellV_string, cellV_ptr, cellV_slice, cellV_map, cellV_func, cellV_nilFunc, cellV_tSl, Bool.and_self, Bool.and_true, Bool.true_and, and_self, true_and, and_true, Bool.false_eq_true, if_false, lrefs_nil, lrefs_cons, vrefs_bool, vrefs_int, vrefs_string, vrefs_ptr, vrefs_ptr0, vrefs_slice, vrefs_slice0, vrefs_map, vrefs_tSl, vrefs_tPtr, vrefs_agg, q15, Int.reduceEq, Int.reduceLT, Int.reduceLE, y6, y5, y34, q33, hlr, h8, hraw, hord, hro, y186, hdoc, y329, bne_self_eq_false, hl0]
        exact q261
      | false =>
        simp only [twainlaw49_GhostOrder.sh, twainlaw49_GhostOrder.j0, twainlaw49_GhostOrder.j1, twainlaw49_GhostOrder.j2, twainlaw49_GhostOrder.j3, hfw, hf, twainlaw49_lives.eq, Option.bind_some, Option.map_some, q9, y7, List.getD_cons_zero, List.getD_cons_succ, q27, q29, q30, q28, y27, q23, q31, y28, y25, q41, q14, decide_true, decide_false, Bool.not_true, Bool.not_false, y4, y14, ext20, ext21, ext30, ext31, ext32, if_true, q32, box_int, box_bool, box_slice, box_map, box_ptr, box_tSl, q18, store_int, store_bool, store_slice, store_map, store_ptr, store_tSl, q16, y19, q17, List.cons_append, List.nil_append, q34, List.length_cons, List.length_nil, Nat.zero_add, Nat.add_zero, Nat.reduceAdd, Nat.reduceLeDiff, Nat.le_refl, q10, q13, y8, y9, q11, y13, q22, q21, y16, q19, y43, q44, List.getElem?_cons_zero, List.getElem?_cons_succ, List.drop_zero, List.drop_succ_cons, List.take_zero, List.take_succ_cons, allCells_cons, allCells_nil, cellV_int, cellV_bool, cellV_string, cellV_ptr, cellV_slice, cellV_map, cellV_func, cellV_nilFunc, cellV_tSl, Bool.and_self, Bool.and_true, Bool.true_and, and_self, true_and, and_true, Bool.false_eq_true, if_false, lrefs_nil, lrefs_cons, vrefs_bool, vrefs_int, vrefs_string, vrefs_ptr, vrefs_ptr0, vrefs_slice, vrefs_slice0, vrefs_map, vrefs_tSl, vrefs_tPtr, vrefs_agg, q15, Int.reduceEq, Int.reduceLT, Int.reduceLE, y6, y5, y34, q33, hlr, h8, hraw, hord, hro, y186, hdoc, y329, bne_self_eq_false, hl0]
        exact q261
    | true =>
      obtain ⟨r, hc, rfl⟩ := hyes rfl
      have hin := y479 hc
      simp only [List.length_map] at hin
      have hrl := y384 _ _ _ hc
      rw [List.length_map] at hrl
      have hfr : (froms A r).length = r.length := by simp [froms]
      have hll := q327 hris hin
      have hlp := outer13 (H := []) hA (by omega) (froms A r) (by rw [hfr]; omega) (vs := [tSl A.length (hopR A), .slice none 0 0, tSl (froms A r).length (intsH (froms A r)), .int .i64 (froms A r).length, .int .i64 0]) (st := ⟨H2, q20 none e2⟩) (gc0 (by simp [y61, q69]))
      have hj := jfo [] A (lasts A (froms A r))
      rw [hll] at hlp hj
      rw [hfr] at hlp
      have hini : (ints r).length = r.length := by simp [ints]
      obtain ⟨b5, H5, e5, hfits, _, hiff⟩ := fits_ok (row := ints r) (y596 hA) (by rw [List.length_map]; omega) (by rw [hini]; omega) (if ints r = [] then [] else [.dead]) zTok
      have hb5 : b5 = true := hiff.2 (q537 hc)
      subst hb5
      rw [y460, List.length_map] at hfits
      have hnum : nums (ints r) = intsH (ints r) := rfl
      rw [hnum] at hfits
      have hln : ∀ st, aLen PP q43 (tSl r.length (intsH (froms A r))) st = some (.int .i64 r.length) := fun st => q215 y266
      simp only [List.length_nil, List.nil_append] at hlp hj
      cases kn with
      | true =>
        have := hsame rfl
        subst this
        simp only [twainlaw49_GhostOrder.sh, twainlaw49_GhostOrder.j0, twainlaw49_GhostOrder.j1, twainlaw49_GhostOrder.j2, twainlaw49_GhostOrder.j3, twainlaw49_GhostOrder.j11, hfw, hf, twainlaw49_lives.eq, Option.bind_some, Option.map_some, q9, y7, List.getD_cons_zero, List.getD_cons_succ, q27, q29, q30, q28, y27, q23, q31, y28, y25, q41, q14, decide_true, decide_false, Bool.not_true, Bool.not_false, y4, y14, ext20, ext21, ext30, ext31, ext32, if_true, q32, box_int, box_bool, box_slice, box_map, box_ptr, box_tSl, q18, store_int, store_bool, store_slice, store_map, store_ptr, store_tSl, q16, y19, q17, List.cons_append, List.nil_append, q34, List.length_cons, List.length_nil, Nat.zero_add, Nat.add_zero, Nat.reduceAdd, Nat.reduceLeDiff, Nat.le_refl, q10, q13, y8, y9, q11, y13, q22, q21, y16, q19, y43, q44, List.getElem?_cons_zero, List.getElem?_cons_succ, List.drop_zero, List.drop_succ_cons, List.take_zero, List.take_succ_cons, allCells_cons, allCells_nil, cellV_int, cellV_bool, cellV_string, cellV_ptr, cellV_slice, cellV_map, cellV_func, cellV_nilFunc, cellV_tSl, Bool.and_self, Bool.and_true, Bool.true_and, and_self, true_and, and_true, Bool.false_eq_true, if_false, lrefs_nil, lrefs_cons, vrefs_bool, vrefs_int, vrefs_string, vrefs_ptr, vrefs_ptr0, vrefs_slice, vrefs_slice0, vrefs_map, vrefs_tSl, vrefs_tPtr, vrefs_agg, q15, Int.reduceEq, Int.reduceLT, Int.reduceLE, y6, y5, y34, q33, hlr, h8, hraw, hord, hro, y186, hdoc, y329, bne_self_eq_false, hln, hlp, hj, hfits]
        exact q261
      | false =>
        simp only [twainlaw49_GhostOrder.sh, twainlaw49_GhostOrder.j0, twainlaw49_GhostOrder.j1, twainlaw49_GhostOrder.j2, twainlaw49_GhostOrder.j3, twainlaw49_GhostOrder.j11, hfw, hf, twainlaw49_lives.eq, Option.bind_some, Option.map_some, q9, y7, List.getD_cons_zero, List.getD_cons_succ, q27, q29, q30, q28, y27, q23, q31, y28, y25, q41, q14, decide_true, decide_false, Bool.not_true, Bool.not_false, y4, y14, ext20, ext21, ext30, ext31, ext32, if_true, q32, box_int, box_bool, box_slice, box_map, box_ptr, box_tSl, q18, store_int, store_bool, store_slice, store_map, store_ptr, store_tSl, q16, y19, q17, List.cons_append, List.nil_append, q34, List.length_cons, List.length_nil, Nat.zero_add, Nat.add_zero, Nat.reduceAdd, Nat.reduceLeDiff, Nat.le_refl, q10, q13, y8, y9, q11, y13, q22, q21, y16, q19, y43, q44, List.getElem?_cons_zero, List.getElem?_cons_succ, List.drop_zero, List.drop_succ_cons, List.take_zero, List.take_succ_cons, allCells_cons, allCells_nil, cellV_int, cellV_bool, cellV_string, cellV_ptr, cellV_slice, cellV_map, cellV_func, cellV_nilFunc, cellV_tSl, Bool.and_self, Bool.and_true, Bool.true_and, and_self, true_and, and_true, Bool.false_eq_true, if_false, lrefs_nil, lrefs_cons, vrefs_bool, vrefs_int, vrefs_string, vrefs_ptr, vrefs_ptr0, vrefs_slice, vrefs_slice0, vrefs_map, vrefs_tSl, vrefs_tPtr, vrefs_agg, q15, Int.reduceEq, Int.reduceLT, Int.reduceLE, y6, y5, y34, q33, hlr, h8, hraw, hord, hro, y186, hdoc, y329, bne_self_eq_false, hln, hlp, hj, hfits]
        exact q261
end GH
end Go.Proofs.Ytfinilnkempofaa

end
