/- The law of what happened: both codes tell the same. -/
import Derived.Test.YtfinilnkempofaaHistPlain
set_option linter.all false
set_option linter.unusedVariables false
set_option linter.unusedSimpArgs false
set_option linter.unnecessarySimpa false
namespace Go.Proofs.Ytfinilnkempofaa
open Go Go.Am

theorem eql_true (ox oy : Operand) : aBin PP .eql t_bool ox oy (.bool true) (.bool true) = some (.bool true) := by kernel_rfl
theorem eql_false (ox oy : Operand) : aBin PP .eql t_bool ox oy (.bool false) (.bool false) = some (.bool true) := by kernel_rfl
theorem eql_bool (b : Bool) (ox oy : Operand) : aBin PP .eql t_bool ox oy (.bool b) (.bool b) = some (.bool true) := by
  cases b
  · exact eql_false ox oy
  · exact eql_true ox oy

/-- an event of the right kinds -/
structure EvT (x : Ev) : Prop where
  kind : isI x.kind
  who : isI x.who
  ticket : isI x.ticket
  rk : isI x.rk
  off : isI x.off
  len : isI x.len
  rd : ∀ b ∈ x.rd, 0 ≤ b ∧ b < 256
  d : ∀ b ∈ x.d, 0 ≤ b ∧ b < 256
def EvTs (l : List Ev) : Prop := ∀ x ∈ l, EvT x

theorem few_ok2 {l : List Ev} (hl : EvTs l) (hf : fewB l = true) : OkEvs l := fun x hx => by
  have h := hl x hx
  simp only [fewB, Bool.and_eq_true, decide_eq_true_eq, List.all_eq_true] at hf
  have h2 := hf.2 x hx
  exact ⟨h.kind, h.who, h.ticket, h.rk, h.off, h.len, ⟨by omega, h.rd⟩, ⟨by omega, h.d⟩⟩

theorem tokInt_inv {r : List Value} (h : TOk PP t_int r) : ∃ n, isI n ∧ r = [.int .i64 n] := by
  obtain ⟨n, rfl, hn⟩ := h.int_inv u_int
  rw [i64_min, i64_max] at hn
  exact ⟨n, by unfold isI; omega, rfl⟩

theorem bytes_of {r : List Value} (h : TOk PP t_L_uint8 r) : ∃ b : List Int, (∀ x ∈ b, 0 ≤ x ∧ x < 256) ∧ r = [tSl b.length (byt b)] := by
  obtain ⟨rows, rfl, _, hr⟩ := h.slice_inv u_L_uint8
  have key : ∀ rows : List (List Value), (∀ r ∈ rows, TOk PP t_uint8 r) → ∃ b : List Int, (∀ x ∈ b, 0 ≤ x ∧ x < 256) ∧ rows.length = b.length ∧ rows.flatten = byt b := by
    intro rows
    induction rows with
    | nil => intro _; exact ⟨[], fun x hx => by simp at hx, rfl, rfl⟩
    | cons r rs ih =>
      intro hr
      obtain ⟨b, h1, h2, h3⟩ := ih (fun x hx => hr x (by simp [hx]))
      obtain ⟨n, rfl, hn⟩ := (hr r (by simp)).int_inv u_uint8
      rw [u8_min, u8_max] at hn
      refine ⟨n :: b, fun x hx => ?_, by simp [h2], by simp [h3, byt]⟩
      rcases List.mem_cons.1 hx with rfl | hx
      · omega
      · exact h1 x hx
  obtain ⟨b, h1, h2, h3⟩ := key rows hr
  exact ⟨b, h1, by rw [h2, h3]⟩

theorem ev_of {r : List Value} (h : TOk PP t_twainref34_Event r) : ∃ x, EvT x ∧ r = evc x := by
  obtain ⟨ps, rfl, hp⟩ := h.struct_inv us_twainref34_Event
  rw [ty_twainref34_Event] at hp
  match ps, hp with
  | [a, b, c, d, e], ⟨ha, hb, hc, hd, he, _⟩ =>
    obtain ⟨kind, k1, rfl⟩ := tokInt_inv ha
    obtain ⟨who, k2, rfl⟩ := tokInt_inv hb
    obtain ⟨ticket, k3, rfl⟩ := tokInt_inv hc
    obtain ⟨qs, rfl, hq⟩ := hd.struct_inv us_api_Request
    rw [ty_api_Request] at hq
    obtain ⟨dd, k8, rfl⟩ := bytes_of he
    match qs, hq with
    | [f, g, i], ⟨hf, hg, hi, _⟩ =>
      obtain ⟨rk, k4, rfl⟩ := tokInt_inv hf
      obtain ⟨rd, k7, rfl⟩ := bytes_of hi
      obtain ⟨ss, rfl, hs⟩ := hg.struct_inv us_api_Span
      rw [ty_api_Span] at hs
      match ss, hs with
      | [u, v], ⟨hu, hv, _⟩ =>
        obtain ⟨off, k5, rfl⟩ := tokInt_inv hu
        obtain ⟨len, k6, rfl⟩ := tokInt_inv hv
        exact ⟨⟨kind, who, ticket, rk, off, len, rd, dd⟩, ⟨k1, k2, k3, k4, k5, k6, k7, k8⟩, rfl⟩

theorem evs_of : ∀ (rows : List (List Value)), (∀ r ∈ rows, TOk PP t_twainref34_Event r) → ∃ l, EvTs l ∧ rows = evs l
  | [], _ => ⟨[], fun x hx => by simp at hx, rfl⟩
  | r :: rs, h => by
    obtain ⟨l, h1, h2⟩ := evs_of rs (fun x hx => h x (by simp [hx]))
    obtain ⟨x, h3, rfl⟩ := ev_of (h r (by simp))
    refine ⟨x :: l, fun y hy => ?_, by rw [h2]; rfl⟩
    rcases List.mem_cons.1 hy with rfl | hy
    · exact h3
    · exact h1 y hy

theorem maxLen_lt : maxLen < 9223372036854775808 := by decide

theorem evs_arg {w : List Value} (h : TOk PP t_L_twainref34_Event w) : ∃ l, EvTs l ∧ l.length < 9223372036854775808 ∧ argV PP t_L_twainref34_Event w = tSl l.length (evR l) := by
  obtain ⟨rows, rfl, hm, hr⟩ := h.slice_inv u_L_twainref34_Event
  obtain ⟨l, h1, rfl⟩ := evs_of rows hr
  refine ⟨l, h1, ?_, ?_⟩
  · rw [evs_len] at hm
    exact Nat.lt_of_le_of_lt hm maxLen_lt
  · unfold argV
    rw [u_L_twainref34_Event, evs_len]
    rfl

section
variable {l : List Ev}

theorem few_len (h : fewB l = true) : l.length ≤ 100 := by
  simp only [fewB, Bool.and_eq_true, decide_eq_true_eq] at h
  exact h.1

theorem tells_law (hlT : EvTs l) (hm : l.length < 9223372036854775808) {at_ : Int} (hat : isI at_) : saysTrue (acall PP TT n_twainlaw36_HistoryTells [tSl l.length (evR l), .int .i64 at_] []) = true := by
  rw [acall_eq, twainlaw36_HistoryTells.eq]
  cases hf : fewB l with
  | false =>
    simp only [twainlaw36_HistoryTells.sh, few_ok l hm, hf, twainlaw36_lives.eq, Option.bind_some, Option.map_some, bcase_true, bcase_false, List.getD_cons_zero, List.getD_cons_succ, bin_add, bin_sub, bin_mul, bin_eql, bin_neq, bin_lss, bin_leq, bin_gtr, bin_geq, un_not, pick_bool, decide_true, decide_false, Bool.not_true, Bool.not_false, joinEsc_none, oneOf_one, ext20, ext21, ext30, ext31, ext32, if_true, box_lit, box_int, box_bool, box_slice, box_map, box_ptr, box_tSl, store_lit, store_int, store_bool, store_slice, store_map, store_ptr, store_tSl, load_one, load_agg, app_cons2, List.cons_append, List.nil_append, len_app, List.length_cons, List.length_nil, Nat.zero_add, Nat.add_zero, Nat.reduceAdd, Nat.reduceLeDiff, Nat.le_refl, cellAt_app0, cellAt_app, cellsAt_app0, cellsAt_app, storeL_own0, storeL_own, cellAt_z, cellAt_s, cellsAt_z, cellsAt_s, putB_z, putB_s, List.getElem?_cons_zero, List.getElem?_cons_succ, List.drop_zero, List.drop_succ_cons, List.take_zero, List.take_succ_cons, allCells_cons, allCells_nil, cellV_int, cellV_bool, cellV_string, cellV_ptr, cellV_slice, cellV_map, cellV_func, cellV_nilFunc, cellV_tSl, Bool.and_self, Bool.and_true, Bool.true_and, and_self, true_and, and_true, Bool.false_eq_true, if_false, lrefs_nil, lrefs_cons, vrefs_bool, vrefs_int, vrefs_string, vrefs_ptr, vrefs_ptr0, vrefs_slice, vrefs_slice0, vrefs_map, vrefs_tSl, vrefs_tPtr, vrefs_agg, escOf_nil, Int.reduceEq, Int.reduceLT, Int.reduceLE, putCells_one0, putCells_succ, max_int, min_int]
    rfl
  | true =>
    have hl := few_ok2 hlT hf
    have h100 := few_len hf
    have h6 : l.length < 60000 := Nat.lt_of_le_of_lt h100 (by decide)
    have h7 : l.length < 1000000 := Nat.lt_of_le_of_lt h100 (by decide)
    have hfw := fun H => few_ok l hm H
    clear hm
    have hE : ∀ n, isI (endedI l n) := fun n => (endedI_isI h7 n).1
    obtain ⟨hok, hlen⟩ := opsL_ok (E := endedI l) hl h7 hE at_ l.length
    have h8 : (opsL (endedI l) l at_ l.length).length < 60000 := by omega
    have hq := fun H => qops_ok hl h6 hat H
    simp only [ops_eq] at hq
    have hol := openL_len (rOpenB l) l.length
    have h9 : (openL (rOpenB l) l.length).length < 60000 := by omega
    have hop := fun H => open_ok hl h6 H
    rw [open_eq (l := l) h7] at hop
    have hod := fun H => odd_ok hl h7 H
    simp only [odd_eq] at hod
    simp only [twainlaw36_HistoryTells.sh, hfw, hf, twainlaw36_lives.eq, Option.bind_some, Option.map_some, bcase_true, bcase_false, List.getD_cons_zero, List.getD_cons_succ, bin_add, bin_sub, bin_mul, bin_eql, bin_neq, bin_lss, bin_leq, bin_gtr, bin_geq, un_not, pick_bool, decide_true, decide_false, Bool.not_true, Bool.not_false, joinEsc_none, oneOf_one, ext20, ext21, ext30, ext31, ext32, if_true, box_lit, box_int, box_bool, box_slice, box_map, box_ptr, box_tSl, store_lit, store_int, store_bool, store_slice, store_map, store_ptr, store_tSl, load_one, load_agg, app_cons2, List.cons_append, List.nil_append, len_app, List.length_cons, List.length_nil, Nat.zero_add, Nat.add_zero, Nat.reduceAdd, Nat.reduceLeDiff, Nat.le_refl, cellAt_app0, cellAt_app, cellsAt_app0, cellsAt_app, storeL_own0, storeL_own, cellAt_z, cellAt_s, cellsAt_z, cellsAt_s, putB_z, putB_s, List.getElem?_cons_zero, List.getElem?_cons_succ, List.drop_zero, List.drop_succ_cons, List.take_zero, List.take_succ_cons, allCells_cons, allCells_nil, cellV_int, cellV_bool, cellV_string, cellV_ptr, cellV_slice, cellV_map, cellV_func, cellV_nilFunc, cellV_tSl, Bool.and_self, Bool.and_true, Bool.true_and, and_self, true_and, and_true, Bool.false_eq_true, if_false, lrefs_nil, lrefs_cons, vrefs_bool, vrefs_int, vrefs_string, vrefs_ptr, vrefs_ptr0, vrefs_slice, vrefs_slice0, vrefs_map, vrefs_tSl, vrefs_tPtr, vrefs_agg, escOf_nil, Int.reduceEq, Int.reduceLT, Int.reduceLE, putCells_one0, putCells_succ, max_int, min_int, raw_ok (l := l) h6, hq, conv_ok hok h8, rops_ok hl h6 hat, same_ok hok h8, hop, ropen_ok hl h6, ints_same _ h9, hod, rodd_ok hl h6, eql_bool]
    rfl

end
end Go.Proofs.Ytfinilnkempofaa
