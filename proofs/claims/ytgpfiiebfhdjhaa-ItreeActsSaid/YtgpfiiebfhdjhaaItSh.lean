/- A part of the proof: ItSh. Its conditions: none. -/
import Derived.Test.YtgpfiiebfhdjhaaItShD
set_option linter.all false
set_option linter.unusedVariables false
set_option linter.unusedSimpArgs false
set_option linter.unnecessarySimpa false
namespace Go.Proofs.Ytgpfiiebfhdjhaa
open Go Go.Am
set_option linter.unusedVariables false
def TT : FuncId → Tab := fun f => if f = n_twainlaw14_ItreeHeight then twainlaw14_ItreeHeight.T else if f = n_twainlaw14_ItreeFinds then twainlaw14_ItreeFinds.T else if f = n_twainlaw14_ItreeActs then twainlaw14_ItreeActs.T else if f = n_itree_New then itree_New.T else if f = n_P_itree_Tree_Insert then P_itree_Tree_Insert.T else if f = n_P_itree_Tree_Height then P_itree_Tree_Height.T else if f = n_twainlaw14_bits then twainlaw14_bits.T else if f = n_P_itree_Tree_Len then P_itree_Tree_Len.T else if f = n_P_itree_Tree_Delete then P_itree_Tree_Delete.T else if f = n_twainlaw14_has then twainlaw14_has.T else if f = n_P_itree_Tree_Overlaps then P_itree_Tree_Overlaps.T else if f = n_P_itree_Tree_Any then P_itree_Tree_Any.T else if f = n_P_twainref14_Tree_Delete then P_twainref14_Tree_Delete.T else if f = n_P_twainref14_Tree_Insert then P_twainref14_Tree_Insert.T else if f = n_P_twainref14_Tree_Overlaps then P_twainref14_Tree_Overlaps.T else if f = n_twainref01_Ints then twainref01_Ints.T else if f = n_P_itree_Tree_Ids then P_itree_Tree_Ids.T else if f = n_P_twainref14_Tree_Ids then P_twainref14_Tree_Ids.T else if f = n_P_itree_Tree_is then P_itree_Tree_is.T else if f = n_span_Plain then span_Plain.T else if f = n_P_itree_Tree_has then P_itree_Tree_has.T else if f = n_itree_add then itree_add.T else if f = n_itree_height then itree_height.T else if f = n_itree_isRed then itree_isRed.T else if f = n_itree_cut then itree_cut.T else if f = n_itree_walk then itree_walk.T else if f = n_P_itree_Tree_Overlaps_1 then P_itree_Tree_Overlaps_1.T else if f = n_P_itree_Tree_Any_1 then P_itree_Tree_Any_1.T else if f = n_P_twainref14_Tree_place then P_twainref14_Tree_place.T else if f = n_twainref04_Plain then twainref04_Plain.T else if f = n_twainref04_Overlap then twainref04_Overlap.T else if f = n_itree_ids then itree_ids.T else if f = n_span_within then span_within.T else if f = n_itree_compare then itree_compare.T else if f = n_P_itree_node_mend then P_itree_node_mend.T else if f = n_itree_settle then itree_settle.T else if f = n_itree_redLeft then itree_redLeft.T else if f = n_itree_turn then itree_turn.T else if f = n_itree_redRight then itree_redRight.T else if f = n_itree_first then itree_first.T else if f = n_itree_behead then itree_behead.T else if f = n_span_End then span_End.T else if f = n_span_Overlap then span_Overlap.T else if f = n_twainref14_less then twainref14_less.T else if f = n_twainref04_Meet then twainref04_Meet.T else if f = n_cmp_Or_int then cmp_Or_int.T else if f = n_cmp_Compare_int then cmp_Compare_int.T else if f = n_itree_reach then itree_reach.T else if f = n_itree_flip then itree_flip.T else if f = n_span_Meet then span_Meet.T else if f = n_cmp_isNaN_int then cmp_isNaN_int.T else if f = n_span_side_from then span_side_from.T else if f = n_span_side_to then span_side_to.T else if f = n_twainlaw14_lives then twainlaw14_lives.T else ⟨fun _ => none, fun _ => none, false, fun _ => none, fun _ => false, false, false, fun _ => false⟩
def TT1 : FuncId → Tab := fun f => { TT f with lives := false }
theorem twainlaw14_ItreeHeight.eq (C : Am.Callee) (L : Loops) (t0 t1 t2 : Value) (H : List Blk) : ebody PP TT C L n_twainlaw14_ItreeHeight [t0, t1, t2] H = twainlaw14_ItreeHeight.sh C L H.length t0 t1 t2 ⟨H, none⟩ := by kernel_rfl
theorem twainlaw14_ItreeFinds.eq (C : Am.Callee) (L : Loops) (t0 t1 : Value) (H : List Blk) : ebody PP TT C L n_twainlaw14_ItreeFinds [t0, t1] H = twainlaw14_ItreeFinds.sh C L H.length t0 t1 ⟨H, none⟩ := by kernel_rfl
theorem twainlaw14_ItreeActs.eq (C : Am.Callee) (L : Loops) (t0 t1 : Value) (H : List Blk) : ebody PP TT C L n_twainlaw14_ItreeActs [t0, t1] H = twainlaw14_ItreeActs.sh C L H.length t0 t1 ⟨H, none⟩ := by kernel_rfl
theorem itree_New.eq (C : Am.Callee) (L : Loops) (H : List Blk) : ebody PP TT C L n_itree_New [] H = itree_New.sh C L H.length  ⟨H, none⟩ := by kernel_rfl
theorem P_itree_Tree_Insert.eq (C : Am.Callee) (L : Loops) (t0 t1 t2 : Value) (H : List Blk) : ebody PP TT C L n_P_itree_Tree_Insert [t0, t1, t2] H = P_itree_Tree_Insert.sh C L H.length t0 t1 t2 ⟨H, none⟩ := by kernel_rfl
theorem P_itree_Tree_Height.eq (C : Am.Callee) (L : Loops) (t0 : Value) (H : List Blk) : ebody PP TT C L n_P_itree_Tree_Height [t0] H = P_itree_Tree_Height.sh C L H.length t0 ⟨H, none⟩ := by kernel_rfl
theorem twainlaw14_bits.eq (C : Am.Callee) (L : Loops) (t0 : Value) (H : List Blk) : ebody PP TT C L n_twainlaw14_bits [t0] H = twainlaw14_bits.sh C L H.length t0 ⟨H, none⟩ := by kernel_rfl
theorem P_itree_Tree_Len.eq (C : Am.Callee) (L : Loops) (t0 : Value) (H : List Blk) : ebody PP TT C L n_P_itree_Tree_Len [t0] H = P_itree_Tree_Len.sh C L H.length t0 ⟨H, none⟩ := by kernel_rfl
theorem P_itree_Tree_Delete.eq (C : Am.Callee) (L : Loops) (t0 t1 t2 : Value) (H : List Blk) : ebody PP TT C L n_P_itree_Tree_Delete [t0, t1, t2] H = P_itree_Tree_Delete.sh C L H.length t0 t1 t2 ⟨H, none⟩ := by kernel_rfl
theorem twainlaw14_has.eq (C : Am.Callee) (L : Loops) (t0 t1 : Value) (H : List Blk) : ebody PP TT C L n_twainlaw14_has [t0, t1] H = twainlaw14_has.sh C L H.length t0 t1 ⟨H, none⟩ := by kernel_rfl
theorem P_itree_Tree_Overlaps.eq (C : Am.Callee) (L : Loops) (t0 t1 : Value) (H : List Blk) : ebody PP TT C L n_P_itree_Tree_Overlaps [t0, t1] H = P_itree_Tree_Overlaps.sh C L H.length t0 t1 ⟨H, none⟩ := by kernel_rfl
theorem P_itree_Tree_Any.eq (C : Am.Callee) (L : Loops) (t0 t1 : Value) (H : List Blk) : ebody PP TT C L n_P_itree_Tree_Any [t0, t1] H = P_itree_Tree_Any.sh C L H.length t0 t1 ⟨H, none⟩ := by kernel_rfl
theorem P_twainref14_Tree_Delete.eq (C : Am.Callee) (L : Loops) (t0 t1 t2 : Value) (H : List Blk) : ebody PP TT C L n_P_twainref14_Tree_Delete [t0, t1, t2] H = P_twainref14_Tree_Delete.sh C L H.length t0 t1 t2 ⟨H, none⟩ := by kernel_rfl
theorem P_twainref14_Tree_Insert.eq (C : Am.Callee) (L : Loops) (t0 t1 t2 : Value) (H : List Blk) : ebody PP TT C L n_P_twainref14_Tree_Insert [t0, t1, t2] H = P_twainref14_Tree_Insert.sh C L H.length t0 t1 t2 ⟨H, none⟩ := by kernel_rfl
theorem P_twainref14_Tree_Overlaps.eq (C : Am.Callee) (L : Loops) (t0 t1 : Value) (H : List Blk) : ebody PP TT C L n_P_twainref14_Tree_Overlaps [t0, t1] H = P_twainref14_Tree_Overlaps.sh C L H.length t0 t1 ⟨H, none⟩ := by kernel_rfl
theorem twainref01_Ints.eq (C : Am.Callee) (L : Loops) (t0 t1 : Value) (H : List Blk) : ebody PP TT C L n_twainref01_Ints [t0, t1] H = twainref01_Ints.sh C L H.length t0 t1 ⟨H, none⟩ := by kernel_rfl
theorem P_itree_Tree_Ids.eq (C : Am.Callee) (L : Loops) (t0 : Value) (H : List Blk) : ebody PP TT C L n_P_itree_Tree_Ids [t0] H = P_itree_Tree_Ids.sh C L H.length t0 ⟨H, none⟩ := by kernel_rfl
theorem P_twainref14_Tree_Ids.eq (C : Am.Callee) (L : Loops) (t0 : Value) (H : List Blk) : ebody PP TT C L n_P_twainref14_Tree_Ids [t0] H = P_twainref14_Tree_Ids.sh C L H.length t0 ⟨H, none⟩ := by kernel_rfl
theorem P_itree_Tree_is.eq (C : Am.Callee) (L : Loops) (t0 : Value) (H : List Blk) : ebody PP TT C L n_P_itree_Tree_is [t0] H = P_itree_Tree_is.sh C L H.length t0 ⟨H, none⟩ := by kernel_rfl
theorem span_Plain.eq (C : Am.Callee) (L : Loops) (t0 : Value) (H : List Blk) : ebody PP TT C L n_span_Plain [t0] H = span_Plain.sh C L H.length t0 ⟨H, none⟩ := by kernel_rfl
theorem P_itree_Tree_has.eq (C : Am.Callee) (L : Loops) (t0 t1 : Value) (H : List Blk) : ebody PP TT C L n_P_itree_Tree_has [t0, t1] H = P_itree_Tree_has.sh C L H.length t0 t1 ⟨H, none⟩ := by kernel_rfl
theorem itree_add.eq (C : Am.Callee) (L : Loops) (t0 t1 : Value) (H : List Blk) : ebody PP TT C L n_itree_add [t0, t1] H = itree_add.sh C L H.length t0 t1 ⟨H, none⟩ := by kernel_rfl
theorem itree_height.eq (C : Am.Callee) (L : Loops) (t0 : Value) (H : List Blk) : ebody PP TT C L n_itree_height [t0] H = itree_height.sh C L H.length t0 ⟨H, none⟩ := by kernel_rfl
theorem itree_isRed.eq (C : Am.Callee) (L : Loops) (t0 : Value) (H : List Blk) : ebody PP TT C L n_itree_isRed [t0] H = itree_isRed.sh C L H.length t0 ⟨H, none⟩ := by kernel_rfl
theorem itree_cut.eq (C : Am.Callee) (L : Loops) (t0 t1 : Value) (H : List Blk) : ebody PP TT C L n_itree_cut [t0, t1] H = itree_cut.sh C L H.length t0 t1 ⟨H, none⟩ := by kernel_rfl
theorem itree_walk.eq (C : Am.Callee) (L : Loops) (t0 t1 t2 : Value) (H : List Blk) : ebody PP TT C L n_itree_walk [t0, t1, t2] H = itree_walk.sh C L H.length t0 t1 t2 ⟨H, none⟩ := by kernel_rfl
theorem P_itree_Tree_Overlaps_1.eq (C : Am.Callee) (L : Loops) (t0 t1 : Value) (H : List Blk) : ebody PP TT C L n_P_itree_Tree_Overlaps_1 [t0, t1] H = P_itree_Tree_Overlaps_1.sh C L H.length t0 t1 ⟨H, none⟩ := by kernel_rfl
theorem P_itree_Tree_Any_1.eq (C : Am.Callee) (L : Loops) (t0 : Value) (H : List Blk) : ebody PP TT C L n_P_itree_Tree_Any_1 [t0] H = P_itree_Tree_Any_1.sh C L H.length t0 ⟨H, none⟩ := by kernel_rfl
theorem P_twainref14_Tree_place.eq (C : Am.Callee) (L : Loops) (t0 t1 : Value) (H : List Blk) : ebody PP TT C L n_P_twainref14_Tree_place [t0, t1] H = P_twainref14_Tree_place.sh C L H.length t0 t1 ⟨H, none⟩ := by kernel_rfl
theorem twainref04_Plain.eq (C : Am.Callee) (L : Loops) (t0 : Value) (H : List Blk) : ebody PP TT C L n_twainref04_Plain [t0] H = twainref04_Plain.sh C L H.length t0 ⟨H, none⟩ := by kernel_rfl
theorem twainref04_Overlap.eq (C : Am.Callee) (L : Loops) (t0 t1 : Value) (H : List Blk) : ebody PP TT C L n_twainref04_Overlap [t0, t1] H = twainref04_Overlap.sh C L H.length t0 t1 ⟨H, none⟩ := by kernel_rfl
theorem itree_ids.eq (C : Am.Callee) (L : Loops) (t0 t1 : Value) (H : List Blk) : ebody PP TT C L n_itree_ids [t0, t1] H = itree_ids.sh C L H.length t0 t1 ⟨H, none⟩ := by kernel_rfl
theorem span_within.eq (C : Am.Callee) (L : Loops) (t0 : Value) (H : List Blk) : ebody PP TT C L n_span_within [t0] H = span_within.sh C L H.length t0 ⟨H, none⟩ := by kernel_rfl
theorem itree_compare.eq (C : Am.Callee) (L : Loops) (t0 t1 : Value) (H : List Blk) : ebody PP TT C L n_itree_compare [t0, t1] H = itree_compare.sh C L H.length t0 t1 ⟨H, none⟩ := by kernel_rfl
theorem P_itree_node_mend.eq (C : Am.Callee) (L : Loops) (t0 : Value) (H : List Blk) : ebody PP TT C L n_P_itree_node_mend [t0] H = P_itree_node_mend.sh C L H.length t0 ⟨H, none⟩ := by kernel_rfl
theorem itree_settle.eq (C : Am.Callee) (L : Loops) (t0 : Value) (H : List Blk) : ebody PP TT C L n_itree_settle [t0] H = itree_settle.sh C L H.length t0 ⟨H, none⟩ := by kernel_rfl
theorem itree_redLeft.eq (C : Am.Callee) (L : Loops) (t0 : Value) (H : List Blk) : ebody PP TT C L n_itree_redLeft [t0] H = itree_redLeft.sh C L H.length t0 ⟨H, none⟩ := by kernel_rfl
theorem itree_turn.eq (C : Am.Callee) (L : Loops) (t0 t1 : Value) (H : List Blk) : ebody PP TT C L n_itree_turn [t0, t1] H = itree_turn.sh C L H.length t0 t1 ⟨H, none⟩ := by kernel_rfl
theorem itree_redRight.eq (C : Am.Callee) (L : Loops) (t0 : Value) (H : List Blk) : ebody PP TT C L n_itree_redRight [t0] H = itree_redRight.sh C L H.length t0 ⟨H, none⟩ := by kernel_rfl
theorem itree_first.eq (C : Am.Callee) (L : Loops) (t0 : Value) (H : List Blk) : ebody PP TT C L n_itree_first [t0] H = itree_first.sh C L H.length t0 ⟨H, none⟩ := by kernel_rfl
theorem itree_behead.eq (C : Am.Callee) (L : Loops) (t0 : Value) (H : List Blk) : ebody PP TT C L n_itree_behead [t0] H = itree_behead.sh C L H.length t0 ⟨H, none⟩ := by kernel_rfl
theorem span_End.eq (C : Am.Callee) (L : Loops) (t0 : Value) (H : List Blk) : ebody PP TT C L n_span_End [t0] H = span_End.sh C L H.length t0 ⟨H, none⟩ := by kernel_rfl
theorem span_Overlap.eq (C : Am.Callee) (L : Loops) (t0 t1 : Value) (H : List Blk) : ebody PP TT C L n_span_Overlap [t0, t1] H = span_Overlap.sh C L H.length t0 t1 ⟨H, none⟩ := by kernel_rfl
theorem twainref14_less.eq (C : Am.Callee) (L : Loops) (t0 t1 : Value) (H : List Blk) : ebody PP TT C L n_twainref14_less [t0, t1] H = twainref14_less.sh C L H.length t0 t1 ⟨H, none⟩ := by kernel_rfl
theorem twainref04_Meet.eq (C : Am.Callee) (L : Loops) (t0 t1 : Value) (H : List Blk) : ebody PP TT C L n_twainref04_Meet [t0, t1] H = twainref04_Meet.sh C L H.length t0 t1 ⟨H, none⟩ := by kernel_rfl
theorem cmp_Or_int.eq (C : Am.Callee) (L : Loops) (t0 : Value) (H : List Blk) : ebody PP TT C L n_cmp_Or_int [t0] H = cmp_Or_int.sh C L H.length t0 ⟨H, none⟩ := by kernel_rfl
theorem cmp_Compare_int.eq (C : Am.Callee) (L : Loops) (t0 t1 : Value) (H : List Blk) : ebody PP TT C L n_cmp_Compare_int [t0, t1] H = cmp_Compare_int.sh C L H.length t0 t1 ⟨H, none⟩ := by kernel_rfl
theorem itree_reach.eq (C : Am.Callee) (L : Loops) (t0 : Value) (H : List Blk) : ebody PP TT C L n_itree_reach [t0] H = itree_reach.sh C L H.length t0 ⟨H, none⟩ := by kernel_rfl
theorem itree_flip.eq (C : Am.Callee) (L : Loops) (t0 : Value) (H : List Blk) : ebody PP TT C L n_itree_flip [t0] H = itree_flip.sh C L H.length t0 ⟨H, none⟩ := by kernel_rfl
theorem span_Meet.eq (C : Am.Callee) (L : Loops) (t0 t1 : Value) (H : List Blk) : ebody PP TT C L n_span_Meet [t0, t1] H = span_Meet.sh C L H.length t0 t1 ⟨H, none⟩ := by kernel_rfl
theorem cmp_isNaN_int.eq (C : Am.Callee) (L : Loops) (t0 : Value) (H : List Blk) : ebody PP TT C L n_cmp_isNaN_int [t0] H = cmp_isNaN_int.sh C L H.length t0 ⟨H, none⟩ := by kernel_rfl
theorem span_side_from.eq (C : Am.Callee) (L : Loops) (t0 t1 : Value) (H : List Blk) : ebody PP TT C L n_span_side_from [t0, t1] H = span_side_from.sh C L H.length t0 t1 ⟨H, none⟩ := by kernel_rfl
theorem span_side_to.eq (C : Am.Callee) (L : Loops) (t0 t1 : Value) (H : List Blk) : ebody PP TT C L n_span_side_to [t0, t1] H = span_side_to.sh C L H.length t0 t1 ⟨H, none⟩ := by kernel_rfl
theorem twainlaw14_lives.eq (H : List Blk) : acall PP TT n_twainlaw14_lives [] H = some (.bool true, H, none) := by rw [acall_eq]; kernel_rfl
theorem twainlaw14_lives.lives : Lives PP n_twainlaw14_lives := lives_of (T := TT1) (fun _ => rfl) (n := 40) (by kernel_rfl)
theorem TT_lives : ∀ f, (TT f).lives = true → Lives PP f := by
  intro f h
  unfold TT at h
  by_cases h3 : f = n_twainlaw14_ItreeHeight
  · subst h3; simp [twainlaw14_ItreeHeight.T] at h
  simp only [h3, if_false] at h
  by_cases h4 : f = n_twainlaw14_ItreeFinds
  · subst h4; simp [twainlaw14_ItreeFinds.T] at h
  simp only [h4, if_false] at h
  by_cases h5 : f = n_twainlaw14_ItreeActs
  · subst h5; simp [twainlaw14_ItreeActs.T] at h
  simp only [h5, if_false] at h
  by_cases h8 : f = n_itree_New
  · subst h8; simp [itree_New.T] at h
  simp only [h8, if_false] at h
  by_cases h9 : f = n_P_itree_Tree_Insert
  · subst h9; simp [P_itree_Tree_Insert.T] at h
  simp only [h9, if_false] at h
  by_cases h10 : f = n_P_itree_Tree_Height
  · subst h10; simp [P_itree_Tree_Height.T] at h
  simp only [h10, if_false] at h
  by_cases h11 : f = n_twainlaw14_bits
  · subst h11; simp [twainlaw14_bits.T] at h
  simp only [h11, if_false] at h
  by_cases h12 : f = n_P_itree_Tree_Len
  · subst h12; simp [P_itree_Tree_Len.T] at h
  simp only [h12, if_false] at h
  by_cases h13 : f = n_P_itree_Tree_Delete
  · subst h13; simp [P_itree_Tree_Delete.T] at h
  simp only [h13, if_false] at h
  by_cases h14 : f = n_twainlaw14_has
  · subst h14; simp [twainlaw14_has.T] at h
  simp only [h14, if_false] at h
  by_cases h15 : f = n_P_itree_Tree_Overlaps
  · subst h15; simp [P_itree_Tree_Overlaps.T] at h
  simp only [h15, if_false] at h
  by_cases h16 : f = n_P_itree_Tree_Any
  · subst h16; simp [P_itree_Tree_Any.T] at h
  simp only [h16, if_false] at h
  by_cases h17 : f = n_P_twainref14_Tree_Delete
  · subst h17; simp [P_twainref14_Tree_Delete.T] at h
  simp only [h17, if_false] at h
  by_cases h18 : f = n_P_twainref14_Tree_Insert
  · subst h18; simp [P_twainref14_Tree_Insert.T] at h
  simp only [h18, if_false] at h
  by_cases h19 : f = n_P_twainref14_Tree_Overlaps
  · subst h19; simp [P_twainref14_Tree_Overlaps.T] at h
  simp only [h19, if_false] at h
  by_cases h20 : f = n_twainref01_Ints
  · subst h20; simp [twainref01_Ints.T] at h
  simp only [h20, if_false] at h
  by_cases h21 : f = n_P_itree_Tree_Ids
  · subst h21; simp [P_itree_Tree_Ids.T] at h
  simp only [h21, if_false] at h
  by_cases h22 : f = n_P_twainref14_Tree_Ids
  · subst h22; simp [P_twainref14_Tree_Ids.T] at h
  simp only [h22, if_false] at h
  by_cases h23 : f = n_P_itree_Tree_is
  · subst h23; simp [P_itree_Tree_is.T] at h
  simp only [h23, if_false] at h
  by_cases h24 : f = n_span_Plain
  · subst h24; simp [span_Plain.T] at h
  simp only [h24, if_false] at h
  by_cases h25 : f = n_P_itree_Tree_has
  · subst h25; simp [P_itree_Tree_has.T] at h
  simp only [h25, if_false] at h
  by_cases h26 : f = n_itree_add
  · subst h26; simp [itree_add.T] at h
  simp only [h26, if_false] at h
  by_cases h27 : f = n_itree_height
  · subst h27; simp [itree_height.T] at h
  simp only [h27, if_false] at h
  by_cases h28 : f = n_itree_isRed
  · subst h28; simp [itree_isRed.T] at h
  simp only [h28, if_false] at h
  by_cases h29 : f = n_itree_cut
  · subst h29; simp [itree_cut.T] at h
  simp only [h29, if_false] at h
  by_cases h30 : f = n_itree_walk
  · subst h30; simp [itree_walk.T] at h
  simp only [h30, if_false] at h
  by_cases h31 : f = n_P_itree_Tree_Overlaps_1
  · subst h31; simp [P_itree_Tree_Overlaps_1.T] at h
  simp only [h31, if_false] at h
  by_cases h32 : f = n_P_itree_Tree_Any_1
  · subst h32; simp [P_itree_Tree_Any_1.T] at h
  simp only [h32, if_false] at h
  by_cases h33 : f = n_P_twainref14_Tree_place
  · subst h33; simp [P_twainref14_Tree_place.T] at h
  simp only [h33, if_false] at h
  by_cases h34 : f = n_twainref04_Plain
  · subst h34; simp [twainref04_Plain.T] at h
  simp only [h34, if_false] at h
  by_cases h35 : f = n_twainref04_Overlap
  · subst h35; simp [twainref04_Overlap.T] at h
  simp only [h35, if_false] at h
  by_cases h36 : f = n_itree_ids
  · subst h36; simp [itree_ids.T] at h
  simp only [h36, if_false] at h
  by_cases h37 : f = n_span_within
  · subst h37; simp [span_within.T] at h
  simp only [h37, if_false] at h
  by_cases h38 : f = n_itree_compare
  · subst h38; simp [itree_compare.T] at h
  simp only [h38, if_false] at h
  by_cases h39 : f = n_P_itree_node_mend
  · subst h39; simp [P_itree_node_mend.T] at h
  simp only [h39, if_false] at h
  by_cases h40 : f = n_itree_settle
  · subst h40; simp [itree_settle.T] at h
  simp only [h40, if_false] at h
  by_cases h41 : f = n_itree_redLeft
  · subst h41; simp [itree_redLeft.T] at h
  simp only [h41, if_false] at h
  by_cases h42 : f = n_itree_turn
  · subst h42; simp [itree_turn.T] at h
  simp only [h42, if_false] at h
  by_cases h43 : f = n_itree_redRight
  · subst h43; simp [itree_redRight.T] at h
  simp only [h43, if_false] at h
  by_cases h44 : f = n_itree_first
  · subst h44; simp [itree_first.T] at h
  simp only [h44, if_false] at h
  by_cases h45 : f = n_itree_behead
  · subst h45; simp [itree_behead.T] at h
  simp only [h45, if_false] at h
  by_cases h46 : f = n_span_End
  · subst h46; simp [span_End.T] at h
  simp only [h46, if_false] at h
  by_cases h47 : f = n_span_Overlap
  · subst h47; simp [span_Overlap.T] at h
  simp only [h47, if_false] at h
  by_cases h48 : f = n_twainref14_less
  · subst h48; simp [twainref14_less.T] at h
  simp only [h48, if_false] at h
  by_cases h49 : f = n_twainref04_Meet
  · subst h49; simp [twainref04_Meet.T] at h
  simp only [h49, if_false] at h
  by_cases h50 : f = n_cmp_Or_int
  · subst h50; simp [cmp_Or_int.T] at h
  simp only [h50, if_false] at h
  by_cases h51 : f = n_cmp_Compare_int
  · subst h51; simp [cmp_Compare_int.T] at h
  simp only [h51, if_false] at h
  by_cases h52 : f = n_itree_reach
  · subst h52; simp [itree_reach.T] at h
  simp only [h52, if_false] at h
  by_cases h53 : f = n_itree_flip
  · subst h53; simp [itree_flip.T] at h
  simp only [h53, if_false] at h
  by_cases h54 : f = n_span_Meet
  · subst h54; simp [span_Meet.T] at h
  simp only [h54, if_false] at h
  by_cases h55 : f = n_cmp_isNaN_int
  · subst h55; simp [cmp_isNaN_int.T] at h
  simp only [h55, if_false] at h
  by_cases h56 : f = n_span_side_from
  · subst h56; simp [span_side_from.T] at h
  simp only [h56, if_false] at h
  by_cases h57 : f = n_span_side_to
  · subst h57; simp [span_side_to.T] at h
  simp only [h57, if_false] at h
  by_cases h7 : f = n_twainlaw14_lives
  · subst h7; exact twainlaw14_lives.lives
  simp only [h7, if_false] at h
  simp at h
end Go.Proofs.Ytgpfiiebfhdjhaa
