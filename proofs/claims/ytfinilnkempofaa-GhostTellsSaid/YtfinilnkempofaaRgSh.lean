/- A part of the proof: RgSh. Its conditions: none. -/
import Derived.Test.YtfinilnkempofaaRgShD
set_option linter.all false
set_option linter.unusedVariables false
set_option linter.unusedSimpArgs false
set_option linter.unnecessarySimpa false
namespace Go.Proofs.Ytfinilnkempofaa
open Go Go.Am
set_option linter.unusedVariables false
def TT : FuncId → Tab := fun f => if f = y99 then twainlaw49_GhostTells.T else if f = y123 then twainlaw36_Few.T else if f = q123 then twainlaw36_Raw.T else if f = y135 then twainref36_Same.T else if f = q145 then twainlaw36_Ops.T else if f = q124 then history_Ops.T else if f = y110 then twainref36_Ops.T else if f = y134 then twainref01_Ints.T else if f = y161 then history_Open.T else if f = y136 then twainref36_Open.T else if f = q179 then history_Odd.T else if f = y145 then twainref36_Odd.T else if f = y137 then twainref37_Fits.T else if f = y97 then register_Right.T else if f = q113 then register_Order.T else if f = q81 then twainlaw49_lives.T else if f = q116 then ghost_Holds.T else if f = q76 then twainref49_Holds.T else if f = q127 then ghost_Values.T else if f = y103 then twainref49_Values.T else if f = q111 then twainlaw49_alike.T else if f = q115 then twainref49_Image.T else if f = y140 then ghost_Image.T else if f = q177 then ghost_Order.T else if f = y114 then twainref37_Order.T else if f = y98 then history_paired.T else if f = q128 then span_Overlap.T else if f = q91 then history_pairs_to.T else if f = q155 then history_cut.T else if f = q98 then twainref04_Overlap.T else if f = y80 then twainref36_ended.T else if f = y85 then twainref36_sector.T else if f = y83 then twainref36_asked.T else if f = q67 then twainref37_place.T else if f = q92 then twainref37_ahead.T else if f = q102 then twainref37_must.T else if f = q125 then register_begin.T else if f = y84 then P_register_hunt_find.T else if f = y124 then ghost_tells.T else if f = q119 then twainref49_last.T else if f = q77 then twainref37_search.T else if f = y152 then history_of.T else if f = y188 then span_Meet.T else if f = y119 then twainref04_Meet.T else if f = q26 then P_register_hunt_find_1.T else if f = y35 then P_register_hunt_find_1_1.T else if f = q84 then P_register_hunt_read.T else if f = q78 then P_register_hunt_may.T else if f = q188 then ghost_end.T else if f = y111 then twainref37_whole.T else if f = q120 then twainref37_next.T else if f = q139 then span_Plain.T else if f = q96 then span_side_from.T else if f = y116 then span_side_to.T else if f = q189 then span_End.T else if f = y92 then twainref04_Plain.T else if f = q140 then span_within.T else ⟨fun _ => none, fun _ => none, false, fun _ => none, fun _ => false, false, false, fun _ => false⟩
def TT1 : FuncId → Tab := fun f => { TT f with lives := false }
theorem twainlaw49_GhostTells.eq (C : Am.Callee) (L : Loops) (t0 t1 : Value) (H : List Blk) : ebody PP TT C L y99 [t0, t1] H = twainlaw49_GhostTells.sh C L H.length t0 t1 ⟨H, none⟩ := by kernel_rfl
theorem twainlaw36_Few.eq (C : Am.Callee) (L : Loops) (t0 : Value) (H : List Blk) : ebody PP TT C L y123 [t0] H = twainlaw36_Few.sh C L H.length t0 ⟨H, none⟩ := by kernel_rfl
theorem twainlaw36_Raw.eq (C : Am.Callee) (L : Loops) (t0 : Value) (H : List Blk) : ebody PP TT C L q123 [t0] H = twainlaw36_Raw.sh C L H.length t0 ⟨H, none⟩ := by kernel_rfl
theorem twainref36_Same.eq (C : Am.Callee) (L : Loops) (t0 t1 : Value) (H : List Blk) : ebody PP TT C L y135 [t0, t1] H = twainref36_Same.sh C L H.length t0 t1 ⟨H, none⟩ := by kernel_rfl
theorem twainlaw36_Ops.eq (C : Am.Callee) (L : Loops) (t0 : Value) (H : List Blk) : ebody PP TT C L q145 [t0] H = twainlaw36_Ops.sh C L H.length t0 ⟨H, none⟩ := by kernel_rfl
theorem history_Ops.eq (C : Am.Callee) (L : Loops) (t0 t1 : Value) (H : List Blk) : ebody PP TT C L q124 [t0, t1] H = history_Ops.sh C L H.length t0 t1 ⟨H, none⟩ := by kernel_rfl
theorem twainref36_Ops.eq (C : Am.Callee) (L : Loops) (t0 t1 : Value) (H : List Blk) : ebody PP TT C L y110 [t0, t1] H = twainref36_Ops.sh C L H.length t0 t1 ⟨H, none⟩ := by kernel_rfl
theorem twainref01_Ints.eq (C : Am.Callee) (L : Loops) (t0 t1 : Value) (H : List Blk) : ebody PP TT C L y134 [t0, t1] H = twainref01_Ints.sh C L H.length t0 t1 ⟨H, none⟩ := by kernel_rfl
theorem history_Open.eq (C : Am.Callee) (L : Loops) (t0 : Value) (H : List Blk) : ebody PP TT C L y161 [t0] H = history_Open.sh C L H.length t0 ⟨H, none⟩ := by kernel_rfl
theorem twainref36_Open.eq (C : Am.Callee) (L : Loops) (t0 : Value) (H : List Blk) : ebody PP TT C L y136 [t0] H = twainref36_Open.sh C L H.length t0 ⟨H, none⟩ := by kernel_rfl
theorem history_Odd.eq (C : Am.Callee) (L : Loops) (t0 : Value) (H : List Blk) : ebody PP TT C L q179 [t0] H = history_Odd.sh C L H.length t0 ⟨H, none⟩ := by kernel_rfl
theorem twainref36_Odd.eq (C : Am.Callee) (L : Loops) (t0 : Value) (H : List Blk) : ebody PP TT C L y145 [t0] H = twainref36_Odd.sh C L H.length t0 ⟨H, none⟩ := by kernel_rfl
theorem twainref37_Fits.eq (C : Am.Callee) (L : Loops) (t0 t1 t2 : Value) (H : List Blk) : ebody PP TT C L y137 [t0, t1, t2] H = twainref37_Fits.sh C L H.length t0 t1 t2 ⟨H, none⟩ := by kernel_rfl
theorem register_Right.eq (C : Am.Callee) (L : Loops) (t0 t1 : Value) (H : List Blk) : ebody PP TT C L y97 [t0, t1] H = register_Right.sh C L (jFrz PP 0 [t0, t1] ⟨H, none⟩ true).2.H.length ((jFrz PP 0 [t0, t1] ⟨H, none⟩ true).1.getD 0 unk) ((jFrz PP 0 [t0, t1] ⟨H, none⟩ true).1.getD 1 unk) ⟨(jFrz PP 0 [t0, t1] ⟨H, none⟩ true).2.H, none⟩ := by kernel_rfl
theorem register_Order.eq (C : Am.Callee) (L : Loops) (t0 t1 : Value) (H : List Blk) : ebody PP TT C L q113 [t0, t1] H = register_Order.sh C L H.length t0 t1 ⟨H, none⟩ := by kernel_rfl
theorem twainlaw49_lives.eq (H : List Blk) : acall PP TT q81 [] H = some (.bool true, H, none) := by rw [y22]; kernel_rfl
theorem twainlaw49_lives.lives : Lives PP q81 := lives_of (T := TT1) (fun _ => rfl) (n := 40) (by kernel_rfl)
theorem ghost_Holds.eq (C : Am.Callee) (L : Loops) (t0 t1 t2 : Value) (H : List Blk) : ebody PP TT C L q116 [t0, t1, t2] H = ghost_Holds.sh C L H.length t0 t1 t2 ⟨H, none⟩ := by kernel_rfl
theorem twainref49_Holds.eq (C : Am.Callee) (L : Loops) (t0 t1 t2 : Value) (H : List Blk) : ebody PP TT C L q76 [t0, t1, t2] H = twainref49_Holds.sh C L H.length t0 t1 t2 ⟨H, none⟩ := by kernel_rfl
theorem ghost_Values.eq (C : Am.Callee) (L : Loops) (t0 t1 : Value) (H : List Blk) : ebody PP TT C L q127 [t0, t1] H = ghost_Values.sh C L H.length t0 t1 ⟨H, none⟩ := by kernel_rfl
theorem twainref49_Values.eq (C : Am.Callee) (L : Loops) (t0 t1 : Value) (H : List Blk) : ebody PP TT C L y103 [t0, t1] H = twainref49_Values.sh C L H.length t0 t1 ⟨H, none⟩ := by kernel_rfl
theorem twainlaw49_alike.eq (C : Am.Callee) (L : Loops) (t0 t1 : Value) (H : List Blk) : ebody PP TT C L q111 [t0, t1] H = twainlaw49_alike.sh C L H.length t0 t1 ⟨H, none⟩ := by kernel_rfl
theorem twainref49_Image.eq (C : Am.Callee) (L : Loops) (t0 t1 : Value) (H : List Blk) : ebody PP TT C L q115 [t0, t1] H = twainref49_Image.sh C L H.length t0 t1 ⟨H, none⟩ := by kernel_rfl
theorem ghost_Image.eq (C : Am.Callee) (L : Loops) (t0 t1 : Value) (H : List Blk) : ebody PP TT C L y140 [t0, t1] H = ghost_Image.sh C L H.length t0 t1 ⟨H, none⟩ := by kernel_rfl
theorem ghost_Order.eq (C : Am.Callee) (L : Loops) (t0 t1 : Value) (H : List Blk) : ebody PP TT C L q177 [t0, t1] H = ghost_Order.sh C L H.length t0 t1 ⟨H, none⟩ := by kernel_rfl
theorem twainref37_Order.eq (C : Am.Callee) (L : Loops) (t0 t1 : Value) (H : List Blk) : ebody PP TT C L y114 [t0, t1] H = twainref37_Order.sh C L H.length t0 t1 ⟨H, none⟩ := by kernel_rfl
theorem history_paired.eq (C : Am.Callee) (L : Loops) (t0 : Value) (H : List Blk) : ebody PP TT C L y98 [t0] H = history_paired.sh C L H.length t0 ⟨H, none⟩ := by kernel_rfl
theorem span_Overlap.eq (C : Am.Callee) (L : Loops) (t0 t1 : Value) (H : List Blk) : ebody PP TT C L q128 [t0, t1] H = span_Overlap.sh C L H.length t0 t1 ⟨H, none⟩ := by kernel_rfl
theorem history_pairs_to.eq (C : Am.Callee) (L : Loops) (t0 t1 : Value) (H : List Blk) : ebody PP TT C L q91 [t0, t1] H = history_pairs_to.sh C L H.length t0 t1 ⟨H, none⟩ := by kernel_rfl
theorem history_cut.eq (C : Am.Callee) (L : Loops) (t0 t1 : Value) (H : List Blk) : ebody PP TT C L q155 [t0, t1] H = history_cut.sh C L H.length t0 t1 ⟨H, none⟩ := by kernel_rfl
theorem twainref04_Overlap.eq (C : Am.Callee) (L : Loops) (t0 t1 : Value) (H : List Blk) : ebody PP TT C L q98 [t0, t1] H = twainref04_Overlap.sh C L H.length t0 t1 ⟨H, none⟩ := by kernel_rfl
theorem twainref36_ended.eq (C : Am.Callee) (L : Loops) (t0 t1 : Value) (H : List Blk) : ebody PP TT C L y80 [t0, t1] H = twainref36_ended.sh C L H.length t0 t1 ⟨H, none⟩ := by kernel_rfl
theorem twainref36_sector.eq (C : Am.Callee) (L : Loops) (t0 t1 : Value) (H : List Blk) : ebody PP TT C L y85 [t0, t1] H = twainref36_sector.sh C L H.length t0 t1 ⟨H, none⟩ := by kernel_rfl
theorem twainref36_asked.eq (C : Am.Callee) (L : Loops) (t0 t1 : Value) (H : List Blk) : ebody PP TT C L y83 [t0, t1] H = twainref36_asked.sh C L H.length t0 t1 ⟨H, none⟩ := by kernel_rfl
theorem twainref37_place.eq (C : Am.Callee) (L : Loops) (t0 t1 : Value) (H : List Blk) : ebody PP TT C L q67 [t0, t1] H = twainref37_place.sh C L H.length t0 t1 ⟨H, none⟩ := by kernel_rfl
theorem twainref37_ahead.eq (C : Am.Callee) (L : Loops) (t0 t1 : Value) (H : List Blk) : ebody PP TT C L q92 [t0, t1] H = twainref37_ahead.sh C L H.length t0 t1 ⟨H, none⟩ := by kernel_rfl
theorem twainref37_must.eq (C : Am.Callee) (L : Loops) (t0 : Value) (H : List Blk) : ebody PP TT C L q102 [t0] H = twainref37_must.sh C L H.length t0 ⟨H, none⟩ := by kernel_rfl
theorem register_begin.eq (C : Am.Callee) (L : Loops) (t0 : Value) (H : List Blk) : ebody PP TT C L q125 [t0] H = register_begin.sh C L H.length t0 ⟨H, none⟩ := by kernel_rfl
theorem P_register_hunt_find.eq (C : Am.Callee) (L : Loops) (t0 t1 : Value) (H : List Blk) : ebody PP TT C L y84 [t0, t1] H = P_register_hunt_find.sh C L H.length t0 t1 ⟨H, none⟩ := by kernel_rfl
theorem ghost_tells.eq (C : Am.Callee) (L : Loops) (t0 t1 : Value) (H : List Blk) : ebody PP TT C L y124 [t0, t1] H = ghost_tells.sh C L H.length t0 t1 ⟨H, none⟩ := by kernel_rfl
theorem twainref49_last.eq (C : Am.Callee) (L : Loops) (t0 t1 : Value) (H : List Blk) : ebody PP TT C L q119 [t0, t1] H = twainref49_last.sh C L H.length t0 t1 ⟨H, none⟩ := by kernel_rfl
theorem twainref37_search.eq (C : Am.Callee) (L : Loops) (t0 t1 t2 t3 : Value) (H : List Blk) : ebody PP TT C L q77 [t0, t1, t2, t3] H = twainref37_search.sh C L H.length t0 t1 t2 t3 ⟨H, none⟩ := by kernel_rfl
theorem history_of.eq (C : Am.Callee) (L : Loops) (t0 : Value) (H : List Blk) : ebody PP TT C L y152 [t0] H = history_of.sh C L H.length t0 ⟨H, none⟩ := by kernel_rfl
theorem span_Meet.eq (C : Am.Callee) (L : Loops) (t0 t1 : Value) (H : List Blk) : ebody PP TT C L y188 [t0, t1] H = span_Meet.sh C L H.length t0 t1 ⟨H, none⟩ := by kernel_rfl
theorem twainref04_Meet.eq (C : Am.Callee) (L : Loops) (t0 t1 : Value) (H : List Blk) : ebody PP TT C L y119 [t0, t1] H = twainref04_Meet.sh C L H.length t0 t1 ⟨H, none⟩ := by kernel_rfl
theorem P_register_hunt_find_1.eq (C : Am.Callee) (L : Loops) (t0 t1 t2 t3 : Value) (H : List Blk) : ebody PP TT C L q26 [t0, t1, t2, t3] H = P_register_hunt_find_1.sh C L H.length t0 t1 t2 t3 ⟨H, none⟩ := by kernel_rfl
theorem P_register_hunt_find_1_1.eq (C : Am.Callee) (L : Loops) (t0 t1 t2 t3 t4 : Value) (H : List Blk) : ebody PP TT C L y35 [t0, t1, t2, t3, t4] H = P_register_hunt_find_1_1.sh C L H.length t0 t1 t2 t3 t4 ⟨H, none⟩ := by kernel_rfl
theorem P_register_hunt_read.eq (C : Am.Callee) (L : Loops) (t0 t1 : Value) (H : List Blk) : ebody PP TT C L q84 [t0, t1] H = P_register_hunt_read.sh C L H.length t0 t1 ⟨H, none⟩ := by kernel_rfl
theorem P_register_hunt_may.eq (C : Am.Callee) (L : Loops) (t0 t1 t2 : Value) (H : List Blk) : ebody PP TT C L q78 [t0, t1, t2] H = P_register_hunt_may.sh C L H.length t0 t1 t2 ⟨H, none⟩ := by kernel_rfl
theorem ghost_end.eq (C : Am.Callee) (L : Loops) (t0 : Value) (H : List Blk) : ebody PP TT C L q188 [t0] H = ghost_end.sh C L H.length t0 ⟨H, none⟩ := by kernel_rfl
theorem twainref37_whole.eq (C : Am.Callee) (L : Loops) (t0 t1 : Value) (H : List Blk) : ebody PP TT C L y111 [t0, t1] H = twainref37_whole.sh C L H.length t0 t1 ⟨H, none⟩ := by kernel_rfl
theorem twainref37_next.eq (C : Am.Callee) (L : Loops) (t0 t1 t2 t3 : Value) (H : List Blk) : ebody PP TT C L q120 [t0, t1, t2, t3] H = twainref37_next.sh C L H.length t0 t1 t2 t3 ⟨H, none⟩ := by kernel_rfl
theorem span_Plain.eq (C : Am.Callee) (L : Loops) (t0 : Value) (H : List Blk) : ebody PP TT C L q139 [t0] H = span_Plain.sh C L H.length t0 ⟨H, none⟩ := by kernel_rfl
theorem span_side_from.eq (C : Am.Callee) (L : Loops) (t0 t1 : Value) (H : List Blk) : ebody PP TT C L q96 [t0, t1] H = span_side_from.sh C L H.length t0 t1 ⟨H, none⟩ := by kernel_rfl
theorem span_side_to.eq (C : Am.Callee) (L : Loops) (t0 t1 : Value) (H : List Blk) : ebody PP TT C L y116 [t0, t1] H = span_side_to.sh C L H.length t0 t1 ⟨H, none⟩ := by kernel_rfl
theorem span_End.eq (C : Am.Callee) (L : Loops) (t0 : Value) (H : List Blk) : ebody PP TT C L q189 [t0] H = span_End.sh C L H.length t0 ⟨H, none⟩ := by kernel_rfl
theorem twainref04_Plain.eq (C : Am.Callee) (L : Loops) (t0 : Value) (H : List Blk) : ebody PP TT C L y92 [t0] H = twainref04_Plain.sh C L H.length t0 ⟨H, none⟩ := by kernel_rfl
theorem span_within.eq (C : Am.Callee) (L : Loops) (t0 : Value) (H : List Blk) : ebody PP TT C L q140 [t0] H = span_within.sh C L H.length t0 ⟨H, none⟩ := by kernel_rfl
theorem TT_lives : ∀ f, (TT f).lives = true → Lives PP f := by
  intro f h
  unfold TT at h
  by_cases h7 : f = y99
  · subst h7; simp [twainlaw49_GhostTells.T] at h
  simp only [h7, if_false] at h
  by_cases h9 : f = y123
  · subst h9; simp [twainlaw36_Few.T] at h
  simp only [h9, if_false] at h
  by_cases h11 : f = q123
  · subst h11; simp [twainlaw36_Raw.T] at h
  simp only [h11, if_false] at h
  by_cases h12 : f = y135
  · subst h12; simp [twainref36_Same.T] at h
  simp only [h12, if_false] at h
  by_cases h13 : f = q145
  · subst h13; simp [twainlaw36_Ops.T] at h
  simp only [h13, if_false] at h
  by_cases h14 : f = q124
  · subst h14; simp [history_Ops.T] at h
  simp only [h14, if_false] at h
  by_cases h15 : f = y110
  · subst h15; simp [twainref36_Ops.T] at h
  simp only [h15, if_false] at h
  by_cases h16 : f = y134
  · subst h16; simp [twainref01_Ints.T] at h
  simp only [h16, if_false] at h
  by_cases h17 : f = y161
  · subst h17; simp [history_Open.T] at h
  simp only [h17, if_false] at h
  by_cases h18 : f = y136
  · subst h18; simp [twainref36_Open.T] at h
  simp only [h18, if_false] at h
  by_cases h19 : f = q179
  · subst h19; simp [history_Odd.T] at h
  simp only [h19, if_false] at h
  by_cases h20 : f = y145
  · subst h20; simp [twainref36_Odd.T] at h
  simp only [h20, if_false] at h
  by_cases h24 : f = y137
  · subst h24; simp [twainref37_Fits.T] at h
  simp only [h24, if_false] at h
  by_cases h25 : f = y97
  · subst h25; simp [register_Right.T] at h
  simp only [h25, if_false] at h
  by_cases h26 : f = q113
  · subst h26; simp [register_Order.T] at h
  simp only [h26, if_false] at h
  by_cases h27 : f = q81
  · subst h27; exact twainlaw49_lives.lives
  simp only [h27, if_false] at h
  by_cases h28 : f = q116
  · subst h28; simp [ghost_Holds.T] at h
  simp only [h28, if_false] at h
  by_cases h29 : f = q76
  · subst h29; simp [twainref49_Holds.T] at h
  simp only [h29, if_false] at h
  by_cases h30 : f = q127
  · subst h30; simp [ghost_Values.T] at h
  simp only [h30, if_false] at h
  by_cases h31 : f = y103
  · subst h31; simp [twainref49_Values.T] at h
  simp only [h31, if_false] at h
  by_cases h32 : f = q111
  · subst h32; simp [twainlaw49_alike.T] at h
  simp only [h32, if_false] at h
  by_cases h33 : f = q115
  · subst h33; simp [twainref49_Image.T] at h
  simp only [h33, if_false] at h
  by_cases h34 : f = y140
  · subst h34; simp [ghost_Image.T] at h
  simp only [h34, if_false] at h
  by_cases h35 : f = q177
  · subst h35; simp [ghost_Order.T] at h
  simp only [h35, if_false] at h
  by_cases h36 : f = y114
  · subst h36; simp [twainref37_Order.T] at h
  simp only [h36, if_false] at h
  by_cases h37 : f = y98
  · subst h37; simp [history_paired.T] at h
  simp only [h37, if_false] at h
  by_cases h38 : f = q128
  · subst h38; simp [span_Overlap.T] at h
  simp only [h38, if_false] at h
  by_cases h39 : f = q91
  · subst h39; simp [history_pairs_to.T] at h
  simp only [h39, if_false] at h
  by_cases h40 : f = q155
  · subst h40; simp [history_cut.T] at h
  simp only [h40, if_false] at h
  by_cases h41 : f = q98
  · subst h41; simp [twainref04_Overlap.T] at h
  simp only [h41, if_false] at h
  by_cases h42 : f = y80
  · subst h42; simp [twainref36_ended.T] at h
  simp only [h42, if_false] at h
  by_cases h43 : f = y85
  · subst h43; simp [twainref36_sector.T] at h
  simp only [h43, if_false] at h
  by_cases h44 : f = y83
  · subst h44; simp [twainref36_asked.T] at h
  simp only [h44, if_false] at h
  by_cases h45 : f = q67
  · subst h45; simp [twainref37_place.T] at h
  simp only [h45, if_false] at h
  by_cases h46 : f = q92
  · subst h46; simp [twainref37_ahead.T] at h
  simp only [h46, if_false] at h
  by_cases h47 : f = q102
  · subst h47; simp [twainref37_must.T] at h
  simp only [h47, if_false] at h
  by_cases h48 : f = q125
  · subst h48; simp [register_begin.T] at h
  simp only [h48, if_false] at h
  by_cases h49 : f = y84
  · subst h49; simp [P_register_hunt_find.T] at h
  simp only [h49, if_false] at h
  by_cases h50 : f = y124
  · subst h50; simp [ghost_tells.T] at h
  simp only [h50, if_false] at h
  by_cases h51 : f = q119
  · subst h51; simp [twainref49_last.T] at h
  simp only [h51, if_false] at h
  by_cases h52 : f = q77
  · subst h52; simp [twainref37_search.T] at h
  simp only [h52, if_false] at h
  by_cases h53 : f = y152
  · subst h53; simp [history_of.T] at h
  simp only [h53, if_false] at h
  by_cases h54 : f = y188
  · subst h54; simp [span_Meet.T] at h
  simp only [h54, if_false] at h
  by_cases h55 : f = y119
  · subst h55; simp [twainref04_Meet.T] at h
  simp only [h55, if_false] at h
  by_cases h56 : f = q26
  · subst h56; simp [P_register_hunt_find_1.T] at h
  simp only [h56, if_false] at h
  by_cases h57 : f = y35
  · subst h57; simp [P_register_hunt_find_1_1.T] at h
  simp only [h57, if_false] at h
  by_cases h58 : f = q84
  · subst h58; simp [P_register_hunt_read.T] at h
  simp only [h58, if_false] at h
  by_cases h59 : f = q78
  · subst h59; simp [P_register_hunt_may.T] at h
  simp only [h59, if_false] at h
  by_cases h60 : f = q188
  · subst h60; simp [ghost_end.T] at h
  simp only [h60, if_false] at h
  by_cases h61 : f = y111
  · subst h61; simp [twainref37_whole.T] at h
  simp only [h61, if_false] at h
  by_cases h62 : f = q120
  · subst h62; simp [twainref37_next.T] at h
  simp only [h62, if_false] at h
  by_cases h63 : f = q139
  · subst h63; simp [span_Plain.T] at h
  simp only [h63, if_false] at h
  by_cases h64 : f = q96
  · subst h64; simp [span_side_from.T] at h
  simp only [h64, if_false] at h
  by_cases h65 : f = y116
  · subst h65; simp [span_side_to.T] at h
  simp only [h65, if_false] at h
  by_cases h66 : f = q189
  · subst h66; simp [span_End.T] at h
  simp only [h66, if_false] at h
  by_cases h67 : f = y92
  · subst h67; simp [twainref04_Plain.T] at h
  simp only [h67, if_false] at h
  by_cases h68 : f = q140
  · subst h68; simp [span_within.T] at h
  simp only [h68, if_false] at h
  simp at h
end Go.Proofs.Ytfinilnkempofaa
