/- A part of the proof: RgSh. Its conditions: none. -/
import Derived.Test.YtfinilnkempofaaRgShD
set_option linter.all false
set_option linter.unusedVariables false
set_option linter.unusedSimpArgs false
set_option linter.unnecessarySimpa false
namespace Go.Proofs.Ytfinilnkempofaa
open Go Go.Am
set_option linter.unusedVariables false
def TT : FuncId → Tab := fun f => if f = y110 then twainlaw49_GhostOrder.T else if f = q130 then twainlaw36_Few.T else if f = y128 then twainlaw36_Raw.T else if f = q140 then twainref36_Same.T else if f = q149 then twainlaw36_Ops.T else if f = y158 then history_Ops.T else if f = q128 then twainref36_Ops.T else if f = q138 then twainref01_Ints.T else if f = q162 then history_Open.T else if f = y135 then twainref36_Open.T else if f = y174 then history_Odd.T else if f = q146 then twainref36_Odd.T else if f = q126 then twainref37_Fits.T else if f = y145 then register_Right.T else if f = y120 then register_Order.T else if f = q93 then twainlaw49_lives.T else if f = q158 then ghost_Order.T else if f = y118 then twainref37_Order.T else if f = q106 then history_paired.T else if f = q133 then span_Overlap.T else if f = y101 then history_pairs_to.T else if f = y156 then history_cut.T else if f = y108 then twainref04_Overlap.T else if f = y91 then twainref36_ended.T else if f = y97 then twainref36_sector.T else if f = q92 then twainref36_asked.T else if f = y78 then twainref37_place.T else if f = q104 then twainref37_ahead.T else if f = y112 then twainref37_must.T else if f = y129 then register_begin.T else if f = q95 then P_register_hunt_find.T else if f = q88 then twainref37_search.T else if f = y154 then history_of.T else if f = q182 then span_Meet.T else if f = y124 then twainref04_Meet.T else if f = q46 then P_register_hunt_find_1.T else if f = q54 then P_register_hunt_find_1_1.T else if f = y95 then P_register_hunt_read.T else if f = y88 then P_register_hunt_may.T else if f = q121 then twainref37_whole.T else if f = y125 then twainref37_next.T else if f = y141 then span_Plain.T else if f = y105 then span_side_from.T else if f = q122 then span_side_to.T else if f = q184 then span_End.T else if f = y103 then twainref04_Plain.T else if f = y143 then span_within.T else ⟨fun _ => none, fun _ => none, false, fun _ => none, fun _ => false, false, false⟩
def TT1 : FuncId → Tab := fun f => { TT f with lives := false }
theorem twainlaw49_GhostOrder.eq (C : Am.Callee) (L : Loops) (t0 t1 : Value) (H : List Blk) : ebody PP TT C L y110 [t0, t1] H = twainlaw49_GhostOrder.sh C L H.length t0 t1 ⟨H, none⟩ := by kernel_rfl
theorem twainlaw36_Few.eq (C : Am.Callee) (L : Loops) (t0 : Value) (H : List Blk) : ebody PP TT C L q130 [t0] H = twainlaw36_Few.sh C L H.length t0 ⟨H, none⟩ := by kernel_rfl
theorem twainlaw36_Raw.eq (C : Am.Callee) (L : Loops) (t0 : Value) (H : List Blk) : ebody PP TT C L y128 [t0] H = twainlaw36_Raw.sh C L H.length t0 ⟨H, none⟩ := by kernel_rfl
theorem twainref36_Same.eq (C : Am.Callee) (L : Loops) (t0 t1 : Value) (H : List Blk) : ebody PP TT C L q140 [t0, t1] H = twainref36_Same.sh C L H.length t0 t1 ⟨H, none⟩ := by kernel_rfl
theorem twainlaw36_Ops.eq (C : Am.Callee) (L : Loops) (t0 : Value) (H : List Blk) : ebody PP TT C L q149 [t0] H = twainlaw36_Ops.sh C L H.length t0 ⟨H, none⟩ := by kernel_rfl
theorem history_Ops.eq (C : Am.Callee) (L : Loops) (t0 t1 : Value) (H : List Blk) : ebody PP TT C L y158 [t0, t1] H = history_Ops.sh C L H.length t0 t1 ⟨H, none⟩ := by kernel_rfl
theorem twainref36_Ops.eq (C : Am.Callee) (L : Loops) (t0 t1 : Value) (H : List Blk) : ebody PP TT C L q128 [t0, t1] H = twainref36_Ops.sh C L H.length t0 t1 ⟨H, none⟩ := by kernel_rfl
theorem twainref01_Ints.eq (C : Am.Callee) (L : Loops) (t0 t1 : Value) (H : List Blk) : ebody PP TT C L q138 [t0, t1] H = twainref01_Ints.sh C L H.length t0 t1 ⟨H, none⟩ := by kernel_rfl
theorem history_Open.eq (C : Am.Callee) (L : Loops) (t0 : Value) (H : List Blk) : ebody PP TT C L q162 [t0] H = history_Open.sh C L H.length t0 ⟨H, none⟩ := by kernel_rfl
theorem twainref36_Open.eq (C : Am.Callee) (L : Loops) (t0 : Value) (H : List Blk) : ebody PP TT C L y135 [t0] H = twainref36_Open.sh C L H.length t0 ⟨H, none⟩ := by kernel_rfl
theorem history_Odd.eq (C : Am.Callee) (L : Loops) (t0 : Value) (H : List Blk) : ebody PP TT C L y174 [t0] H = history_Odd.sh C L H.length t0 ⟨H, none⟩ := by kernel_rfl
theorem twainref36_Odd.eq (C : Am.Callee) (L : Loops) (t0 : Value) (H : List Blk) : ebody PP TT C L q146 [t0] H = twainref36_Odd.sh C L H.length t0 ⟨H, none⟩ := by kernel_rfl
theorem twainref37_Fits.eq (C : Am.Callee) (L : Loops) (t0 t1 t2 : Value) (H : List Blk) : ebody PP TT C L q126 [t0, t1, t2] H = twainref37_Fits.sh C L H.length t0 t1 t2 ⟨H, none⟩ := by kernel_rfl
theorem register_Right.eq (C : Am.Callee) (L : Loops) (t0 t1 : Value) (H : List Blk) : ebody PP TT C L y145 [t0, t1] H = register_Right.sh C L (jFrz PP 0 [t0, t1] ⟨H, none⟩ true).2.H.length ((jFrz PP 0 [t0, t1] ⟨H, none⟩ true).1.getD 0 unk) ((jFrz PP 0 [t0, t1] ⟨H, none⟩ true).1.getD 1 unk) ⟨(jFrz PP 0 [t0, t1] ⟨H, none⟩ true).2.H, none⟩ := by kernel_rfl
theorem register_Order.eq (C : Am.Callee) (L : Loops) (t0 t1 : Value) (H : List Blk) : ebody PP TT C L y120 [t0, t1] H = register_Order.sh C L H.length t0 t1 ⟨H, none⟩ := by kernel_rfl
theorem twainlaw49_lives.eq (H : List Blk) : acall PP TT q93 [] H = some (.bool true, H, none) := by rw [q50]; kernel_rfl
theorem twainlaw49_lives.lives : Lives PP q93 := y598 (T := TT1) (fun _ => rfl) (n := 40) (by kernel_rfl)
theorem ghost_Order.eq (C : Am.Callee) (L : Loops) (t0 t1 : Value) (H : List Blk) : ebody PP TT C L q158 [t0, t1] H = ghost_Order.sh C L H.length t0 t1 ⟨H, none⟩ := by kernel_rfl
theorem twainref37_Order.eq (C : Am.Callee) (L : Loops) (t0 t1 : Value) (H : List Blk) : ebody PP TT C L y118 [t0, t1] H = twainref37_Order.sh C L H.length t0 t1 ⟨H, none⟩ := by kernel_rfl
theorem history_paired.eq (C : Am.Callee) (L : Loops) (t0 : Value) (H : List Blk) : ebody PP TT C L q106 [t0] H = history_paired.sh C L H.length t0 ⟨H, none⟩ := by kernel_rfl
theorem span_Overlap.eq (C : Am.Callee) (L : Loops) (t0 t1 : Value) (H : List Blk) : ebody PP TT C L q133 [t0, t1] H = span_Overlap.sh C L H.length t0 t1 ⟨H, none⟩ := by kernel_rfl
theorem history_pairs_to.eq (C : Am.Callee) (L : Loops) (t0 t1 : Value) (H : List Blk) : ebody PP TT C L y101 [t0, t1] H = history_pairs_to.sh C L H.length t0 t1 ⟨H, none⟩ := by kernel_rfl
theorem history_cut.eq (C : Am.Callee) (L : Loops) (t0 t1 : Value) (H : List Blk) : ebody PP TT C L y156 [t0, t1] H = history_cut.sh C L H.length t0 t1 ⟨H, none⟩ := by kernel_rfl
theorem twainref04_Overlap.eq (C : Am.Callee) (L : Loops) (t0 t1 : Value) (H : List Blk) : ebody PP TT C L y108 [t0, t1] H = twainref04_Overlap.sh C L H.length t0 t1 ⟨H, none⟩ := by kernel_rfl
theorem twainref36_ended.eq (C : Am.Callee) (L : Loops) (t0 t1 : Value) (H : List Blk) : ebody PP TT C L y91 [t0, t1] H = twainref36_ended.sh C L H.length t0 t1 ⟨H, none⟩ := by kernel_rfl
theorem twainref36_sector.eq (C : Am.Callee) (L : Loops) (t0 t1 : Value) (H : List Blk) : ebody PP TT C L y97 [t0, t1] H = twainref36_sector.sh C L H.length t0 t1 ⟨H, none⟩ := by kernel_rfl
theorem twainref36_asked.eq (C : Am.Callee) (L : Loops) (t0 t1 : Value) (H : List Blk) : ebody PP TT C L q92 [t0, t1] H = twainref36_asked.sh C L H.length t0 t1 ⟨H, none⟩ := by kernel_rfl
theorem twainref37_place.eq (C : Am.Callee) (L : Loops) (t0 t1 : Value) (H : List Blk) : ebody PP TT C L y78 [t0, t1] H = twainref37_place.sh C L H.length t0 t1 ⟨H, none⟩ := by kernel_rfl
theorem twainref37_ahead.eq (C : Am.Callee) (L : Loops) (t0 t1 : Value) (H : List Blk) : ebody PP TT C L q104 [t0, t1] H = twainref37_ahead.sh C L H.length t0 t1 ⟨H, none⟩ := by kernel_rfl
theorem twainref37_must.eq (C : Am.Callee) (L : Loops) (t0 : Value) (H : List Blk) : ebody PP TT C L y112 [t0] H = twainref37_must.sh C L H.length t0 ⟨H, none⟩ := by kernel_rfl
theorem register_begin.eq (C : Am.Callee) (L : Loops) (t0 : Value) (H : List Blk) : ebody PP TT C L y129 [t0] H = register_begin.sh C L H.length t0 ⟨H, none⟩ := by kernel_rfl
theorem P_register_hunt_find.eq (C : Am.Callee) (L : Loops) (t0 t1 : Value) (H : List Blk) : ebody PP TT C L q95 [t0, t1] H = P_register_hunt_find.sh C L H.length t0 t1 ⟨H, none⟩ := by kernel_rfl
theorem twainref37_search.eq (C : Am.Callee) (L : Loops) (t0 t1 t2 t3 : Value) (H : List Blk) : ebody PP TT C L q88 [t0, t1, t2, t3] H = twainref37_search.sh C L H.length t0 t1 t2 t3 ⟨H, none⟩ := by kernel_rfl
theorem history_of.eq (C : Am.Callee) (L : Loops) (t0 : Value) (H : List Blk) : ebody PP TT C L y154 [t0] H = history_of.sh C L H.length t0 ⟨H, none⟩ := by kernel_rfl
theorem span_Meet.eq (C : Am.Callee) (L : Loops) (t0 t1 : Value) (H : List Blk) : ebody PP TT C L q182 [t0, t1] H = span_Meet.sh C L H.length t0 t1 ⟨H, none⟩ := by kernel_rfl
theorem twainref04_Meet.eq (C : Am.Callee) (L : Loops) (t0 t1 : Value) (H : List Blk) : ebody PP TT C L y124 [t0, t1] H = twainref04_Meet.sh C L H.length t0 t1 ⟨H, none⟩ := by kernel_rfl
theorem P_register_hunt_find_1.eq (C : Am.Callee) (L : Loops) (t0 t1 t2 t3 : Value) (H : List Blk) : ebody PP TT C L q46 [t0, t1, t2, t3] H = P_register_hunt_find_1.sh C L H.length t0 t1 t2 t3 ⟨H, none⟩ := by kernel_rfl
theorem P_register_hunt_find_1_1.eq (C : Am.Callee) (L : Loops) (t0 t1 t2 t3 t4 : Value) (H : List Blk) : ebody PP TT C L q54 [t0, t1, t2, t3, t4] H = P_register_hunt_find_1_1.sh C L H.length t0 t1 t2 t3 t4 ⟨H, none⟩ := by kernel_rfl
theorem P_register_hunt_read.eq (C : Am.Callee) (L : Loops) (t0 t1 : Value) (H : List Blk) : ebody PP TT C L y95 [t0, t1] H = P_register_hunt_read.sh C L H.length t0 t1 ⟨H, none⟩ := by kernel_rfl
theorem P_register_hunt_may.eq (C : Am.Callee) (L : Loops) (t0 t1 t2 : Value) (H : List Blk) : ebody PP TT C L y88 [t0, t1, t2] H = P_register_hunt_may.sh C L H.length t0 t1 t2 ⟨H, none⟩ := by kernel_rfl
theorem twainref37_whole.eq (C : Am.Callee) (L : Loops) (t0 t1 : Value) (H : List Blk) : ebody PP TT C L q121 [t0, t1] H = twainref37_whole.sh C L H.length t0 t1 ⟨H, none⟩ := by kernel_rfl
theorem twainref37_next.eq (C : Am.Callee) (L : Loops) (t0 t1 t2 t3 : Value) (H : List Blk) : ebody PP TT C L y125 [t0, t1, t2, t3] H = twainref37_next.sh C L H.length t0 t1 t2 t3 ⟨H, none⟩ := by kernel_rfl
theorem span_Plain.eq (C : Am.Callee) (L : Loops) (t0 : Value) (H : List Blk) : ebody PP TT C L y141 [t0] H = span_Plain.sh C L H.length t0 ⟨H, none⟩ := by kernel_rfl
theorem span_side_from.eq (C : Am.Callee) (L : Loops) (t0 t1 : Value) (H : List Blk) : ebody PP TT C L y105 [t0, t1] H = span_side_from.sh C L H.length t0 t1 ⟨H, none⟩ := by kernel_rfl
theorem span_side_to.eq (C : Am.Callee) (L : Loops) (t0 t1 : Value) (H : List Blk) : ebody PP TT C L q122 [t0, t1] H = span_side_to.sh C L H.length t0 t1 ⟨H, none⟩ := by kernel_rfl
theorem span_End.eq (C : Am.Callee) (L : Loops) (t0 : Value) (H : List Blk) : ebody PP TT C L q184 [t0] H = span_End.sh C L H.length t0 ⟨H, none⟩ := by kernel_rfl
theorem twainref04_Plain.eq (C : Am.Callee) (L : Loops) (t0 : Value) (H : List Blk) : ebody PP TT C L y103 [t0] H = twainref04_Plain.sh C L H.length t0 ⟨H, none⟩ := by kernel_rfl
theorem span_within.eq (C : Am.Callee) (L : Loops) (t0 : Value) (H : List Blk) : ebody PP TT C L y143 [t0] H = span_within.sh C L H.length t0 ⟨H, none⟩ := by kernel_rfl
theorem TT_lives : ∀ f, (TT f).lives = true → Lives PP f := by
  intro f h
  unfold TT at h
  by_cases h8 : f = y110
  · subst h8; simp [twainlaw49_GhostOrder.T] at h
  simp only [h8, if_false] at h
  by_cases h9 : f = q130
  · subst h9; simp [twainlaw36_Few.T] at h
  simp only [h9, if_false] at h
  by_cases h11 : f = y128
  · subst h11; simp [twainlaw36_Raw.T] at h
  simp only [h11, if_false] at h
  by_cases h12 : f = q140
  · subst h12; simp [twainref36_Same.T] at h
  simp only [h12, if_false] at h
  by_cases h13 : f = q149
  · subst h13; simp [twainlaw36_Ops.T] at h
  simp only [h13, if_false] at h
  by_cases h14 : f = y158
  · subst h14; simp [history_Ops.T] at h
  simp only [h14, if_false] at h
  by_cases h15 : f = q128
  · subst h15; simp [twainref36_Ops.T] at h
  simp only [h15, if_false] at h
  by_cases h16 : f = q138
  · subst h16; simp [twainref01_Ints.T] at h
  simp only [h16, if_false] at h
  by_cases h17 : f = q162
  · subst h17; simp [history_Open.T] at h
  simp only [h17, if_false] at h
  by_cases h18 : f = y135
  · subst h18; simp [twainref36_Open.T] at h
  simp only [h18, if_false] at h
  by_cases h19 : f = y174
  · subst h19; simp [history_Odd.T] at h
  simp only [h19, if_false] at h
  by_cases h20 : f = q146
  · subst h20; simp [twainref36_Odd.T] at h
  simp only [h20, if_false] at h
  by_cases h24 : f = q126
  · subst h24; simp [twainref37_Fits.T] at h
  simp only [h24, if_false] at h
  by_cases h25 : f = y145
  · subst h25; simp [register_Right.T] at h
  simp only [h25, if_false] at h
  by_cases h26 : f = y120
  · subst h26; simp [register_Order.T] at h
  simp only [h26, if_false] at h
  by_cases h27 : f = q93
  · subst h27; exact twainlaw49_lives.lives
  simp only [h27, if_false] at h
  by_cases h35 : f = q158
  · subst h35; simp [ghost_Order.T] at h
  simp only [h35, if_false] at h
  by_cases h36 : f = y118
  · subst h36; simp [twainref37_Order.T] at h
  simp only [h36, if_false] at h
  by_cases h37 : f = q106
  · subst h37; simp [history_paired.T] at h
  simp only [h37, if_false] at h
  by_cases h38 : f = q133
  · subst h38; simp [span_Overlap.T] at h
  simp only [h38, if_false] at h
  by_cases h39 : f = y101
  · subst h39; simp [history_pairs_to.T] at h
  simp only [h39, if_false] at h
  by_cases h40 : f = y156
  · subst h40; simp [history_cut.T] at h
  simp only [h40, if_false] at h
  by_cases h41 : f = y108
  · subst h41; simp [twainref04_Overlap.T] at h
  simp only [h41, if_false] at h
  by_cases h42 : f = y91
  · subst h42; simp [twainref36_ended.T] at h
  simp only [h42, if_false] at h
  by_cases h43 : f = y97
  · subst h43; simp [twainref36_sector.T] at h
  simp only [h43, if_false] at h
  by_cases h44 : f = q92
  · subst h44; simp [twainref36_asked.T] at h
  simp only [h44, if_false] at h
  by_cases h45 : f = y78
  · subst h45; simp [twainref37_place.T] at h
  simp only [h45, if_false] at h
  by_cases h46 : f = q104
  · subst h46; simp [twainref37_ahead.T] at h
  simp only [h46, if_false] at h
  by_cases h47 : f = y112
  · subst h47; simp [twainref37_must.T] at h
  simp only [h47, if_false] at h
  by_cases h48 : f = y129
  · subst h48; simp [register_begin.T] at h
  simp only [h48, if_false] at h
  by_cases h49 : f = q95
  · subst h49; simp [P_register_hunt_find.T] at h
  simp only [h49, if_false] at h
  by_cases h52 : f = q88
  · subst h52; simp [twainref37_search.T] at h
  simp only [h52, if_false] at h
  by_cases h53 : f = y154
  · subst h53; simp [history_of.T] at h
  simp only [h53, if_false] at h
  by_cases h54 : f = q182
  · subst h54; simp [span_Meet.T] at h
  simp only [h54, if_false] at h
  by_cases h55 : f = y124
  · subst h55; simp [twainref04_Meet.T] at h
  simp only [h55, if_false] at h
  by_cases h56 : f = q46
  · subst h56; simp [P_register_hunt_find_1.T] at h
  simp only [h56, if_false] at h
  by_cases h57 : f = q54
  · subst h57; simp [P_register_hunt_find_1_1.T] at h
  simp only [h57, if_false] at h
  by_cases h58 : f = y95
  · subst h58; simp [P_register_hunt_read.T] at h
  simp only [h58, if_false] at h
  by_cases h59 : f = y88
  · subst h59; simp [P_register_hunt_may.T] at h
  simp only [h59, if_false] at h
  by_cases h61 : f = q121
  · subst h61; simp [twainref37_whole.T] at h
  simp only [h61, if_false] at h
  by_cases h62 : f = y125
  · subst h62; simp [twainref37_next.T] at h
  simp only [h62, if_false] at h
  by_cases h63 : f = y141
  · subst h63; simp [span_Plain.T] at h
  simp only [h63, if_false] at h
  by_cases h64 : f = y105
  · subst h64; simp [span_side_from.T] at h
  simp only [h64, if_false] at h
  by_cases h65 : f = q122
  · subst h65; simp [span_side_to.T] at h
  simp only [h65, if_false] at h
  by_cases h66 : f = q184
  · subst h66; simp [span_End.T] at h
  simp only [h66, if_false] at h
  by_cases h67 : f = y103
  · subst h67; simp [twainref04_Plain.T] at h
  simp only [h67, if_false] at h
  by_cases h68 : f = y143
  · subst h68; simp [span_within.T] at h
  simp only [h68, if_false] at h
  simp at h
end Go.Proofs.Ytfinilnkempofaa
