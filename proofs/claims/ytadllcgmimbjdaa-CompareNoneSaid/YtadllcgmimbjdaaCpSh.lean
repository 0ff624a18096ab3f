/- A part of the proof: CpSh. Its conditions: none. -/
import Derived.Test.YtadllcgmimbjdaaCpShD
import Derived.Test.YtadllcgmimbjdaaLc5
set_option linter.all false
set_option linter.unusedVariables false
set_option linter.unusedSimpArgs false
set_option linter.unnecessarySimpa false
namespace Go.Proofs.Ytadllcgmimbjdaa
open Go Go.Am
set_option linter.unusedVariables false
def TT : FuncId → Tab := fun f => if f = n_twainlaw46_CompareSums then twainlaw46_CompareSums.T else if f = n_twainlaw46_CompareNone then twainlaw46_CompareNone.T else if f = n_twainlaw46_lives then twainlaw46_lives.T else if f = n_disk_New then disk_New.T else if f = n_P_disk_Disk_Write then P_disk_Disk_Write.T else if f = n_P_disk_Disk_Flush then P_disk_Disk_Flush.T else if f = n_compare_Unlike then compare_Unlike.T else if f = n_compare_Suspect then compare_Suspect.T else if f = n_compare_Sums then compare_Sums.T else if f = n_compare_Explained then compare_Explained.T else if f = n_P_disk_Disk_Made then P_disk_Disk_Made.T else if f = n_P_disk_Disk_has then P_disk_Disk_has.T else if f = n_P_disk_Disk_spend then P_disk_Disk_spend.T else if f = n_data_Sectors then data_Sectors.T else if f = n_compare_at then compare_at.T else if f = n_bits_With then bits_With.T else if f = n_compare_extents then compare_extents.T else if f = n_compare_sum then compare_sum.T else if f = n_P_world_World_Net then P_world_World_Net.T else if f = n_P_disk_Disk_Size then P_disk_Disk_Size.T else if f = n_P_disk_Disk_Durable then P_disk_Disk_Durable.T else if f = n_bits_One then bits_One.T else if f = n_span_Whole then span_Whole.T else if f = n_crc_Sum then crc_Sum.T else if f = n_crc_More then crc_More.T else if f = n_P_world_World_is then P_world_World_is.T else if f = n_bits_in then bits_in.T else if f = n_crc_Step then crc_Step.T else if f = n_crc_half then crc_half.T else ⟨fun _ => none, fun _ => none, false, fun _ => none, fun _ => false, false, false, fun _ => false, 0, false⟩
def TT1 : FuncId → Tab := fun f => { TT f with lives := false }
theorem twainlaw46_CompareSums.eq (C : Am.Callee) (L : Loops) (t0 : Value) (H : List Blk) : ebody PP TT C L n_twainlaw46_CompareSums [t0] H = twainlaw46_CompareSums.sh C L H.length t0 ⟨H, none⟩ := by kernel_rfl
theorem twainlaw46_CompareNone.eq (C : Am.Callee) (L : Loops) (t0 : Value) (H : List Blk) : ebody PP TT C L n_twainlaw46_CompareNone [t0] H = twainlaw46_CompareNone.sh C L H.length t0 ⟨H, none⟩ := by kernel_rfl
theorem twainlaw46_lives.eq (H : List Blk) : acall PP TT n_twainlaw46_lives [] H = some (.bool true, H, none) := by rw [acall_eq]; kernel_rfl
theorem twainlaw46_lives.lives : Lives PP n_twainlaw46_lives := Lc5.lives
theorem disk_New.eq (C : Am.Callee) (L : Loops) (t0 : Value) (H : List Blk) : ebody PP TT C L n_disk_New [t0] H = disk_New.sh C L H.length t0 ⟨H, none⟩ := by kernel_rfl
theorem P_disk_Disk_Write.eq (C : Am.Callee) (L : Loops) (t0 t1 t2 : Value) (H : List Blk) : ebody PP TT C L n_P_disk_Disk_Write [t0, t1, t2] H = P_disk_Disk_Write.sh C L H.length t0 t1 t2 ⟨H, none⟩ := by kernel_rfl
theorem P_disk_Disk_Flush.eq (C : Am.Callee) (L : Loops) (t0 : Value) (H : List Blk) : ebody PP TT C L n_P_disk_Disk_Flush [t0] H = P_disk_Disk_Flush.sh C L H.length t0 ⟨H, none⟩ := by kernel_rfl
theorem compare_Unlike.eq (C : Am.Callee) (L : Loops) (t0 t1 : Value) (H : List Blk) : ebody PP TT C L n_compare_Unlike [t0, t1] H = compare_Unlike.sh C L H.length t0 t1 ⟨H, none⟩ := by kernel_rfl
theorem compare_Suspect.eq (C : Am.Callee) (L : Loops) (t0 t1 : Value) (H : List Blk) : ebody PP TT C L n_compare_Suspect [t0, t1] H = compare_Suspect.sh C L H.length t0 t1 ⟨H, none⟩ := by kernel_rfl
theorem compare_Sums.eq (C : Am.Callee) (L : Loops) (t0 : Value) (H : List Blk) : ebody PP TT C L n_compare_Sums [t0] H = compare_Sums.sh C L H.length t0 ⟨H, none⟩ := by kernel_rfl
theorem compare_Explained.eq (C : Am.Callee) (L : Loops) (t0 : Value) (H : List Blk) : ebody PP TT C L n_compare_Explained [t0] H = compare_Explained.sh C L H.length t0 ⟨H, none⟩ := by kernel_rfl
theorem P_disk_Disk_Made.eq (C : Am.Callee) (L : Loops) (t0 : Value) (H : List Blk) : ebody PP TT C L n_P_disk_Disk_Made [t0] H = P_disk_Disk_Made.sh C L H.length t0 ⟨H, none⟩ := by kernel_rfl
theorem P_disk_Disk_has.eq (C : Am.Callee) (L : Loops) (t0 t1 : Value) (H : List Blk) : ebody PP TT C L n_P_disk_Disk_has [t0, t1] H = P_disk_Disk_has.sh C L H.length t0 t1 ⟨H, none⟩ := by kernel_rfl
theorem P_disk_Disk_spend.eq (C : Am.Callee) (L : Loops) (t0 : Value) (H : List Blk) : ebody PP TT C L n_P_disk_Disk_spend [t0] H = P_disk_Disk_spend.sh C L H.length t0 ⟨H, none⟩ := by kernel_rfl
theorem data_Sectors.eq (C : Am.Callee) (L : Loops) (t0 : Value) (H : List Blk) : ebody PP TT C L n_data_Sectors [t0] H = data_Sectors.sh C L H.length t0 ⟨H, none⟩ := by kernel_rfl
theorem compare_at.eq (C : Am.Callee) (L : Loops) (t0 t1 : Value) (H : List Blk) : ebody PP TT C L n_compare_at [t0, t1] H = compare_at.sh C L H.length t0 t1 ⟨H, none⟩ := by kernel_rfl
theorem bits_With.eq (C : Am.Callee) (L : Loops) (t0 t1 : Value) (H : List Blk) : ebody PP TT C L n_bits_With [t0, t1] H = bits_With.sh C L H.length t0 t1 ⟨H, none⟩ := by kernel_rfl
theorem compare_extents.eq (C : Am.Callee) (L : Loops) (t0 : Value) (H : List Blk) : ebody PP TT C L n_compare_extents [t0] H = compare_extents.sh C L H.length t0 ⟨H, none⟩ := by kernel_rfl
theorem compare_sum.eq (C : Am.Callee) (L : Loops) (t0 t1 : Value) (H : List Blk) : ebody PP TT C L n_compare_sum [t0, t1] H = compare_sum.sh C L H.length t0 t1 ⟨H, none⟩ := by kernel_rfl
theorem P_world_World_Net.eq (C : Am.Callee) (L : Loops) (t0 : Value) (H : List Blk) : ebody PP TT C L n_P_world_World_Net [t0] H = P_world_World_Net.sh C L H.length t0 ⟨H, none⟩ := by kernel_rfl
theorem P_disk_Disk_Size.eq (C : Am.Callee) (L : Loops) (t0 : Value) (H : List Blk) : ebody PP TT C L n_P_disk_Disk_Size [t0] H = P_disk_Disk_Size.sh C L H.length t0 ⟨H, none⟩ := by kernel_rfl
theorem P_disk_Disk_Durable.eq (C : Am.Callee) (L : Loops) (t0 t1 : Value) (H : List Blk) : ebody PP TT C L n_P_disk_Disk_Durable [t0, t1] H = P_disk_Disk_Durable.sh C L H.length t0 t1 ⟨H, none⟩ := by kernel_rfl
theorem bits_One.eq (C : Am.Callee) (L : Loops) (t0 : Value) (H : List Blk) : ebody PP TT C L n_bits_One [t0] H = bits_One.sh C L H.length t0 ⟨H, none⟩ := by kernel_rfl
theorem span_Whole.eq (C : Am.Callee) (L : Loops) (t0 : Value) (H : List Blk) : ebody PP TT C L n_span_Whole [t0] H = span_Whole.sh C L H.length t0 ⟨H, none⟩ := by kernel_rfl
theorem crc_Sum.eq (C : Am.Callee) (L : Loops) (t0 : Value) (H : List Blk) : ebody PP TT C L n_crc_Sum [t0] H = crc_Sum.sh C L H.length t0 ⟨H, none⟩ := by kernel_rfl
theorem crc_More.eq (C : Am.Callee) (L : Loops) (t0 t1 : Value) (H : List Blk) : ebody PP TT C L n_crc_More [t0, t1] H = crc_More.sh C L H.length t0 t1 ⟨H, none⟩ := by kernel_rfl
theorem P_world_World_is.eq (C : Am.Callee) (L : Loops) (t0 : Value) (H : List Blk) : ebody PP TT C L n_P_world_World_is [t0] H = P_world_World_is.sh C L H.length t0 ⟨H, none⟩ := by kernel_rfl
theorem bits_in.eq (C : Am.Callee) (L : Loops) (t0 : Value) (H : List Blk) : ebody PP TT C L n_bits_in [t0] H = bits_in.sh C L H.length t0 ⟨H, none⟩ := by kernel_rfl
theorem crc_Step.eq (C : Am.Callee) (L : Loops) (t0 t1 : Value) (H : List Blk) : ebody PP TT C L n_crc_Step [t0, t1] H = crc_Step.sh C L H.length t0 t1 ⟨H, none⟩ := by kernel_rfl
theorem crc_half.eq (C : Am.Callee) (L : Loops) (t0 : Value) (H : List Blk) : ebody PP TT C L n_crc_half [t0] H = crc_half.sh C L H.length t0 ⟨H, none⟩ := by kernel_rfl
theorem TT_lives : ∀ f, (TT f).lives = true → Lives PP f := by
  intro f h
  unfold TT at h
  by_cases h3 : f = n_twainlaw46_CompareSums
  · subst h3; simp [twainlaw46_CompareSums.T] at h
  simp only [h3, if_false] at h
  by_cases h4 : f = n_twainlaw46_CompareNone
  · subst h4; simp [twainlaw46_CompareNone.T] at h
  simp only [h4, if_false] at h
  by_cases h5 : f = n_twainlaw46_lives
  · subst h5; exact twainlaw46_lives.lives
  simp only [h5, if_false] at h
  by_cases h6 : f = n_disk_New
  · subst h6; simp [disk_New.T] at h
  simp only [h6, if_false] at h
  by_cases h7 : f = n_P_disk_Disk_Write
  · subst h7; simp [P_disk_Disk_Write.T] at h
  simp only [h7, if_false] at h
  by_cases h8 : f = n_P_disk_Disk_Flush
  · subst h8; simp [P_disk_Disk_Flush.T] at h
  simp only [h8, if_false] at h
  by_cases h9 : f = n_compare_Unlike
  · subst h9; simp [compare_Unlike.T] at h
  simp only [h9, if_false] at h
  by_cases h10 : f = n_compare_Suspect
  · subst h10; simp [compare_Suspect.T] at h
  simp only [h10, if_false] at h
  by_cases h11 : f = n_compare_Sums
  · subst h11; simp [compare_Sums.T] at h
  simp only [h11, if_false] at h
  by_cases h12 : f = n_compare_Explained
  · subst h12; simp [compare_Explained.T] at h
  simp only [h12, if_false] at h
  by_cases h14 : f = n_P_disk_Disk_Made
  · subst h14; simp [P_disk_Disk_Made.T] at h
  simp only [h14, if_false] at h
  by_cases h15 : f = n_P_disk_Disk_has
  · subst h15; simp [P_disk_Disk_has.T] at h
  simp only [h15, if_false] at h
  by_cases h16 : f = n_P_disk_Disk_spend
  · subst h16; simp [P_disk_Disk_spend.T] at h
  simp only [h16, if_false] at h
  by_cases h17 : f = n_data_Sectors
  · subst h17; simp [data_Sectors.T] at h
  simp only [h17, if_false] at h
  by_cases h18 : f = n_compare_at
  · subst h18; simp [compare_at.T] at h
  simp only [h18, if_false] at h
  by_cases h19 : f = n_bits_With
  · subst h19; simp [bits_With.T] at h
  simp only [h19, if_false] at h
  by_cases h20 : f = n_compare_extents
  · subst h20; simp [compare_extents.T] at h
  simp only [h20, if_false] at h
  by_cases h21 : f = n_compare_sum
  · subst h21; simp [compare_sum.T] at h
  simp only [h21, if_false] at h
  by_cases h22 : f = n_P_world_World_Net
  · subst h22; simp [P_world_World_Net.T] at h
  simp only [h22, if_false] at h
  by_cases h27 : f = n_P_disk_Disk_Size
  · subst h27; simp [P_disk_Disk_Size.T] at h
  simp only [h27, if_false] at h
  by_cases h28 : f = n_P_disk_Disk_Durable
  · subst h28; simp [P_disk_Disk_Durable.T] at h
  simp only [h28, if_false] at h
  by_cases h29 : f = n_bits_One
  · subst h29; simp [bits_One.T] at h
  simp only [h29, if_false] at h
  by_cases h30 : f = n_span_Whole
  · subst h30; simp [span_Whole.T] at h
  simp only [h30, if_false] at h
  by_cases h31 : f = n_crc_Sum
  · subst h31; simp [crc_Sum.T] at h
  simp only [h31, if_false] at h
  by_cases h32 : f = n_crc_More
  · subst h32; simp [crc_More.T] at h
  simp only [h32, if_false] at h
  by_cases h33 : f = n_P_world_World_is
  · subst h33; simp [P_world_World_is.T] at h
  simp only [h33, if_false] at h
  by_cases h39 : f = n_bits_in
  · subst h39; simp [bits_in.T] at h
  simp only [h39, if_false] at h
  by_cases h40 : f = n_crc_Step
  · subst h40; simp [crc_Step.T] at h
  simp only [h40, if_false] at h
  by_cases h46 : f = n_crc_half
  · subst h46; simp [crc_half.T] at h
  simp only [h46, if_false] at h
  simp at h
end Go.Proofs.Ytadllcgmimbjdaa
