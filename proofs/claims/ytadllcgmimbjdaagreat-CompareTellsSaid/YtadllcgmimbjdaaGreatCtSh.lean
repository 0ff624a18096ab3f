/- A part of the proof: CtSh. Its conditions: none. -/
import Derived.Test.YtadllcgmimbjdaaGreatCtShD
import Derived.Test.YtadllcgmimbjdaaGreatLc4
set_option linter.all false
set_option linter.unusedVariables false
set_option linter.unusedSimpArgs false
set_option linter.unnecessarySimpa false
namespace Go.Proofs.YtadllcgmimbjdaaGreat
open Go Go.Am
set_option linter.unusedVariables false
def TT : FuncId → Tab := fun f => if f = n_twainlaw46_CompareTells then twainlaw46_CompareTells.T else if f = n_twainlaw46_lives then twainlaw46_lives.T else if f = n_disk_New then disk_New.T else if f = n_twainref06_New then twainref06_New.T else if f = n_P_disk_Disk_Write then P_disk_Disk_Write.T else if f = n_P_twainref06_Disk_Write then P_twainref06_Disk_Write.T else if f = n_P_disk_Disk_Flush then P_disk_Disk_Flush.T else if f = n_P_twainref06_Disk_Flush then P_twainref06_Disk_Flush.T else if f = n_compare_Sums then compare_Sums.T else if f = n_twainref46_Sums then twainref46_Sums.T else if f = n_compare_Unlike then compare_Unlike.T else if f = n_twainref46_Unlike then twainref46_Unlike.T else if f = n_compare_Known then compare_Known.T else if f = n_twainref46_Known then twainref46_Known.T else if f = n_compare_Suspect then compare_Suspect.T else if f = n_twainref46_Suspect then twainref46_Suspect.T else if f = n_P_disk_Disk_Made then P_disk_Disk_Made.T else if f = n_P_disk_Disk_has then P_disk_Disk_has.T else if f = n_P_disk_Disk_spend then P_disk_Disk_spend.T else if f = n_P_twainref06_Disk_in then P_twainref06_Disk_in.T else if f = n_P_twainref06_Disk_burns then P_twainref06_Disk_burns.T else if f = n_P_twainref06_Disk_keep then P_twainref06_Disk_keep.T else if f = n_compare_extents then compare_extents.T else if f = n_compare_sum then compare_sum.T else if f = n_twainref12_Sectors then twainref12_Sectors.T else if f = n_P_twainref06_Disk_Durable then P_twainref06_Disk_Durable.T else if f = n_twainref03_Sum then twainref03_Sum.T else if f = n_data_Sectors then data_Sectors.T else if f = n_compare_at then compare_at.T else if f = n_bits_With then bits_With.T else if f = n_twainref01_With then twainref01_With.T else if f = n_meta_Mine then meta_Mine.T else if f = n_meta_Look then meta_Look.T else if f = n_twainref01_Both then twainref01_Both.T else if f = n_twainref13_Mine then twainref13_Mine.T else if f = n_twainref13_Look then twainref13_Look.T else if f = n_span_Whole then span_Whole.T else if f = n_crc_Sum then crc_Sum.T else if f = n_crc_More then crc_More.T else if f = n_twainref03_More then twainref03_More.T else if f = n_P_disk_Disk_Size then P_disk_Disk_Size.T else if f = n_P_disk_Disk_Durable then P_disk_Disk_Durable.T else if f = n_bits_One then bits_One.T else if f = n_twainref01_Has then twainref01_Has.T else if f = n_twainref01_One then twainref01_One.T else if f = n_super_Boot then super_Boot.T else if f = n_actlog_Get then actlog_Get.T else if f = n_dirty_Get then dirty_Get.T else if f = n_twainref08_Boot then twainref08_Boot.T else if f = n_twainref10_Get then twainref10_Get.T else if f = n_twainref11_Get then twainref11_Get.T else if f = n_crc_Step then crc_Step.T else if f = n_twainref03_Step then twainref03_Step.T else if f = n_bits_in then bits_in.T else if f = n_super_Boot_1 then super_Boot_1.T else if f = n_slots_Latest then slots_Latest.T else if f = n_actlog_log_of then actlog_log_of.T else if f = n_actlog_here then actlog_here.T else if f = n_dirty_bitmap_mask then dirty_bitmap_mask.T else if f = n_twainref07_Latest then twainref07_Latest.T else if f = n_crc_half then crc_half.T else if f = n_slots_ring_latest then slots_ring_latest.T else if f = n_twainref07_ring then twainref07_ring.T else if f = n_P_twainref06_Disk_Read then P_twainref06_Disk_Read.T else if f = n_twainref05_Open then twainref05_Open.T else if f = n_twainref07_Place then twainref07_Place.T else if f = n_slots_ring_on then slots_ring_on.T else if f = n_slots_ring_read then slots_ring_read.T else if f = n_twainref02_Get32 then twainref02_Get32.T else if f = n_twainref02_Get then twainref02_Get.T else if f = n_twainref05_Record then twainref05_Record.T else if f = n_slots_ring_good then slots_ring_good.T else if f = n_P_disk_Disk_Read then P_disk_Disk_Read.T else if f = n_seal_Open then seal_Open.T else if f = n_slots_ring_place then slots_ring_place.T else if f = n_twainref05_Put then twainref05_Put.T else if f = n_twainref02_Put64 then twainref02_Put64.T else if f = n_twainref02_Put32 then twainref02_Put32.T else if f = n_num_Get32 then num_Get32.T else if f = n_num_Get64 then num_Get64.T else if f = n_seal_Record then seal_Record.T else if f = n_twainref02_Put then twainref02_Put.T else if f = n_num_get_uint32 then num_get_uint32.T else if f = n_num_get_uint64 then num_get_uint64.T else if f = n_seal_Put then seal_Put.T else if f = n_num_Put64 then num_Put64.T else if f = n_num_Put32 then num_Put32.T else if f = n_seal_sum then seal_sum.T else if f = n_num_put_uint64 then num_put_uint64.T else if f = n_num_put_uint32 then num_put_uint32.T else if f = n_num_join then num_join.T else ⟨fun _ => none, fun _ => none, false, fun _ => none, fun _ => false, false, false, fun _ => false, 0, false⟩
def TT1 : FuncId → Tab := fun f => { TT f with lives := false }
theorem twainlaw46_CompareTells.eq (C : Am.Callee) (L : Loops) (t0 t1 : Value) (H : List Blk) : ebody PP TT C L n_twainlaw46_CompareTells [t0, t1] H = twainlaw46_CompareTells.sh C L H.length t0 t1 ⟨H, none⟩ := by kernel_rfl
theorem twainlaw46_lives.eq (H : List Blk) : acall PP TT n_twainlaw46_lives [] H = some (.bool true, H, none) := by rw [acall_eq]; kernel_rfl
theorem twainlaw46_lives.lives : Lives PP n_twainlaw46_lives := Lc4.lives
theorem disk_New.eq (C : Am.Callee) (L : Loops) (t0 : Value) (H : List Blk) : ebody PP TT C L n_disk_New [t0] H = disk_New.sh C L H.length t0 ⟨H, none⟩ := by kernel_rfl
theorem twainref06_New.eq (C : Am.Callee) (L : Loops) (t0 : Value) (H : List Blk) : ebody PP TT C L n_twainref06_New [t0] H = twainref06_New.sh C L H.length t0 ⟨H, none⟩ := by kernel_rfl
theorem P_disk_Disk_Write.eq (C : Am.Callee) (L : Loops) (t0 t1 t2 : Value) (H : List Blk) : ebody PP TT C L n_P_disk_Disk_Write [t0, t1, t2] H = P_disk_Disk_Write.sh C L H.length t0 t1 t2 ⟨H, none⟩ := by kernel_rfl
theorem P_twainref06_Disk_Write.eq (C : Am.Callee) (L : Loops) (t0 t1 t2 : Value) (H : List Blk) : ebody PP TT C L n_P_twainref06_Disk_Write [t0, t1, t2] H = P_twainref06_Disk_Write.sh C L H.length t0 t1 t2 ⟨H, none⟩ := by kernel_rfl
theorem P_disk_Disk_Flush.eq (C : Am.Callee) (L : Loops) (t0 : Value) (H : List Blk) : ebody PP TT C L n_P_disk_Disk_Flush [t0] H = P_disk_Disk_Flush.sh C L H.length t0 ⟨H, none⟩ := by kernel_rfl
theorem P_twainref06_Disk_Flush.eq (C : Am.Callee) (L : Loops) (t0 : Value) (H : List Blk) : ebody PP TT C L n_P_twainref06_Disk_Flush [t0] H = P_twainref06_Disk_Flush.sh C L H.length t0 ⟨H, none⟩ := by kernel_rfl
theorem compare_Sums.eq (C : Am.Callee) (L : Loops) (t0 : Value) (H : List Blk) : ebody PP TT C L n_compare_Sums [t0] H = compare_Sums.sh C L H.length t0 ⟨H, none⟩ := by kernel_rfl
theorem twainref46_Sums.eq (C : Am.Callee) (L : Loops) (t0 : Value) (H : List Blk) : ebody PP TT C L n_twainref46_Sums [t0] H = twainref46_Sums.sh C L H.length t0 ⟨H, none⟩ := by kernel_rfl
theorem compare_Unlike.eq (C : Am.Callee) (L : Loops) (t0 t1 : Value) (H : List Blk) : ebody PP TT C L n_compare_Unlike [t0, t1] H = compare_Unlike.sh C L H.length t0 t1 ⟨H, none⟩ := by kernel_rfl
theorem twainref46_Unlike.eq (C : Am.Callee) (L : Loops) (t0 t1 : Value) (H : List Blk) : ebody PP TT C L n_twainref46_Unlike [t0, t1] H = twainref46_Unlike.sh C L H.length t0 t1 ⟨H, none⟩ := by kernel_rfl
theorem compare_Known.eq (C : Am.Callee) (L : Loops) (t0 t1 : Value) (H : List Blk) : ebody PP TT C L n_compare_Known [t0, t1] H = compare_Known.sh C L H.length t0 t1 ⟨H, none⟩ := by kernel_rfl
theorem twainref46_Known.eq (C : Am.Callee) (L : Loops) (t0 t1 : Value) (H : List Blk) : ebody PP TT C L n_twainref46_Known [t0, t1] H = twainref46_Known.sh C L H.length t0 t1 ⟨H, none⟩ := by kernel_rfl
theorem compare_Suspect.eq (C : Am.Callee) (L : Loops) (t0 t1 : Value) (H : List Blk) : ebody PP TT C L n_compare_Suspect [t0, t1] H = compare_Suspect.sh C L H.length t0 t1 ⟨H, none⟩ := by kernel_rfl
theorem twainref46_Suspect.eq (C : Am.Callee) (L : Loops) (t0 t1 : Value) (H : List Blk) : ebody PP TT C L n_twainref46_Suspect [t0, t1] H = twainref46_Suspect.sh C L H.length t0 t1 ⟨H, none⟩ := by kernel_rfl
theorem P_disk_Disk_Made.eq (C : Am.Callee) (L : Loops) (t0 : Value) (H : List Blk) : ebody PP TT C L n_P_disk_Disk_Made [t0] H = P_disk_Disk_Made.sh C L H.length t0 ⟨H, none⟩ := by kernel_rfl
theorem P_disk_Disk_has.eq (C : Am.Callee) (L : Loops) (t0 t1 : Value) (H : List Blk) : ebody PP TT C L n_P_disk_Disk_has [t0, t1] H = P_disk_Disk_has.sh C L H.length t0 t1 ⟨H, none⟩ := by kernel_rfl
theorem P_disk_Disk_spend.eq (C : Am.Callee) (L : Loops) (t0 : Value) (H : List Blk) : ebody PP TT C L n_P_disk_Disk_spend [t0] H = P_disk_Disk_spend.sh C L H.length t0 ⟨H, none⟩ := by kernel_rfl
theorem P_twainref06_Disk_in.eq (C : Am.Callee) (L : Loops) (t0 t1 : Value) (H : List Blk) : ebody PP TT C L n_P_twainref06_Disk_in [t0, t1] H = P_twainref06_Disk_in.sh C L H.length t0 t1 ⟨H, none⟩ := by kernel_rfl
theorem P_twainref06_Disk_burns.eq (C : Am.Callee) (L : Loops) (t0 : Value) (H : List Blk) : ebody PP TT C L n_P_twainref06_Disk_burns [t0] H = P_twainref06_Disk_burns.sh C L H.length t0 ⟨H, none⟩ := by kernel_rfl
theorem P_twainref06_Disk_keep.eq (C : Am.Callee) (L : Loops) (t0 t1 t2 : Value) (H : List Blk) : ebody PP TT C L n_P_twainref06_Disk_keep [t0, t1, t2] H = P_twainref06_Disk_keep.sh C L H.length t0 t1 t2 ⟨H, none⟩ := by kernel_rfl
theorem compare_extents.eq (C : Am.Callee) (L : Loops) (t0 : Value) (H : List Blk) : ebody PP TT C L n_compare_extents [t0] H = compare_extents.sh C L H.length t0 ⟨H, none⟩ := by kernel_rfl
theorem compare_sum.eq (C : Am.Callee) (L : Loops) (t0 t1 : Value) (H : List Blk) : ebody PP TT C L n_compare_sum [t0, t1] H = compare_sum.sh C L H.length t0 t1 ⟨H, none⟩ := by kernel_rfl
theorem twainref12_Sectors.eq (C : Am.Callee) (L : Loops) (t0 : Value) (H : List Blk) : ebody PP TT C L n_twainref12_Sectors [t0] H = twainref12_Sectors.sh C L H.length t0 ⟨H, none⟩ := by kernel_rfl
theorem P_twainref06_Disk_Durable.eq (C : Am.Callee) (L : Loops) (t0 t1 : Value) (H : List Blk) : ebody PP TT C L n_P_twainref06_Disk_Durable [t0, t1] H = P_twainref06_Disk_Durable.sh C L H.length t0 t1 ⟨H, none⟩ := by kernel_rfl
theorem twainref03_Sum.eq (C : Am.Callee) (L : Loops) (t0 : Value) (H : List Blk) : ebody PP TT C L n_twainref03_Sum [t0] H = twainref03_Sum.sh C L H.length t0 ⟨H, none⟩ := by kernel_rfl
theorem data_Sectors.eq (C : Am.Callee) (L : Loops) (t0 : Value) (H : List Blk) : ebody PP TT C L n_data_Sectors [t0] H = data_Sectors.sh C L H.length t0 ⟨H, none⟩ := by kernel_rfl
theorem compare_at.eq (C : Am.Callee) (L : Loops) (t0 t1 : Value) (H : List Blk) : ebody PP TT C L n_compare_at [t0, t1] H = compare_at.sh C L H.length t0 t1 ⟨H, none⟩ := by kernel_rfl
theorem bits_With.eq (C : Am.Callee) (L : Loops) (t0 t1 : Value) (H : List Blk) : ebody PP TT C L n_bits_With [t0, t1] H = bits_With.sh C L H.length t0 t1 ⟨H, none⟩ := by kernel_rfl
theorem twainref01_With.eq (C : Am.Callee) (L : Loops) (t0 t1 : Value) (H : List Blk) : ebody PP TT C L n_twainref01_With [t0, t1] H = twainref01_With.sh C L H.length t0 t1 ⟨H, none⟩ := by kernel_rfl
theorem meta_Mine.eq (C : Am.Callee) (L : Loops) (t0 : Value) (H : List Blk) : ebody PP TT C L n_meta_Mine [t0] H = meta_Mine.sh C L H.length t0 ⟨H, none⟩ := by kernel_rfl
theorem meta_Look.eq (C : Am.Callee) (L : Loops) (t0 : Value) (H : List Blk) : ebody PP TT C L n_meta_Look [t0] H = meta_Look.sh C L H.length t0 ⟨H, none⟩ := by kernel_rfl
theorem twainref01_Both.eq (C : Am.Callee) (L : Loops) (t0 t1 : Value) (H : List Blk) : ebody PP TT C L n_twainref01_Both [t0, t1] H = twainref01_Both.sh C L H.length t0 t1 ⟨H, none⟩ := by kernel_rfl
theorem twainref13_Mine.eq (C : Am.Callee) (L : Loops) (t0 : Value) (H : List Blk) : ebody PP TT C L n_twainref13_Mine [t0] H = twainref13_Mine.sh C L H.length t0 ⟨H, none⟩ := by kernel_rfl
theorem twainref13_Look.eq (C : Am.Callee) (L : Loops) (t0 : Value) (H : List Blk) : ebody PP TT C L n_twainref13_Look [t0] H = twainref13_Look.sh C L H.length t0 ⟨H, none⟩ := by kernel_rfl
theorem span_Whole.eq (C : Am.Callee) (L : Loops) (t0 : Value) (H : List Blk) : ebody PP TT C L n_span_Whole [t0] H = span_Whole.sh C L H.length t0 ⟨H, none⟩ := by kernel_rfl
theorem crc_Sum.eq (C : Am.Callee) (L : Loops) (t0 : Value) (H : List Blk) : ebody PP TT C L n_crc_Sum [t0] H = crc_Sum.sh C L H.length t0 ⟨H, none⟩ := by kernel_rfl
theorem crc_More.eq (C : Am.Callee) (L : Loops) (t0 t1 : Value) (H : List Blk) : ebody PP TT C L n_crc_More [t0, t1] H = crc_More.sh C L H.length t0 t1 ⟨H, none⟩ := by kernel_rfl
theorem twainref03_More.eq (C : Am.Callee) (L : Loops) (t0 t1 : Value) (H : List Blk) : ebody PP TT C L n_twainref03_More [t0, t1] H = twainref03_More.sh C L H.length t0 t1 ⟨H, none⟩ := by kernel_rfl
theorem P_disk_Disk_Size.eq (C : Am.Callee) (L : Loops) (t0 : Value) (H : List Blk) : ebody PP TT C L n_P_disk_Disk_Size [t0] H = P_disk_Disk_Size.sh C L H.length t0 ⟨H, none⟩ := by kernel_rfl
theorem P_disk_Disk_Durable.eq (C : Am.Callee) (L : Loops) (t0 t1 : Value) (H : List Blk) : ebody PP TT C L n_P_disk_Disk_Durable [t0, t1] H = P_disk_Disk_Durable.sh C L H.length t0 t1 ⟨H, none⟩ := by kernel_rfl
theorem bits_One.eq (C : Am.Callee) (L : Loops) (t0 : Value) (H : List Blk) : ebody PP TT C L n_bits_One [t0] H = bits_One.sh C L H.length t0 ⟨H, none⟩ := by kernel_rfl
theorem twainref01_Has.eq (C : Am.Callee) (L : Loops) (t0 t1 : Value) (H : List Blk) : ebody PP TT C L n_twainref01_Has [t0, t1] H = twainref01_Has.sh C L H.length t0 t1 ⟨H, none⟩ := by kernel_rfl
theorem twainref01_One.eq (C : Am.Callee) (L : Loops) (t0 : Value) (H : List Blk) : ebody PP TT C L n_twainref01_One [t0] H = twainref01_One.sh C L H.length t0 ⟨H, none⟩ := by kernel_rfl
theorem super_Boot.eq (C : Am.Callee) (L : Loops) (t0 : Value) (H : List Blk) : ebody PP TT C L n_super_Boot [t0] H = super_Boot.sh C L H.length t0 ⟨H, none⟩ := by kernel_rfl
theorem actlog_Get.eq (C : Am.Callee) (L : Loops) (t0 : Value) (H : List Blk) : ebody PP TT C L n_actlog_Get [t0] H = actlog_Get.sh C L H.length t0 ⟨H, none⟩ := by kernel_rfl
theorem dirty_Get.eq (C : Am.Callee) (L : Loops) (t0 : Value) (H : List Blk) : ebody PP TT C L n_dirty_Get [t0] H = dirty_Get.sh C L H.length t0 ⟨H, none⟩ := by kernel_rfl
theorem twainref08_Boot.eq (C : Am.Callee) (L : Loops) (t0 : Value) (H : List Blk) : ebody PP TT C L n_twainref08_Boot [t0] H = twainref08_Boot.sh C L H.length t0 ⟨H, none⟩ := by kernel_rfl
theorem twainref10_Get.eq (C : Am.Callee) (L : Loops) (t0 : Value) (H : List Blk) : ebody PP TT C L n_twainref10_Get [t0] H = twainref10_Get.sh C L H.length t0 ⟨H, none⟩ := by kernel_rfl
theorem twainref11_Get.eq (C : Am.Callee) (L : Loops) (t0 : Value) (H : List Blk) : ebody PP TT C L n_twainref11_Get [t0] H = twainref11_Get.sh C L H.length t0 ⟨H, none⟩ := by kernel_rfl
theorem crc_Step.eq (C : Am.Callee) (L : Loops) (t0 t1 : Value) (H : List Blk) : ebody PP TT C L n_crc_Step [t0, t1] H = crc_Step.sh C L H.length t0 t1 ⟨H, none⟩ := by kernel_rfl
theorem twainref03_Step.eq (C : Am.Callee) (L : Loops) (t0 t1 : Value) (H : List Blk) : ebody PP TT C L n_twainref03_Step [t0, t1] H = twainref03_Step.sh C L H.length t0 t1 ⟨H, none⟩ := by kernel_rfl
theorem bits_in.eq (C : Am.Callee) (L : Loops) (t0 : Value) (H : List Blk) : ebody PP TT C L n_bits_in [t0] H = bits_in.sh C L H.length t0 ⟨H, none⟩ := by kernel_rfl
theorem super_Boot_1.eq (C : Am.Callee) (L : Loops) (t0 t1 : Value) (H : List Blk) : ebody PP TT C L n_super_Boot_1 [t0, t1] H = super_Boot_1.sh C L H.length t0 t1 ⟨H, none⟩ := by kernel_rfl
theorem slots_Latest.eq (C : Am.Callee) (L : Loops) (t0 t1 t2 : Value) (H : List Blk) : ebody PP TT C L n_slots_Latest [t0, t1, t2] H = slots_Latest.sh C L H.length t0 t1 t2 ⟨H, none⟩ := by kernel_rfl
theorem actlog_log_of.eq (C : Am.Callee) (L : Loops) (t0 t1 : Value) (H : List Blk) : ebody PP TT C L n_actlog_log_of [t0, t1] H = actlog_log_of.sh C L H.length t0 t1 ⟨H, none⟩ := by kernel_rfl
theorem actlog_here.eq (C : Am.Callee) (L : Loops) (H : List Blk) : ebody PP TT C L n_actlog_here [] H = actlog_here.sh C L H.length  ⟨H, none⟩ := by kernel_rfl
theorem dirty_bitmap_mask.eq (C : Am.Callee) (L : Loops) (t0 : Value) (H : List Blk) : ebody PP TT C L n_dirty_bitmap_mask [t0] H = dirty_bitmap_mask.sh C L H.length t0 ⟨H, none⟩ := by kernel_rfl
theorem twainref07_Latest.eq (C : Am.Callee) (L : Loops) (t0 t1 t2 : Value) (H : List Blk) : ebody PP TT C L n_twainref07_Latest [t0, t1, t2] H = twainref07_Latest.sh C L H.length t0 t1 t2 ⟨H, none⟩ := by kernel_rfl
theorem crc_half.eq (C : Am.Callee) (L : Loops) (t0 : Value) (H : List Blk) : ebody PP TT C L n_crc_half [t0] H = crc_half.sh C L H.length t0 ⟨H, none⟩ := by kernel_rfl
theorem slots_ring_latest.eq (C : Am.Callee) (L : Loops) (t0 t1 : Value) (H : List Blk) : ebody PP TT C L n_slots_ring_latest [t0, t1] H = slots_ring_latest.sh C L H.length t0 t1 ⟨H, none⟩ := by kernel_rfl
theorem twainref07_ring.eq (C : Am.Callee) (L : Loops) (t0 t1 : Value) (H : List Blk) : ebody PP TT C L n_twainref07_ring [t0, t1] H = twainref07_ring.sh C L H.length t0 t1 ⟨H, none⟩ := by kernel_rfl
theorem P_twainref06_Disk_Read.eq (C : Am.Callee) (L : Loops) (t0 t1 : Value) (H : List Blk) : ebody PP TT C L n_P_twainref06_Disk_Read [t0, t1] H = P_twainref06_Disk_Read.sh C L H.length t0 t1 ⟨H, none⟩ := by kernel_rfl
theorem twainref05_Open.eq (C : Am.Callee) (L : Loops) (t0 : Value) (H : List Blk) : ebody PP TT C L n_twainref05_Open [t0] H = twainref05_Open.sh C L H.length t0 ⟨H, none⟩ := by kernel_rfl
theorem twainref07_Place.eq (C : Am.Callee) (L : Loops) (t0 t1 t2 : Value) (H : List Blk) : ebody PP TT C L n_twainref07_Place [t0, t1, t2] H = twainref07_Place.sh C L H.length t0 t1 t2 ⟨H, none⟩ := by kernel_rfl
theorem slots_ring_on.eq (C : Am.Callee) (L : Loops) (t0 t1 : Value) (H : List Blk) : ebody PP TT C L n_slots_ring_on [t0, t1] H = slots_ring_on.sh C L H.length t0 t1 ⟨H, none⟩ := by kernel_rfl
theorem slots_ring_read.eq (C : Am.Callee) (L : Loops) (t0 t1 t2 : Value) (H : List Blk) : ebody PP TT C L n_slots_ring_read [t0, t1, t2] H = slots_ring_read.sh C L H.length t0 t1 t2 ⟨H, none⟩ := by kernel_rfl
theorem twainref02_Get32.eq (C : Am.Callee) (L : Loops) (t0 : Value) (H : List Blk) : ebody PP TT C L n_twainref02_Get32 [t0] H = twainref02_Get32.sh C L H.length t0 ⟨H, none⟩ := by kernel_rfl
theorem twainref02_Get.eq (C : Am.Callee) (L : Loops) (t0 t1 : Value) (H : List Blk) : ebody PP TT C L n_twainref02_Get [t0, t1] H = twainref02_Get.sh C L H.length t0 t1 ⟨H, none⟩ := by kernel_rfl
theorem twainref05_Record.eq (C : Am.Callee) (L : Loops) (t0 t1 : Value) (H : List Blk) : ebody PP TT C L n_twainref05_Record [t0, t1] H = twainref05_Record.sh C L H.length t0 t1 ⟨H, none⟩ := by kernel_rfl
theorem slots_ring_good.eq (C : Am.Callee) (L : Loops) (t0 : Value) (H : List Blk) : ebody PP TT C L n_slots_ring_good [t0] H = slots_ring_good.sh C L H.length t0 ⟨H, none⟩ := by kernel_rfl
theorem P_disk_Disk_Read.eq (C : Am.Callee) (L : Loops) (t0 t1 : Value) (H : List Blk) : ebody PP TT C L n_P_disk_Disk_Read [t0, t1] H = P_disk_Disk_Read.sh C L H.length t0 t1 ⟨H, none⟩ := by kernel_rfl
theorem seal_Open.eq (C : Am.Callee) (L : Loops) (t0 : Value) (H : List Blk) : ebody PP TT C L n_seal_Open [t0] H = seal_Open.sh C L H.length t0 ⟨H, none⟩ := by kernel_rfl
theorem slots_ring_place.eq (C : Am.Callee) (L : Loops) (t0 t1 : Value) (H : List Blk) : ebody PP TT C L n_slots_ring_place [t0, t1] H = slots_ring_place.sh C L H.length t0 t1 ⟨H, none⟩ := by kernel_rfl
theorem twainref05_Put.eq (C : Am.Callee) (L : Loops) (t0 : Value) (H : List Blk) : ebody PP TT C L n_twainref05_Put [t0] H = twainref05_Put.sh C L H.length t0 ⟨H, none⟩ := by kernel_rfl
theorem twainref02_Put64.eq (C : Am.Callee) (L : Loops) (t0 t1 : Value) (H : List Blk) : ebody PP TT C L n_twainref02_Put64 [t0, t1] H = twainref02_Put64.sh C L H.length t0 t1 ⟨H, none⟩ := by kernel_rfl
theorem twainref02_Put32.eq (C : Am.Callee) (L : Loops) (t0 t1 : Value) (H : List Blk) : ebody PP TT C L n_twainref02_Put32 [t0, t1] H = twainref02_Put32.sh C L H.length t0 t1 ⟨H, none⟩ := by kernel_rfl
theorem num_Get32.eq (C : Am.Callee) (L : Loops) (t0 : Value) (H : List Blk) : ebody PP TT C L n_num_Get32 [t0] H = num_Get32.sh C L H.length t0 ⟨H, none⟩ := by kernel_rfl
theorem num_Get64.eq (C : Am.Callee) (L : Loops) (t0 : Value) (H : List Blk) : ebody PP TT C L n_num_Get64 [t0] H = num_Get64.sh C L H.length t0 ⟨H, none⟩ := by kernel_rfl
theorem seal_Record.eq (C : Am.Callee) (L : Loops) (t0 t1 : Value) (H : List Blk) : ebody PP TT C L n_seal_Record [t0, t1] H = seal_Record.sh C L H.length t0 t1 ⟨H, none⟩ := by kernel_rfl
theorem twainref02_Put.eq (C : Am.Callee) (L : Loops) (t0 t1 t2 : Value) (H : List Blk) : ebody PP TT C L n_twainref02_Put [t0, t1, t2] H = twainref02_Put.sh C L H.length t0 t1 t2 ⟨H, none⟩ := by kernel_rfl
theorem num_get_uint32.eq (C : Am.Callee) (L : Loops) (t0 t1 : Value) (H : List Blk) : ebody PP TT C L n_num_get_uint32 [t0, t1] H = num_get_uint32.sh C L H.length t0 t1 ⟨H, none⟩ := by kernel_rfl
theorem num_get_uint64.eq (C : Am.Callee) (L : Loops) (t0 t1 : Value) (H : List Blk) : ebody PP TT C L n_num_get_uint64 [t0, t1] H = num_get_uint64.sh C L H.length t0 t1 ⟨H, none⟩ := by kernel_rfl
theorem seal_Put.eq (C : Am.Callee) (L : Loops) (t0 : Value) (H : List Blk) : ebody PP TT C L n_seal_Put [t0] H = seal_Put.sh C L H.length t0 ⟨H, none⟩ := by kernel_rfl
theorem num_Put64.eq (C : Am.Callee) (L : Loops) (t0 t1 : Value) (H : List Blk) : ebody PP TT C L n_num_Put64 [t0, t1] H = num_Put64.sh C L H.length t0 t1 ⟨H, none⟩ := by kernel_rfl
theorem num_Put32.eq (C : Am.Callee) (L : Loops) (t0 t1 : Value) (H : List Blk) : ebody PP TT C L n_num_Put32 [t0, t1] H = num_Put32.sh C L H.length t0 t1 ⟨H, none⟩ := by kernel_rfl
theorem seal_sum.eq (C : Am.Callee) (L : Loops) (t0 : Value) (H : List Blk) : ebody PP TT C L n_seal_sum [t0] H = seal_sum.sh C L H.length t0 ⟨H, none⟩ := by kernel_rfl
theorem num_put_uint64.eq (C : Am.Callee) (L : Loops) (t0 t1 t2 : Value) (H : List Blk) : ebody PP TT C L n_num_put_uint64 [t0, t1, t2] H = num_put_uint64.sh C L H.length t0 t1 t2 ⟨H, none⟩ := by kernel_rfl
theorem num_put_uint32.eq (C : Am.Callee) (L : Loops) (t0 t1 t2 : Value) (H : List Blk) : ebody PP TT C L n_num_put_uint32 [t0, t1, t2] H = num_put_uint32.sh C L H.length t0 t1 t2 ⟨H, none⟩ := by kernel_rfl
theorem num_join.eq (C : Am.Callee) (L : Loops) (t0 t1 : Value) (H : List Blk) : ebody PP TT C L n_num_join [t0, t1] H = num_join.sh C L H.length t0 t1 ⟨H, none⟩ := by kernel_rfl
theorem TT_lives : ∀ f, (TT f).lives = true → Lives PP f := by
  intro f h
  unfold TT at h
  by_cases h3 : f = n_twainlaw46_CompareTells
  · subst h3; simp [twainlaw46_CompareTells.T] at h
  simp only [h3, if_false] at h
  by_cases h4 : f = n_twainlaw46_lives
  · subst h4; exact twainlaw46_lives.lives
  simp only [h4, if_false] at h
  by_cases h5 : f = n_disk_New
  · subst h5; simp [disk_New.T] at h
  simp only [h5, if_false] at h
  by_cases h6 : f = n_twainref06_New
  · subst h6; simp [twainref06_New.T] at h
  simp only [h6, if_false] at h
  by_cases h7 : f = n_P_disk_Disk_Write
  · subst h7; simp [P_disk_Disk_Write.T] at h
  simp only [h7, if_false] at h
  by_cases h8 : f = n_P_twainref06_Disk_Write
  · subst h8; simp [P_twainref06_Disk_Write.T] at h
  simp only [h8, if_false] at h
  by_cases h9 : f = n_P_disk_Disk_Flush
  · subst h9; simp [P_disk_Disk_Flush.T] at h
  simp only [h9, if_false] at h
  by_cases h10 : f = n_P_twainref06_Disk_Flush
  · subst h10; simp [P_twainref06_Disk_Flush.T] at h
  simp only [h10, if_false] at h
  by_cases h11 : f = n_compare_Sums
  · subst h11; simp [compare_Sums.T] at h
  simp only [h11, if_false] at h
  by_cases h12 : f = n_twainref46_Sums
  · subst h12; simp [twainref46_Sums.T] at h
  simp only [h12, if_false] at h
  by_cases h13 : f = n_compare_Unlike
  · subst h13; simp [compare_Unlike.T] at h
  simp only [h13, if_false] at h
  by_cases h14 : f = n_twainref46_Unlike
  · subst h14; simp [twainref46_Unlike.T] at h
  simp only [h14, if_false] at h
  by_cases h15 : f = n_compare_Known
  · subst h15; simp [compare_Known.T] at h
  simp only [h15, if_false] at h
  by_cases h16 : f = n_twainref46_Known
  · subst h16; simp [twainref46_Known.T] at h
  simp only [h16, if_false] at h
  by_cases h17 : f = n_compare_Suspect
  · subst h17; simp [compare_Suspect.T] at h
  simp only [h17, if_false] at h
  by_cases h18 : f = n_twainref46_Suspect
  · subst h18; simp [twainref46_Suspect.T] at h
  simp only [h18, if_false] at h
  by_cases h20 : f = n_P_disk_Disk_Made
  · subst h20; simp [P_disk_Disk_Made.T] at h
  simp only [h20, if_false] at h
  by_cases h21 : f = n_P_disk_Disk_has
  · subst h21; simp [P_disk_Disk_has.T] at h
  simp only [h21, if_false] at h
  by_cases h22 : f = n_P_disk_Disk_spend
  · subst h22; simp [P_disk_Disk_spend.T] at h
  simp only [h22, if_false] at h
  by_cases h23 : f = n_P_twainref06_Disk_in
  · subst h23; simp [P_twainref06_Disk_in.T] at h
  simp only [h23, if_false] at h
  by_cases h24 : f = n_P_twainref06_Disk_burns
  · subst h24; simp [P_twainref06_Disk_burns.T] at h
  simp only [h24, if_false] at h
  by_cases h25 : f = n_P_twainref06_Disk_keep
  · subst h25; simp [P_twainref06_Disk_keep.T] at h
  simp only [h25, if_false] at h
  by_cases h26 : f = n_compare_extents
  · subst h26; simp [compare_extents.T] at h
  simp only [h26, if_false] at h
  by_cases h27 : f = n_compare_sum
  · subst h27; simp [compare_sum.T] at h
  simp only [h27, if_false] at h
  by_cases h28 : f = n_twainref12_Sectors
  · subst h28; simp [twainref12_Sectors.T] at h
  simp only [h28, if_false] at h
  by_cases h29 : f = n_P_twainref06_Disk_Durable
  · subst h29; simp [P_twainref06_Disk_Durable.T] at h
  simp only [h29, if_false] at h
  by_cases h30 : f = n_twainref03_Sum
  · subst h30; simp [twainref03_Sum.T] at h
  simp only [h30, if_false] at h
  by_cases h31 : f = n_data_Sectors
  · subst h31; simp [data_Sectors.T] at h
  simp only [h31, if_false] at h
  by_cases h32 : f = n_compare_at
  · subst h32; simp [compare_at.T] at h
  simp only [h32, if_false] at h
  by_cases h33 : f = n_bits_With
  · subst h33; simp [bits_With.T] at h
  simp only [h33, if_false] at h
  by_cases h34 : f = n_twainref01_With
  · subst h34; simp [twainref01_With.T] at h
  simp only [h34, if_false] at h
  by_cases h35 : f = n_meta_Mine
  · subst h35; simp [meta_Mine.T] at h
  simp only [h35, if_false] at h
  by_cases h36 : f = n_meta_Look
  · subst h36; simp [meta_Look.T] at h
  simp only [h36, if_false] at h
  by_cases h37 : f = n_twainref01_Both
  · subst h37; simp [twainref01_Both.T] at h
  simp only [h37, if_false] at h
  by_cases h38 : f = n_twainref13_Mine
  · subst h38; simp [twainref13_Mine.T] at h
  simp only [h38, if_false] at h
  by_cases h39 : f = n_twainref13_Look
  · subst h39; simp [twainref13_Look.T] at h
  simp only [h39, if_false] at h
  by_cases h42 : f = n_span_Whole
  · subst h42; simp [span_Whole.T] at h
  simp only [h42, if_false] at h
  by_cases h43 : f = n_crc_Sum
  · subst h43; simp [crc_Sum.T] at h
  simp only [h43, if_false] at h
  by_cases h44 : f = n_crc_More
  · subst h44; simp [crc_More.T] at h
  simp only [h44, if_false] at h
  by_cases h45 : f = n_twainref03_More
  · subst h45; simp [twainref03_More.T] at h
  simp only [h45, if_false] at h
  by_cases h46 : f = n_P_disk_Disk_Size
  · subst h46; simp [P_disk_Disk_Size.T] at h
  simp only [h46, if_false] at h
  by_cases h47 : f = n_P_disk_Disk_Durable
  · subst h47; simp [P_disk_Disk_Durable.T] at h
  simp only [h47, if_false] at h
  by_cases h48 : f = n_bits_One
  · subst h48; simp [bits_One.T] at h
  simp only [h48, if_false] at h
  by_cases h49 : f = n_twainref01_Has
  · subst h49; simp [twainref01_Has.T] at h
  simp only [h49, if_false] at h
  by_cases h50 : f = n_twainref01_One
  · subst h50; simp [twainref01_One.T] at h
  simp only [h50, if_false] at h
  by_cases h51 : f = n_super_Boot
  · subst h51; simp [super_Boot.T] at h
  simp only [h51, if_false] at h
  by_cases h52 : f = n_actlog_Get
  · subst h52; simp [actlog_Get.T] at h
  simp only [h52, if_false] at h
  by_cases h53 : f = n_dirty_Get
  · subst h53; simp [dirty_Get.T] at h
  simp only [h53, if_false] at h
  by_cases h54 : f = n_twainref08_Boot
  · subst h54; simp [twainref08_Boot.T] at h
  simp only [h54, if_false] at h
  by_cases h55 : f = n_twainref10_Get
  · subst h55; simp [twainref10_Get.T] at h
  simp only [h55, if_false] at h
  by_cases h56 : f = n_twainref11_Get
  · subst h56; simp [twainref11_Get.T] at h
  simp only [h56, if_false] at h
  by_cases h59 : f = n_crc_Step
  · subst h59; simp [crc_Step.T] at h
  simp only [h59, if_false] at h
  by_cases h60 : f = n_twainref03_Step
  · subst h60; simp [twainref03_Step.T] at h
  simp only [h60, if_false] at h
  by_cases h61 : f = n_bits_in
  · subst h61; simp [bits_in.T] at h
  simp only [h61, if_false] at h
  by_cases h62 : f = n_super_Boot_1
  · subst h62; simp [super_Boot_1.T] at h
  simp only [h62, if_false] at h
  by_cases h63 : f = n_slots_Latest
  · subst h63; simp [slots_Latest.T] at h
  simp only [h63, if_false] at h
  by_cases h64 : f = n_actlog_log_of
  · subst h64; simp [actlog_log_of.T] at h
  simp only [h64, if_false] at h
  by_cases h65 : f = n_actlog_here
  · subst h65; simp [actlog_here.T] at h
  simp only [h65, if_false] at h
  by_cases h66 : f = n_dirty_bitmap_mask
  · subst h66; simp [dirty_bitmap_mask.T] at h
  simp only [h66, if_false] at h
  by_cases h67 : f = n_twainref07_Latest
  · subst h67; simp [twainref07_Latest.T] at h
  simp only [h67, if_false] at h
  by_cases h70 : f = n_crc_half
  · subst h70; simp [crc_half.T] at h
  simp only [h70, if_false] at h
  by_cases h71 : f = n_slots_ring_latest
  · subst h71; simp [slots_ring_latest.T] at h
  simp only [h71, if_false] at h
  by_cases h72 : f = n_twainref07_ring
  · subst h72; simp [twainref07_ring.T] at h
  simp only [h72, if_false] at h
  by_cases h73 : f = n_P_twainref06_Disk_Read
  · subst h73; simp [P_twainref06_Disk_Read.T] at h
  simp only [h73, if_false] at h
  by_cases h74 : f = n_twainref05_Open
  · subst h74; simp [twainref05_Open.T] at h
  simp only [h74, if_false] at h
  by_cases h75 : f = n_twainref07_Place
  · subst h75; simp [twainref07_Place.T] at h
  simp only [h75, if_false] at h
  by_cases h77 : f = n_slots_ring_on
  · subst h77; simp [slots_ring_on.T] at h
  simp only [h77, if_false] at h
  by_cases h78 : f = n_slots_ring_read
  · subst h78; simp [slots_ring_read.T] at h
  simp only [h78, if_false] at h
  by_cases h79 : f = n_twainref02_Get32
  · subst h79; simp [twainref02_Get32.T] at h
  simp only [h79, if_false] at h
  by_cases h80 : f = n_twainref02_Get
  · subst h80; simp [twainref02_Get.T] at h
  simp only [h80, if_false] at h
  by_cases h81 : f = n_twainref05_Record
  · subst h81; simp [twainref05_Record.T] at h
  simp only [h81, if_false] at h
  by_cases h82 : f = n_slots_ring_good
  · subst h82; simp [slots_ring_good.T] at h
  simp only [h82, if_false] at h
  by_cases h83 : f = n_P_disk_Disk_Read
  · subst h83; simp [P_disk_Disk_Read.T] at h
  simp only [h83, if_false] at h
  by_cases h84 : f = n_seal_Open
  · subst h84; simp [seal_Open.T] at h
  simp only [h84, if_false] at h
  by_cases h85 : f = n_slots_ring_place
  · subst h85; simp [slots_ring_place.T] at h
  simp only [h85, if_false] at h
  by_cases h86 : f = n_twainref05_Put
  · subst h86; simp [twainref05_Put.T] at h
  simp only [h86, if_false] at h
  by_cases h87 : f = n_twainref02_Put64
  · subst h87; simp [twainref02_Put64.T] at h
  simp only [h87, if_false] at h
  by_cases h88 : f = n_twainref02_Put32
  · subst h88; simp [twainref02_Put32.T] at h
  simp only [h88, if_false] at h
  by_cases h89 : f = n_num_Get32
  · subst h89; simp [num_Get32.T] at h
  simp only [h89, if_false] at h
  by_cases h90 : f = n_num_Get64
  · subst h90; simp [num_Get64.T] at h
  simp only [h90, if_false] at h
  by_cases h91 : f = n_seal_Record
  · subst h91; simp [seal_Record.T] at h
  simp only [h91, if_false] at h
  by_cases h92 : f = n_twainref02_Put
  · subst h92; simp [twainref02_Put.T] at h
  simp only [h92, if_false] at h
  by_cases h93 : f = n_num_get_uint32
  · subst h93; simp [num_get_uint32.T] at h
  simp only [h93, if_false] at h
  by_cases h94 : f = n_num_get_uint64
  · subst h94; simp [num_get_uint64.T] at h
  simp only [h94, if_false] at h
  by_cases h95 : f = n_seal_Put
  · subst h95; simp [seal_Put.T] at h
  simp only [h95, if_false] at h
  by_cases h96 : f = n_num_Put64
  · subst h96; simp [num_Put64.T] at h
  simp only [h96, if_false] at h
  by_cases h97 : f = n_num_Put32
  · subst h97; simp [num_Put32.T] at h
  simp only [h97, if_false] at h
  by_cases h98 : f = n_seal_sum
  · subst h98; simp [seal_sum.T] at h
  simp only [h98, if_false] at h
  by_cases h99 : f = n_num_put_uint64
  · subst h99; simp [num_put_uint64.T] at h
  simp only [h99, if_false] at h
  by_cases h100 : f = n_num_put_uint32
  · subst h100; simp [num_put_uint32.T] at h
  simp only [h100, if_false] at h
  by_cases h101 : f = n_num_join
  · subst h101; simp [num_join.T] at h
  simp only [h101, if_false] at h
  simp at h
end Go.Proofs.YtadllcgmimbjdaaGreat
