/- A part of the proof: CpOps. Its conditions: none. -/
import Derived.Test.YtadllcgmimbjdaaAm23
import Derived.Test.YtadllcgmimbjdaaCpSh
set_option linter.all false
set_option linter.unusedVariables false
set_option linter.unusedSimpArgs false
set_option linter.unnecessarySimpa false
namespace Go.Proofs.Ytadllcgmimbjdaa
open Go Go.Am
theorem u_bool : PP.underlying t_bool = some .bool := by kernel_rfl
theorem sz_bool : sizeP PP t_bool = some 1 := by kernel_rfl
theorem by_bool : bytesP PP t_bool = some 1 := by kernel_rfl
theorem zg_bool : (zeroP PP t_bool).getD unk = .bool false := by kernel_rfl
theorem zv_bool : zeroP PP t_bool = some (.bool false) := by kernel_rfl
theorem u_int : PP.underlying t_int = some (.int .i64) := by kernel_rfl
theorem sz_int : sizeP PP t_int = some 1 := by kernel_rfl
theorem by_int : bytesP PP t_int = some 8 := by kernel_rfl
theorem zg_int : (zeroP PP t_int).getD unk = .int .i64 0 := by kernel_rfl
theorem zv_int : zeroP PP t_int = some (.int .i64 0) := by kernel_rfl
theorem u_uint8 : PP.underlying t_uint8 = some (.int .u8) := by kernel_rfl
theorem sz_uint8 : sizeP PP t_uint8 = some 1 := by kernel_rfl
theorem by_uint8 : bytesP PP t_uint8 = some 1 := by kernel_rfl
theorem zg_uint8 : (zeroP PP t_uint8).getD unk = .int .u8 0 := by kernel_rfl
theorem zv_uint8 : zeroP PP t_uint8 = some (.int .u8 0) := by kernel_rfl
theorem u_uint32 : PP.underlying t_uint32 = some (.int .u32) := by kernel_rfl
theorem sz_uint32 : sizeP PP t_uint32 = some 1 := by kernel_rfl
theorem by_uint32 : bytesP PP t_uint32 = some 4 := by kernel_rfl
theorem zg_uint32 : (zeroP PP t_uint32).getD unk = .int .u32 0 := by kernel_rfl
theorem zv_uint32 : zeroP PP t_uint32 = some (.int .u32 0) := by kernel_rfl
theorem u_uint64 : PP.underlying t_uint64 = some (.int .u64) := by kernel_rfl
theorem sz_uint64 : sizeP PP t_uint64 = some 1 := by kernel_rfl
theorem by_uint64 : bytesP PP t_uint64 = some 8 := by kernel_rfl
theorem zg_uint64 : (zeroP PP t_uint64).getD unk = .int .u64 0 := by kernel_rfl
theorem zv_uint64 : zeroP PP t_uint64 = some (.int .u64 0) := by kernel_rfl
theorem u_api_Errno : PP.underlying t_api_Errno = some (.int .i64) := by kernel_rfl
theorem sz_api_Errno : sizeP PP t_api_Errno = some 1 := by kernel_rfl
theorem by_api_Errno : bytesP PP t_api_Errno = some 8 := by kernel_rfl
theorem zg_api_Errno : (zeroP PP t_api_Errno).getD unk = .int .i64 0 := by kernel_rfl
theorem zv_api_Errno : zeroP PP t_api_Errno = some (.int .i64 0) := by kernel_rfl
theorem u_api_Sector : PP.underlying t_api_Sector = some (.array 16 t_uint8) := by kernel_rfl
theorem sz_api_Sector : sizeP PP t_api_Sector = some 16 := by kernel_rfl
theorem by_api_Sector : bytesP PP t_api_Sector = some 16 := by kernel_rfl
def z_api_Sector : List Value := [.int .u8 0, .int .u8 0, .int .u8 0, .int .u8 0, .int .u8 0, .int .u8 0, .int .u8 0, .int .u8 0, .int .u8 0, .int .u8 0, .int .u8 0, .int .u8 0, .int .u8 0, .int .u8 0, .int .u8 0, .int .u8 0]
theorem zg_api_Sector : (zeroP PP t_api_Sector).getD unk = .agg z_api_Sector.toArray := by kernel_rfl
theorem zv_api_Sector : zeroP PP t_api_Sector = some (.agg z_api_Sector.toArray) := by kernel_rfl
theorem zl_api_Sector : z_api_Sector.length = 16 := by kernel_rfl
theorem za_api_Sector : allCells z_api_Sector = true := by kernel_rfl
theorem u_L_api_Sector : PP.underlying t_L_api_Sector = some (.slice t_api_Sector) := by kernel_rfl
theorem sz_L_api_Sector : sizeP PP t_L_api_Sector = some 1 := by kernel_rfl
theorem by_L_api_Sector : bytesP PP t_L_api_Sector = some 24 := by kernel_rfl
theorem zg_L_api_Sector : (zeroP PP t_L_api_Sector).getD unk = .slice none 0 0 := by kernel_rfl
theorem zv_L_api_Sector : zeroP PP t_L_api_Sector = some (.slice none 0 0) := by kernel_rfl
theorem el_L_api_Sector : ElemT PP t_L_api_Sector t_api_Sector 16 := ⟨u_L_api_Sector, by kernel_rfl, by decide, ⟨.agg #[.int .u8 0, .int .u8 0, .int .u8 0, .int .u8 0, .int .u8 0, .int .u8 0, .int .u8 0, .int .u8 0, .int .u8 0, .int .u8 0, .int .u8 0, .int .u8 0, .int .u8 0, .int .u8 0, .int .u8 0, .int .u8 0], 16, by kernel_rfl, by kernel_rfl, by kernel_rfl, by decide, by decide⟩⟩
theorem sz_disk_Disk : sizeP PP t_disk_Disk = some 5 := by kernel_rfl
theorem by_disk_Disk : bytesP PP t_disk_Disk = some 56 := by kernel_rfl
def z_disk_Disk : List Value := [.slice none 0 0, .map none, .int .i64 0, .bool false, .int .i64 0]
theorem zg_disk_Disk : (zeroP PP t_disk_Disk).getD unk = .agg z_disk_Disk.toArray := by kernel_rfl
theorem zv_disk_Disk : zeroP PP t_disk_Disk = some (.agg z_disk_Disk.toArray) := by kernel_rfl
theorem zl_disk_Disk : z_disk_Disk.length = 5 := by kernel_rfl
theorem za_disk_Disk : allCells z_disk_Disk = true := by kernel_rfl
noncomputable def fs_disk_Disk : Array Field := match PP.underlying t_disk_Disk with | some (.struct fs) => fs | _ => #[]
theorem us_disk_Disk : PP.underlying t_disk_Disk = some (.struct fs_disk_Disk) := by kernel_rfl
theorem ty_disk_Disk : fs_disk_Disk.toList.map (·.type) = [t_L_api_Sector, t_M_int_api_Sector, t_int, t_bool, t_int] := by kernel_rfl
theorem fa_disk_Disk_0 (b o : Nat) : aFieldAddr PP t_disk_Disk (.pointer (some ⟨b, o, none⟩)) 0 = some (.pointer (some ⟨b, o, none⟩)) := by kernel_rfl
theorem ft_disk_Disk_0 (off : Nat) (row : Array Value) : aFieldAddr PP t_disk_Disk (tPtr off row) 0 = some (tPtr (off) row) := by kernel_rfl
theorem fa_disk_Disk_1 (b o : Nat) : aFieldAddr PP t_disk_Disk (.pointer (some ⟨b, o, none⟩)) 1 = some (.pointer (some ⟨b, o + 1, none⟩)) := by kernel_rfl
theorem ft_disk_Disk_1 (off : Nat) (row : Array Value) : aFieldAddr PP t_disk_Disk (tPtr off row) 1 = some (tPtr (off + 1) row) := by kernel_rfl
theorem fa_disk_Disk_2 (b o : Nat) : aFieldAddr PP t_disk_Disk (.pointer (some ⟨b, o, none⟩)) 2 = some (.pointer (some ⟨b, o + 2, none⟩)) := by kernel_rfl
theorem ft_disk_Disk_2 (off : Nat) (row : Array Value) : aFieldAddr PP t_disk_Disk (tPtr off row) 2 = some (tPtr (off + 2) row) := by kernel_rfl
theorem fa_disk_Disk_3 (b o : Nat) : aFieldAddr PP t_disk_Disk (.pointer (some ⟨b, o, none⟩)) 3 = some (.pointer (some ⟨b, o + 3, none⟩)) := by kernel_rfl
theorem ft_disk_Disk_3 (off : Nat) (row : Array Value) : aFieldAddr PP t_disk_Disk (tPtr off row) 3 = some (tPtr (off + 3) row) := by kernel_rfl
theorem fa_disk_Disk_4 (b o : Nat) : aFieldAddr PP t_disk_Disk (.pointer (some ⟨b, o, none⟩)) 4 = some (.pointer (some ⟨b, o + 4, none⟩)) := by kernel_rfl
theorem ft_disk_Disk_4 (off : Nat) (row : Array Value) : aFieldAddr PP t_disk_Disk (tPtr off row) 4 = some (tPtr (off + 4) row) := by kernel_rfl
theorem u_M_int_api_Sector : PP.underlying t_M_int_api_Sector = some (.map t_int t_api_Sector) := by kernel_rfl
theorem sz_M_int_api_Sector : sizeP PP t_M_int_api_Sector = some 1 := by kernel_rfl
theorem by_M_int_api_Sector : bytesP PP t_M_int_api_Sector = some 8 := by kernel_rfl
theorem zg_M_int_api_Sector : (zeroP PP t_M_int_api_Sector).getD unk = .map none := by kernel_rfl
theorem zv_M_int_api_Sector : zeroP PP t_M_int_api_Sector = some (.map none) := by kernel_rfl
theorem u_L_uint8 : PP.underlying t_L_uint8 = some (.slice t_uint8) := by kernel_rfl
theorem sz_L_uint8 : sizeP PP t_L_uint8 = some 1 := by kernel_rfl
theorem by_L_uint8 : bytesP PP t_L_uint8 = some 24 := by kernel_rfl
theorem zg_L_uint8 : (zeroP PP t_L_uint8).getD unk = .slice none 0 0 := by kernel_rfl
theorem zv_L_uint8 : zeroP PP t_L_uint8 = some (.slice none 0 0) := by kernel_rfl
theorem el_L_uint8 : ElemT PP t_L_uint8 t_uint8 1 := ⟨u_L_uint8, by kernel_rfl, by decide, ⟨.int .u8 0, 1, by kernel_rfl, by kernel_rfl, by kernel_rfl, by decide, by decide⟩⟩
theorem sz_twainlaw46_Fill : sizeP PP t_twainlaw46_Fill = some 18 := by kernel_rfl
theorem by_twainlaw46_Fill : bytesP PP t_twainlaw46_Fill = some 32 := by kernel_rfl
def z_twainlaw46_Fill : List Value := [.bool false, .int .i64 0, .int .u8 0, .int .u8 0, .int .u8 0, .int .u8 0, .int .u8 0, .int .u8 0, .int .u8 0, .int .u8 0, .int .u8 0, .int .u8 0, .int .u8 0, .int .u8 0, .int .u8 0, .int .u8 0, .int .u8 0, .int .u8 0]
theorem zg_twainlaw46_Fill : (zeroP PP t_twainlaw46_Fill).getD unk = .agg z_twainlaw46_Fill.toArray := by kernel_rfl
theorem zv_twainlaw46_Fill : zeroP PP t_twainlaw46_Fill = some (.agg z_twainlaw46_Fill.toArray) := by kernel_rfl
theorem zl_twainlaw46_Fill : z_twainlaw46_Fill.length = 18 := by kernel_rfl
theorem za_twainlaw46_Fill : allCells z_twainlaw46_Fill = true := by kernel_rfl
noncomputable def fs_twainlaw46_Fill : Array Field := match PP.underlying t_twainlaw46_Fill with | some (.struct fs) => fs | _ => #[]
theorem us_twainlaw46_Fill : PP.underlying t_twainlaw46_Fill = some (.struct fs_twainlaw46_Fill) := by kernel_rfl
theorem ty_twainlaw46_Fill : fs_twainlaw46_Fill.toList.map (·.type) = [t_bool, t_int, t_api_Sector] := by kernel_rfl
theorem fa_twainlaw46_Fill_0 (b o : Nat) : aFieldAddr PP t_twainlaw46_Fill (.pointer (some ⟨b, o, none⟩)) 0 = some (.pointer (some ⟨b, o, none⟩)) := by kernel_rfl
theorem ft_twainlaw46_Fill_0 (off : Nat) (row : Array Value) : aFieldAddr PP t_twainlaw46_Fill (tPtr off row) 0 = some (tPtr (off) row) := by kernel_rfl
theorem fa_twainlaw46_Fill_1 (b o : Nat) : aFieldAddr PP t_twainlaw46_Fill (.pointer (some ⟨b, o, none⟩)) 1 = some (.pointer (some ⟨b, o + 1, none⟩)) := by kernel_rfl
theorem ft_twainlaw46_Fill_1 (off : Nat) (row : Array Value) : aFieldAddr PP t_twainlaw46_Fill (tPtr off row) 1 = some (tPtr (off + 1) row) := by kernel_rfl
theorem fa_twainlaw46_Fill_2 (b o : Nat) : aFieldAddr PP t_twainlaw46_Fill (.pointer (some ⟨b, o, none⟩)) 2 = some (.pointer (some ⟨b, o + 2, none⟩)) := by kernel_rfl
theorem ft_twainlaw46_Fill_2 (off : Nat) (row : Array Value) : aFieldAddr PP t_twainlaw46_Fill (tPtr off row) 2 = some (tPtr (off + 2) row) := by kernel_rfl
theorem u_L_twainlaw46_Fill : PP.underlying t_L_twainlaw46_Fill = some (.slice t_twainlaw46_Fill) := by kernel_rfl
theorem sz_L_twainlaw46_Fill : sizeP PP t_L_twainlaw46_Fill = some 1 := by kernel_rfl
theorem by_L_twainlaw46_Fill : bytesP PP t_L_twainlaw46_Fill = some 24 := by kernel_rfl
theorem zg_L_twainlaw46_Fill : (zeroP PP t_L_twainlaw46_Fill).getD unk = .slice none 0 0 := by kernel_rfl
theorem zv_L_twainlaw46_Fill : zeroP PP t_L_twainlaw46_Fill = some (.slice none 0 0) := by kernel_rfl
theorem el_L_twainlaw46_Fill : ElemT PP t_L_twainlaw46_Fill t_twainlaw46_Fill 18 := ⟨u_L_twainlaw46_Fill, by kernel_rfl, by decide, ⟨.agg #[.bool false, .int .i64 0, .int .u8 0, .int .u8 0, .int .u8 0, .int .u8 0, .int .u8 0, .int .u8 0, .int .u8 0, .int .u8 0, .int .u8 0, .int .u8 0, .int .u8 0, .int .u8 0, .int .u8 0, .int .u8 0, .int .u8 0, .int .u8 0], 32, by kernel_rfl, by kernel_rfl, by kernel_rfl, by decide, by decide⟩⟩
theorem sz_api_Span : sizeP PP t_api_Span = some 2 := by kernel_rfl
theorem by_api_Span : bytesP PP t_api_Span = some 16 := by kernel_rfl
def z_api_Span : List Value := [.int .i64 0, .int .i64 0]
theorem zg_api_Span : (zeroP PP t_api_Span).getD unk = .agg z_api_Span.toArray := by kernel_rfl
theorem zv_api_Span : zeroP PP t_api_Span = some (.agg z_api_Span.toArray) := by kernel_rfl
theorem zl_api_Span : z_api_Span.length = 2 := by kernel_rfl
theorem za_api_Span : allCells z_api_Span = true := by kernel_rfl
noncomputable def fs_api_Span : Array Field := match PP.underlying t_api_Span with | some (.struct fs) => fs | _ => #[]
theorem us_api_Span : PP.underlying t_api_Span = some (.struct fs_api_Span) := by kernel_rfl
theorem ty_api_Span : fs_api_Span.toList.map (·.type) = [t_int, t_int] := by kernel_rfl
theorem fa_api_Span_0 (b o : Nat) : aFieldAddr PP t_api_Span (.pointer (some ⟨b, o, none⟩)) 0 = some (.pointer (some ⟨b, o, none⟩)) := by kernel_rfl
theorem ft_api_Span_0 (off : Nat) (row : Array Value) : aFieldAddr PP t_api_Span (tPtr off row) 0 = some (tPtr (off) row) := by kernel_rfl
theorem fa_api_Span_1 (b o : Nat) : aFieldAddr PP t_api_Span (.pointer (some ⟨b, o, none⟩)) 1 = some (.pointer (some ⟨b, o + 1, none⟩)) := by kernel_rfl
theorem ft_api_Span_1 (off : Nat) (row : Array Value) : aFieldAddr PP t_api_Span (tPtr off row) 1 = some (tPtr (off + 1) row) := by kernel_rfl
theorem u_L_uint32 : PP.underlying t_L_uint32 = some (.slice t_uint32) := by kernel_rfl
theorem sz_L_uint32 : sizeP PP t_L_uint32 = some 1 := by kernel_rfl
theorem by_L_uint32 : bytesP PP t_L_uint32 = some 24 := by kernel_rfl
theorem zg_L_uint32 : (zeroP PP t_L_uint32).getD unk = .slice none 0 0 := by kernel_rfl
theorem zv_L_uint32 : zeroP PP t_L_uint32 = some (.slice none 0 0) := by kernel_rfl
theorem el_L_uint32 : ElemT PP t_L_uint32 t_uint32 1 := ⟨u_L_uint32, by kernel_rfl, by decide, ⟨.int .u32 0, 4, by kernel_rfl, by kernel_rfl, by kernel_rfl, by decide, by decide⟩⟩
theorem u_A16_uint32 : PP.underlying t_A16_uint32 = some (.array 16 t_uint32) := by kernel_rfl
theorem sz_A16_uint32 : sizeP PP t_A16_uint32 = some 16 := by kernel_rfl
theorem by_A16_uint32 : bytesP PP t_A16_uint32 = some 64 := by kernel_rfl
def z_A16_uint32 : List Value := [.int .u32 0, .int .u32 0, .int .u32 0, .int .u32 0, .int .u32 0, .int .u32 0, .int .u32 0, .int .u32 0, .int .u32 0, .int .u32 0, .int .u32 0, .int .u32 0, .int .u32 0, .int .u32 0, .int .u32 0, .int .u32 0]
theorem zg_A16_uint32 : (zeroP PP t_A16_uint32).getD unk = .agg z_A16_uint32.toArray := by kernel_rfl
theorem zv_A16_uint32 : zeroP PP t_A16_uint32 = some (.agg z_A16_uint32.toArray) := by kernel_rfl
theorem zl_A16_uint32 : z_A16_uint32.length = 16 := by kernel_rfl
theorem za_A16_uint32 : allCells z_A16_uint32 = true := by kernel_rfl
theorem sz_world_World : sizeP PP t_world_World = some 13 := by kernel_rfl
theorem by_world_World : bytesP PP t_world_World = some 120 := by kernel_rfl
def z_world_World : List Value := [.int .i64 0, .int .i64 0, .int .i64 0, .int .i64 0, .int .i64 0, .pointer none, .pointer none, .int .u64 0, .pointer none, .pointer none, .int .u64 0, .pointer none, .slice none 0 0]
theorem zg_world_World : (zeroP PP t_world_World).getD unk = .agg z_world_World.toArray := by kernel_rfl
theorem zv_world_World : zeroP PP t_world_World = some (.agg z_world_World.toArray) := by kernel_rfl
theorem zl_world_World : z_world_World.length = 13 := by kernel_rfl
theorem za_world_World : allCells z_world_World = true := by kernel_rfl
noncomputable def fs_world_World : Array Field := match PP.underlying t_world_World with | some (.struct fs) => fs | _ => #[]
theorem us_world_World : PP.underlying t_world_World = some (.struct fs_world_World) := by kernel_rfl
theorem ty_world_World : fs_world_World.toList.map (·.type) = [t_api_Config, t_A2_world_side, t_P_net_Net, t_L_world_Event] := by kernel_rfl
theorem fa_world_World_0 (b o : Nat) : aFieldAddr PP t_world_World (.pointer (some ⟨b, o, none⟩)) 0 = some (.pointer (some ⟨b, o, none⟩)) := by kernel_rfl
theorem ft_world_World_0 (off : Nat) (row : Array Value) : aFieldAddr PP t_world_World (tPtr off row) 0 = some (tPtr (off) row) := by kernel_rfl
theorem fa_world_World_1 (b o : Nat) : aFieldAddr PP t_world_World (.pointer (some ⟨b, o, none⟩)) 1 = some (.pointer (some ⟨b, o + 5, none⟩)) := by kernel_rfl
theorem ft_world_World_1 (off : Nat) (row : Array Value) : aFieldAddr PP t_world_World (tPtr off row) 1 = some (tPtr (off + 5) row) := by kernel_rfl
theorem fa_world_World_2 (b o : Nat) : aFieldAddr PP t_world_World (.pointer (some ⟨b, o, none⟩)) 2 = some (.pointer (some ⟨b, o + 11, none⟩)) := by kernel_rfl
theorem ft_world_World_2 (off : Nat) (row : Array Value) : aFieldAddr PP t_world_World (tPtr off row) 2 = some (tPtr (off + 11) row) := by kernel_rfl
theorem fa_world_World_3 (b o : Nat) : aFieldAddr PP t_world_World (.pointer (some ⟨b, o, none⟩)) 3 = some (.pointer (some ⟨b, o + 12, none⟩)) := by kernel_rfl
theorem ft_world_World_3 (off : Nat) (row : Array Value) : aFieldAddr PP t_world_World (tPtr off row) 3 = some (tPtr (off + 12) row) := by kernel_rfl
end Go.Proofs.Ytadllcgmimbjdaa
