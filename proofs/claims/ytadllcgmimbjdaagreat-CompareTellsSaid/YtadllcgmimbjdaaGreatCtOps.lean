/- A part of the proof: CtOps. Its conditions: none. -/
import Derived.Test.YtadllcgmimbjdaaGreatAm23
import Derived.Test.YtadllcgmimbjdaaGreatCtSh
set_option linter.all false
set_option linter.unusedVariables false
set_option linter.unusedSimpArgs false
set_option linter.unnecessarySimpa false
namespace Go.Proofs.YtadllcgmimbjdaaGreat
open Go Go.Am
theorem u_bool : PP.underlying t_bool = some .bool := by kernel_rfl
theorem sz_bool : sizeP PP t_bool = some 1 := by kernel_rfl
theorem by_bool : bytesP PP t_bool = some 1 := by kernel_rfl
theorem zg_bool : (zeroP PP t_bool).getD unk = .bool false := by kernel_rfl
theorem zv_bool : zeroP PP t_bool = some (.bool false) := by kernel_rfl
theorem u_int : PP.underlying t_int = some (.int .i64) := by kernel_rfl
theorem sz_int : sizeP PP t_int = some 1 := by kernel_rfl
theorem by_int : bytesP PP t_int = some 8 := by kernel_rfl
theorem zg_int : (zeroP PP t_int).getD unk = .int .i64 0 := by kernel_rfl
theorem zv_int : zeroP PP t_int = some (.int .i64 0) := by kernel_rfl
theorem u_uint8 : PP.underlying t_uint8 = some (.int .u8) := by kernel_rfl
theorem sz_uint8 : sizeP PP t_uint8 = some 1 := by kernel_rfl
theorem by_uint8 : bytesP PP t_uint8 = some 1 := by kernel_rfl
theorem zg_uint8 : (zeroP PP t_uint8).getD unk = .int .u8 0 := by kernel_rfl
theorem zv_uint8 : zeroP PP t_uint8 = some (.int .u8 0) := by kernel_rfl
theorem u_uint32 : PP.underlying t_uint32 = some (.int .u32) := by kernel_rfl
theorem sz_uint32 : sizeP PP t_uint32 = some 1 := by kernel_rfl
theorem by_uint32 : bytesP PP t_uint32 = some 4 := by kernel_rfl
theorem zg_uint32 : (zeroP PP t_uint32).getD unk = .int .u32 0 := by kernel_rfl
theorem zv_uint32 : zeroP PP t_uint32 = some (.int .u32 0) := by kernel_rfl
theorem u_uint64 : PP.underlying t_uint64 = some (.int .u64) := by kernel_rfl
theorem sz_uint64 : sizeP PP t_uint64 = some 1 := by kernel_rfl
theorem by_uint64 : bytesP PP t_uint64 = some 8 := by kernel_rfl
theorem zg_uint64 : (zeroP PP t_uint64).getD unk = .int .u64 0 := by kernel_rfl
theorem zv_uint64 : zeroP PP t_uint64 = some (.int .u64 0) := by kernel_rfl
theorem u_api_Errno : PP.underlying t_api_Errno = some (.int .i64) := by kernel_rfl
theorem sz_api_Errno : sizeP PP t_api_Errno = some 1 := by kernel_rfl
theorem by_api_Errno : bytesP PP t_api_Errno = some 8 := by kernel_rfl
theorem zg_api_Errno : (zeroP PP t_api_Errno).getD unk = .int .i64 0 := by kernel_rfl
theorem zv_api_Errno : zeroP PP t_api_Errno = some (.int .i64 0) := by kernel_rfl
theorem u_api_Sector : PP.underlying t_api_Sector = some (.array 16 t_uint8) := by kernel_rfl
theorem sz_api_Sector : sizeP PP t_api_Sector = some 16 := by kernel_rfl
theorem by_api_Sector : bytesP PP t_api_Sector = some 16 := by kernel_rfl
def z_api_Sector : List Value := [.int .u8 0, .int .u8 0, .int .u8 0, .int .u8 0, .int .u8 0, .int .u8 0, .int .u8 0, .int .u8 0, .int .u8 0, .int .u8 0, .int .u8 0, .int .u8 0, .int .u8 0, .int .u8 0, .int .u8 0, .int .u8 0]
theorem zg_api_Sector : (zeroP PP t_api_Sector).getD unk = .agg z_api_Sector.toArray := by kernel_rfl
theorem zv_api_Sector : zeroP PP t_api_Sector = some (.agg z_api_Sector.toArray) := by kernel_rfl
theorem zl_api_Sector : z_api_Sector.length = 16 := by kernel_rfl
theorem za_api_Sector : allCells z_api_Sector = true := by kernel_rfl
theorem u_L_api_Sector : PP.underlying t_L_api_Sector = some (.slice t_api_Sector) := by kernel_rfl
theorem sz_L_api_Sector : sizeP PP t_L_api_Sector = some 1 := by kernel_rfl
theorem by_L_api_Sector : bytesP PP t_L_api_Sector = some 24 := by kernel_rfl
theorem zg_L_api_Sector : (zeroP PP t_L_api_Sector).getD unk = .slice none 0 0 := by kernel_rfl
theorem zv_L_api_Sector : zeroP PP t_L_api_Sector = some (.slice none 0 0) := by kernel_rfl
theorem el_L_api_Sector : ElemT PP t_L_api_Sector t_api_Sector 16 := ⟨u_L_api_Sector, by kernel_rfl, by decide, ⟨.agg #[.int .u8 0, .int .u8 0, .int .u8 0, .int .u8 0, .int .u8 0, .int .u8 0, .int .u8 0, .int .u8 0, .int .u8 0, .int .u8 0, .int .u8 0, .int .u8 0, .int .u8 0, .int .u8 0, .int .u8 0, .int .u8 0], 16, by kernel_rfl, by kernel_rfl, by kernel_rfl, by decide, by decide⟩⟩
theorem sz_disk_Disk : sizeP PP t_disk_Disk = some 5 := by kernel_rfl
theorem by_disk_Disk : bytesP PP t_disk_Disk = some 56 := by kernel_rfl
def z_disk_Disk : List Value := [.slice none 0 0, .map none, .int .i64 0, .bool false, .int .i64 0]
theorem zg_disk_Disk : (zeroP PP t_disk_Disk).getD unk = .agg z_disk_Disk.toArray := by kernel_rfl
theorem zv_disk_Disk : zeroP PP t_disk_Disk = some (.agg z_disk_Disk.toArray) := by kernel_rfl
theorem zl_disk_Disk : z_disk_Disk.length = 5 := by kernel_rfl
theorem za_disk_Disk : allCells z_disk_Disk = true := by kernel_rfl
noncomputable def fs_disk_Disk : Array Field := match PP.underlying t_disk_Disk with | some (.struct fs) => fs | _ => #[]
theorem us_disk_Disk : PP.underlying t_disk_Disk = some (.struct fs_disk_Disk) := by kernel_rfl
theorem ty_disk_Disk : fs_disk_Disk.toList.map (·.type) = [t_L_api_Sector, t_M_int_api_Sector, t_int, t_bool, t_int] := by kernel_rfl
theorem fa_disk_Disk_0 (b o : Nat) : aFieldAddr PP t_disk_Disk (.pointer (some ⟨b, o, none⟩)) 0 = some (.pointer (some ⟨b, o, none⟩)) := by kernel_rfl
theorem ft_disk_Disk_0 (off : Nat) (row : Array Value) : aFieldAddr PP t_disk_Disk (tPtr off row) 0 = some (tPtr (off) row) := by kernel_rfl
theorem fa_disk_Disk_1 (b o : Nat) : aFieldAddr PP t_disk_Disk (.pointer (some ⟨b, o, none⟩)) 1 = some (.pointer (some ⟨b, o + 1, none⟩)) := by kernel_rfl
theorem ft_disk_Disk_1 (off : Nat) (row : Array Value) : aFieldAddr PP t_disk_Disk (tPtr off row) 1 = some (tPtr (off + 1) row) := by kernel_rfl
theorem fa_disk_Disk_2 (b o : Nat) : aFieldAddr PP t_disk_Disk (.pointer (some ⟨b, o, none⟩)) 2 = some (.pointer (some ⟨b, o + 2, none⟩)) := by kernel_rfl
theorem ft_disk_Disk_2 (off : Nat) (row : Array Value) : aFieldAddr PP t_disk_Disk (tPtr off row) 2 = some (tPtr (off + 2) row) := by kernel_rfl
theorem fa_disk_Disk_3 (b o : Nat) : aFieldAddr PP t_disk_Disk (.pointer (some ⟨b, o, none⟩)) 3 = some (.pointer (some ⟨b, o + 3, none⟩)) := by kernel_rfl
theorem ft_disk_Disk_3 (off : Nat) (row : Array Value) : aFieldAddr PP t_disk_Disk (tPtr off row) 3 = some (tPtr (off + 3) row) := by kernel_rfl
theorem fa_disk_Disk_4 (b o : Nat) : aFieldAddr PP t_disk_Disk (.pointer (some ⟨b, o, none⟩)) 4 = some (.pointer (some ⟨b, o + 4, none⟩)) := by kernel_rfl
theorem ft_disk_Disk_4 (off : Nat) (row : Array Value) : aFieldAddr PP t_disk_Disk (tPtr off row) 4 = some (tPtr (off + 4) row) := by kernel_rfl
theorem u_M_int_api_Sector : PP.underlying t_M_int_api_Sector = some (.map t_int t_api_Sector) := by kernel_rfl
theorem sz_M_int_api_Sector : sizeP PP t_M_int_api_Sector = some 1 := by kernel_rfl
theorem by_M_int_api_Sector : bytesP PP t_M_int_api_Sector = some 8 := by kernel_rfl
theorem zg_M_int_api_Sector : (zeroP PP t_M_int_api_Sector).getD unk = .map none := by kernel_rfl
theorem zv_M_int_api_Sector : zeroP PP t_M_int_api_Sector = some (.map none) := by kernel_rfl
theorem u_L_uint8 : PP.underlying t_L_uint8 = some (.slice t_uint8) := by kernel_rfl
theorem sz_L_uint8 : sizeP PP t_L_uint8 = some 1 := by kernel_rfl
theorem by_L_uint8 : bytesP PP t_L_uint8 = some 24 := by kernel_rfl
theorem zg_L_uint8 : (zeroP PP t_L_uint8).getD unk = .slice none 0 0 := by kernel_rfl
theorem zv_L_uint8 : zeroP PP t_L_uint8 = some (.slice none 0 0) := by kernel_rfl
theorem el_L_uint8 : ElemT PP t_L_uint8 t_uint8 1 := ⟨u_L_uint8, by kernel_rfl, by decide, ⟨.int .u8 0, 1, by kernel_rfl, by kernel_rfl, by kernel_rfl, by decide, by decide⟩⟩
theorem sz_twainlaw46_Fill : sizeP PP t_twainlaw46_Fill = some 18 := by kernel_rfl
theorem by_twainlaw46_Fill : bytesP PP t_twainlaw46_Fill = some 32 := by kernel_rfl
def z_twainlaw46_Fill : List Value := [.bool false, .int .i64 0, .int .u8 0, .int .u8 0, .int .u8 0, .int .u8 0, .int .u8 0, .int .u8 0, .int .u8 0, .int .u8 0, .int .u8 0, .int .u8 0, .int .u8 0, .int .u8 0, .int .u8 0, .int .u8 0, .int .u8 0, .int .u8 0]
theorem zg_twainlaw46_Fill : (zeroP PP t_twainlaw46_Fill).getD unk = .agg z_twainlaw46_Fill.toArray := by kernel_rfl
theorem zv_twainlaw46_Fill : zeroP PP t_twainlaw46_Fill = some (.agg z_twainlaw46_Fill.toArray) := by kernel_rfl
theorem zl_twainlaw46_Fill : z_twainlaw46_Fill.length = 18 := by kernel_rfl
theorem za_twainlaw46_Fill : allCells z_twainlaw46_Fill = true := by kernel_rfl
noncomputable def fs_twainlaw46_Fill : Array Field := match PP.underlying t_twainlaw46_Fill with | some (.struct fs) => fs | _ => #[]
theorem us_twainlaw46_Fill : PP.underlying t_twainlaw46_Fill = some (.struct fs_twainlaw46_Fill) := by kernel_rfl
theorem ty_twainlaw46_Fill : fs_twainlaw46_Fill.toList.map (·.type) = [t_bool, t_int, t_api_Sector] := by kernel_rfl
theorem fa_twainlaw46_Fill_0 (b o : Nat) : aFieldAddr PP t_twainlaw46_Fill (.pointer (some ⟨b, o, none⟩)) 0 = some (.pointer (some ⟨b, o, none⟩)) := by kernel_rfl
theorem ft_twainlaw46_Fill_0 (off : Nat) (row : Array Value) : aFieldAddr PP t_twainlaw46_Fill (tPtr off row) 0 = some (tPtr (off) row) := by kernel_rfl
theorem fa_twainlaw46_Fill_1 (b o : Nat) : aFieldAddr PP t_twainlaw46_Fill (.pointer (some ⟨b, o, none⟩)) 1 = some (.pointer (some ⟨b, o + 1, none⟩)) := by kernel_rfl
theorem ft_twainlaw46_Fill_1 (off : Nat) (row : Array Value) : aFieldAddr PP t_twainlaw46_Fill (tPtr off row) 1 = some (tPtr (off + 1) row) := by kernel_rfl
theorem fa_twainlaw46_Fill_2 (b o : Nat) : aFieldAddr PP t_twainlaw46_Fill (.pointer (some ⟨b, o, none⟩)) 2 = some (.pointer (some ⟨b, o + 2, none⟩)) := by kernel_rfl
theorem ft_twainlaw46_Fill_2 (off : Nat) (row : Array Value) : aFieldAddr PP t_twainlaw46_Fill (tPtr off row) 2 = some (tPtr (off + 2) row) := by kernel_rfl
theorem u_L_twainlaw46_Fill : PP.underlying t_L_twainlaw46_Fill = some (.slice t_twainlaw46_Fill) := by kernel_rfl
theorem sz_L_twainlaw46_Fill : sizeP PP t_L_twainlaw46_Fill = some 1 := by kernel_rfl
theorem by_L_twainlaw46_Fill : bytesP PP t_L_twainlaw46_Fill = some 24 := by kernel_rfl
theorem zg_L_twainlaw46_Fill : (zeroP PP t_L_twainlaw46_Fill).getD unk = .slice none 0 0 := by kernel_rfl
theorem zv_L_twainlaw46_Fill : zeroP PP t_L_twainlaw46_Fill = some (.slice none 0 0) := by kernel_rfl
theorem el_L_twainlaw46_Fill : ElemT PP t_L_twainlaw46_Fill t_twainlaw46_Fill 18 := ⟨u_L_twainlaw46_Fill, by kernel_rfl, by decide, ⟨.agg #[.bool false, .int .i64 0, .int .u8 0, .int .u8 0, .int .u8 0, .int .u8 0, .int .u8 0, .int .u8 0, .int .u8 0, .int .u8 0, .int .u8 0, .int .u8 0, .int .u8 0, .int .u8 0, .int .u8 0, .int .u8 0, .int .u8 0, .int .u8 0], 32, by kernel_rfl, by kernel_rfl, by kernel_rfl, by decide, by decide⟩⟩
theorem sz_api_Span : sizeP PP t_api_Span = some 2 := by kernel_rfl
theorem by_api_Span : bytesP PP t_api_Span = some 16 := by kernel_rfl
def z_api_Span : List Value := [.int .i64 0, .int .i64 0]
theorem zg_api_Span : (zeroP PP t_api_Span).getD unk = .agg z_api_Span.toArray := by kernel_rfl
theorem zv_api_Span : zeroP PP t_api_Span = some (.agg z_api_Span.toArray) := by kernel_rfl
theorem zl_api_Span : z_api_Span.length = 2 := by kernel_rfl
theorem za_api_Span : allCells z_api_Span = true := by kernel_rfl
noncomputable def fs_api_Span : Array Field := match PP.underlying t_api_Span with | some (.struct fs) => fs | _ => #[]
theorem us_api_Span : PP.underlying t_api_Span = some (.struct fs_api_Span) := by kernel_rfl
theorem ty_api_Span : fs_api_Span.toList.map (·.type) = [t_int, t_int] := by kernel_rfl
theorem fa_api_Span_0 (b o : Nat) : aFieldAddr PP t_api_Span (.pointer (some ⟨b, o, none⟩)) 0 = some (.pointer (some ⟨b, o, none⟩)) := by kernel_rfl
theorem ft_api_Span_0 (off : Nat) (row : Array Value) : aFieldAddr PP t_api_Span (tPtr off row) 0 = some (tPtr (off) row) := by kernel_rfl
theorem fa_api_Span_1 (b o : Nat) : aFieldAddr PP t_api_Span (.pointer (some ⟨b, o, none⟩)) 1 = some (.pointer (some ⟨b, o + 1, none⟩)) := by kernel_rfl
theorem ft_api_Span_1 (off : Nat) (row : Array Value) : aFieldAddr PP t_api_Span (tPtr off row) 1 = some (tPtr (off + 1) row) := by kernel_rfl
theorem u_L_uint32 : PP.underlying t_L_uint32 = some (.slice t_uint32) := by kernel_rfl
theorem sz_L_uint32 : sizeP PP t_L_uint32 = some 1 := by kernel_rfl
theorem by_L_uint32 : bytesP PP t_L_uint32 = some 24 := by kernel_rfl
theorem zg_L_uint32 : (zeroP PP t_L_uint32).getD unk = .slice none 0 0 := by kernel_rfl
theorem zv_L_uint32 : zeroP PP t_L_uint32 = some (.slice none 0 0) := by kernel_rfl
theorem el_L_uint32 : ElemT PP t_L_uint32 t_uint32 1 := ⟨u_L_uint32, by kernel_rfl, by decide, ⟨.int .u32 0, 4, by kernel_rfl, by kernel_rfl, by kernel_rfl, by decide, by decide⟩⟩
theorem u_A16_uint32 : PP.underlying t_A16_uint32 = some (.array 16 t_uint32) := by kernel_rfl
theorem sz_A16_uint32 : sizeP PP t_A16_uint32 = some 16 := by kernel_rfl
theorem by_A16_uint32 : bytesP PP t_A16_uint32 = some 64 := by kernel_rfl
def z_A16_uint32 : List Value := [.int .u32 0, .int .u32 0, .int .u32 0, .int .u32 0, .int .u32 0, .int .u32 0, .int .u32 0, .int .u32 0, .int .u32 0, .int .u32 0, .int .u32 0, .int .u32 0, .int .u32 0, .int .u32 0, .int .u32 0, .int .u32 0]
theorem zg_A16_uint32 : (zeroP PP t_A16_uint32).getD unk = .agg z_A16_uint32.toArray := by kernel_rfl
theorem zv_A16_uint32 : zeroP PP t_A16_uint32 = some (.agg z_A16_uint32.toArray) := by kernel_rfl
theorem zl_A16_uint32 : z_A16_uint32.length = 16 := by kernel_rfl
theorem za_A16_uint32 : allCells z_A16_uint32 = true := by kernel_rfl
theorem sz_twainref06_Cell : sizeP PP t_twainref06_Cell = some 33 := by kernel_rfl
theorem by_twainref06_Cell : bytesP PP t_twainref06_Cell = some 33 := by kernel_rfl
def z_twainref06_Cell : List Value := [.int .u8 0, .int .u8 0, .int .u8 0, .int .u8 0, .int .u8 0, .int .u8 0, .int .u8 0, .int .u8 0, .int .u8 0, .int .u8 0, .int .u8 0, .int .u8 0, .int .u8 0, .int .u8 0, .int .u8 0, .int .u8 0, .int .u8 0, .int .u8 0, .int .u8 0, .int .u8 0, .int .u8 0, .int .u8 0, .int .u8 0, .int .u8 0, .int .u8 0, .int .u8 0, .int .u8 0, .int .u8 0, .int .u8 0, .int .u8 0, .int .u8 0, .int .u8 0, .bool false]
theorem zg_twainref06_Cell : (zeroP PP t_twainref06_Cell).getD unk = .agg z_twainref06_Cell.toArray := by kernel_rfl
theorem zv_twainref06_Cell : zeroP PP t_twainref06_Cell = some (.agg z_twainref06_Cell.toArray) := by kernel_rfl
theorem zl_twainref06_Cell : z_twainref06_Cell.length = 33 := by kernel_rfl
theorem za_twainref06_Cell : allCells z_twainref06_Cell = true := by kernel_rfl
noncomputable def fs_twainref06_Cell : Array Field := match PP.underlying t_twainref06_Cell with | some (.struct fs) => fs | _ => #[]
theorem us_twainref06_Cell : PP.underlying t_twainref06_Cell = some (.struct fs_twainref06_Cell) := by kernel_rfl
theorem ty_twainref06_Cell : fs_twainref06_Cell.toList.map (·.type) = [t_api_Sector, t_api_Sector, t_bool] := by kernel_rfl
theorem fa_twainref06_Cell_0 (b o : Nat) : aFieldAddr PP t_twainref06_Cell (.pointer (some ⟨b, o, none⟩)) 0 = some (.pointer (some ⟨b, o, none⟩)) := by kernel_rfl
theorem ft_twainref06_Cell_0 (off : Nat) (row : Array Value) : aFieldAddr PP t_twainref06_Cell (tPtr off row) 0 = some (tPtr (off) row) := by kernel_rfl
theorem fa_twainref06_Cell_1 (b o : Nat) : aFieldAddr PP t_twainref06_Cell (.pointer (some ⟨b, o, none⟩)) 1 = some (.pointer (some ⟨b, o + 16, none⟩)) := by kernel_rfl
theorem ft_twainref06_Cell_1 (off : Nat) (row : Array Value) : aFieldAddr PP t_twainref06_Cell (tPtr off row) 1 = some (tPtr (off + 16) row) := by kernel_rfl
theorem fa_twainref06_Cell_2 (b o : Nat) : aFieldAddr PP t_twainref06_Cell (.pointer (some ⟨b, o, none⟩)) 2 = some (.pointer (some ⟨b, o + 32, none⟩)) := by kernel_rfl
theorem ft_twainref06_Cell_2 (off : Nat) (row : Array Value) : aFieldAddr PP t_twainref06_Cell (tPtr off row) 2 = some (tPtr (off + 32) row) := by kernel_rfl
theorem u_L_twainref06_Cell : PP.underlying t_L_twainref06_Cell = some (.slice t_twainref06_Cell) := by kernel_rfl
theorem sz_L_twainref06_Cell : sizeP PP t_L_twainref06_Cell = some 1 := by kernel_rfl
theorem by_L_twainref06_Cell : bytesP PP t_L_twainref06_Cell = some 24 := by kernel_rfl
theorem zg_L_twainref06_Cell : (zeroP PP t_L_twainref06_Cell).getD unk = .slice none 0 0 := by kernel_rfl
theorem zv_L_twainref06_Cell : zeroP PP t_L_twainref06_Cell = some (.slice none 0 0) := by kernel_rfl
theorem el_L_twainref06_Cell : ElemT PP t_L_twainref06_Cell t_twainref06_Cell 33 := ⟨u_L_twainref06_Cell, by kernel_rfl, by decide, ⟨.agg #[.int .u8 0, .int .u8 0, .int .u8 0, .int .u8 0, .int .u8 0, .int .u8 0, .int .u8 0, .int .u8 0, .int .u8 0, .int .u8 0, .int .u8 0, .int .u8 0, .int .u8 0, .int .u8 0, .int .u8 0, .int .u8 0, .int .u8 0, .int .u8 0, .int .u8 0, .int .u8 0, .int .u8 0, .int .u8 0, .int .u8 0, .int .u8 0, .int .u8 0, .int .u8 0, .int .u8 0, .int .u8 0, .int .u8 0, .int .u8 0, .int .u8 0, .int .u8 0, .bool false], 33, by kernel_rfl, by kernel_rfl, by kernel_rfl, by decide, by decide⟩⟩
theorem sz_twainref06_Disk : sizeP PP t_twainref06_Disk = some 4 := by kernel_rfl
theorem by_twainref06_Disk : bytesP PP t_twainref06_Disk = some 48 := by kernel_rfl
def z_twainref06_Disk : List Value := [.slice none 0 0, .int .i64 0, .bool false, .int .i64 0]
theorem zg_twainref06_Disk : (zeroP PP t_twainref06_Disk).getD unk = .agg z_twainref06_Disk.toArray := by kernel_rfl
theorem zv_twainref06_Disk : zeroP PP t_twainref06_Disk = some (.agg z_twainref06_Disk.toArray) := by kernel_rfl
theorem zl_twainref06_Disk : z_twainref06_Disk.length = 4 := by kernel_rfl
theorem za_twainref06_Disk : allCells z_twainref06_Disk = true := by kernel_rfl
noncomputable def fs_twainref06_Disk : Array Field := match PP.underlying t_twainref06_Disk with | some (.struct fs) => fs | _ => #[]
theorem us_twainref06_Disk : PP.underlying t_twainref06_Disk = some (.struct fs_twainref06_Disk) := by kernel_rfl
theorem ty_twainref06_Disk : fs_twainref06_Disk.toList.map (·.type) = [t_L_twainref06_Cell, t_int, t_bool, t_int] := by kernel_rfl
theorem fa_twainref06_Disk_0 (b o : Nat) : aFieldAddr PP t_twainref06_Disk (.pointer (some ⟨b, o, none⟩)) 0 = some (.pointer (some ⟨b, o, none⟩)) := by kernel_rfl
theorem ft_twainref06_Disk_0 (off : Nat) (row : Array Value) : aFieldAddr PP t_twainref06_Disk (tPtr off row) 0 = some (tPtr (off) row) := by kernel_rfl
theorem fa_twainref06_Disk_1 (b o : Nat) : aFieldAddr PP t_twainref06_Disk (.pointer (some ⟨b, o, none⟩)) 1 = some (.pointer (some ⟨b, o + 1, none⟩)) := by kernel_rfl
theorem ft_twainref06_Disk_1 (off : Nat) (row : Array Value) : aFieldAddr PP t_twainref06_Disk (tPtr off row) 1 = some (tPtr (off + 1) row) := by kernel_rfl
theorem fa_twainref06_Disk_2 (b o : Nat) : aFieldAddr PP t_twainref06_Disk (.pointer (some ⟨b, o, none⟩)) 2 = some (.pointer (some ⟨b, o + 2, none⟩)) := by kernel_rfl
theorem ft_twainref06_Disk_2 (off : Nat) (row : Array Value) : aFieldAddr PP t_twainref06_Disk (tPtr off row) 2 = some (tPtr (off + 2) row) := by kernel_rfl
theorem fa_twainref06_Disk_3 (b o : Nat) : aFieldAddr PP t_twainref06_Disk (.pointer (some ⟨b, o, none⟩)) 3 = some (.pointer (some ⟨b, o + 3, none⟩)) := by kernel_rfl
theorem ft_twainref06_Disk_3 (off : Nat) (row : Array Value) : aFieldAddr PP t_twainref06_Disk (tPtr off row) 3 = some (tPtr (off + 3) row) := by kernel_rfl
theorem sz_twainlaw46_Case : sizeP PP t_twainlaw46_Case = some 4 := by kernel_rfl
theorem by_twainlaw46_Case : bytesP PP t_twainlaw46_Case = some 64 := by kernel_rfl
def z_twainlaw46_Case : List Value := [.int .i64 0, .int .i64 0, .slice none 0 0, .slice none 0 0]
theorem zg_twainlaw46_Case : (zeroP PP t_twainlaw46_Case).getD unk = .agg z_twainlaw46_Case.toArray := by kernel_rfl
theorem zv_twainlaw46_Case : zeroP PP t_twainlaw46_Case = some (.agg z_twainlaw46_Case.toArray) := by kernel_rfl
theorem zl_twainlaw46_Case : z_twainlaw46_Case.length = 4 := by kernel_rfl
theorem za_twainlaw46_Case : allCells z_twainlaw46_Case = true := by kernel_rfl
noncomputable def fs_twainlaw46_Case : Array Field := match PP.underlying t_twainlaw46_Case with | some (.struct fs) => fs | _ => #[]
theorem us_twainlaw46_Case : PP.underlying t_twainlaw46_Case = some (.struct fs_twainlaw46_Case) := by kernel_rfl
theorem ty_twainlaw46_Case : fs_twainlaw46_Case.toList.map (·.type) = [t_int, t_int, t_L_uint32, t_L_uint32] := by kernel_rfl
theorem fa_twainlaw46_Case_0 (b o : Nat) : aFieldAddr PP t_twainlaw46_Case (.pointer (some ⟨b, o, none⟩)) 0 = some (.pointer (some ⟨b, o, none⟩)) := by kernel_rfl
theorem ft_twainlaw46_Case_0 (off : Nat) (row : Array Value) : aFieldAddr PP t_twainlaw46_Case (tPtr off row) 0 = some (tPtr (off) row) := by kernel_rfl
theorem fa_twainlaw46_Case_1 (b o : Nat) : aFieldAddr PP t_twainlaw46_Case (.pointer (some ⟨b, o, none⟩)) 1 = some (.pointer (some ⟨b, o + 1, none⟩)) := by kernel_rfl
theorem ft_twainlaw46_Case_1 (off : Nat) (row : Array Value) : aFieldAddr PP t_twainlaw46_Case (tPtr off row) 1 = some (tPtr (off + 1) row) := by kernel_rfl
theorem fa_twainlaw46_Case_2 (b o : Nat) : aFieldAddr PP t_twainlaw46_Case (.pointer (some ⟨b, o, none⟩)) 2 = some (.pointer (some ⟨b, o + 2, none⟩)) := by kernel_rfl
theorem ft_twainlaw46_Case_2 (off : Nat) (row : Array Value) : aFieldAddr PP t_twainlaw46_Case (tPtr off row) 2 = some (tPtr (off + 2) row) := by kernel_rfl
theorem fa_twainlaw46_Case_3 (b o : Nat) : aFieldAddr PP t_twainlaw46_Case (.pointer (some ⟨b, o, none⟩)) 3 = some (.pointer (some ⟨b, o + 3, none⟩)) := by kernel_rfl
theorem ft_twainlaw46_Case_3 (off : Nat) (row : Array Value) : aFieldAddr PP t_twainlaw46_Case (tPtr off row) 3 = some (tPtr (off + 3) row) := by kernel_rfl
theorem sz_slots_ring : sizeP PP t_slots_ring = some 2 := by kernel_rfl
theorem by_slots_ring : bytesP PP t_slots_ring = some 16 := by kernel_rfl
def z_slots_ring : List Value := [.int .i64 0, .int .i64 0]
theorem zg_slots_ring : (zeroP PP t_slots_ring).getD unk = .agg z_slots_ring.toArray := by kernel_rfl
theorem zv_slots_ring : zeroP PP t_slots_ring = some (.agg z_slots_ring.toArray) := by kernel_rfl
theorem zl_slots_ring : z_slots_ring.length = 2 := by kernel_rfl
theorem za_slots_ring : allCells z_slots_ring = true := by kernel_rfl
noncomputable def fs_slots_ring : Array Field := match PP.underlying t_slots_ring with | some (.struct fs) => fs | _ => #[]
theorem us_slots_ring : PP.underlying t_slots_ring = some (.struct fs_slots_ring) := by kernel_rfl
theorem ty_slots_ring : fs_slots_ring.toList.map (·.type) = [t_int, t_int] := by kernel_rfl
theorem fa_slots_ring_0 (b o : Nat) : aFieldAddr PP t_slots_ring (.pointer (some ⟨b, o, none⟩)) 0 = some (.pointer (some ⟨b, o, none⟩)) := by kernel_rfl
theorem ft_slots_ring_0 (off : Nat) (row : Array Value) : aFieldAddr PP t_slots_ring (tPtr off row) 0 = some (tPtr (off) row) := by kernel_rfl
theorem fa_slots_ring_1 (b o : Nat) : aFieldAddr PP t_slots_ring (.pointer (some ⟨b, o, none⟩)) 1 = some (.pointer (some ⟨b, o + 1, none⟩)) := by kernel_rfl
theorem ft_slots_ring_1 (off : Nat) (row : Array Value) : aFieldAddr PP t_slots_ring (tPtr off row) 1 = some (tPtr (off + 1) row) := by kernel_rfl
theorem sz_slots_entry : sizeP PP t_slots_entry = some 2 := by kernel_rfl
theorem by_slots_entry : bytesP PP t_slots_entry = some 16 := by kernel_rfl
def z_slots_entry : List Value := [.int .u32 0, .int .u64 0]
theorem zg_slots_entry : (zeroP PP t_slots_entry).getD unk = .agg z_slots_entry.toArray := by kernel_rfl
theorem zv_slots_entry : zeroP PP t_slots_entry = some (.agg z_slots_entry.toArray) := by kernel_rfl
theorem zl_slots_entry : z_slots_entry.length = 2 := by kernel_rfl
theorem za_slots_entry : allCells z_slots_entry = true := by kernel_rfl
noncomputable def fs_slots_entry : Array Field := match PP.underlying t_slots_entry with | some (.struct fs) => fs | _ => #[]
theorem us_slots_entry : PP.underlying t_slots_entry = some (.struct fs_slots_entry) := by kernel_rfl
theorem ty_slots_entry : fs_slots_entry.toList.map (·.type) = [t_uint32, t_uint64] := by kernel_rfl
theorem fa_slots_entry_0 (b o : Nat) : aFieldAddr PP t_slots_entry (.pointer (some ⟨b, o, none⟩)) 0 = some (.pointer (some ⟨b, o, none⟩)) := by kernel_rfl
theorem ft_slots_entry_0 (off : Nat) (row : Array Value) : aFieldAddr PP t_slots_entry (tPtr off row) 0 = some (tPtr (off) row) := by kernel_rfl
theorem fa_slots_entry_1 (b o : Nat) : aFieldAddr PP t_slots_entry (.pointer (some ⟨b, o, none⟩)) 1 = some (.pointer (some ⟨b, o + 1, none⟩)) := by kernel_rfl
theorem ft_slots_entry_1 (off : Nat) (row : Array Value) : aFieldAddr PP t_slots_entry (tPtr off row) 1 = some (tPtr (off + 1) row) := by kernel_rfl
theorem sz_actlog_log : sizeP PP t_actlog_log = some 2 := by kernel_rfl
theorem by_actlog_log : bytesP PP t_actlog_log = some 16 := by kernel_rfl
def z_actlog_log : List Value := [.int .i64 0, .int .i64 0]
theorem zg_actlog_log : (zeroP PP t_actlog_log).getD unk = .agg z_actlog_log.toArray := by kernel_rfl
theorem zv_actlog_log : zeroP PP t_actlog_log = some (.agg z_actlog_log.toArray) := by kernel_rfl
theorem zl_actlog_log : z_actlog_log.length = 2 := by kernel_rfl
theorem za_actlog_log : allCells z_actlog_log = true := by kernel_rfl
noncomputable def fs_actlog_log : Array Field := match PP.underlying t_actlog_log with | some (.struct fs) => fs | _ => #[]
theorem us_actlog_log : PP.underlying t_actlog_log = some (.struct fs_actlog_log) := by kernel_rfl
theorem ty_actlog_log : fs_actlog_log.toList.map (·.type) = [t_int, t_int] := by kernel_rfl
theorem fa_actlog_log_0 (b o : Nat) : aFieldAddr PP t_actlog_log (.pointer (some ⟨b, o, none⟩)) 0 = some (.pointer (some ⟨b, o, none⟩)) := by kernel_rfl
theorem ft_actlog_log_0 (off : Nat) (row : Array Value) : aFieldAddr PP t_actlog_log (tPtr off row) 0 = some (tPtr (off) row) := by kernel_rfl
theorem fa_actlog_log_1 (b o : Nat) : aFieldAddr PP t_actlog_log (.pointer (some ⟨b, o, none⟩)) 1 = some (.pointer (some ⟨b, o + 1, none⟩)) := by kernel_rfl
theorem ft_actlog_log_1 (off : Nat) (row : Array Value) : aFieldAddr PP t_actlog_log (tPtr off row) 1 = some (tPtr (off + 1) row) := by kernel_rfl
theorem sz_dirty_bitmap : sizeP PP t_dirty_bitmap = some 1 := by kernel_rfl
theorem by_dirty_bitmap : bytesP PP t_dirty_bitmap = some 8 := by kernel_rfl
def z_dirty_bitmap : List Value := [.pointer none]
theorem zg_dirty_bitmap : (zeroP PP t_dirty_bitmap).getD unk = .agg z_dirty_bitmap.toArray := by kernel_rfl
theorem zv_dirty_bitmap : zeroP PP t_dirty_bitmap = some (.agg z_dirty_bitmap.toArray) := by kernel_rfl
theorem zl_dirty_bitmap : z_dirty_bitmap.length = 1 := by kernel_rfl
theorem za_dirty_bitmap : allCells z_dirty_bitmap = true := by kernel_rfl
noncomputable def fs_dirty_bitmap : Array Field := match PP.underlying t_dirty_bitmap with | some (.struct fs) => fs | _ => #[]
theorem us_dirty_bitmap : PP.underlying t_dirty_bitmap = some (.struct fs_dirty_bitmap) := by kernel_rfl
theorem ty_dirty_bitmap : fs_dirty_bitmap.toList.map (·.type) = [t_P_disk_Disk] := by kernel_rfl
theorem fa_dirty_bitmap_0 (b o : Nat) : aFieldAddr PP t_dirty_bitmap (.pointer (some ⟨b, o, none⟩)) 0 = some (.pointer (some ⟨b, o, none⟩)) := by kernel_rfl
theorem ft_dirty_bitmap_0 (off : Nat) (row : Array Value) : aFieldAddr PP t_dirty_bitmap (tPtr off row) 0 = some (tPtr (off) row) := by kernel_rfl
theorem sz_meta_Meta : sizeP PP t_meta_Meta = some 3 := by kernel_rfl
theorem by_meta_Meta : bytesP PP t_meta_Meta = some 24 := by kernel_rfl
def z_meta_Meta : List Value := [.int .u32 0, .int .u64 0, .int .u64 0]
theorem zg_meta_Meta : (zeroP PP t_meta_Meta).getD unk = .agg z_meta_Meta.toArray := by kernel_rfl
theorem zv_meta_Meta : zeroP PP t_meta_Meta = some (.agg z_meta_Meta.toArray) := by kernel_rfl
theorem zl_meta_Meta : z_meta_Meta.length = 3 := by kernel_rfl
theorem za_meta_Meta : allCells z_meta_Meta = true := by kernel_rfl
noncomputable def fs_meta_Meta : Array Field := match PP.underlying t_meta_Meta with | some (.struct fs) => fs | _ => #[]
theorem us_meta_Meta : PP.underlying t_meta_Meta = some (.struct fs_meta_Meta) := by kernel_rfl
theorem ty_meta_Meta : fs_meta_Meta.toList.map (·.type) = [t_uint32, t_uint64, t_uint64] := by kernel_rfl
theorem fa_meta_Meta_0 (b o : Nat) : aFieldAddr PP t_meta_Meta (.pointer (some ⟨b, o, none⟩)) 0 = some (.pointer (some ⟨b, o, none⟩)) := by kernel_rfl
theorem ft_meta_Meta_0 (off : Nat) (row : Array Value) : aFieldAddr PP t_meta_Meta (tPtr off row) 0 = some (tPtr (off) row) := by kernel_rfl
theorem fa_meta_Meta_1 (b o : Nat) : aFieldAddr PP t_meta_Meta (.pointer (some ⟨b, o, none⟩)) 1 = some (.pointer (some ⟨b, o + 1, none⟩)) := by kernel_rfl
theorem ft_meta_Meta_1 (off : Nat) (row : Array Value) : aFieldAddr PP t_meta_Meta (tPtr off row) 1 = some (tPtr (off + 1) row) := by kernel_rfl
theorem fa_meta_Meta_2 (b o : Nat) : aFieldAddr PP t_meta_Meta (.pointer (some ⟨b, o, none⟩)) 2 = some (.pointer (some ⟨b, o + 2, none⟩)) := by kernel_rfl
theorem ft_meta_Meta_2 (off : Nat) (row : Array Value) : aFieldAddr PP t_meta_Meta (tPtr off row) 2 = some (tPtr (off + 2) row) := by kernel_rfl
theorem sz_twainref13_Meta : sizeP PP t_twainref13_Meta = some 3 := by kernel_rfl
theorem by_twainref13_Meta : bytesP PP t_twainref13_Meta = some 24 := by kernel_rfl
def z_twainref13_Meta : List Value := [.int .u32 0, .int .u64 0, .int .u64 0]
theorem zg_twainref13_Meta : (zeroP PP t_twainref13_Meta).getD unk = .agg z_twainref13_Meta.toArray := by kernel_rfl
theorem zv_twainref13_Meta : zeroP PP t_twainref13_Meta = some (.agg z_twainref13_Meta.toArray) := by kernel_rfl
theorem zl_twainref13_Meta : z_twainref13_Meta.length = 3 := by kernel_rfl
theorem za_twainref13_Meta : allCells z_twainref13_Meta = true := by kernel_rfl
noncomputable def fs_twainref13_Meta : Array Field := match PP.underlying t_twainref13_Meta with | some (.struct fs) => fs | _ => #[]
theorem us_twainref13_Meta : PP.underlying t_twainref13_Meta = some (.struct fs_twainref13_Meta) := by kernel_rfl
theorem ty_twainref13_Meta : fs_twainref13_Meta.toList.map (·.type) = [t_uint32, t_uint64, t_uint64] := by kernel_rfl
theorem fa_twainref13_Meta_0 (b o : Nat) : aFieldAddr PP t_twainref13_Meta (.pointer (some ⟨b, o, none⟩)) 0 = some (.pointer (some ⟨b, o, none⟩)) := by kernel_rfl
theorem ft_twainref13_Meta_0 (off : Nat) (row : Array Value) : aFieldAddr PP t_twainref13_Meta (tPtr off row) 0 = some (tPtr (off) row) := by kernel_rfl
theorem fa_twainref13_Meta_1 (b o : Nat) : aFieldAddr PP t_twainref13_Meta (.pointer (some ⟨b, o, none⟩)) 1 = some (.pointer (some ⟨b, o + 1, none⟩)) := by kernel_rfl
theorem ft_twainref13_Meta_1 (off : Nat) (row : Array Value) : aFieldAddr PP t_twainref13_Meta (tPtr off row) 1 = some (tPtr (off + 1) row) := by kernel_rfl
theorem fa_twainref13_Meta_2 (b o : Nat) : aFieldAddr PP t_twainref13_Meta (.pointer (some ⟨b, o, none⟩)) 2 = some (.pointer (some ⟨b, o + 2, none⟩)) := by kernel_rfl
theorem ft_twainref13_Meta_2 (off : Nat) (row : Array Value) : aFieldAddr PP t_twainref13_Meta (tPtr off row) 2 = some (tPtr (off + 2) row) := by kernel_rfl
theorem u_A4_uint8 : PP.underlying t_A4_uint8 = some (.array 4 t_uint8) := by kernel_rfl
theorem sz_A4_uint8 : sizeP PP t_A4_uint8 = some 4 := by kernel_rfl
theorem by_A4_uint8 : bytesP PP t_A4_uint8 = some 4 := by kernel_rfl
def z_A4_uint8 : List Value := [.int .u8 0, .int .u8 0, .int .u8 0, .int .u8 0]
theorem zg_A4_uint8 : (zeroP PP t_A4_uint8).getD unk = .agg z_A4_uint8.toArray := by kernel_rfl
theorem zv_A4_uint8 : zeroP PP t_A4_uint8 = some (.agg z_A4_uint8.toArray) := by kernel_rfl
theorem zl_A4_uint8 : z_A4_uint8.length = 4 := by kernel_rfl
theorem za_A4_uint8 : allCells z_A4_uint8 = true := by kernel_rfl
end Go.Proofs.YtadllcgmimbjdaaGreat
