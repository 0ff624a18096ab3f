/- A part of the proof: RgOps. Its conditions: none. -/
import Derived.Test.YtfinilnkempofaaAm23
import Derived.Test.YtfinilnkempofaaRgSh
set_option linter.all false
set_option linter.unusedVariables false
set_option linter.unusedSimpArgs false
set_option linter.unnecessarySimpa false
namespace Go.Proofs.Ytfinilnkempofaa
open Go Go.Am
theorem u_bool : PP.underlying t_bool = some .bool := by kernel_rfl
theorem sz_bool : sizeP PP t_bool = some 1 := by kernel_rfl
theorem by_bool : bytesP PP t_bool = some 1 := by kernel_rfl
theorem zg_bool : (zeroP PP t_bool).getD unk = .bool false := by kernel_rfl
theorem zv_bool : zeroP PP t_bool = some (.bool false) := by kernel_rfl
theorem u_int : PP.underlying t_int = some (.int .i64) := by kernel_rfl
theorem sz_int : sizeP PP t_int = some 1 := by kernel_rfl
theorem by_int : bytesP PP t_int = some 8 := by kernel_rfl
theorem zg_int : (zeroP PP t_int).getD unk = .int .i64 0 := by kernel_rfl
theorem zv_int : zeroP PP t_int = some (.int .i64 0) := by kernel_rfl
theorem u_uint8 : PP.underlying t_uint8 = some (.int .u8) := by kernel_rfl
theorem sz_uint8 : sizeP PP t_uint8 = some 1 := by kernel_rfl
theorem by_uint8 : bytesP PP t_uint8 = some 1 := by kernel_rfl
theorem zg_uint8 : (zeroP PP t_uint8).getD unk = .int .u8 0 := by kernel_rfl
theorem zv_uint8 : zeroP PP t_uint8 = some (.int .u8 0) := by kernel_rfl
theorem u_L_twainref34_Event : PP.underlying t_L_twainref34_Event = some (.slice t_twainref34_Event) := by kernel_rfl
theorem sz_L_twainref34_Event : sizeP PP t_L_twainref34_Event = some 1 := by kernel_rfl
theorem by_L_twainref34_Event : bytesP PP t_L_twainref34_Event = some 24 := by kernel_rfl
theorem zg_L_twainref34_Event : (zeroP PP t_L_twainref34_Event).getD unk = .slice none 0 0 := by kernel_rfl
theorem zv_L_twainref34_Event : zeroP PP t_L_twainref34_Event = some (.slice none 0 0) := by kernel_rfl
theorem el_L_twainref34_Event : ElemT PP t_L_twainref34_Event t_twainref34_Event 8 := ⟨u_L_twainref34_Event, by kernel_rfl, by decide, ⟨.agg #[.int .i64 0, .int .i64 0, .int .i64 0, .int .i64 0, .int .i64 0, .int .i64 0, .slice none 0 0, .slice none 0 0], 96, by kernel_rfl, by kernel_rfl, by kernel_rfl, by decide, by decide⟩⟩
theorem sz_twainref34_Event : sizeP PP t_twainref34_Event = some 8 := by kernel_rfl
theorem by_twainref34_Event : bytesP PP t_twainref34_Event = some 96 := by kernel_rfl
def z_twainref34_Event : List Value := [.int .i64 0, .int .i64 0, .int .i64 0, .int .i64 0, .int .i64 0, .int .i64 0, .slice none 0 0, .slice none 0 0]
theorem zg_twainref34_Event : (zeroP PP t_twainref34_Event).getD unk = .agg z_twainref34_Event.toArray := by kernel_rfl
theorem zv_twainref34_Event : zeroP PP t_twainref34_Event = some (.agg z_twainref34_Event.toArray) := by kernel_rfl
theorem zl_twainref34_Event : z_twainref34_Event.length = 8 := by kernel_rfl
theorem za_twainref34_Event : allCells z_twainref34_Event = true := by kernel_rfl
noncomputable def fs_twainref34_Event : Array Field := match PP.underlying t_twainref34_Event with | some (.struct fs) => fs | _ => #[]
theorem us_twainref34_Event : PP.underlying t_twainref34_Event = some (.struct fs_twainref34_Event) := by kernel_rfl
theorem ty_twainref34_Event : fs_twainref34_Event.toList.map (·.type) = [t_int, t_int, t_int, t_api_Request, t_L_uint8] := by kernel_rfl
theorem fa_twainref34_Event_0 (b o : Nat) : aFieldAddr PP t_twainref34_Event (.pointer (some ⟨b, o, none⟩)) 0 = some (.pointer (some ⟨b, o, none⟩)) := by kernel_rfl
theorem ft_twainref34_Event_0 (off : Nat) (row : Array Value) : aFieldAddr PP t_twainref34_Event (tPtr off row) 0 = some (tPtr (off) row) := by kernel_rfl
theorem fa_twainref34_Event_1 (b o : Nat) : aFieldAddr PP t_twainref34_Event (.pointer (some ⟨b, o, none⟩)) 1 = some (.pointer (some ⟨b, o + 1, none⟩)) := by kernel_rfl
theorem ft_twainref34_Event_1 (off : Nat) (row : Array Value) : aFieldAddr PP t_twainref34_Event (tPtr off row) 1 = some (tPtr (off + 1) row) := by kernel_rfl
theorem fa_twainref34_Event_2 (b o : Nat) : aFieldAddr PP t_twainref34_Event (.pointer (some ⟨b, o, none⟩)) 2 = some (.pointer (some ⟨b, o + 2, none⟩)) := by kernel_rfl
theorem ft_twainref34_Event_2 (off : Nat) (row : Array Value) : aFieldAddr PP t_twainref34_Event (tPtr off row) 2 = some (tPtr (off + 2) row) := by kernel_rfl
theorem fa_twainref34_Event_3 (b o : Nat) : aFieldAddr PP t_twainref34_Event (.pointer (some ⟨b, o, none⟩)) 3 = some (.pointer (some ⟨b, o + 3, none⟩)) := by kernel_rfl
theorem ft_twainref34_Event_3 (off : Nat) (row : Array Value) : aFieldAddr PP t_twainref34_Event (tPtr off row) 3 = some (tPtr (off + 3) row) := by kernel_rfl
theorem fa_twainref34_Event_4 (b o : Nat) : aFieldAddr PP t_twainref34_Event (.pointer (some ⟨b, o, none⟩)) 4 = some (.pointer (some ⟨b, o + 7, none⟩)) := by kernel_rfl
theorem ft_twainref34_Event_4 (off : Nat) (row : Array Value) : aFieldAddr PP t_twainref34_Event (tPtr off row) 4 = some (tPtr (off + 7) row) := by kernel_rfl
theorem u_L_world_Event : PP.underlying t_L_world_Event = some (.slice t_world_Event) := by kernel_rfl
theorem sz_L_world_Event : sizeP PP t_L_world_Event = some 1 := by kernel_rfl
theorem by_L_world_Event : bytesP PP t_L_world_Event = some 24 := by kernel_rfl
theorem zg_L_world_Event : (zeroP PP t_L_world_Event).getD unk = .slice none 0 0 := by kernel_rfl
theorem zv_L_world_Event : zeroP PP t_L_world_Event = some (.slice none 0 0) := by kernel_rfl
theorem el_L_world_Event : ElemT PP t_L_world_Event t_world_Event 8 := ⟨u_L_world_Event, by kernel_rfl, by decide, ⟨.agg #[.int .i64 0, .int .i64 0, .int .i64 0, .int .i64 0, .int .i64 0, .int .i64 0, .slice none 0 0, .slice none 0 0], 96, by kernel_rfl, by kernel_rfl, by kernel_rfl, by decide, by decide⟩⟩
theorem sz_world_Event : sizeP PP t_world_Event = some 8 := by kernel_rfl
theorem by_world_Event : bytesP PP t_world_Event = some 96 := by kernel_rfl
def z_world_Event : List Value := [.int .i64 0, .int .i64 0, .int .i64 0, .int .i64 0, .int .i64 0, .int .i64 0, .slice none 0 0, .slice none 0 0]
theorem zg_world_Event : (zeroP PP t_world_Event).getD unk = .agg z_world_Event.toArray := by kernel_rfl
theorem zv_world_Event : zeroP PP t_world_Event = some (.agg z_world_Event.toArray) := by kernel_rfl
theorem zl_world_Event : z_world_Event.length = 8 := by kernel_rfl
theorem za_world_Event : allCells z_world_Event = true := by kernel_rfl
noncomputable def fs_world_Event : Array Field := match PP.underlying t_world_Event with | some (.struct fs) => fs | _ => #[]
theorem us_world_Event : PP.underlying t_world_Event = some (.struct fs_world_Event) := by kernel_rfl
theorem ty_world_Event : fs_world_Event.toList.map (·.type) = [t_int, t_int, t_int, t_api_Request, t_L_uint8] := by kernel_rfl
theorem fa_world_Event_0 (b o : Nat) : aFieldAddr PP t_world_Event (.pointer (some ⟨b, o, none⟩)) 0 = some (.pointer (some ⟨b, o, none⟩)) := by kernel_rfl
theorem ft_world_Event_0 (off : Nat) (row : Array Value) : aFieldAddr PP t_world_Event (tPtr off row) 0 = some (tPtr (off) row) := by kernel_rfl
theorem fa_world_Event_1 (b o : Nat) : aFieldAddr PP t_world_Event (.pointer (some ⟨b, o, none⟩)) 1 = some (.pointer (some ⟨b, o + 1, none⟩)) := by kernel_rfl
theorem ft_world_Event_1 (off : Nat) (row : Array Value) : aFieldAddr PP t_world_Event (tPtr off row) 1 = some (tPtr (off + 1) row) := by kernel_rfl
theorem fa_world_Event_2 (b o : Nat) : aFieldAddr PP t_world_Event (.pointer (some ⟨b, o, none⟩)) 2 = some (.pointer (some ⟨b, o + 2, none⟩)) := by kernel_rfl
theorem ft_world_Event_2 (off : Nat) (row : Array Value) : aFieldAddr PP t_world_Event (tPtr off row) 2 = some (tPtr (off + 2) row) := by kernel_rfl
theorem fa_world_Event_3 (b o : Nat) : aFieldAddr PP t_world_Event (.pointer (some ⟨b, o, none⟩)) 3 = some (.pointer (some ⟨b, o + 3, none⟩)) := by kernel_rfl
theorem ft_world_Event_3 (off : Nat) (row : Array Value) : aFieldAddr PP t_world_Event (tPtr off row) 3 = some (tPtr (off + 3) row) := by kernel_rfl
theorem fa_world_Event_4 (b o : Nat) : aFieldAddr PP t_world_Event (.pointer (some ⟨b, o, none⟩)) 4 = some (.pointer (some ⟨b, o + 7, none⟩)) := by kernel_rfl
theorem ft_world_Event_4 (off : Nat) (row : Array Value) : aFieldAddr PP t_world_Event (tPtr off row) 4 = some (tPtr (off + 7) row) := by kernel_rfl
theorem u_api_Sector : PP.underlying t_api_Sector = some (.array 16 t_uint8) := by kernel_rfl
theorem sz_api_Sector : sizeP PP t_api_Sector = some 16 := by kernel_rfl
theorem by_api_Sector : bytesP PP t_api_Sector = some 16 := by kernel_rfl
def z_api_Sector : List Value := [.int .u8 0, .int .u8 0, .int .u8 0, .int .u8 0, .int .u8 0, .int .u8 0, .int .u8 0, .int .u8 0, .int .u8 0, .int .u8 0, .int .u8 0, .int .u8 0, .int .u8 0, .int .u8 0, .int .u8 0, .int .u8 0]
theorem zg_api_Sector : (zeroP PP t_api_Sector).getD unk = .agg z_api_Sector.toArray := by kernel_rfl
theorem zv_api_Sector : zeroP PP t_api_Sector = some (.agg z_api_Sector.toArray) := by kernel_rfl
theorem zl_api_Sector : z_api_Sector.length = 16 := by kernel_rfl
theorem za_api_Sector : allCells z_api_Sector = true := by kernel_rfl
theorem sz_api_Span : sizeP PP t_api_Span = some 2 := by kernel_rfl
theorem by_api_Span : bytesP PP t_api_Span = some 16 := by kernel_rfl
def z_api_Span : List Value := [.int .i64 0, .int .i64 0]
theorem zg_api_Span : (zeroP PP t_api_Span).getD unk = .agg z_api_Span.toArray := by kernel_rfl
theorem zv_api_Span : zeroP PP t_api_Span = some (.agg z_api_Span.toArray) := by kernel_rfl
theorem zl_api_Span : z_api_Span.length = 2 := by kernel_rfl
theorem za_api_Span : allCells z_api_Span = true := by kernel_rfl
noncomputable def fs_api_Span : Array Field := match PP.underlying t_api_Span with | some (.struct fs) => fs | _ => #[]
theorem us_api_Span : PP.underlying t_api_Span = some (.struct fs_api_Span) := by kernel_rfl
theorem ty_api_Span : fs_api_Span.toList.map (·.type) = [t_int, t_int] := by kernel_rfl
theorem fa_api_Span_0 (b o : Nat) : aFieldAddr PP t_api_Span (.pointer (some ⟨b, o, none⟩)) 0 = some (.pointer (some ⟨b, o, none⟩)) := by kernel_rfl
theorem ft_api_Span_0 (off : Nat) (row : Array Value) : aFieldAddr PP t_api_Span (tPtr off row) 0 = some (tPtr (off) row) := by kernel_rfl
theorem fa_api_Span_1 (b o : Nat) : aFieldAddr PP t_api_Span (.pointer (some ⟨b, o, none⟩)) 1 = some (.pointer (some ⟨b, o + 1, none⟩)) := by kernel_rfl
theorem ft_api_Span_1 (off : Nat) (row : Array Value) : aFieldAddr PP t_api_Span (tPtr off row) 1 = some (tPtr (off + 1) row) := by kernel_rfl
theorem sz_api_Request : sizeP PP t_api_Request = some 4 := by kernel_rfl
theorem by_api_Request : bytesP PP t_api_Request = some 48 := by kernel_rfl
def z_api_Request : List Value := [.int .i64 0, .int .i64 0, .int .i64 0, .slice none 0 0]
theorem zg_api_Request : (zeroP PP t_api_Request).getD unk = .agg z_api_Request.toArray := by kernel_rfl
theorem zv_api_Request : zeroP PP t_api_Request = some (.agg z_api_Request.toArray) := by kernel_rfl
theorem zl_api_Request : z_api_Request.length = 4 := by kernel_rfl
theorem za_api_Request : allCells z_api_Request = true := by kernel_rfl
noncomputable def fs_api_Request : Array Field := match PP.underlying t_api_Request with | some (.struct fs) => fs | _ => #[]
theorem us_api_Request : PP.underlying t_api_Request = some (.struct fs_api_Request) := by kernel_rfl
theorem ty_api_Request : fs_api_Request.toList.map (·.type) = [t_int, t_api_Span, t_L_uint8] := by kernel_rfl
theorem fa_api_Request_0 (b o : Nat) : aFieldAddr PP t_api_Request (.pointer (some ⟨b, o, none⟩)) 0 = some (.pointer (some ⟨b, o, none⟩)) := by kernel_rfl
theorem ft_api_Request_0 (off : Nat) (row : Array Value) : aFieldAddr PP t_api_Request (tPtr off row) 0 = some (tPtr (off) row) := by kernel_rfl
theorem fa_api_Request_1 (b o : Nat) : aFieldAddr PP t_api_Request (.pointer (some ⟨b, o, none⟩)) 1 = some (.pointer (some ⟨b, o + 1, none⟩)) := by kernel_rfl
theorem ft_api_Request_1 (off : Nat) (row : Array Value) : aFieldAddr PP t_api_Request (tPtr off row) 1 = some (tPtr (off + 1) row) := by kernel_rfl
theorem fa_api_Request_2 (b o : Nat) : aFieldAddr PP t_api_Request (.pointer (some ⟨b, o, none⟩)) 2 = some (.pointer (some ⟨b, o + 3, none⟩)) := by kernel_rfl
theorem ft_api_Request_2 (off : Nat) (row : Array Value) : aFieldAddr PP t_api_Request (tPtr off row) 2 = some (tPtr (off + 3) row) := by kernel_rfl
theorem u_L_uint8 : PP.underlying t_L_uint8 = some (.slice t_uint8) := by kernel_rfl
theorem sz_L_uint8 : sizeP PP t_L_uint8 = some 1 := by kernel_rfl
theorem by_L_uint8 : bytesP PP t_L_uint8 = some 24 := by kernel_rfl
theorem zg_L_uint8 : (zeroP PP t_L_uint8).getD unk = .slice none 0 0 := by kernel_rfl
theorem zv_L_uint8 : zeroP PP t_L_uint8 = some (.slice none 0 0) := by kernel_rfl
theorem el_L_uint8 : ElemT PP t_L_uint8 t_uint8 1 := ⟨u_L_uint8, by kernel_rfl, by decide, ⟨.int .u8 0, 1, by kernel_rfl, by kernel_rfl, by kernel_rfl, by decide, by decide⟩⟩
theorem u_L_history_Op : PP.underlying t_L_history_Op = some (.slice t_history_Op) := by kernel_rfl
theorem sz_L_history_Op : sizeP PP t_L_history_Op = some 1 := by kernel_rfl
theorem by_L_history_Op : bytesP PP t_L_history_Op = some 24 := by kernel_rfl
theorem zg_L_history_Op : (zeroP PP t_L_history_Op).getD unk = .slice none 0 0 := by kernel_rfl
theorem zv_L_history_Op : zeroP PP t_L_history_Op = some (.slice none 0 0) := by kernel_rfl
theorem el_L_history_Op : ElemT PP t_L_history_Op t_history_Op 19 := ⟨u_L_history_Op, by kernel_rfl, by decide, ⟨.agg #[.bool false, .int .u8 0, .int .u8 0, .int .u8 0, .int .u8 0, .int .u8 0, .int .u8 0, .int .u8 0, .int .u8 0, .int .u8 0, .int .u8 0, .int .u8 0, .int .u8 0, .int .u8 0, .int .u8 0, .int .u8 0, .int .u8 0, .int .i64 0, .int .i64 0], 40, by kernel_rfl, by kernel_rfl, by kernel_rfl, by decide, by decide⟩⟩
theorem sz_history_Op : sizeP PP t_history_Op = some 19 := by kernel_rfl
theorem by_history_Op : bytesP PP t_history_Op = some 40 := by kernel_rfl
def z_history_Op : List Value := [.bool false, .int .u8 0, .int .u8 0, .int .u8 0, .int .u8 0, .int .u8 0, .int .u8 0, .int .u8 0, .int .u8 0, .int .u8 0, .int .u8 0, .int .u8 0, .int .u8 0, .int .u8 0, .int .u8 0, .int .u8 0, .int .u8 0, .int .i64 0, .int .i64 0]
theorem zg_history_Op : (zeroP PP t_history_Op).getD unk = .agg z_history_Op.toArray := by kernel_rfl
theorem zv_history_Op : zeroP PP t_history_Op = some (.agg z_history_Op.toArray) := by kernel_rfl
theorem zl_history_Op : z_history_Op.length = 19 := by kernel_rfl
theorem za_history_Op : allCells z_history_Op = true := by kernel_rfl
noncomputable def fs_history_Op : Array Field := match PP.underlying t_history_Op with | some (.struct fs) => fs | _ => #[]
theorem us_history_Op : PP.underlying t_history_Op = some (.struct fs_history_Op) := by kernel_rfl
theorem ty_history_Op : fs_history_Op.toList.map (·.type) = [t_bool, t_api_Sector, t_int, t_int] := by kernel_rfl
theorem fa_history_Op_0 (b o : Nat) : aFieldAddr PP t_history_Op (.pointer (some ⟨b, o, none⟩)) 0 = some (.pointer (some ⟨b, o, none⟩)) := by kernel_rfl
theorem ft_history_Op_0 (off : Nat) (row : Array Value) : aFieldAddr PP t_history_Op (tPtr off row) 0 = some (tPtr (off) row) := by kernel_rfl
theorem fa_history_Op_1 (b o : Nat) : aFieldAddr PP t_history_Op (.pointer (some ⟨b, o, none⟩)) 1 = some (.pointer (some ⟨b, o + 1, none⟩)) := by kernel_rfl
theorem ft_history_Op_1 (off : Nat) (row : Array Value) : aFieldAddr PP t_history_Op (tPtr off row) 1 = some (tPtr (off + 1) row) := by kernel_rfl
theorem fa_history_Op_2 (b o : Nat) : aFieldAddr PP t_history_Op (.pointer (some ⟨b, o, none⟩)) 2 = some (.pointer (some ⟨b, o + 17, none⟩)) := by kernel_rfl
theorem ft_history_Op_2 (off : Nat) (row : Array Value) : aFieldAddr PP t_history_Op (tPtr off row) 2 = some (tPtr (off + 17) row) := by kernel_rfl
theorem fa_history_Op_3 (b o : Nat) : aFieldAddr PP t_history_Op (.pointer (some ⟨b, o, none⟩)) 3 = some (.pointer (some ⟨b, o + 18, none⟩)) := by kernel_rfl
theorem ft_history_Op_3 (off : Nat) (row : Array Value) : aFieldAddr PP t_history_Op (tPtr off row) 3 = some (tPtr (off + 18) row) := by kernel_rfl
theorem u_L_twainref36_Op : PP.underlying t_L_twainref36_Op = some (.slice t_twainref36_Op) := by kernel_rfl
theorem sz_L_twainref36_Op : sizeP PP t_L_twainref36_Op = some 1 := by kernel_rfl
theorem by_L_twainref36_Op : bytesP PP t_L_twainref36_Op = some 24 := by kernel_rfl
theorem zg_L_twainref36_Op : (zeroP PP t_L_twainref36_Op).getD unk = .slice none 0 0 := by kernel_rfl
theorem zv_L_twainref36_Op : zeroP PP t_L_twainref36_Op = some (.slice none 0 0) := by kernel_rfl
theorem el_L_twainref36_Op : ElemT PP t_L_twainref36_Op t_twainref36_Op 19 := ⟨u_L_twainref36_Op, by kernel_rfl, by decide, ⟨.agg #[.bool false, .int .u8 0, .int .u8 0, .int .u8 0, .int .u8 0, .int .u8 0, .int .u8 0, .int .u8 0, .int .u8 0, .int .u8 0, .int .u8 0, .int .u8 0, .int .u8 0, .int .u8 0, .int .u8 0, .int .u8 0, .int .u8 0, .int .i64 0, .int .i64 0], 40, by kernel_rfl, by kernel_rfl, by kernel_rfl, by decide, by decide⟩⟩
theorem sz_twainref36_Op : sizeP PP t_twainref36_Op = some 19 := by kernel_rfl
theorem by_twainref36_Op : bytesP PP t_twainref36_Op = some 40 := by kernel_rfl
def z_twainref36_Op : List Value := [.bool false, .int .u8 0, .int .u8 0, .int .u8 0, .int .u8 0, .int .u8 0, .int .u8 0, .int .u8 0, .int .u8 0, .int .u8 0, .int .u8 0, .int .u8 0, .int .u8 0, .int .u8 0, .int .u8 0, .int .u8 0, .int .u8 0, .int .i64 0, .int .i64 0]
theorem zg_twainref36_Op : (zeroP PP t_twainref36_Op).getD unk = .agg z_twainref36_Op.toArray := by kernel_rfl
theorem zv_twainref36_Op : zeroP PP t_twainref36_Op = some (.agg z_twainref36_Op.toArray) := by kernel_rfl
theorem zl_twainref36_Op : z_twainref36_Op.length = 19 := by kernel_rfl
theorem za_twainref36_Op : allCells z_twainref36_Op = true := by kernel_rfl
noncomputable def fs_twainref36_Op : Array Field := match PP.underlying t_twainref36_Op with | some (.struct fs) => fs | _ => #[]
theorem us_twainref36_Op : PP.underlying t_twainref36_Op = some (.struct fs_twainref36_Op) := by kernel_rfl
theorem ty_twainref36_Op : fs_twainref36_Op.toList.map (·.type) = [t_bool, t_api_Sector, t_int, t_int] := by kernel_rfl
theorem fa_twainref36_Op_0 (b o : Nat) : aFieldAddr PP t_twainref36_Op (.pointer (some ⟨b, o, none⟩)) 0 = some (.pointer (some ⟨b, o, none⟩)) := by kernel_rfl
theorem ft_twainref36_Op_0 (off : Nat) (row : Array Value) : aFieldAddr PP t_twainref36_Op (tPtr off row) 0 = some (tPtr (off) row) := by kernel_rfl
theorem fa_twainref36_Op_1 (b o : Nat) : aFieldAddr PP t_twainref36_Op (.pointer (some ⟨b, o, none⟩)) 1 = some (.pointer (some ⟨b, o + 1, none⟩)) := by kernel_rfl
theorem ft_twainref36_Op_1 (off : Nat) (row : Array Value) : aFieldAddr PP t_twainref36_Op (tPtr off row) 1 = some (tPtr (off + 1) row) := by kernel_rfl
theorem fa_twainref36_Op_2 (b o : Nat) : aFieldAddr PP t_twainref36_Op (.pointer (some ⟨b, o, none⟩)) 2 = some (.pointer (some ⟨b, o + 17, none⟩)) := by kernel_rfl
theorem ft_twainref36_Op_2 (off : Nat) (row : Array Value) : aFieldAddr PP t_twainref36_Op (tPtr off row) 2 = some (tPtr (off + 17) row) := by kernel_rfl
theorem fa_twainref36_Op_3 (b o : Nat) : aFieldAddr PP t_twainref36_Op (.pointer (some ⟨b, o, none⟩)) 3 = some (.pointer (some ⟨b, o + 18, none⟩)) := by kernel_rfl
theorem ft_twainref36_Op_3 (off : Nat) (row : Array Value) : aFieldAddr PP t_twainref36_Op (tPtr off row) 3 = some (tPtr (off + 18) row) := by kernel_rfl
theorem sz_history_pairs : sizeP PP t_history_pairs = some 3 := by kernel_rfl
theorem by_history_pairs : bytesP PP t_history_pairs = some 24 := by kernel_rfl
def z_history_pairs : List Value := [.map none, .map none, .bool false]
theorem zg_history_pairs : (zeroP PP t_history_pairs).getD unk = .agg z_history_pairs.toArray := by kernel_rfl
theorem zv_history_pairs : zeroP PP t_history_pairs = some (.agg z_history_pairs.toArray) := by kernel_rfl
theorem zl_history_pairs : z_history_pairs.length = 3 := by kernel_rfl
theorem za_history_pairs : allCells z_history_pairs = true := by kernel_rfl
noncomputable def fs_history_pairs : Array Field := match PP.underlying t_history_pairs with | some (.struct fs) => fs | _ => #[]
theorem us_history_pairs : PP.underlying t_history_pairs = some (.struct fs_history_pairs) := by kernel_rfl
theorem ty_history_pairs : fs_history_pairs.toList.map (·.type) = [t_M_history_key_int, t_M_int_int, t_bool] := by kernel_rfl
theorem fa_history_pairs_0 (b o : Nat) : aFieldAddr PP t_history_pairs (.pointer (some ⟨b, o, none⟩)) 0 = some (.pointer (some ⟨b, o, none⟩)) := by kernel_rfl
theorem ft_history_pairs_0 (off : Nat) (row : Array Value) : aFieldAddr PP t_history_pairs (tPtr off row) 0 = some (tPtr (off) row) := by kernel_rfl
theorem fa_history_pairs_1 (b o : Nat) : aFieldAddr PP t_history_pairs (.pointer (some ⟨b, o, none⟩)) 1 = some (.pointer (some ⟨b, o + 1, none⟩)) := by kernel_rfl
theorem ft_history_pairs_1 (off : Nat) (row : Array Value) : aFieldAddr PP t_history_pairs (tPtr off row) 1 = some (tPtr (off + 1) row) := by kernel_rfl
theorem fa_history_pairs_2 (b o : Nat) : aFieldAddr PP t_history_pairs (.pointer (some ⟨b, o, none⟩)) 2 = some (.pointer (some ⟨b, o + 2, none⟩)) := by kernel_rfl
theorem ft_history_pairs_2 (off : Nat) (row : Array Value) : aFieldAddr PP t_history_pairs (tPtr off row) 2 = some (tPtr (off + 2) row) := by kernel_rfl
theorem sz_history_key : sizeP PP t_history_key = some 2 := by kernel_rfl
theorem by_history_key : bytesP PP t_history_key = some 16 := by kernel_rfl
def z_history_key : List Value := [.int .i64 0, .int .i64 0]
theorem zg_history_key : (zeroP PP t_history_key).getD unk = .agg z_history_key.toArray := by kernel_rfl
theorem zv_history_key : zeroP PP t_history_key = some (.agg z_history_key.toArray) := by kernel_rfl
theorem zl_history_key : z_history_key.length = 2 := by kernel_rfl
theorem za_history_key : allCells z_history_key = true := by kernel_rfl
noncomputable def fs_history_key : Array Field := match PP.underlying t_history_key with | some (.struct fs) => fs | _ => #[]
theorem us_history_key : PP.underlying t_history_key = some (.struct fs_history_key) := by kernel_rfl
theorem ty_history_key : fs_history_key.toList.map (·.type) = [t_int, t_int] := by kernel_rfl
theorem fa_history_key_0 (b o : Nat) : aFieldAddr PP t_history_key (.pointer (some ⟨b, o, none⟩)) 0 = some (.pointer (some ⟨b, o, none⟩)) := by kernel_rfl
theorem ft_history_key_0 (off : Nat) (row : Array Value) : aFieldAddr PP t_history_key (tPtr off row) 0 = some (tPtr (off) row) := by kernel_rfl
theorem fa_history_key_1 (b o : Nat) : aFieldAddr PP t_history_key (.pointer (some ⟨b, o, none⟩)) 1 = some (.pointer (some ⟨b, o + 1, none⟩)) := by kernel_rfl
theorem ft_history_key_1 (off : Nat) (row : Array Value) : aFieldAddr PP t_history_key (tPtr off row) 1 = some (tPtr (off + 1) row) := by kernel_rfl
theorem u_M_history_key_int : PP.underlying t_M_history_key_int = some (.map t_history_key t_int) := by kernel_rfl
theorem sz_M_history_key_int : sizeP PP t_M_history_key_int = some 1 := by kernel_rfl
theorem by_M_history_key_int : bytesP PP t_M_history_key_int = some 8 := by kernel_rfl
theorem zg_M_history_key_int : (zeroP PP t_M_history_key_int).getD unk = .map none := by kernel_rfl
theorem zv_M_history_key_int : zeroP PP t_M_history_key_int = some (.map none) := by kernel_rfl
theorem u_M_int_int : PP.underlying t_M_int_int = some (.map t_int t_int) := by kernel_rfl
theorem sz_M_int_int : sizeP PP t_M_int_int = some 1 := by kernel_rfl
theorem by_M_int_int : bytesP PP t_M_int_int = some 8 := by kernel_rfl
theorem zg_M_int_int : (zeroP PP t_M_int_int).getD unk = .map none := by kernel_rfl
theorem zv_M_int_int : zeroP PP t_M_int_int = some (.map none) := by kernel_rfl
theorem u_L_int : PP.underlying t_L_int = some (.slice t_int) := by kernel_rfl
theorem sz_L_int : sizeP PP t_L_int = some 1 := by kernel_rfl
theorem by_L_int : bytesP PP t_L_int = some 24 := by kernel_rfl
theorem zg_L_int : (zeroP PP t_L_int).getD unk = .slice none 0 0 := by kernel_rfl
theorem zv_L_int : zeroP PP t_L_int = some (.slice none 0 0) := by kernel_rfl
theorem el_L_int : ElemT PP t_L_int t_int 1 := ⟨u_L_int, by kernel_rfl, by decide, ⟨.int .i64 0, 8, by kernel_rfl, by kernel_rfl, by kernel_rfl, by decide, by decide⟩⟩
theorem sz_span_side : sizeP PP t_span_side = some 2 := by kernel_rfl
theorem by_span_side : bytesP PP t_span_side = some 16 := by kernel_rfl
def z_span_side : List Value := [.int .i64 0, .int .i64 0]
theorem zg_span_side : (zeroP PP t_span_side).getD unk = .agg z_span_side.toArray := by kernel_rfl
theorem zv_span_side : zeroP PP t_span_side = some (.agg z_span_side.toArray) := by kernel_rfl
theorem zl_span_side : z_span_side.length = 2 := by kernel_rfl
theorem za_span_side : allCells z_span_side = true := by kernel_rfl
noncomputable def fs_span_side : Array Field := match PP.underlying t_span_side with | some (.struct fs) => fs | _ => #[]
theorem us_span_side : PP.underlying t_span_side = some (.struct fs_span_side) := by kernel_rfl
theorem ty_span_side : fs_span_side.toList.map (·.type) = [t_api_Span] := by kernel_rfl
theorem fa_span_side_0 (b o : Nat) : aFieldAddr PP t_span_side (.pointer (some ⟨b, o, none⟩)) 0 = some (.pointer (some ⟨b, o, none⟩)) := by kernel_rfl
theorem ft_span_side_0 (off : Nat) (row : Array Value) : aFieldAddr PP t_span_side (tPtr off row) 0 = some (tPtr (off) row) := by kernel_rfl
theorem u_L_api_Sector : PP.underlying t_L_api_Sector = some (.slice t_api_Sector) := by kernel_rfl
theorem sz_L_api_Sector : sizeP PP t_L_api_Sector = some 1 := by kernel_rfl
theorem by_L_api_Sector : bytesP PP t_L_api_Sector = some 24 := by kernel_rfl
theorem zg_L_api_Sector : (zeroP PP t_L_api_Sector).getD unk = .slice none 0 0 := by kernel_rfl
theorem zv_L_api_Sector : zeroP PP t_L_api_Sector = some (.slice none 0 0) := by kernel_rfl
theorem el_L_api_Sector : ElemT PP t_L_api_Sector t_api_Sector 16 := ⟨u_L_api_Sector, by kernel_rfl, by decide, ⟨.agg #[.int .u8 0, .int .u8 0, .int .u8 0, .int .u8 0, .int .u8 0, .int .u8 0, .int .u8 0, .int .u8 0, .int .u8 0, .int .u8 0, .int .u8 0, .int .u8 0, .int .u8 0, .int .u8 0, .int .u8 0, .int .u8 0], 16, by kernel_rfl, by kernel_rfl, by kernel_rfl, by decide, by decide⟩⟩
theorem u_L_bool : PP.underlying t_L_bool = some (.slice t_bool) := by kernel_rfl
theorem sz_L_bool : sizeP PP t_L_bool = some 1 := by kernel_rfl
theorem by_L_bool : bytesP PP t_L_bool = some 24 := by kernel_rfl
theorem zg_L_bool : (zeroP PP t_L_bool).getD unk = .slice none 0 0 := by kernel_rfl
theorem zv_L_bool : zeroP PP t_L_bool = some (.slice none 0 0) := by kernel_rfl
theorem el_L_bool : ElemT PP t_L_bool t_bool 1 := ⟨u_L_bool, by kernel_rfl, by decide, ⟨.bool false, 1, by kernel_rfl, by kernel_rfl, by kernel_rfl, by decide, by decide⟩⟩
end Go.Proofs.Ytfinilnkempofaa
