/- A part of the proof: StOps. Its conditions: none. -/
import Derived.Test.YtpklhjeccbjalaaAm23
import Derived.Test.YtpklhjeccbjalaaStSh
set_option linter.all false
set_option linter.unusedVariables false
set_option linter.unusedSimpArgs false
set_option linter.unnecessarySimpa false
namespace Go.Proofs.Ytpklhjeccbjalaa
open Go Go.Am
theorem u_bool : PP.underlying t_bool = some .bool := by kernel_rfl
theorem sz_bool : sizeP PP t_bool = some 1 := by kernel_rfl
theorem by_bool : bytesP PP t_bool = some 1 := by kernel_rfl
theorem zg_bool : (zeroP PP t_bool).getD unk = .bool false := by kernel_rfl
theorem zv_bool : zeroP PP t_bool = some (.bool false) := by kernel_rfl
theorem u_int : PP.underlying t_int = some (.int .i64) := by kernel_rfl
theorem sz_int : sizeP PP t_int = some 1 := by kernel_rfl
theorem by_int : bytesP PP t_int = some 8 := by kernel_rfl
theorem zg_int : (zeroP PP t_int).getD unk = .int .i64 0 := by kernel_rfl
theorem zv_int : zeroP PP t_int = some (.int .i64 0) := by kernel_rfl
theorem u_uint8 : PP.underlying t_uint8 = some (.int .u8) := by kernel_rfl
theorem sz_uint8 : sizeP PP t_uint8 = some 1 := by kernel_rfl
theorem by_uint8 : bytesP PP t_uint8 = some 1 := by kernel_rfl
theorem zg_uint8 : (zeroP PP t_uint8).getD unk = .int .u8 0 := by kernel_rfl
theorem zv_uint8 : zeroP PP t_uint8 = some (.int .u8 0) := by kernel_rfl
theorem u_L_twainref34_Event : PP.underlying t_L_twainref34_Event = some (.slice t_twainref34_Event) := by kernel_rfl
theorem sz_L_twainref34_Event : sizeP PP t_L_twainref34_Event = some 1 := by kernel_rfl
theorem by_L_twainref34_Event : bytesP PP t_L_twainref34_Event = some 24 := by kernel_rfl
theorem zg_L_twainref34_Event : (zeroP PP t_L_twainref34_Event).getD unk = .slice none 0 0 := by kernel_rfl
theorem zv_L_twainref34_Event : zeroP PP t_L_twainref34_Event = some (.slice none 0 0) := by kernel_rfl
theorem el_L_twainref34_Event : ElemT PP t_L_twainref34_Event t_twainref34_Event 8 := ⟨u_L_twainref34_Event, by kernel_rfl, by decide, ⟨.agg #[.int .i64 0, .int .i64 0, .int .i64 0, .int .i64 0, .int .i64 0, .int .i64 0, .slice none 0 0, .slice none 0 0], 96, by kernel_rfl, by kernel_rfl, by kernel_rfl, by decide, by decide⟩⟩
theorem sz_twainref34_Event : sizeP PP t_twainref34_Event = some 8 := by kernel_rfl
theorem by_twainref34_Event : bytesP PP t_twainref34_Event = some 96 := by kernel_rfl
def z_twainref34_Event : List Value := [.int .i64 0, .int .i64 0, .int .i64 0, .int .i64 0, .int .i64 0, .int .i64 0, .slice none 0 0, .slice none 0 0]
theorem zg_twainref34_Event : (zeroP PP t_twainref34_Event).getD unk = .agg z_twainref34_Event.toArray := by kernel_rfl
theorem zv_twainref34_Event : zeroP PP t_twainref34_Event = some (.agg z_twainref34_Event.toArray) := by kernel_rfl
theorem zl_twainref34_Event : z_twainref34_Event.length = 8 := by kernel_rfl
theorem za_twainref34_Event : allCells z_twainref34_Event = true := by kernel_rfl
noncomputable def fs_twainref34_Event : Array Field := match PP.underlying t_twainref34_Event with | some (.struct fs) => fs | _ => #[]
theorem us_twainref34_Event : PP.underlying t_twainref34_Event = some (.struct fs_twainref34_Event) := by kernel_rfl
theorem ty_twainref34_Event : fs_twainref34_Event.toList.map (·.type) = [t_int, t_int, t_int, t_api_Request, t_L_uint8] := by kernel_rfl
theorem fa_twainref34_Event_0 (b o : Nat) : aFieldAddr PP t_twainref34_Event (.pointer (some ⟨b, o, none⟩)) 0 = some (.pointer (some ⟨b, o, none⟩)) := by kernel_rfl
theorem ft_twainref34_Event_0 (off : Nat) (row : Array Value) : aFieldAddr PP t_twainref34_Event (tPtr off row) 0 = some (tPtr (off) row) := by kernel_rfl
theorem fa_twainref34_Event_1 (b o : Nat) : aFieldAddr PP t_twainref34_Event (.pointer (some ⟨b, o, none⟩)) 1 = some (.pointer (some ⟨b, o + 1, none⟩)) := by kernel_rfl
theorem ft_twainref34_Event_1 (off : Nat) (row : Array Value) : aFieldAddr PP t_twainref34_Event (tPtr off row) 1 = some (tPtr (off + 1) row) := by kernel_rfl
theorem fa_twainref34_Event_2 (b o : Nat) : aFieldAddr PP t_twainref34_Event (.pointer (some ⟨b, o, none⟩)) 2 = some (.pointer (some ⟨b, o + 2, none⟩)) := by kernel_rfl
theorem ft_twainref34_Event_2 (off : Nat) (row : Array Value) : aFieldAddr PP t_twainref34_Event (tPtr off row) 2 = some (tPtr (off + 2) row) := by kernel_rfl
theorem fa_twainref34_Event_3 (b o : Nat) : aFieldAddr PP t_twainref34_Event (.pointer (some ⟨b, o, none⟩)) 3 = some (.pointer (some ⟨b, o + 3, none⟩)) := by kernel_rfl
theorem ft_twainref34_Event_3 (off : Nat) (row : Array Value) : aFieldAddr PP t_twainref34_Event (tPtr off row) 3 = some (tPtr (off + 3) row) := by kernel_rfl
theorem fa_twainref34_Event_4 (b o : Nat) : aFieldAddr PP t_twainref34_Event (.pointer (some ⟨b, o, none⟩)) 4 = some (.pointer (some ⟨b, o + 7, none⟩)) := by kernel_rfl
theorem ft_twainref34_Event_4 (off : Nat) (row : Array Value) : aFieldAddr PP t_twainref34_Event (tPtr off row) 4 = some (tPtr (off + 7) row) := by kernel_rfl
theorem u_L_world_Event : PP.underlying t_L_world_Event = some (.slice t_world_Event) := by kernel_rfl
theorem sz_L_world_Event : sizeP PP t_L_world_Event = some 1 := by kernel_rfl
theorem by_L_world_Event : bytesP PP t_L_world_Event = some 24 := by kernel_rfl
theorem zg_L_world_Event : (zeroP PP t_L_world_Event).getD unk = .slice none 0 0 := by kernel_rfl
theorem zv_L_world_Event : zeroP PP t_L_world_Event = some (.slice none 0 0) := by kernel_rfl
theorem el_L_world_Event : ElemT PP t_L_world_Event t_world_Event 8 := ⟨u_L_world_Event, by kernel_rfl, by decide, ⟨.agg #[.int .i64 0, .int .i64 0, .int .i64 0, .int .i64 0, .int .i64 0, .int .i64 0, .slice none 0 0, .slice none 0 0], 96, by kernel_rfl, by kernel_rfl, by kernel_rfl, by decide, by decide⟩⟩
theorem sz_world_Event : sizeP PP t_world_Event = some 8 := by kernel_rfl
theorem by_world_Event : bytesP PP t_world_Event = some 96 := by kernel_rfl
def z_world_Event : List Value := [.int .i64 0, .int .i64 0, .int .i64 0, .int .i64 0, .int .i64 0, .int .i64 0, .slice none 0 0, .slice none 0 0]
theorem zg_world_Event : (zeroP PP t_world_Event).getD unk = .agg z_world_Event.toArray := by kernel_rfl
theorem zv_world_Event : zeroP PP t_world_Event = some (.agg z_world_Event.toArray) := by kernel_rfl
theorem zl_world_Event : z_world_Event.length = 8 := by kernel_rfl
theorem za_world_Event : allCells z_world_Event = true := by kernel_rfl
noncomputable def fs_world_Event : Array Field := match PP.underlying t_world_Event with | some (.struct fs) => fs | _ => #[]
theorem us_world_Event : PP.underlying t_world_Event = some (.struct fs_world_Event) := by kernel_rfl
theorem ty_world_Event : fs_world_Event.toList.map (·.type) = [t_int, t_int, t_int, t_api_Request, t_L_uint8] := by kernel_rfl
theorem fa_world_Event_0 (b o : Nat) : aFieldAddr PP t_world_Event (.pointer (some ⟨b, o, none⟩)) 0 = some (.pointer (some ⟨b, o, none⟩)) := by kernel_rfl
theorem ft_world_Event_0 (off : Nat) (row : Array Value) : aFieldAddr PP t_world_Event (tPtr off row) 0 = some (tPtr (off) row) := by kernel_rfl
theorem fa_world_Event_1 (b o : Nat) : aFieldAddr PP t_world_Event (.pointer (some ⟨b, o, none⟩)) 1 = some (.pointer (some ⟨b, o + 1, none⟩)) := by kernel_rfl
theorem ft_world_Event_1 (off : Nat) (row : Array Value) : aFieldAddr PP t_world_Event (tPtr off row) 1 = some (tPtr (off + 1) row) := by kernel_rfl
theorem fa_world_Event_2 (b o : Nat) : aFieldAddr PP t_world_Event (.pointer (some ⟨b, o, none⟩)) 2 = some (.pointer (some ⟨b, o + 2, none⟩)) := by kernel_rfl
theorem ft_world_Event_2 (off : Nat) (row : Array Value) : aFieldAddr PP t_world_Event (tPtr off row) 2 = some (tPtr (off + 2) row) := by kernel_rfl
theorem fa_world_Event_3 (b o : Nat) : aFieldAddr PP t_world_Event (.pointer (some ⟨b, o, none⟩)) 3 = some (.pointer (some ⟨b, o + 3, none⟩)) := by kernel_rfl
theorem ft_world_Event_3 (off : Nat) (row : Array Value) : aFieldAddr PP t_world_Event (tPtr off row) 3 = some (tPtr (off + 3) row) := by kernel_rfl
theorem fa_world_Event_4 (b o : Nat) : aFieldAddr PP t_world_Event (.pointer (some ⟨b, o, none⟩)) 4 = some (.pointer (some ⟨b, o + 7, none⟩)) := by kernel_rfl
theorem ft_world_Event_4 (off : Nat) (row : Array Value) : aFieldAddr PP t_world_Event (tPtr off row) 4 = some (tPtr (off + 7) row) := by kernel_rfl
theorem sz_api_Span : sizeP PP t_api_Span = some 2 := by kernel_rfl
theorem by_api_Span : bytesP PP t_api_Span = some 16 := by kernel_rfl
def z_api_Span : List Value := [.int .i64 0, .int .i64 0]
theorem zg_api_Span : (zeroP PP t_api_Span).getD unk = .agg z_api_Span.toArray := by kernel_rfl
theorem zv_api_Span : zeroP PP t_api_Span = some (.agg z_api_Span.toArray) := by kernel_rfl
theorem zl_api_Span : z_api_Span.length = 2 := by kernel_rfl
theorem za_api_Span : allCells z_api_Span = true := by kernel_rfl
noncomputable def fs_api_Span : Array Field := match PP.underlying t_api_Span with | some (.struct fs) => fs | _ => #[]
theorem us_api_Span : PP.underlying t_api_Span = some (.struct fs_api_Span) := by kernel_rfl
theorem ty_api_Span : fs_api_Span.toList.map (·.type) = [t_int, t_int] := by kernel_rfl
theorem fa_api_Span_0 (b o : Nat) : aFieldAddr PP t_api_Span (.pointer (some ⟨b, o, none⟩)) 0 = some (.pointer (some ⟨b, o, none⟩)) := by kernel_rfl
theorem ft_api_Span_0 (off : Nat) (row : Array Value) : aFieldAddr PP t_api_Span (tPtr off row) 0 = some (tPtr (off) row) := by kernel_rfl
theorem fa_api_Span_1 (b o : Nat) : aFieldAddr PP t_api_Span (.pointer (some ⟨b, o, none⟩)) 1 = some (.pointer (some ⟨b, o + 1, none⟩)) := by kernel_rfl
theorem ft_api_Span_1 (off : Nat) (row : Array Value) : aFieldAddr PP t_api_Span (tPtr off row) 1 = some (tPtr (off + 1) row) := by kernel_rfl
theorem sz_api_Request : sizeP PP t_api_Request = some 4 := by kernel_rfl
theorem by_api_Request : bytesP PP t_api_Request = some 48 := by kernel_rfl
def z_api_Request : List Value := [.int .i64 0, .int .i64 0, .int .i64 0, .slice none 0 0]
theorem zg_api_Request : (zeroP PP t_api_Request).getD unk = .agg z_api_Request.toArray := by kernel_rfl
theorem zv_api_Request : zeroP PP t_api_Request = some (.agg z_api_Request.toArray) := by kernel_rfl
theorem zl_api_Request : z_api_Request.length = 4 := by kernel_rfl
theorem za_api_Request : allCells z_api_Request = true := by kernel_rfl
noncomputable def fs_api_Request : Array Field := match PP.underlying t_api_Request with | some (.struct fs) => fs | _ => #[]
theorem us_api_Request : PP.underlying t_api_Request = some (.struct fs_api_Request) := by kernel_rfl
theorem ty_api_Request : fs_api_Request.toList.map (·.type) = [t_int, t_api_Span, t_L_uint8] := by kernel_rfl
theorem fa_api_Request_0 (b o : Nat) : aFieldAddr PP t_api_Request (.pointer (some ⟨b, o, none⟩)) 0 = some (.pointer (some ⟨b, o, none⟩)) := by kernel_rfl
theorem ft_api_Request_0 (off : Nat) (row : Array Value) : aFieldAddr PP t_api_Request (tPtr off row) 0 = some (tPtr (off) row) := by kernel_rfl
theorem fa_api_Request_1 (b o : Nat) : aFieldAddr PP t_api_Request (.pointer (some ⟨b, o, none⟩)) 1 = some (.pointer (some ⟨b, o + 1, none⟩)) := by kernel_rfl
theorem ft_api_Request_1 (off : Nat) (row : Array Value) : aFieldAddr PP t_api_Request (tPtr off row) 1 = some (tPtr (off + 1) row) := by kernel_rfl
theorem fa_api_Request_2 (b o : Nat) : aFieldAddr PP t_api_Request (.pointer (some ⟨b, o, none⟩)) 2 = some (.pointer (some ⟨b, o + 3, none⟩)) := by kernel_rfl
theorem ft_api_Request_2 (off : Nat) (row : Array Value) : aFieldAddr PP t_api_Request (tPtr off row) 2 = some (tPtr (off + 3) row) := by kernel_rfl
theorem u_L_uint8 : PP.underlying t_L_uint8 = some (.slice t_uint8) := by kernel_rfl
theorem sz_L_uint8 : sizeP PP t_L_uint8 = some 1 := by kernel_rfl
theorem by_L_uint8 : bytesP PP t_L_uint8 = some 24 := by kernel_rfl
theorem zg_L_uint8 : (zeroP PP t_L_uint8).getD unk = .slice none 0 0 := by kernel_rfl
theorem zv_L_uint8 : zeroP PP t_L_uint8 = some (.slice none 0 0) := by kernel_rfl
theorem el_L_uint8 : ElemT PP t_L_uint8 t_uint8 1 := ⟨u_L_uint8, by kernel_rfl, by decide, ⟨.int .u8 0, 1, by kernel_rfl, by kernel_rfl, by kernel_rfl, by decide, by decide⟩⟩
theorem sz_stats_key : sizeP PP t_stats_key = some 2 := by kernel_rfl
theorem by_stats_key : bytesP PP t_stats_key = some 16 := by kernel_rfl
def z_stats_key : List Value := [.int .i64 0, .int .i64 0]
theorem zg_stats_key : (zeroP PP t_stats_key).getD unk = .agg z_stats_key.toArray := by kernel_rfl
theorem zv_stats_key : zeroP PP t_stats_key = some (.agg z_stats_key.toArray) := by kernel_rfl
theorem zl_stats_key : z_stats_key.length = 2 := by kernel_rfl
theorem za_stats_key : allCells z_stats_key = true := by kernel_rfl
noncomputable def fs_stats_key : Array Field := match PP.underlying t_stats_key with | some (.struct fs) => fs | _ => #[]
theorem us_stats_key : PP.underlying t_stats_key = some (.struct fs_stats_key) := by kernel_rfl
theorem ty_stats_key : fs_stats_key.toList.map (·.type) = [t_int, t_int] := by kernel_rfl
theorem fa_stats_key_0 (b o : Nat) : aFieldAddr PP t_stats_key (.pointer (some ⟨b, o, none⟩)) 0 = some (.pointer (some ⟨b, o, none⟩)) := by kernel_rfl
theorem ft_stats_key_0 (off : Nat) (row : Array Value) : aFieldAddr PP t_stats_key (tPtr off row) 0 = some (tPtr (off) row) := by kernel_rfl
theorem fa_stats_key_1 (b o : Nat) : aFieldAddr PP t_stats_key (.pointer (some ⟨b, o, none⟩)) 1 = some (.pointer (some ⟨b, o + 1, none⟩)) := by kernel_rfl
theorem ft_stats_key_1 (off : Nat) (row : Array Value) : aFieldAddr PP t_stats_key (tPtr off row) 1 = some (tPtr (off + 1) row) := by kernel_rfl
theorem u_M_stats_key_int : PP.underlying t_M_stats_key_int = some (.map t_stats_key t_int) := by kernel_rfl
theorem sz_M_stats_key_int : sizeP PP t_M_stats_key_int = some 1 := by kernel_rfl
theorem by_M_stats_key_int : bytesP PP t_M_stats_key_int = some 8 := by kernel_rfl
theorem zg_M_stats_key_int : (zeroP PP t_M_stats_key_int).getD unk = .map none := by kernel_rfl
theorem zv_M_stats_key_int : zeroP PP t_M_stats_key_int = some (.map none) := by kernel_rfl
theorem u_M_int_int : PP.underlying t_M_int_int = some (.map t_int t_int) := by kernel_rfl
theorem sz_M_int_int : sizeP PP t_M_int_int = some 1 := by kernel_rfl
theorem by_M_int_int : bytesP PP t_M_int_int = some 8 := by kernel_rfl
theorem zg_M_int_int : (zeroP PP t_M_int_int).getD unk = .map none := by kernel_rfl
theorem zv_M_int_int : zeroP PP t_M_int_int = some (.map none) := by kernel_rfl
theorem u_M_int_bool : PP.underlying t_M_int_bool = some (.map t_int t_bool) := by kernel_rfl
theorem sz_M_int_bool : sizeP PP t_M_int_bool = some 1 := by kernel_rfl
theorem by_M_int_bool : bytesP PP t_M_int_bool = some 8 := by kernel_rfl
theorem zg_M_int_bool : (zeroP PP t_M_int_bool).getD unk = .map none := by kernel_rfl
theorem zv_M_int_bool : zeroP PP t_M_int_bool = some (.map none) := by kernel_rfl
theorem u_A2_M_int_bool : PP.underlying t_A2_M_int_bool = some (.array 2 t_M_int_bool) := by kernel_rfl
theorem sz_A2_M_int_bool : sizeP PP t_A2_M_int_bool = some 2 := by kernel_rfl
theorem by_A2_M_int_bool : bytesP PP t_A2_M_int_bool = some 16 := by kernel_rfl
def z_A2_M_int_bool : List Value := [.map none, .map none]
theorem zg_A2_M_int_bool : (zeroP PP t_A2_M_int_bool).getD unk = .agg z_A2_M_int_bool.toArray := by kernel_rfl
theorem zv_A2_M_int_bool : zeroP PP t_A2_M_int_bool = some (.agg z_A2_M_int_bool.toArray) := by kernel_rfl
theorem zl_A2_M_int_bool : z_A2_M_int_bool.length = 2 := by kernel_rfl
theorem za_A2_M_int_bool : allCells z_A2_M_int_bool = true := by kernel_rfl
theorem u_M_int_M_int_bool : PP.underlying t_M_int_M_int_bool = some (.map t_int t_M_int_bool) := by kernel_rfl
theorem sz_M_int_M_int_bool : sizeP PP t_M_int_M_int_bool = some 1 := by kernel_rfl
theorem by_M_int_M_int_bool : bytesP PP t_M_int_M_int_bool = some 8 := by kernel_rfl
theorem zg_M_int_M_int_bool : (zeroP PP t_M_int_M_int_bool).getD unk = .map none := by kernel_rfl
theorem zv_M_int_M_int_bool : zeroP PP t_M_int_M_int_bool = some (.map none) := by kernel_rfl
theorem u_L_int : PP.underlying t_L_int = some (.slice t_int) := by kernel_rfl
theorem sz_L_int : sizeP PP t_L_int = some 1 := by kernel_rfl
theorem by_L_int : bytesP PP t_L_int = some 24 := by kernel_rfl
theorem zg_L_int : (zeroP PP t_L_int).getD unk = .slice none 0 0 := by kernel_rfl
theorem zv_L_int : zeroP PP t_L_int = some (.slice none 0 0) := by kernel_rfl
theorem el_L_int : ElemT PP t_L_int t_int 1 := ⟨u_L_int, by kernel_rfl, by decide, ⟨.int .i64 0, 8, by kernel_rfl, by kernel_rfl, by kernel_rfl, by decide, by decide⟩⟩
end Go.Proofs.Ytpklhjeccbjalaa
