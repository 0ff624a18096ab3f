/- A part of the proof: RgOps. Its conditions: none. -/
import Derived.Test.YtfinilnkempofaaAm23
import Derived.Test.YtfinilnkempofaaRgSh
set_option linter.all false
set_option linter.unusedVariables false
set_option linter.unusedSimpArgs false
set_option linter.unnecessarySimpa false
namespace Go.Proofs.Ytfinilnkempofaa
open Go Go.Am
theorem u_bool : PP.underlying y180 = some .bool := by kernel_rfl
theorem sz_bool : sizeP PP y180 = some 1 := by kernel_rfl
theorem by_bool : y131 PP y180 = some 1 := by kernel_rfl
theorem zg_bool : (zeroP PP y180).getD unk = .bool false := by kernel_rfl
theorem zv_bool : zeroP PP y180 = some (.bool false) := by kernel_rfl
theorem u_int : PP.underlying t_int = some (.int .i64) := by kernel_rfl
theorem sz_int : sizeP PP t_int = some 1 := by kernel_rfl
theorem by_int : y131 PP t_int = some 8 := by kernel_rfl
theorem zg_int : (zeroP PP t_int).getD unk = .int .i64 0 := by kernel_rfl
theorem zv_int : zeroP PP t_int = some (.int .i64 0) := by kernel_rfl
theorem u_uint8 : PP.underlying q175 = some (.int .u8) := by kernel_rfl
theorem q341 : sizeP PP q175 = some 1 := by kernel_rfl
theorem by_uint8 : y131 PP q175 = some 1 := by kernel_rfl
theorem zg_uint8 : (zeroP PP q175).getD unk = .int .u8 0 := by kernel_rfl
theorem zv_uint8 : zeroP PP q175 = some (.int .u8 0) := by kernel_rfl
theorem y96 : PP.underlying q13 = some (.slice y5) := by kernel_rfl
theorem sz_L_twainref34_Event : sizeP PP q13 = some 1 := by kernel_rfl
theorem by_L_twainref34_Event : y131 PP q13 = some 24 := by kernel_rfl
theorem zg_L_twainref34_Event : (zeroP PP q13).getD unk = .slice none 0 0 := by kernel_rfl
theorem zv_L_twainref34_Event : zeroP PP q13 = some (.slice none 0 0) := by kernel_rfl
theorem el_L_twainref34_Event : ElemT PP q13 y5 8 := ⟨y96, by kernel_rfl, by decide, ⟨.agg #[.int .i64 0, .int .i64 0, .int .i64 0, .int .i64 0, .int .i64 0, .int .i64 0, .slice none 0 0, .slice none 0 0], 96, by kernel_rfl, by kernel_rfl, by kernel_rfl, by decide, by decide⟩⟩
theorem y248 : sizeP PP y5 = some 8 := by kernel_rfl
theorem by_twainref34_Event : y131 PP y5 = some 96 := by kernel_rfl
def z_twainref34_Event : List Value := [.int .i64 0, .int .i64 0, .int .i64 0, .int .i64 0, .int .i64 0, .int .i64 0, .slice none 0 0, .slice none 0 0]
theorem q19 : (zeroP PP y5).getD unk = .agg z_twainref34_Event.toArray := by kernel_rfl
theorem zv_twainref34_Event : zeroP PP y5 = some (.agg z_twainref34_Event.toArray) := by kernel_rfl
theorem q17 : z_twainref34_Event.length = 8 := by kernel_rfl
theorem q18 : q16 z_twainref34_Event = true := by kernel_rfl
noncomputable def fs_twainref34_Event : Array Field := match PP.underlying y5 with | some (.struct fs) => fs | _ => #[]
theorem q253 : PP.underlying y5 = some (.struct fs_twainref34_Event) := by kernel_rfl
theorem q248 : fs_twainref34_Event.toList.map (·.type) = [t_int, t_int, t_int, q30, y48] := by kernel_rfl
theorem q20 (b o : Nat) : y3 PP y5 (.pointer (some ⟨b, o, none⟩)) 0 = some (.pointer (some ⟨b, o, none⟩)) := by kernel_rfl
theorem y71 (off : Nat) (row : Array Value) : y3 PP y5 (tPtr off row) 0 = some (tPtr (off) row) := by kernel_rfl
theorem fa_twainref34_Event_1 (b o : Nat) : y3 PP y5 (.pointer (some ⟨b, o, none⟩)) 1 = some (.pointer (some ⟨b, o + 1, none⟩)) := by kernel_rfl
theorem y109 (off : Nat) (row : Array Value) : y3 PP y5 (tPtr off row) 1 = some (tPtr (off + 1) row) := by kernel_rfl
theorem fa_twainref34_Event_2 (b o : Nat) : y3 PP y5 (.pointer (some ⟨b, o, none⟩)) 2 = some (.pointer (some ⟨b, o + 2, none⟩)) := by kernel_rfl
theorem q109 (off : Nat) (row : Array Value) : y3 PP y5 (tPtr off row) 2 = some (tPtr (off + 2) row) := by kernel_rfl
theorem y43 (b o : Nat) : y3 PP y5 (.pointer (some ⟨b, o, none⟩)) 3 = some (.pointer (some ⟨b, o + 3, none⟩)) := by kernel_rfl
theorem ft_twainref34_Event_3 (off : Nat) (row : Array Value) : y3 PP y5 (tPtr off row) 3 = some (tPtr (off + 3) row) := by kernel_rfl
theorem y130 (b o : Nat) : y3 PP y5 (.pointer (some ⟨b, o, none⟩)) 4 = some (.pointer (some ⟨b, o + 7, none⟩)) := by kernel_rfl
theorem y157 (off : Nat) (row : Array Value) : y3 PP y5 (tPtr off row) 4 = some (tPtr (off + 7) row) := by kernel_rfl
theorem q183 : PP.underlying q25 = some (.slice q10) := by kernel_rfl
theorem sz_L_world_Event : sizeP PP q25 = some 1 := by kernel_rfl
theorem by_L_world_Event : y131 PP q25 = some 24 := by kernel_rfl
theorem zg_L_world_Event : (zeroP PP q25).getD unk = .slice none 0 0 := by kernel_rfl
theorem zv_L_world_Event : zeroP PP q25 = some (.slice none 0 0) := by kernel_rfl
theorem q212 : ElemT PP q25 q10 8 := ⟨q183, by kernel_rfl, by decide, ⟨.agg #[.int .i64 0, .int .i64 0, .int .i64 0, .int .i64 0, .int .i64 0, .int .i64 0, .slice none 0 0, .slice none 0 0], 96, by kernel_rfl, by kernel_rfl, by kernel_rfl, by decide, by decide⟩⟩
theorem y249 : sizeP PP q10 = some 8 := by kernel_rfl
theorem by_world_Event : y131 PP q10 = some 96 := by kernel_rfl
def z_world_Event : List Value := [.int .i64 0, .int .i64 0, .int .i64 0, .int .i64 0, .int .i64 0, .int .i64 0, .slice none 0 0, .slice none 0 0]
theorem q33 : (zeroP PP q10).getD unk = .agg z_world_Event.toArray := by kernel_rfl
theorem zv_world_Event : zeroP PP q10 = some (.agg z_world_Event.toArray) := by kernel_rfl
theorem q31 : z_world_Event.length = 8 := by kernel_rfl
theorem q32 : q16 z_world_Event = true := by kernel_rfl
noncomputable def fs_world_Event : Array Field := match PP.underlying q10 with | some (.struct fs) => fs | _ => #[]
theorem us_world_Event : PP.underlying q10 = some (.struct fs_world_Event) := by kernel_rfl
theorem ty_world_Event : fs_world_Event.toList.map (·.type) = [t_int, t_int, t_int, q30, y48] := by kernel_rfl
theorem q24 (b o : Nat) : y3 PP q10 (.pointer (some ⟨b, o, none⟩)) 0 = some (.pointer (some ⟨b, o, none⟩)) := by kernel_rfl
theorem ft_world_Event_0 (off : Nat) (row : Array Value) : y3 PP q10 (tPtr off row) 0 = some (tPtr (off) row) := by kernel_rfl
theorem y286 (b o : Nat) : y3 PP q10 (.pointer (some ⟨b, o, none⟩)) 1 = some (.pointer (some ⟨b, o + 1, none⟩)) := by kernel_rfl
theorem ft_world_Event_1 (off : Nat) (row : Array Value) : y3 PP q10 (tPtr off row) 1 = some (tPtr (off + 1) row) := by kernel_rfl
theorem y304 (b o : Nat) : y3 PP q10 (.pointer (some ⟨b, o, none⟩)) 2 = some (.pointer (some ⟨b, o + 2, none⟩)) := by kernel_rfl
theorem ft_world_Event_2 (off : Nat) (row : Array Value) : y3 PP q10 (tPtr off row) 2 = some (tPtr (off + 2) row) := by kernel_rfl
theorem q52 (b o : Nat) : y3 PP q10 (.pointer (some ⟨b, o, none⟩)) 3 = some (.pointer (some ⟨b, o + 3, none⟩)) := by kernel_rfl
theorem ft_world_Event_3 (off : Nat) (row : Array Value) : y3 PP q10 (tPtr off row) 3 = some (tPtr (off + 3) row) := by kernel_rfl
theorem fa_world_Event_4 (b o : Nat) : y3 PP q10 (.pointer (some ⟨b, o, none⟩)) 4 = some (.pointer (some ⟨b, o + 7, none⟩)) := by kernel_rfl
theorem y142 (off : Nat) (row : Array Value) : y3 PP q10 (tPtr off row) 4 = some (tPtr (off + 7) row) := by kernel_rfl
theorem q197 : PP.underlying y1 = some (.array 16 q175) := by kernel_rfl
theorem y141 : sizeP PP y1 = some 16 := by kernel_rfl
theorem by_api_Sector : y131 PP y1 = some 16 := by kernel_rfl
def z_api_Sector : List Value := [.int .u8 0, .int .u8 0, .int .u8 0, .int .u8 0, .int .u8 0, .int .u8 0, .int .u8 0, .int .u8 0, .int .u8 0, .int .u8 0, .int .u8 0, .int .u8 0, .int .u8 0, .int .u8 0, .int .u8 0, .int .u8 0]
theorem y50 : (zeroP PP y1).getD unk = .agg z_api_Sector.toArray := by kernel_rfl
theorem zv_api_Sector : zeroP PP y1 = some (.agg z_api_Sector.toArray) := by kernel_rfl
theorem zl_api_Sector : z_api_Sector.length = 16 := by kernel_rfl
theorem za_api_Sector : q16 z_api_Sector = true := by kernel_rfl
theorem sz_api_Span : sizeP PP y15 = some 2 := by kernel_rfl
theorem by_api_Span : y131 PP y15 = some 16 := by kernel_rfl
def z_api_Span : List Value := [.int .i64 0, .int .i64 0]
theorem q83 : (zeroP PP y15).getD unk = .agg z_api_Span.toArray := by kernel_rfl
theorem zv_api_Span : zeroP PP y15 = some (.agg z_api_Span.toArray) := by kernel_rfl
theorem zl_api_Span : z_api_Span.length = 2 := by kernel_rfl
theorem za_api_Span : q16 z_api_Span = true := by kernel_rfl
noncomputable def fs_api_Span : Array Field := match PP.underlying y15 with | some (.struct fs) => fs | _ => #[]
theorem us_api_Span : PP.underlying y15 = some (.struct fs_api_Span) := by kernel_rfl
theorem ty_api_Span : fs_api_Span.toList.map (·.type) = [t_int, t_int] := by kernel_rfl
theorem y19 (b o : Nat) : y3 PP y15 (.pointer (some ⟨b, o, none⟩)) 0 = some (.pointer (some ⟨b, o, none⟩)) := by kernel_rfl
theorem ft_api_Span_0 (off : Nat) (row : Array Value) : y3 PP y15 (tPtr off row) 0 = some (tPtr (off) row) := by kernel_rfl
theorem q56 (b o : Nat) : y3 PP y15 (.pointer (some ⟨b, o, none⟩)) 1 = some (.pointer (some ⟨b, o + 1, none⟩)) := by kernel_rfl
theorem ft_api_Span_1 (off : Nat) (row : Array Value) : y3 PP y15 (tPtr off row) 1 = some (tPtr (off + 1) row) := by kernel_rfl
theorem sz_api_Request : sizeP PP q30 = some 4 := by kernel_rfl
theorem by_api_Request : y131 PP q30 = some 48 := by kernel_rfl
def z_api_Request : List Value := [.int .i64 0, .int .i64 0, .int .i64 0, .slice none 0 0]
theorem zg_api_Request : (zeroP PP q30).getD unk = .agg z_api_Request.toArray := by kernel_rfl
theorem zv_api_Request : zeroP PP q30 = some (.agg z_api_Request.toArray) := by kernel_rfl
theorem zl_api_Request : z_api_Request.length = 4 := by kernel_rfl
theorem za_api_Request : q16 z_api_Request = true := by kernel_rfl
noncomputable def fs_api_Request : Array Field := match PP.underlying q30 with | some (.struct fs) => fs | _ => #[]
theorem y343 : PP.underlying q30 = some (.struct fs_api_Request) := by kernel_rfl
theorem y349 : fs_api_Request.toList.map (·.type) = [t_int, y15, y48] := by kernel_rfl
theorem y27 (b o : Nat) : y3 PP q30 (.pointer (some ⟨b, o, none⟩)) 0 = some (.pointer (some ⟨b, o, none⟩)) := by kernel_rfl
theorem ft_api_Request_0 (off : Nat) (row : Array Value) : y3 PP q30 (tPtr off row) 0 = some (tPtr (off) row) := by kernel_rfl
theorem y30 (b o : Nat) : y3 PP q30 (.pointer (some ⟨b, o, none⟩)) 1 = some (.pointer (some ⟨b, o + 1, none⟩)) := by kernel_rfl
theorem ft_api_Request_1 (off : Nat) (row : Array Value) : y3 PP q30 (tPtr off row) 1 = some (tPtr (off + 1) row) := by kernel_rfl
theorem q27 (b o : Nat) : y3 PP q30 (.pointer (some ⟨b, o, none⟩)) 2 = some (.pointer (some ⟨b, o + 3, none⟩)) := by kernel_rfl
theorem ft_api_Request_2 (off : Nat) (row : Array Value) : y3 PP q30 (tPtr off row) 2 = some (tPtr (off + 3) row) := by kernel_rfl
theorem y218 : PP.underlying y48 = some (.slice q175) := by kernel_rfl
theorem sz_L_uint8 : sizeP PP y48 = some 1 := by kernel_rfl
theorem by_L_uint8 : y131 PP y48 = some 24 := by kernel_rfl
theorem zg_L_uint8 : (zeroP PP y48).getD unk = .slice none 0 0 := by kernel_rfl
theorem zv_L_uint8 : zeroP PP y48 = some (.slice none 0 0) := by kernel_rfl
theorem el_L_uint8 : ElemT PP y48 q175 1 := ⟨y218, by kernel_rfl, by decide, ⟨.int .u8 0, 1, by kernel_rfl, by kernel_rfl, by kernel_rfl, by decide, by decide⟩⟩
theorem y158 : PP.underlying y9 = some (.slice y4) := by kernel_rfl
theorem sz_L_history_Op : sizeP PP y9 = some 1 := by kernel_rfl
theorem by_L_history_Op : y131 PP y9 = some 24 := by kernel_rfl
theorem zg_L_history_Op : (zeroP PP y9).getD unk = .slice none 0 0 := by kernel_rfl
theorem zv_L_history_Op : zeroP PP y9 = some (.slice none 0 0) := by kernel_rfl
theorem y179 : ElemT PP y9 y4 19 := ⟨y158, by kernel_rfl, by decide, ⟨.agg #[.bool false, .int .u8 0, .int .u8 0, .int .u8 0, .int .u8 0, .int .u8 0, .int .u8 0, .int .u8 0, .int .u8 0, .int .u8 0, .int .u8 0, .int .u8 0, .int .u8 0, .int .u8 0, .int .u8 0, .int .u8 0, .int .u8 0, .int .i64 0, .int .i64 0], 40, by kernel_rfl, by kernel_rfl, by kernel_rfl, by decide, by decide⟩⟩
theorem q178 : sizeP PP y4 = some 19 := by kernel_rfl
theorem by_history_Op : y131 PP y4 = some 40 := by kernel_rfl
def z_history_Op : List Value := [.bool false, .int .u8 0, .int .u8 0, .int .u8 0, .int .u8 0, .int .u8 0, .int .u8 0, .int .u8 0, .int .u8 0, .int .u8 0, .int .u8 0, .int .u8 0, .int .u8 0, .int .u8 0, .int .u8 0, .int .u8 0, .int .u8 0, .int .i64 0, .int .i64 0]
theorem q45 : (zeroP PP y4).getD unk = .agg z_history_Op.toArray := by kernel_rfl
theorem zv_history_Op : zeroP PP y4 = some (.agg z_history_Op.toArray) := by kernel_rfl
theorem q46 : z_history_Op.length = 19 := by kernel_rfl
theorem q44 : q16 z_history_Op = true := by kernel_rfl
noncomputable def fs_history_Op : Array Field := match PP.underlying y4 with | some (.struct fs) => fs | _ => #[]
theorem us_history_Op : PP.underlying y4 = some (.struct fs_history_Op) := by kernel_rfl
theorem ty_history_Op : fs_history_Op.toList.map (·.type) = [y180, y1, t_int, t_int] := by kernel_rfl
theorem q47 (b o : Nat) : y3 PP y4 (.pointer (some ⟨b, o, none⟩)) 0 = some (.pointer (some ⟨b, o, none⟩)) := by kernel_rfl
theorem ft_history_Op_0 (off : Nat) (row : Array Value) : y3 PP y4 (tPtr off row) 0 = some (tPtr (off) row) := by kernel_rfl
theorem y49 (b o : Nat) : y3 PP y4 (.pointer (some ⟨b, o, none⟩)) 1 = some (.pointer (some ⟨b, o + 1, none⟩)) := by kernel_rfl
theorem ft_history_Op_1 (off : Nat) (row : Array Value) : y3 PP y4 (tPtr off row) 1 = some (tPtr (off + 1) row) := by kernel_rfl
theorem q315 (b o : Nat) : y3 PP y4 (.pointer (some ⟨b, o, none⟩)) 2 = some (.pointer (some ⟨b, o + 17, none⟩)) := by kernel_rfl
theorem q224 (off : Nat) (row : Array Value) : y3 PP y4 (tPtr off row) 2 = some (tPtr (off + 17) row) := by kernel_rfl
theorem q53 (b o : Nat) : y3 PP y4 (.pointer (some ⟨b, o, none⟩)) 3 = some (.pointer (some ⟨b, o + 18, none⟩)) := by kernel_rfl
theorem ft_history_Op_3 (off : Nat) (row : Array Value) : y3 PP y4 (tPtr off row) 3 = some (tPtr (off + 18) row) := by kernel_rfl
theorem q156 : PP.underlying y7 = some (.slice y2) := by kernel_rfl
theorem sz_L_twainref36_Op : sizeP PP y7 = some 1 := by kernel_rfl
theorem by_L_twainref36_Op : y131 PP y7 = some 24 := by kernel_rfl
theorem zg_L_twainref36_Op : (zeroP PP y7).getD unk = .slice none 0 0 := by kernel_rfl
theorem zv_L_twainref36_Op : zeroP PP y7 = some (.slice none 0 0) := by kernel_rfl
theorem y91 : ElemT PP y7 y2 19 := ⟨q156, by kernel_rfl, by decide, ⟨.agg #[.bool false, .int .u8 0, .int .u8 0, .int .u8 0, .int .u8 0, .int .u8 0, .int .u8 0, .int .u8 0, .int .u8 0, .int .u8 0, .int .u8 0, .int .u8 0, .int .u8 0, .int .u8 0, .int .u8 0, .int .u8 0, .int .u8 0, .int .i64 0, .int .i64 0], 40, by kernel_rfl, by kernel_rfl, by kernel_rfl, by decide, by decide⟩⟩
theorem y125 : sizeP PP y2 = some 19 := by kernel_rfl
theorem by_twainref36_Op : y131 PP y2 = some 40 := by kernel_rfl
def z_twainref36_Op : List Value := [.bool false, .int .u8 0, .int .u8 0, .int .u8 0, .int .u8 0, .int .u8 0, .int .u8 0, .int .u8 0, .int .u8 0, .int .u8 0, .int .u8 0, .int .u8 0, .int .u8 0, .int .u8 0, .int .u8 0, .int .u8 0, .int .u8 0, .int .i64 0, .int .i64 0]
theorem y73 : (zeroP PP y2).getD unk = .agg z_twainref36_Op.toArray := by kernel_rfl
theorem zv_twainref36_Op : zeroP PP y2 = some (.agg z_twainref36_Op.toArray) := by kernel_rfl
theorem y77 : z_twainref36_Op.length = 19 := by kernel_rfl
theorem q74 : q16 z_twainref36_Op = true := by kernel_rfl
noncomputable def fs_twainref36_Op : Array Field := match PP.underlying y2 with | some (.struct fs) => fs | _ => #[]
theorem q286 : PP.underlying y2 = some (.struct fs_twainref36_Op) := by kernel_rfl
theorem y294 : fs_twainref36_Op.toList.map (·.type) = [y180, y1, t_int, t_int] := by kernel_rfl
theorem y82 (b o : Nat) : y3 PP y2 (.pointer (some ⟨b, o, none⟩)) 0 = some (.pointer (some ⟨b, o, none⟩)) := by kernel_rfl
theorem ft_twainref36_Op_0 (off : Nat) (row : Array Value) : y3 PP y2 (tPtr off row) 0 = some (tPtr (off) row) := by kernel_rfl
theorem q80 (b o : Nat) : y3 PP y2 (.pointer (some ⟨b, o, none⟩)) 1 = some (.pointer (some ⟨b, o + 1, none⟩)) := by kernel_rfl
theorem ft_twainref36_Op_1 (off : Nat) (row : Array Value) : y3 PP y2 (tPtr off row) 1 = some (tPtr (off + 1) row) := by kernel_rfl
theorem y129 (b o : Nat) : y3 PP y2 (.pointer (some ⟨b, o, none⟩)) 2 = some (.pointer (some ⟨b, o + 17, none⟩)) := by kernel_rfl
theorem ft_twainref36_Op_2 (off : Nat) (row : Array Value) : y3 PP y2 (tPtr off row) 2 = some (tPtr (off + 17) row) := by kernel_rfl
theorem y81 (b o : Nat) : y3 PP y2 (.pointer (some ⟨b, o, none⟩)) 3 = some (.pointer (some ⟨b, o + 18, none⟩)) := by kernel_rfl
theorem ft_twainref36_Op_3 (off : Nat) (row : Array Value) : y3 PP y2 (tPtr off row) 3 = some (tPtr (off + 18) row) := by kernel_rfl
theorem sz_history_pairs : sizeP PP q11 = some 3 := by kernel_rfl
theorem by_history_pairs : y131 PP q11 = some 24 := by kernel_rfl
def z_history_pairs : List Value := [.map none, .map none, .bool false]
theorem y168 : (zeroP PP q11).getD unk = .agg z_history_pairs.toArray := by kernel_rfl
theorem zv_history_pairs : zeroP PP q11 = some (.agg z_history_pairs.toArray) := by kernel_rfl
theorem zl_history_pairs : z_history_pairs.length = 3 := by kernel_rfl
theorem za_history_pairs : q16 z_history_pairs = true := by kernel_rfl
noncomputable def fs_history_pairs : Array Field := match PP.underlying q11 with | some (.struct fs) => fs | _ => #[]
theorem us_history_pairs : PP.underlying q11 = some (.struct fs_history_pairs) := by kernel_rfl
theorem ty_history_pairs : fs_history_pairs.toList.map (·.type) = [q48, q93, y180] := by kernel_rfl
theorem y93 (b o : Nat) : y3 PP q11 (.pointer (some ⟨b, o, none⟩)) 0 = some (.pointer (some ⟨b, o, none⟩)) := by kernel_rfl
theorem ft_history_pairs_0 (off : Nat) (row : Array Value) : y3 PP q11 (tPtr off row) 0 = some (tPtr (off) row) := by kernel_rfl
theorem y113 (b o : Nat) : y3 PP q11 (.pointer (some ⟨b, o, none⟩)) 1 = some (.pointer (some ⟨b, o + 1, none⟩)) := by kernel_rfl
theorem ft_history_pairs_1 (off : Nat) (row : Array Value) : y3 PP q11 (tPtr off row) 1 = some (tPtr (off + 1) row) := by kernel_rfl
theorem q94 (b o : Nat) : y3 PP q11 (.pointer (some ⟨b, o, none⟩)) 2 = some (.pointer (some ⟨b, o + 2, none⟩)) := by kernel_rfl
theorem ft_history_pairs_2 (off : Nat) (row : Array Value) : y3 PP q11 (tPtr off row) 2 = some (tPtr (off + 2) row) := by kernel_rfl
theorem sz_history_key : sizeP PP y61 = some 2 := by kernel_rfl
theorem by_history_key : y131 PP y61 = some 16 := by kernel_rfl
def z_history_key : List Value := [.int .i64 0, .int .i64 0]
theorem y347 : (zeroP PP y61).getD unk = .agg z_history_key.toArray := by kernel_rfl
theorem zv_history_key : zeroP PP y61 = some (.agg z_history_key.toArray) := by kernel_rfl
theorem zl_history_key : z_history_key.length = 2 := by kernel_rfl
theorem za_history_key : q16 z_history_key = true := by kernel_rfl
noncomputable def fs_history_key : Array Field := match PP.underlying y61 with | some (.struct fs) => fs | _ => #[]
theorem y351 : PP.underlying y61 = some (.struct fs_history_key) := by kernel_rfl
theorem q353 : fs_history_key.toList.map (·.type) = [t_int, t_int] := by kernel_rfl
theorem fa_history_key_0 (b o : Nat) : y3 PP y61 (.pointer (some ⟨b, o, none⟩)) 0 = some (.pointer (some ⟨b, o, none⟩)) := by kernel_rfl
theorem ft_history_key_0 (off : Nat) (row : Array Value) : y3 PP y61 (tPtr off row) 0 = some (tPtr (off) row) := by kernel_rfl
theorem fa_history_key_1 (b o : Nat) : y3 PP y61 (.pointer (some ⟨b, o, none⟩)) 1 = some (.pointer (some ⟨b, o + 1, none⟩)) := by kernel_rfl
theorem ft_history_key_1 (off : Nat) (row : Array Value) : y3 PP y61 (tPtr off row) 1 = some (tPtr (off + 1) row) := by kernel_rfl
theorem y176 : PP.underlying q48 = some (.map y61 t_int) := by kernel_rfl
theorem sz_M_history_key_int : sizeP PP q48 = some 1 := by kernel_rfl
theorem by_M_history_key_int : y131 PP q48 = some 8 := by kernel_rfl
theorem zg_M_history_key_int : (zeroP PP q48).getD unk = .map none := by kernel_rfl
theorem zv_M_history_key_int : zeroP PP q48 = some (.map none) := by kernel_rfl
theorem y262 : PP.underlying q93 = some (.map t_int t_int) := by kernel_rfl
theorem sz_M_int_int : sizeP PP q93 = some 1 := by kernel_rfl
theorem by_M_int_int : y131 PP q93 = some 8 := by kernel_rfl
theorem zg_M_int_int : (zeroP PP q93).getD unk = .map none := by kernel_rfl
theorem zv_M_int_int : zeroP PP q93 = some (.map none) := by kernel_rfl
theorem y338 : PP.underlying y28 = some (.slice t_int) := by kernel_rfl
theorem sz_L_int : sizeP PP y28 = some 1 := by kernel_rfl
theorem by_L_int : y131 PP y28 = some 24 := by kernel_rfl
theorem zg_L_int : (zeroP PP y28).getD unk = .slice none 0 0 := by kernel_rfl
theorem zv_L_int : zeroP PP y28 = some (.slice none 0 0) := by kernel_rfl
theorem el_L_int : ElemT PP y28 t_int 1 := ⟨y338, by kernel_rfl, by decide, ⟨.int .i64 0, 8, by kernel_rfl, by kernel_rfl, by kernel_rfl, by decide, by decide⟩⟩
theorem sz_span_side : sizeP PP q82 = some 2 := by kernel_rfl
theorem by_span_side : y131 PP q82 = some 16 := by kernel_rfl
def z_span_side : List Value := [.int .i64 0, .int .i64 0]
theorem zg_span_side : (zeroP PP q82).getD unk = .agg z_span_side.toArray := by kernel_rfl
theorem zv_span_side : zeroP PP q82 = some (.agg z_span_side.toArray) := by kernel_rfl
theorem zl_span_side : z_span_side.length = 2 := by kernel_rfl
theorem za_span_side : q16 z_span_side = true := by kernel_rfl
noncomputable def fs_span_side : Array Field := match PP.underlying q82 with | some (.struct fs) => fs | _ => #[]
theorem us_span_side : PP.underlying q82 = some (.struct fs_span_side) := by kernel_rfl
theorem ty_span_side : fs_span_side.toList.map (·.type) = [y15] := by kernel_rfl
theorem y254 (b o : Nat) : y3 PP q82 (.pointer (some ⟨b, o, none⟩)) 0 = some (.pointer (some ⟨b, o, none⟩)) := by kernel_rfl
theorem ft_span_side_0 (off : Nat) (row : Array Value) : y3 PP q82 (tPtr off row) 0 = some (tPtr (off) row) := by kernel_rfl
theorem y144 : PP.underlying y13 = some (.slice y1) := by kernel_rfl
theorem sz_L_api_Sector : sizeP PP y13 = some 1 := by kernel_rfl
theorem by_L_api_Sector : y131 PP y13 = some 24 := by kernel_rfl
theorem zg_L_api_Sector : (zeroP PP y13).getD unk = .slice none 0 0 := by kernel_rfl
theorem zv_L_api_Sector : zeroP PP y13 = some (.slice none 0 0) := by kernel_rfl
theorem y120 : ElemT PP y13 y1 16 := ⟨y144, by kernel_rfl, by decide, ⟨.agg #[.int .u8 0, .int .u8 0, .int .u8 0, .int .u8 0, .int .u8 0, .int .u8 0, .int .u8 0, .int .u8 0, .int .u8 0, .int .u8 0, .int .u8 0, .int .u8 0, .int .u8 0, .int .u8 0, .int .u8 0, .int .u8 0], 16, by kernel_rfl, by kernel_rfl, by kernel_rfl, by decide, by decide⟩⟩
theorem y178 : PP.underlying q60 = some (.map y1 y180) := by kernel_rfl
theorem sz_M_api_Sector_bool : sizeP PP q60 = some 1 := by kernel_rfl
theorem by_M_api_Sector_bool : y131 PP q60 = some 8 := by kernel_rfl
theorem zg_M_api_Sector_bool : (zeroP PP q60).getD unk = .map none := by kernel_rfl
theorem zv_M_api_Sector_bool : zeroP PP q60 = some (.map none) := by kernel_rfl
theorem sz_twainlaw49_End : sizeP PP q21 = some 18 := by kernel_rfl
theorem by_twainlaw49_End : y131 PP q21 = some 48 := by kernel_rfl
def z_twainlaw49_End : List Value := [.int .i64 0, .int .u8 0, .int .u8 0, .int .u8 0, .int .u8 0, .int .u8 0, .int .u8 0, .int .u8 0, .int .u8 0, .int .u8 0, .int .u8 0, .int .u8 0, .int .u8 0, .int .u8 0, .int .u8 0, .int .u8 0, .int .u8 0, .slice none 0 0]
theorem zg_twainlaw49_End : (zeroP PP q21).getD unk = .agg z_twainlaw49_End.toArray := by kernel_rfl
theorem zv_twainlaw49_End : zeroP PP q21 = some (.agg z_twainlaw49_End.toArray) := by kernel_rfl
theorem zl_twainlaw49_End : z_twainlaw49_End.length = 18 := by kernel_rfl
theorem za_twainlaw49_End : q16 z_twainlaw49_End = true := by kernel_rfl
noncomputable def fs_twainlaw49_End : Array Field := match PP.underlying q21 with | some (.struct fs) => fs | _ => #[]
theorem y279 : PP.underlying q21 = some (.struct fs_twainlaw49_End) := by kernel_rfl
theorem q279 : fs_twainlaw49_End.toList.map (·.type) = [t_int, y1, y48] := by kernel_rfl
theorem q106 (b o : Nat) : y3 PP q21 (.pointer (some ⟨b, o, none⟩)) 0 = some (.pointer (some ⟨b, o, none⟩)) := by kernel_rfl
theorem ft_twainlaw49_End_0 (off : Nat) (row : Array Value) : y3 PP q21 (tPtr off row) 0 = some (tPtr (off) row) := by kernel_rfl
theorem y102 (b o : Nat) : y3 PP q21 (.pointer (some ⟨b, o, none⟩)) 1 = some (.pointer (some ⟨b, o + 1, none⟩)) := by kernel_rfl
theorem ft_twainlaw49_End_1 (off : Nat) (row : Array Value) : y3 PP q21 (tPtr off row) 1 = some (tPtr (off + 1) row) := by kernel_rfl
theorem q105 (b o : Nat) : y3 PP q21 (.pointer (some ⟨b, o, none⟩)) 2 = some (.pointer (some ⟨b, o + 17, none⟩)) := by kernel_rfl
theorem ft_twainlaw49_End_2 (off : Nat) (row : Array Value) : y3 PP q21 (tPtr off row) 2 = some (tPtr (off + 17) row) := by kernel_rfl
end Go.Proofs.Ytfinilnkempofaa
