/- A part of the proof: RgOps. Its conditions: none. -/
import Derived.Test.YtfinilnkempofaaAm23
import Derived.Test.YtfinilnkempofaaRgSh
set_option linter.all false
set_option linter.unusedVariables false
set_option linter.unusedSimpArgs false
set_option linter.unnecessarySimpa false
namespace Go.Proofs.Ytfinilnkempofaa
open Go Go.Am
theorem u_bool : PP.underlying y192 = some .bool := by kernel_rfl
theorem sz_bool : sizeP PP y192 = some 1 := by kernel_rfl
theorem by_bool : y134 PP y192 = some 1 := by kernel_rfl
theorem zg_bool : (zeroP PP y192).getD unk = .bool false := by kernel_rfl
theorem zv_bool : zeroP PP y192 = some (.bool false) := by kernel_rfl
theorem u_int : PP.underlying t_int = some (.int .i64) := by kernel_rfl
theorem y446 : sizeP PP t_int = some 1 := by kernel_rfl
theorem by_int : y134 PP t_int = some 8 := by kernel_rfl
theorem zg_int : (zeroP PP t_int).getD unk = .int .i64 0 := by kernel_rfl
theorem q586 : zeroP PP t_int = some (.int .i64 0) := by kernel_rfl
theorem q558 : PP.underlying y197 = some (.int .u8) := by kernel_rfl
theorem q330 : sizeP PP y197 = some 1 := by kernel_rfl
theorem by_uint8 : y134 PP y197 = some 1 := by kernel_rfl
theorem zg_uint8 : (zeroP PP y197).getD unk = .int .u8 0 := by kernel_rfl
theorem zv_uint8 : zeroP PP y197 = some (.int .u8 0) := by kernel_rfl
theorem q108 : PP.underlying y24 = some (.slice q12) := by kernel_rfl
theorem y367 : sizeP PP y24 = some 1 := by kernel_rfl
theorem y365 : y134 PP y24 = some 24 := by kernel_rfl
theorem y369 : (zeroP PP y24).getD unk = .slice none 0 0 := by kernel_rfl
theorem q368 : zeroP PP y24 = some (.slice none 0 0) := by kernel_rfl
theorem q365 : ElemT PP y24 q12 8 := ⟨q108, by kernel_rfl, by decide, ⟨.agg #[.int .i64 0, .int .i64 0, .int .i64 0, .int .i64 0, .int .i64 0, .int .i64 0, .slice none 0 0, .slice none 0 0], 96, by kernel_rfl, by kernel_rfl, by kernel_rfl, by decide, by decide⟩⟩
theorem y247 : sizeP PP q12 = some 8 := by kernel_rfl
theorem q399 : y134 PP q12 = some 96 := by kernel_rfl
def z_twainref34_Event : List Value := [.int .i64 0, .int .i64 0, .int .i64 0, .int .i64 0, .int .i64 0, .int .i64 0, .slice none 0 0, .slice none 0 0]
theorem q38 : (zeroP PP q12).getD unk = .agg z_twainref34_Event.toArray := by kernel_rfl
theorem q408 : zeroP PP q12 = some (.agg z_twainref34_Event.toArray) := by kernel_rfl
theorem y37 : z_twainref34_Event.length = 8 := by kernel_rfl
theorem y38 : y35 z_twainref34_Event = true := by kernel_rfl
noncomputable def fs_twainref34_Event : Array Field := match PP.underlying q12 with | some (.struct fs) => fs | _ => #[]
theorem y231 : PP.underlying q12 = some (.struct fs_twainref34_Event) := by kernel_rfl
theorem y237 : fs_twainref34_Event.toList.map (·.type) = [t_int, t_int, t_int, y49, q81] := by kernel_rfl
theorem q40 (b o : Nat) : y3 PP q12 (.pointer (some ⟨b, o, none⟩)) 0 = some (.pointer (some ⟨b, o, none⟩)) := by kernel_rfl
theorem y83 (off : Nat) (row : Array Value) : y3 PP q12 (tPtr off row) 0 = some (tPtr (off) row) := by kernel_rfl
theorem y368 (b o : Nat) : y3 PP q12 (.pointer (some ⟨b, o, none⟩)) 1 = some (.pointer (some ⟨b, o + 1, none⟩)) := by kernel_rfl
theorem q117 (off : Nat) (row : Array Value) : y3 PP q12 (tPtr off row) 1 = some (tPtr (off + 1) row) := by kernel_rfl
theorem q367 (b o : Nat) : y3 PP q12 (.pointer (some ⟨b, o, none⟩)) 2 = some (.pointer (some ⟨b, o + 2, none⟩)) := by kernel_rfl
theorem q116 (off : Nat) (row : Array Value) : y3 PP q12 (tPtr off row) 2 = some (tPtr (off + 2) row) := by kernel_rfl
theorem q62 (b o : Nat) : y3 PP q12 (.pointer (some ⟨b, o, none⟩)) 3 = some (.pointer (some ⟨b, o + 3, none⟩)) := by kernel_rfl
theorem q369 (off : Nat) (row : Array Value) : y3 PP q12 (tPtr off row) 3 = some (tPtr (off + 3) row) := by kernel_rfl
theorem q134 (b o : Nat) : y3 PP q12 (.pointer (some ⟨b, o, none⟩)) 4 = some (.pointer (some ⟨b, o + 7, none⟩)) := by kernel_rfl
theorem q161 (off : Nat) (row : Array Value) : y3 PP q12 (tPtr off row) 4 = some (tPtr (off + 7) row) := by kernel_rfl
theorem q179 : PP.underlying q45 = some (.slice y22) := by kernel_rfl
theorem y490 : sizeP PP q45 = some 1 := by kernel_rfl
theorem q477 : y134 PP q45 = some 24 := by kernel_rfl
theorem q507 : (zeroP PP q45).getD unk = .slice none 0 0 := by kernel_rfl
theorem q498 : zeroP PP q45 = some (.slice none 0 0) := by kernel_rfl
theorem q204 : ElemT PP q45 y22 8 := ⟨q179, by kernel_rfl, by decide, ⟨.agg #[.int .i64 0, .int .i64 0, .int .i64 0, .int .i64 0, .int .i64 0, .int .i64 0, .slice none 0 0, .slice none 0 0], 96, by kernel_rfl, by kernel_rfl, by kernel_rfl, by decide, by decide⟩⟩
theorem y242 : sizeP PP y22 = some 8 := by kernel_rfl
theorem q538 : y134 PP y22 = some 96 := by kernel_rfl
def z_world_Event : List Value := [.int .i64 0, .int .i64 0, .int .i64 0, .int .i64 0, .int .i64 0, .int .i64 0, .slice none 0 0, .slice none 0 0]
theorem q52 : (zeroP PP y22).getD unk = .agg z_world_Event.toArray := by kernel_rfl
theorem q526 : zeroP PP y22 = some (.agg z_world_Event.toArray) := by kernel_rfl
theorem q51 : z_world_Event.length = 8 := by kernel_rfl
theorem y51 : y35 z_world_Event = true := by kernel_rfl
noncomputable def fs_world_Event : Array Field := match PP.underlying y22 with | some (.struct fs) => fs | _ => #[]
theorem q536 : PP.underlying y22 = some (.struct fs_world_Event) := by kernel_rfl
theorem y544 : fs_world_Event.toList.map (·.type) = [t_int, t_int, t_int, y49, q81] := by kernel_rfl
theorem y42 (b o : Nat) : y3 PP y22 (.pointer (some ⟨b, o, none⟩)) 0 = some (.pointer (some ⟨b, o, none⟩)) := by kernel_rfl
theorem q515 (off : Nat) (row : Array Value) : y3 PP y22 (tPtr off row) 0 = some (tPtr (off) row) := by kernel_rfl
theorem q277 (b o : Nat) : y3 PP y22 (.pointer (some ⟨b, o, none⟩)) 1 = some (.pointer (some ⟨b, o + 1, none⟩)) := by kernel_rfl
theorem y476 (off : Nat) (row : Array Value) : y3 PP y22 (tPtr off row) 1 = some (tPtr (off + 1) row) := by kernel_rfl
theorem q297 (b o : Nat) : y3 PP y22 (.pointer (some ⟨b, o, none⟩)) 2 = some (.pointer (some ⟨b, o + 2, none⟩)) := by kernel_rfl
theorem y514 (off : Nat) (row : Array Value) : y3 PP y22 (tPtr off row) 2 = some (tPtr (off + 2) row) := by kernel_rfl
theorem q67 (b o : Nat) : y3 PP y22 (.pointer (some ⟨b, o, none⟩)) 3 = some (.pointer (some ⟨b, o + 3, none⟩)) := by kernel_rfl
theorem y491 (off : Nat) (row : Array Value) : y3 PP y22 (tPtr off row) 3 = some (tPtr (off + 3) row) := by kernel_rfl
theorem y495 (b o : Nat) : y3 PP y22 (.pointer (some ⟨b, o, none⟩)) 4 = some (.pointer (some ⟨b, o + 7, none⟩)) := by kernel_rfl
theorem q144 (off : Nat) (row : Array Value) : y3 PP y22 (tPtr off row) 4 = some (tPtr (off + 7) row) := by kernel_rfl
theorem y275 : PP.underlying y1 = some (.array 16 y197) := by kernel_rfl
theorem y566 : sizeP PP y1 = some 16 := by kernel_rfl
theorem q562 : y134 PP y1 = some 16 := by kernel_rfl
def z_api_Sector : List Value := [.int .u8 0, .int .u8 0, .int .u8 0, .int .u8 0, .int .u8 0, .int .u8 0, .int .u8 0, .int .u8 0, .int .u8 0, .int .u8 0, .int .u8 0, .int .u8 0, .int .u8 0, .int .u8 0, .int .u8 0, .int .u8 0]
theorem q70 : (zeroP PP y1).getD unk = .agg z_api_Sector.toArray := by kernel_rfl
theorem y577 : zeroP PP y1 = some (.agg z_api_Sector.toArray) := by kernel_rfl
theorem q560 : z_api_Sector.length = 16 := by kernel_rfl
theorem q574 : y35 z_api_Sector = true := by kernel_rfl
theorem sz_api_Span : sizeP PP q35 = some 2 := by kernel_rfl
theorem by_api_Span : y134 PP q35 = some 16 := by kernel_rfl
def z_api_Span : List Value := [.int .i64 0, .int .i64 0]
theorem q91 : (zeroP PP q35).getD unk = .agg z_api_Span.toArray := by kernel_rfl
theorem zv_api_Span : zeroP PP q35 = some (.agg z_api_Span.toArray) := by kernel_rfl
theorem zl_api_Span : z_api_Span.length = 2 := by kernel_rfl
theorem za_api_Span : y35 z_api_Span = true := by kernel_rfl
noncomputable def fs_api_Span : Array Field := match PP.underlying q35 with | some (.struct fs) => fs | _ => #[]
theorem y424 : PP.underlying q35 = some (.struct fs_api_Span) := by kernel_rfl
theorem q429 : fs_api_Span.toList.map (·.type) = [t_int, t_int] := by kernel_rfl
theorem q39 (b o : Nat) : y3 PP q35 (.pointer (some ⟨b, o, none⟩)) 0 = some (.pointer (some ⟨b, o, none⟩)) := by kernel_rfl
theorem y562 (off : Nat) (row : Array Value) : y3 PP q35 (tPtr off row) 0 = some (tPtr (off) row) := by kernel_rfl
theorem y70 (b o : Nat) : y3 PP q35 (.pointer (some ⟨b, o, none⟩)) 1 = some (.pointer (some ⟨b, o + 1, none⟩)) := by kernel_rfl
theorem q566 (off : Nat) (row : Array Value) : y3 PP q35 (tPtr off row) 1 = some (tPtr (off + 1) row) := by kernel_rfl
theorem y540 : sizeP PP y49 = some 4 := by kernel_rfl
theorem y553 : y134 PP y49 = some 48 := by kernel_rfl
def z_api_Request : List Value := [.int .i64 0, .int .i64 0, .int .i64 0, .slice none 0 0]
theorem q552 : (zeroP PP y49).getD unk = .agg z_api_Request.toArray := by kernel_rfl
theorem q539 : zeroP PP y49 = some (.agg z_api_Request.toArray) := by kernel_rfl
theorem y549 : z_api_Request.length = 4 := by kernel_rfl
theorem y554 : y35 z_api_Request = true := by kernel_rfl
noncomputable def fs_api_Request : Array Field := match PP.underlying y49 with | some (.struct fs) => fs | _ => #[]
theorem y345 : PP.underlying y49 = some (.struct fs_api_Request) := by kernel_rfl
theorem q344 : fs_api_Request.toList.map (·.type) = [t_int, q35, q81] := by kernel_rfl
theorem y48 (b o : Nat) : y3 PP y49 (.pointer (some ⟨b, o, none⟩)) 0 = some (.pointer (some ⟨b, o, none⟩)) := by kernel_rfl
theorem y477 (off : Nat) (row : Array Value) : y3 PP y49 (tPtr off row) 0 = some (tPtr (off) row) := by kernel_rfl
theorem y50 (b o : Nat) : y3 PP y49 (.pointer (some ⟨b, o, none⟩)) 1 = some (.pointer (some ⟨b, o + 1, none⟩)) := by kernel_rfl
theorem y481 (off : Nat) (row : Array Value) : y3 PP y49 (tPtr off row) 1 = some (tPtr (off + 1) row) := by kernel_rfl
theorem q48 (b o : Nat) : y3 PP y49 (.pointer (some ⟨b, o, none⟩)) 2 = some (.pointer (some ⟨b, o + 3, none⟩)) := by kernel_rfl
theorem y493 (off : Nat) (row : Array Value) : y3 PP y49 (tPtr off row) 2 = some (tPtr (off + 3) row) := by kernel_rfl
theorem q211 : PP.underlying q81 = some (.slice y197) := by kernel_rfl
theorem sz_L_uint8 : sizeP PP q81 = some 1 := by kernel_rfl
theorem by_L_uint8 : y134 PP q81 = some 24 := by kernel_rfl
theorem zg_L_uint8 : (zeroP PP q81).getD unk = .slice none 0 0 := by kernel_rfl
theorem zv_L_uint8 : zeroP PP q81 = some (.slice none 0 0) := by kernel_rfl
theorem el_L_uint8 : ElemT PP q81 y197 1 := ⟨q211, by kernel_rfl, by decide, ⟨.int .u8 0, 1, by kernel_rfl, by kernel_rfl, by kernel_rfl, by decide, by decide⟩⟩
theorem y195 : PP.underlying q36 = some (.slice y10) := by kernel_rfl
theorem y522 : sizeP PP q36 = some 1 := by kernel_rfl
theorem y521 : y134 PP q36 = some 24 := by kernel_rfl
theorem q524 : (zeroP PP q36).getD unk = .slice none 0 0 := by kernel_rfl
theorem y523 : zeroP PP q36 = some (.slice none 0 0) := by kernel_rfl
theorem q213 : ElemT PP q36 y10 19 := ⟨y195, by kernel_rfl, by decide, ⟨.agg #[.bool false, .int .u8 0, .int .u8 0, .int .u8 0, .int .u8 0, .int .u8 0, .int .u8 0, .int .u8 0, .int .u8 0, .int .u8 0, .int .u8 0, .int .u8 0, .int .u8 0, .int .u8 0, .int .u8 0, .int .u8 0, .int .u8 0, .int .i64 0, .int .i64 0], 40, by kernel_rfl, by kernel_rfl, by kernel_rfl, by decide, by decide⟩⟩
theorem y264 : sizeP PP y10 = some 19 := by kernel_rfl
theorem q572 : y134 PP y10 = some 40 := by kernel_rfl
def z_history_Op : List Value := [.bool false, .int .u8 0, .int .u8 0, .int .u8 0, .int .u8 0, .int .u8 0, .int .u8 0, .int .u8 0, .int .u8 0, .int .u8 0, .int .u8 0, .int .u8 0, .int .u8 0, .int .u8 0, .int .u8 0, .int .u8 0, .int .u8 0, .int .i64 0, .int .i64 0]
theorem q80 : (zeroP PP y10).getD unk = .agg z_history_Op.toArray := by kernel_rfl
theorem q567 : zeroP PP y10 = some (.agg z_history_Op.toArray) := by kernel_rfl
theorem q79 : z_history_Op.length = 19 := by kernel_rfl
theorem y79 : y35 z_history_Op = true := by kernel_rfl
noncomputable def fs_history_Op : Array Field := match PP.underlying y10 with | some (.struct fs) => fs | _ => #[]
theorem q563 : PP.underlying y10 = some (.struct fs_history_Op) := by kernel_rfl
theorem q559 : fs_history_Op.toList.map (·.type) = [y192, y1, t_int, t_int] := by kernel_rfl
theorem y73 (b o : Nat) : y3 PP y10 (.pointer (some ⟨b, o, none⟩)) 0 = some (.pointer (some ⟨b, o, none⟩)) := by kernel_rfl
theorem q523 (off : Nat) (row : Array Value) : y3 PP y10 (tPtr off row) 0 = some (tPtr (off) row) := by kernel_rfl
theorem y72 (b o : Nat) : y3 PP y10 (.pointer (some ⟨b, o, none⟩)) 1 = some (.pointer (some ⟨b, o + 1, none⟩)) := by kernel_rfl
theorem q518 (off : Nat) (row : Array Value) : y3 PP y10 (tPtr off row) 1 = some (tPtr (off + 1) row) := by kernel_rfl
theorem y518 (b o : Nat) : y3 PP y10 (.pointer (some ⟨b, o, none⟩)) 2 = some (.pointer (some ⟨b, o + 17, none⟩)) := by kernel_rfl
theorem q217 (off : Nat) (row : Array Value) : y3 PP y10 (tPtr off row) 2 = some (tPtr (off + 17) row) := by kernel_rfl
theorem q73 (b o : Nat) : y3 PP y10 (.pointer (some ⟨b, o, none⟩)) 3 = some (.pointer (some ⟨b, o + 18, none⟩)) := by kernel_rfl
theorem y520 (off : Nat) (row : Array Value) : y3 PP y10 (tPtr off row) 3 = some (tPtr (off + 18) row) := by kernel_rfl
theorem q160 : PP.underlying y20 = some (.slice y2) := by kernel_rfl
theorem q427 : sizeP PP y20 = some 1 := by kernel_rfl
theorem y447 : y134 PP y20 = some 24 := by kernel_rfl
theorem q442 : (zeroP PP y20).getD unk = .slice none 0 0 := by kernel_rfl
theorem y430 : zeroP PP y20 = some (.slice none 0 0) := by kernel_rfl
theorem y185 : ElemT PP y20 y2 19 := ⟨q160, by kernel_rfl, by decide, ⟨.agg #[.bool false, .int .u8 0, .int .u8 0, .int .u8 0, .int .u8 0, .int .u8 0, .int .u8 0, .int .u8 0, .int .u8 0, .int .u8 0, .int .u8 0, .int .u8 0, .int .u8 0, .int .u8 0, .int .u8 0, .int .u8 0, .int .u8 0, .int .i64 0, .int .i64 0], 40, by kernel_rfl, by kernel_rfl, by kernel_rfl, by decide, by decide⟩⟩
theorem y166 : sizeP PP y2 = some 19 := by kernel_rfl
theorem y512 : y134 PP y2 = some 40 := by kernel_rfl
def z_twainref36_Op : List Value := [.bool false, .int .u8 0, .int .u8 0, .int .u8 0, .int .u8 0, .int .u8 0, .int .u8 0, .int .u8 0, .int .u8 0, .int .u8 0, .int .u8 0, .int .u8 0, .int .u8 0, .int .u8 0, .int .u8 0, .int .u8 0, .int .u8 0, .int .i64 0, .int .i64 0]
theorem y109 : (zeroP PP y2).getD unk = .agg z_twainref36_Op.toArray := by kernel_rfl
theorem y489 : zeroP PP y2 = some (.agg z_twainref36_Op.toArray) := by kernel_rfl
theorem y104 : z_twainref36_Op.length = 19 := by kernel_rfl
theorem y107 : y35 z_twainref36_Op = true := by kernel_rfl
noncomputable def fs_twainref36_Op : Array Field := match PP.underlying y2 with | some (.struct fs) => fs | _ => #[]
theorem y299 : PP.underlying y2 = some (.struct fs_twainref36_Op) := by kernel_rfl
theorem y285 : fs_twainref36_Op.toList.map (·.type) = [y192, y1, t_int, t_int] := by kernel_rfl
theorem q118 (b o : Nat) : y3 PP y2 (.pointer (some ⟨b, o, none⟩)) 0 = some (.pointer (some ⟨b, o, none⟩)) := by kernel_rfl
theorem y437 (off : Nat) (row : Array Value) : y3 PP y2 (tPtr off row) 0 = some (tPtr (off) row) := by kernel_rfl
theorem q132 (b o : Nat) : y3 PP y2 (.pointer (some ⟨b, o, none⟩)) 1 = some (.pointer (some ⟨b, o + 1, none⟩)) := by kernel_rfl
theorem q445 (off : Nat) (row : Array Value) : y3 PP y2 (tPtr off row) 1 = some (tPtr (off + 1) row) := by kernel_rfl
theorem y180 (b o : Nat) : y3 PP y2 (.pointer (some ⟨b, o, none⟩)) 2 = some (.pointer (some ⟨b, o + 17, none⟩)) := by kernel_rfl
theorem y445 (off : Nat) (row : Array Value) : y3 PP y2 (tPtr off row) 2 = some (tPtr (off + 17) row) := by kernel_rfl
theorem q155 (b o : Nat) : y3 PP y2 (.pointer (some ⟨b, o, none⟩)) 3 = some (.pointer (some ⟨b, o + 18, none⟩)) := by kernel_rfl
theorem y448 (off : Nat) (row : Array Value) : y3 PP y2 (tPtr off row) 3 = some (tPtr (off + 18) row) := by kernel_rfl
theorem q487 : sizeP PP y23 = some 3 := by kernel_rfl
theorem q491 : y134 PP y23 = some 24 := by kernel_rfl
def z_history_pairs : List Value := [.map none, .map none, .bool false]
theorem q168 : (zeroP PP y23).getD unk = .agg z_history_pairs.toArray := by kernel_rfl
theorem y472 : zeroP PP y23 = some (.agg z_history_pairs.toArray) := by kernel_rfl
theorem y484 : z_history_pairs.length = 3 := by kernel_rfl
theorem y504 : y35 z_history_pairs = true := by kernel_rfl
noncomputable def fs_history_pairs : Array Field := match PP.underlying y23 with | some (.struct fs) => fs | _ => #[]
theorem y471 : PP.underlying y23 = some (.struct fs_history_pairs) := by kernel_rfl
theorem q493 : fs_history_pairs.toList.map (·.type) = [q63, q101, y192] := by kernel_rfl
theorem q103 (b o : Nat) : y3 PP y23 (.pointer (some ⟨b, o, none⟩)) 0 = some (.pointer (some ⟨b, o, none⟩)) := by kernel_rfl
theorem q428 (off : Nat) (row : Array Value) : y3 PP y23 (tPtr off row) 0 = some (tPtr (off) row) := by kernel_rfl
theorem q119 (b o : Nat) : y3 PP y23 (.pointer (some ⟨b, o, none⟩)) 1 = some (.pointer (some ⟨b, o + 1, none⟩)) := by kernel_rfl
theorem q433 (off : Nat) (row : Array Value) : y3 PP y23 (tPtr off row) 1 = some (tPtr (off + 1) row) := by kernel_rfl
theorem y102 (b o : Nat) : y3 PP y23 (.pointer (some ⟨b, o, none⟩)) 2 = some (.pointer (some ⟨b, o + 2, none⟩)) := by kernel_rfl
theorem q434 (off : Nat) (row : Array Value) : y3 PP y23 (tPtr off row) 2 = some (tPtr (off + 2) row) := by kernel_rfl
theorem q535 : sizeP PP y74 = some 2 := by kernel_rfl
theorem y535 : y134 PP y74 = some 16 := by kernel_rfl
def z_history_key : List Value := [.int .i64 0, .int .i64 0]
theorem q341 : (zeroP PP y74).getD unk = .agg z_history_key.toArray := by kernel_rfl
theorem y543 : zeroP PP y74 = some (.agg z_history_key.toArray) := by kernel_rfl
theorem y537 : z_history_key.length = 2 := by kernel_rfl
theorem q554 : y35 z_history_key = true := by kernel_rfl
noncomputable def fs_history_key : Array Field := match PP.underlying y74 with | some (.struct fs) => fs | _ => #[]
theorem q342 : PP.underlying y74 = some (.struct fs_history_key) := by kernel_rfl
theorem q332 : fs_history_key.toList.map (·.type) = [t_int, t_int] := by kernel_rfl
theorem q459 (b o : Nat) : y3 PP y74 (.pointer (some ⟨b, o, none⟩)) 0 = some (.pointer (some ⟨b, o, none⟩)) := by kernel_rfl
theorem q460 (off : Nat) (row : Array Value) : y3 PP y74 (tPtr off row) 0 = some (tPtr (off) row) := by kernel_rfl
theorem q495 (b o : Nat) : y3 PP y74 (.pointer (some ⟨b, o, none⟩)) 1 = some (.pointer (some ⟨b, o + 1, none⟩)) := by kernel_rfl
theorem q471 (off : Nat) (row : Array Value) : y3 PP y74 (tPtr off row) 1 = some (tPtr (off + 1) row) := by kernel_rfl
theorem y176 : PP.underlying q63 = some (.map y74 t_int) := by kernel_rfl
theorem q386 : sizeP PP q63 = some 1 := by kernel_rfl
theorem y373 : y134 PP q63 = some 8 := by kernel_rfl
theorem y389 : (zeroP PP q63).getD unk = .map none := by kernel_rfl
theorem y383 : zeroP PP q63 = some (.map none) := by kernel_rfl
theorem q257 : PP.underlying q101 = some (.map t_int t_int) := by kernel_rfl
theorem y608 : sizeP PP q101 = some 1 := by kernel_rfl
theorem q602 : y134 PP q101 = some 8 := by kernel_rfl
theorem y612 : (zeroP PP q101).getD unk = .map none := by kernel_rfl
theorem q613 : zeroP PP q101 = some (.map none) := by kernel_rfl
theorem y266 : PP.underlying q43 = some (.slice t_int) := by kernel_rfl
theorem sz_L_int : sizeP PP q43 = some 1 := by kernel_rfl
theorem by_L_int : y134 PP q43 = some 24 := by kernel_rfl
theorem zg_L_int : (zeroP PP q43).getD unk = .slice none 0 0 := by kernel_rfl
theorem zv_L_int : zeroP PP q43 = some (.slice none 0 0) := by kernel_rfl
theorem y496 : ElemT PP q43 t_int 1 := ⟨y266, by kernel_rfl, by decide, ⟨.int .i64 0, 8, by kernel_rfl, by kernel_rfl, by kernel_rfl, by decide, by decide⟩⟩
theorem q610 : sizeP PP y92 = some 2 := by kernel_rfl
theorem q599 : y134 PP y92 = some 16 := by kernel_rfl
def z_span_side : List Value := [.int .i64 0, .int .i64 0]
theorem y593 : (zeroP PP y92).getD unk = .agg z_span_side.toArray := by kernel_rfl
theorem y600 : zeroP PP y92 = some (.agg z_span_side.toArray) := by kernel_rfl
theorem y597 : z_span_side.length = 2 := by kernel_rfl
theorem y599 : y35 z_span_side = true := by kernel_rfl
noncomputable def fs_span_side : Array Field := match PP.underlying y92 with | some (.struct fs) => fs | _ => #[]
theorem q589 : PP.underlying y92 = some (.struct fs_span_side) := by kernel_rfl
theorem q588 : fs_span_side.toList.map (·.type) = [q35] := by kernel_rfl
theorem y248 (b o : Nat) : y3 PP y92 (.pointer (some ⟨b, o, none⟩)) 0 = some (.pointer (some ⟨b, o, none⟩)) := by kernel_rfl
theorem q550 (off : Nat) (row : Array Value) : y3 PP y92 (tPtr off row) 0 = some (tPtr (off) row) := by kernel_rfl
theorem y341 : PP.underlying q94 = some (.slice y1) := by kernel_rfl
theorem q517 : sizeP PP q94 = some 1 := by kernel_rfl
theorem y517 : y134 PP q94 = some 24 := by kernel_rfl
theorem q516 : (zeroP PP q94).getD unk = .slice none 0 0 := by kernel_rfl
theorem q519 : zeroP PP q94 = some (.slice none 0 0) := by kernel_rfl
theorem y519 : ElemT PP q94 y1 16 := ⟨y341, by kernel_rfl, by decide, ⟨.agg #[.int .u8 0, .int .u8 0, .int .u8 0, .int .u8 0, .int .u8 0, .int .u8 0, .int .u8 0, .int .u8 0, .int .u8 0, .int .u8 0, .int .u8 0, .int .u8 0, .int .u8 0, .int .u8 0, .int .u8 0, .int .u8 0], 16, by kernel_rfl, by kernel_rfl, by kernel_rfl, by decide, by decide⟩⟩
theorem y402 : PP.underlying y115 = some (.map y1 y192) := by kernel_rfl
theorem q382 : sizeP PP y115 = some 1 := by kernel_rfl
theorem y370 : y134 PP y115 = some 8 := by kernel_rfl
theorem y374 : (zeroP PP y115).getD unk = .map none := by kernel_rfl
theorem q385 : zeroP PP y115 = some (.map none) := by kernel_rfl
theorem y452 : sizeP PP y76 = some 18 := by kernel_rfl
theorem q452 : y134 PP y76 = some 48 := by kernel_rfl
def z_twainlaw49_End : List Value := [.int .i64 0, .int .u8 0, .int .u8 0, .int .u8 0, .int .u8 0, .int .u8 0, .int .u8 0, .int .u8 0, .int .u8 0, .int .u8 0, .int .u8 0, .int .u8 0, .int .u8 0, .int .u8 0, .int .u8 0, .int .u8 0, .int .u8 0, .slice none 0 0]
theorem y454 : (zeroP PP y76).getD unk = .agg z_twainlaw49_End.toArray := by kernel_rfl
theorem y458 : zeroP PP y76 = some (.agg z_twainlaw49_End.toArray) := by kernel_rfl
theorem y451 : z_twainlaw49_End.length = 18 := by kernel_rfl
theorem q457 : y35 z_twainlaw49_End = true := by kernel_rfl
noncomputable def fs_twainlaw49_End : Array Field := match PP.underlying y76 with | some (.struct fs) => fs | _ => #[]
theorem q453 : PP.underlying y76 = some (.struct fs_twainlaw49_End) := by kernel_rfl
theorem y456 : fs_twainlaw49_End.toList.map (·.type) = [t_int, y1, q81] := by kernel_rfl
theorem y411 (b o : Nat) : y3 PP y76 (.pointer (some ⟨b, o, none⟩)) 0 = some (.pointer (some ⟨b, o, none⟩)) := by kernel_rfl
theorem q397 (off : Nat) (row : Array Value) : y3 PP y76 (tPtr off row) 0 = some (tPtr (off) row) := by kernel_rfl
theorem y419 (b o : Nat) : y3 PP y76 (.pointer (some ⟨b, o, none⟩)) 1 = some (.pointer (some ⟨b, o + 1, none⟩)) := by kernel_rfl
theorem q418 (off : Nat) (row : Array Value) : y3 PP y76 (tPtr off row) 1 = some (tPtr (off + 1) row) := by kernel_rfl
theorem q395 (b o : Nat) : y3 PP y76 (.pointer (some ⟨b, o, none⟩)) 2 = some (.pointer (some ⟨b, o + 17, none⟩)) := by kernel_rfl
theorem y414 (off : Nat) (row : Array Value) : y3 PP y76 (tPtr off row) 2 = some (tPtr (off + 17) row) := by kernel_rfl
end Go.Proofs.Ytfinilnkempofaa
