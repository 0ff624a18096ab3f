/- A part of the proof: RegOps. Its conditions: none. -/
import Derived.Test.YtfinilnkempofaaAm23
import Derived.Test.YtfinilnkempofaaRgSh
import Derived.Test.YtfinilnkempofaaRegPure
set_option linter.all false
set_option linter.unusedVariables false
set_option linter.unusedSimpArgs false
set_option linter.unnecessarySimpa false
namespace Go.Proofs.Ytfinilnkempofaa
open Go Go.Am
theorem qu_L_twainref36_Op : PP.underlying t_L_twainref36_Op = some (.slice t_twainref36_Op) := by kernel_rfl
theorem qsz_L_twainref36_Op : sizeP PP t_L_twainref36_Op = some 1 := by kernel_rfl
theorem qzg_L_twainref36_Op : (zeroP PP t_L_twainref36_Op).getD unk = .slice none 0 0 := by kernel_rfl
theorem qu_L_history_Op : PP.underlying t_L_history_Op = some (.slice t_history_Op) := by kernel_rfl
theorem qsz_L_history_Op : sizeP PP t_L_history_Op = some 1 := by kernel_rfl
theorem qzg_L_history_Op : (zeroP PP t_L_history_Op).getD unk = .slice none 0 0 := by kernel_rfl
theorem qu_L_int : PP.underlying t_L_int = some (.slice t_int) := by kernel_rfl
theorem qsz_L_int : sizeP PP t_L_int = some 1 := by kernel_rfl
theorem qzg_L_int : (zeroP PP t_L_int).getD unk = .slice none 0 0 := by kernel_rfl
theorem qu_L_uint64 : PP.underlying t_L_uint64 = some (.slice t_uint64) := by kernel_rfl
theorem qsz_L_uint64 : sizeP PP t_L_uint64 = some 1 := by kernel_rfl
theorem qzg_L_uint64 : (zeroP PP t_L_uint64).getD unk = .slice none 0 0 := by kernel_rfl
theorem qu_api_Sector : PP.underlying t_api_Sector = some (.array 16 t_uint8) := by kernel_rfl
theorem qsz_api_Sector : sizeP PP t_api_Sector = some 16 := by kernel_rfl
def qz_api_Sector : List Value := List.replicate 16 (.int .u8 0)
theorem qzg_api_Sector : (zeroP PP t_api_Sector).getD unk = .agg qz_api_Sector.toArray := by kernel_rfl
theorem qzl_api_Sector : qz_api_Sector.length = 16 := by kernel_rfl
theorem qza_api_Sector : allCells qz_api_Sector = true := by kernel_rfl
-- qflat_api_Sector
theorem qsz_twainref36_Op : sizeP PP t_twainref36_Op = some 19 := by kernel_rfl
def qz_twainref36_Op : List Value := [.bool false, .int .u8 0, .int .u8 0, .int .u8 0, .int .u8 0, .int .u8 0, .int .u8 0, .int .u8 0, .int .u8 0, .int .u8 0, .int .u8 0, .int .u8 0, .int .u8 0, .int .u8 0, .int .u8 0, .int .u8 0, .int .u8 0, .int .i64 0, .int .i64 0]
theorem qzg_twainref36_Op : (zeroP PP t_twainref36_Op).getD unk = .agg qz_twainref36_Op.toArray := by kernel_rfl
theorem qzl_twainref36_Op : qz_twainref36_Op.length = 19 := by kernel_rfl
theorem qza_twainref36_Op : allCells qz_twainref36_Op = true := by kernel_rfl
theorem qfa_twainref36_Op_0 (b o : Nat) : aFieldAddr PP t_twainref36_Op (.pointer (some ⟨b, o, none⟩)) 0 = some (.pointer (some ⟨b, o, none⟩)) := by kernel_rfl
theorem qft_twainref36_Op_0 (off : Nat) (row : Array Value) : aFieldAddr PP t_twainref36_Op (tPtr off row) 0 = some (tPtr (off + 0) row) := by kernel_rfl
theorem qfr_twainref36_Op_0 {H : List Blk} {v : Value} {n off : Nat} {cs : List Value} (h : Rd H v n cs) (hn : 0 < n) : aFieldAddr PP t_twainref36_Op (rdPtr v off) 0 = some (rdPtr v (off + 0)) := h.fieldOf qft_twainref36_Op_0 qfa_twainref36_Op_0 hn
theorem qfa_twainref36_Op_1 (b o : Nat) : aFieldAddr PP t_twainref36_Op (.pointer (some ⟨b, o, none⟩)) 1 = some (.pointer (some ⟨b, o + 1, none⟩)) := by kernel_rfl
theorem qft_twainref36_Op_1 (off : Nat) (row : Array Value) : aFieldAddr PP t_twainref36_Op (tPtr off row) 1 = some (tPtr (off + 1) row) := by kernel_rfl
theorem qfr_twainref36_Op_1 {H : List Blk} {v : Value} {n off : Nat} {cs : List Value} (h : Rd H v n cs) (hn : 0 < n) : aFieldAddr PP t_twainref36_Op (rdPtr v off) 1 = some (rdPtr v (off + 1)) := h.fieldOf qft_twainref36_Op_1 qfa_twainref36_Op_1 hn
theorem qfa_twainref36_Op_2 (b o : Nat) : aFieldAddr PP t_twainref36_Op (.pointer (some ⟨b, o, none⟩)) 2 = some (.pointer (some ⟨b, o + 17, none⟩)) := by kernel_rfl
theorem qft_twainref36_Op_2 (off : Nat) (row : Array Value) : aFieldAddr PP t_twainref36_Op (tPtr off row) 2 = some (tPtr (off + 17) row) := by kernel_rfl
theorem qfr_twainref36_Op_2 {H : List Blk} {v : Value} {n off : Nat} {cs : List Value} (h : Rd H v n cs) (hn : 0 < n) : aFieldAddr PP t_twainref36_Op (rdPtr v off) 2 = some (rdPtr v (off + 17)) := h.fieldOf qft_twainref36_Op_2 qfa_twainref36_Op_2 hn
theorem qfa_twainref36_Op_3 (b o : Nat) : aFieldAddr PP t_twainref36_Op (.pointer (some ⟨b, o, none⟩)) 3 = some (.pointer (some ⟨b, o + 18, none⟩)) := by kernel_rfl
theorem qft_twainref36_Op_3 (off : Nat) (row : Array Value) : aFieldAddr PP t_twainref36_Op (tPtr off row) 3 = some (tPtr (off + 18) row) := by kernel_rfl
theorem qfr_twainref36_Op_3 {H : List Blk} {v : Value} {n off : Nat} {cs : List Value} (h : Rd H v n cs) (hn : 0 < n) : aFieldAddr PP t_twainref36_Op (rdPtr v off) 3 = some (rdPtr v (off + 18)) := h.fieldOf qft_twainref36_Op_3 qfa_twainref36_Op_3 hn
-- qflat_twainref36_Op
theorem qsz_history_Op : sizeP PP t_history_Op = some 19 := by kernel_rfl
def qz_history_Op : List Value := [.bool false, .int .u8 0, .int .u8 0, .int .u8 0, .int .u8 0, .int .u8 0, .int .u8 0, .int .u8 0, .int .u8 0, .int .u8 0, .int .u8 0, .int .u8 0, .int .u8 0, .int .u8 0, .int .u8 0, .int .u8 0, .int .u8 0, .int .i64 0, .int .i64 0]
theorem qzg_history_Op : (zeroP PP t_history_Op).getD unk = .agg qz_history_Op.toArray := by kernel_rfl
theorem qzl_history_Op : qz_history_Op.length = 19 := by kernel_rfl
theorem qza_history_Op : allCells qz_history_Op = true := by kernel_rfl
theorem qfa_history_Op_0 (b o : Nat) : aFieldAddr PP t_history_Op (.pointer (some ⟨b, o, none⟩)) 0 = some (.pointer (some ⟨b, o, none⟩)) := by kernel_rfl
theorem qft_history_Op_0 (off : Nat) (row : Array Value) : aFieldAddr PP t_history_Op (tPtr off row) 0 = some (tPtr (off + 0) row) := by kernel_rfl
theorem qfr_history_Op_0 {H : List Blk} {v : Value} {n off : Nat} {cs : List Value} (h : Rd H v n cs) (hn : 0 < n) : aFieldAddr PP t_history_Op (rdPtr v off) 0 = some (rdPtr v (off + 0)) := h.fieldOf qft_history_Op_0 qfa_history_Op_0 hn
theorem qfa_history_Op_1 (b o : Nat) : aFieldAddr PP t_history_Op (.pointer (some ⟨b, o, none⟩)) 1 = some (.pointer (some ⟨b, o + 1, none⟩)) := by kernel_rfl
theorem qft_history_Op_1 (off : Nat) (row : Array Value) : aFieldAddr PP t_history_Op (tPtr off row) 1 = some (tPtr (off + 1) row) := by kernel_rfl
theorem qfr_history_Op_1 {H : List Blk} {v : Value} {n off : Nat} {cs : List Value} (h : Rd H v n cs) (hn : 0 < n) : aFieldAddr PP t_history_Op (rdPtr v off) 1 = some (rdPtr v (off + 1)) := h.fieldOf qft_history_Op_1 qfa_history_Op_1 hn
theorem qfa_history_Op_2 (b o : Nat) : aFieldAddr PP t_history_Op (.pointer (some ⟨b, o, none⟩)) 2 = some (.pointer (some ⟨b, o + 17, none⟩)) := by kernel_rfl
theorem qft_history_Op_2 (off : Nat) (row : Array Value) : aFieldAddr PP t_history_Op (tPtr off row) 2 = some (tPtr (off + 17) row) := by kernel_rfl
theorem qfr_history_Op_2 {H : List Blk} {v : Value} {n off : Nat} {cs : List Value} (h : Rd H v n cs) (hn : 0 < n) : aFieldAddr PP t_history_Op (rdPtr v off) 2 = some (rdPtr v (off + 17)) := h.fieldOf qft_history_Op_2 qfa_history_Op_2 hn
theorem qfa_history_Op_3 (b o : Nat) : aFieldAddr PP t_history_Op (.pointer (some ⟨b, o, none⟩)) 3 = some (.pointer (some ⟨b, o + 18, none⟩)) := by kernel_rfl
theorem qft_history_Op_3 (off : Nat) (row : Array Value) : aFieldAddr PP t_history_Op (tPtr off row) 3 = some (tPtr (off + 18) row) := by kernel_rfl
theorem qfr_history_Op_3 {H : List Blk} {v : Value} {n off : Nat} {cs : List Value} (h : Rd H v n cs) (hn : 0 < n) : aFieldAddr PP t_history_Op (rdPtr v off) 3 = some (rdPtr v (off + 18)) := h.fieldOf qft_history_Op_3 qfa_history_Op_3 hn
-- qflat_history_Op
theorem qsz_register_state : sizeP PP t_register_state = some 17 := by kernel_rfl
def qz_register_state : List Value := [.int .u64 0, .int .u8 0, .int .u8 0, .int .u8 0, .int .u8 0, .int .u8 0, .int .u8 0, .int .u8 0, .int .u8 0, .int .u8 0, .int .u8 0, .int .u8 0, .int .u8 0, .int .u8 0, .int .u8 0, .int .u8 0, .int .u8 0]
theorem qzg_register_state : (zeroP PP t_register_state).getD unk = .agg qz_register_state.toArray := by kernel_rfl
theorem qzl_register_state : qz_register_state.length = 17 := by kernel_rfl
theorem qza_register_state : allCells qz_register_state = true := by kernel_rfl
theorem qfa_register_state_0 (b o : Nat) : aFieldAddr PP t_register_state (.pointer (some ⟨b, o, none⟩)) 0 = some (.pointer (some ⟨b, o, none⟩)) := by kernel_rfl
theorem qft_register_state_0 (off : Nat) (row : Array Value) : aFieldAddr PP t_register_state (tPtr off row) 0 = some (tPtr (off + 0) row) := by kernel_rfl
theorem qfr_register_state_0 {H : List Blk} {v : Value} {n off : Nat} {cs : List Value} (h : Rd H v n cs) (hn : 0 < n) : aFieldAddr PP t_register_state (rdPtr v off) 0 = some (rdPtr v (off + 0)) := h.fieldOf qft_register_state_0 qfa_register_state_0 hn
theorem qfa_register_state_1 (b o : Nat) : aFieldAddr PP t_register_state (.pointer (some ⟨b, o, none⟩)) 1 = some (.pointer (some ⟨b, o + 1, none⟩)) := by kernel_rfl
theorem qft_register_state_1 (off : Nat) (row : Array Value) : aFieldAddr PP t_register_state (tPtr off row) 1 = some (tPtr (off + 1) row) := by kernel_rfl
theorem qfr_register_state_1 {H : List Blk} {v : Value} {n off : Nat} {cs : List Value} (h : Rd H v n cs) (hn : 0 < n) : aFieldAddr PP t_register_state (rdPtr v off) 1 = some (rdPtr v (off + 1)) := h.fieldOf qft_register_state_1 qfa_register_state_1 hn
-- qflat_register_state
theorem qsz_register_hunt : sizeP PP t_register_hunt = some 4 := by kernel_rfl
def qz_register_hunt : List Value := [.slice none 0 0, .int .u64 0, .slice none 0 0, .map none]
theorem qzg_register_hunt : (zeroP PP t_register_hunt).getD unk = .agg qz_register_hunt.toArray := by kernel_rfl
theorem qzl_register_hunt : qz_register_hunt.length = 4 := by kernel_rfl
theorem qza_register_hunt : allCells qz_register_hunt = true := by kernel_rfl
theorem qfa_register_hunt_0 (b o : Nat) : aFieldAddr PP t_register_hunt (.pointer (some ⟨b, o, none⟩)) 0 = some (.pointer (some ⟨b, o, none⟩)) := by kernel_rfl
theorem qft_register_hunt_0 (off : Nat) (row : Array Value) : aFieldAddr PP t_register_hunt (tPtr off row) 0 = some (tPtr (off + 0) row) := by kernel_rfl
theorem qfr_register_hunt_0 {H : List Blk} {v : Value} {n off : Nat} {cs : List Value} (h : Rd H v n cs) (hn : 0 < n) : aFieldAddr PP t_register_hunt (rdPtr v off) 0 = some (rdPtr v (off + 0)) := h.fieldOf qft_register_hunt_0 qfa_register_hunt_0 hn
theorem qfa_register_hunt_1 (b o : Nat) : aFieldAddr PP t_register_hunt (.pointer (some ⟨b, o, none⟩)) 1 = some (.pointer (some ⟨b, o + 1, none⟩)) := by kernel_rfl
theorem qft_register_hunt_1 (off : Nat) (row : Array Value) : aFieldAddr PP t_register_hunt (tPtr off row) 1 = some (tPtr (off + 1) row) := by kernel_rfl
theorem qfr_register_hunt_1 {H : List Blk} {v : Value} {n off : Nat} {cs : List Value} (h : Rd H v n cs) (hn : 0 < n) : aFieldAddr PP t_register_hunt (rdPtr v off) 1 = some (rdPtr v (off + 1)) := h.fieldOf qft_register_hunt_1 qfa_register_hunt_1 hn
theorem qfa_register_hunt_2 (b o : Nat) : aFieldAddr PP t_register_hunt (.pointer (some ⟨b, o, none⟩)) 2 = some (.pointer (some ⟨b, o + 2, none⟩)) := by kernel_rfl
theorem qft_register_hunt_2 (off : Nat) (row : Array Value) : aFieldAddr PP t_register_hunt (tPtr off row) 2 = some (tPtr (off + 2) row) := by kernel_rfl
theorem qfr_register_hunt_2 {H : List Blk} {v : Value} {n off : Nat} {cs : List Value} (h : Rd H v n cs) (hn : 0 < n) : aFieldAddr PP t_register_hunt (rdPtr v off) 2 = some (rdPtr v (off + 2)) := h.fieldOf qft_register_hunt_2 qfa_register_hunt_2 hn
theorem qfa_register_hunt_3 (b o : Nat) : aFieldAddr PP t_register_hunt (.pointer (some ⟨b, o, none⟩)) 3 = some (.pointer (some ⟨b, o + 3, none⟩)) := by kernel_rfl
theorem qft_register_hunt_3 (off : Nat) (row : Array Value) : aFieldAddr PP t_register_hunt (tPtr off row) 3 = some (tPtr (off + 3) row) := by kernel_rfl
theorem qfr_register_hunt_3 {H : List Blk} {v : Value} {n off : Nat} {cs : List Value} (h : Rd H v n cs) (hn : 0 < n) : aFieldAddr PP t_register_hunt (rdPtr v off) 3 = some (rdPtr v (off + 3)) := h.fieldOf qft_register_hunt_3 qfa_register_hunt_3 hn
-- qflat_register_hunt
theorem qu_int : PP.underlying t_int = some (.int .i64) := by kernel_rfl
theorem qsz_int : sizeP PP t_int = some 1 := by kernel_rfl
theorem qzg_int : (zeroP PP t_int).getD unk = .int .i64 0 := by kernel_rfl
theorem qu_bool : PP.underlying t_bool = some .bool := by kernel_rfl
theorem qsz_bool : sizeP PP t_bool = some 1 := by kernel_rfl
theorem qzg_bool : (zeroP PP t_bool).getD unk = .bool false := by kernel_rfl
theorem qu_uint64 : PP.underlying t_uint64 = some (.int .u64) := by kernel_rfl
theorem qsz_uint64 : sizeP PP t_uint64 = some 1 := by kernel_rfl
theorem qzg_uint64 : (zeroP PP t_uint64).getD unk = .int .u64 0 := by kernel_rfl
theorem qu_P_register_hunt : PP.underlying t_P_register_hunt = some (.pointer t_register_hunt) := by kernel_rfl
theorem qsz_P_register_hunt : sizeP PP t_P_register_hunt = some 1 := by kernel_rfl
theorem qzg_P_register_hunt : (zeroP PP t_P_register_hunt).getD unk = .pointer none := by kernel_rfl
theorem qsz_Fd15f66 : sizeP PP t_Fd15f66 = some 1 := by kernel_rfl
theorem qzg_Fd15f66 : (zeroP PP t_Fd15f66).getD unk = .nilFunc := by kernel_rfl
theorem qu_L_api_Sector : PP.underlying t_L_api_Sector = some (.slice t_api_Sector) := by kernel_rfl
theorem qsz_L_api_Sector : sizeP PP t_L_api_Sector = some 1 := by kernel_rfl
theorem qzg_L_api_Sector : (zeroP PP t_L_api_Sector).getD unk = .slice none 0 0 := by kernel_rfl
theorem qflat_api_Sector : FlatAgg PP t_api_Sector := ⟨by kernel_rfl, by kernel_rfl, by kernel_rfl⟩
theorem qflat_twainref36_Op : FlatAgg PP t_twainref36_Op := ⟨by kernel_rfl, by kernel_rfl, by kernel_rfl⟩
theorem qflat_history_Op : FlatAgg PP t_history_Op := ⟨by kernel_rfl, by kernel_rfl, by kernel_rfl⟩
theorem qflat_register_state : FlatAgg PP t_register_state := ⟨by kernel_rfl, by kernel_rfl, by kernel_rfl⟩
end Go.Proofs.Ytfinilnkempofaa
