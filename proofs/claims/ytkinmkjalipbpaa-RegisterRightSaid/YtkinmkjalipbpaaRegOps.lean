/- A part of the proof: RegOps. Its conditions: none. -/
import Derived.Test.YtkinmkjalipbpaaRegSh
import Derived.Test.YtkinmkjalipbpaaRegPure
set_option linter.all false
set_option linter.unusedVariables false
set_option linter.unusedSimpArgs false
set_option linter.unnecessarySimpa false
namespace Go.Proofs.Ytkinmkjalipbpaa
open Go Go.Am
theorem u22 : PP.underlying 22 = some (.slice 64) := by kernel_rfl
theorem sz22 : sizeP PP 22 = some 1 := by kernel_rfl
theorem zg22 : (zeroP PP 22).getD unk = .slice none 0 0 := by kernel_rfl
theorem u26 : PP.underlying 26 = some (.slice 40) := by kernel_rfl
theorem sz26 : sizeP PP 26 = some 1 := by kernel_rfl
theorem zg26 : (zeroP PP 26).getD unk = .slice none 0 0 := by kernel_rfl
theorem u31 : PP.underlying 31 = some (.slice 3) := by kernel_rfl
theorem sz31 : sizeP PP 31 = some 1 := by kernel_rfl
theorem zg31 : (zeroP PP 31).getD unk = .slice none 0 0 := by kernel_rfl
theorem u87 : PP.underlying 87 = some (.slice 86) := by kernel_rfl
theorem sz87 : sizeP PP 87 = some 1 := by kernel_rfl
theorem zg87 : (zeroP PP 87).getD unk = .slice none 0 0 := by kernel_rfl
theorem u24 : PP.underlying 24 = some (.array 16 5) := by kernel_rfl
theorem sz24 : sizeP PP 24 = some 16 := by kernel_rfl
def z24 : List Value := List.replicate 16 (.int .u8 0)
theorem zg24 : (zeroP PP 24).getD unk = .agg z24.toArray := by kernel_rfl
theorem zl24 : z24.length = 16 := by kernel_rfl
theorem za24 : allCells z24 = true := by kernel_rfl
-- flat24
theorem sz64 : sizeP PP 64 = some 19 := by kernel_rfl
def z64 : List Value := [.bool false, .int .u8 0, .int .u8 0, .int .u8 0, .int .u8 0, .int .u8 0, .int .u8 0, .int .u8 0, .int .u8 0, .int .u8 0, .int .u8 0, .int .u8 0, .int .u8 0, .int .u8 0, .int .u8 0, .int .u8 0, .int .u8 0, .int .i64 0, .int .i64 0]
theorem zg64 : (zeroP PP 64).getD unk = .agg z64.toArray := by kernel_rfl
theorem zl64 : z64.length = 19 := by kernel_rfl
theorem za64 : allCells z64 = true := by kernel_rfl
theorem fa64_0 (b o : Nat) : aFieldAddr PP 64 (.pointer (some ⟨b, o, none⟩)) 0 = some (.pointer (some ⟨b, o, none⟩)) := by kernel_rfl
theorem ft64_0 (off : Nat) (row : Array Value) : aFieldAddr PP 64 (tPtr off row) 0 = some (tPtr (off + 0) row) := by kernel_rfl
theorem fr64_0 {H : List Blk} {v : Value} {n off : Nat} {cs : List Value} (h : Rd H v n cs) (hn : 0 < n) : aFieldAddr PP 64 (rdPtr v off) 0 = some (rdPtr v (off + 0)) := h.fieldOf ft64_0 fa64_0 hn
theorem fa64_1 (b o : Nat) : aFieldAddr PP 64 (.pointer (some ⟨b, o, none⟩)) 1 = some (.pointer (some ⟨b, o + 1, none⟩)) := by kernel_rfl
theorem ft64_1 (off : Nat) (row : Array Value) : aFieldAddr PP 64 (tPtr off row) 1 = some (tPtr (off + 1) row) := by kernel_rfl
theorem fr64_1 {H : List Blk} {v : Value} {n off : Nat} {cs : List Value} (h : Rd H v n cs) (hn : 0 < n) : aFieldAddr PP 64 (rdPtr v off) 1 = some (rdPtr v (off + 1)) := h.fieldOf ft64_1 fa64_1 hn
theorem fa64_2 (b o : Nat) : aFieldAddr PP 64 (.pointer (some ⟨b, o, none⟩)) 2 = some (.pointer (some ⟨b, o + 17, none⟩)) := by kernel_rfl
theorem ft64_2 (off : Nat) (row : Array Value) : aFieldAddr PP 64 (tPtr off row) 2 = some (tPtr (off + 17) row) := by kernel_rfl
theorem fr64_2 {H : List Blk} {v : Value} {n off : Nat} {cs : List Value} (h : Rd H v n cs) (hn : 0 < n) : aFieldAddr PP 64 (rdPtr v off) 2 = some (rdPtr v (off + 17)) := h.fieldOf ft64_2 fa64_2 hn
theorem fa64_3 (b o : Nat) : aFieldAddr PP 64 (.pointer (some ⟨b, o, none⟩)) 3 = some (.pointer (some ⟨b, o + 18, none⟩)) := by kernel_rfl
theorem ft64_3 (off : Nat) (row : Array Value) : aFieldAddr PP 64 (tPtr off row) 3 = some (tPtr (off + 18) row) := by kernel_rfl
theorem fr64_3 {H : List Blk} {v : Value} {n off : Nat} {cs : List Value} (h : Rd H v n cs) (hn : 0 < n) : aFieldAddr PP 64 (rdPtr v off) 3 = some (rdPtr v (off + 18)) := h.fieldOf ft64_3 fa64_3 hn
-- flat64
theorem sz40 : sizeP PP 40 = some 19 := by kernel_rfl
def z40 : List Value := [.bool false, .int .u8 0, .int .u8 0, .int .u8 0, .int .u8 0, .int .u8 0, .int .u8 0, .int .u8 0, .int .u8 0, .int .u8 0, .int .u8 0, .int .u8 0, .int .u8 0, .int .u8 0, .int .u8 0, .int .u8 0, .int .u8 0, .int .i64 0, .int .i64 0]
theorem zg40 : (zeroP PP 40).getD unk = .agg z40.toArray := by kernel_rfl
theorem zl40 : z40.length = 19 := by kernel_rfl
theorem za40 : allCells z40 = true := by kernel_rfl
theorem fa40_0 (b o : Nat) : aFieldAddr PP 40 (.pointer (some ⟨b, o, none⟩)) 0 = some (.pointer (some ⟨b, o, none⟩)) := by kernel_rfl
theorem ft40_0 (off : Nat) (row : Array Value) : aFieldAddr PP 40 (tPtr off row) 0 = some (tPtr (off + 0) row) := by kernel_rfl
theorem fr40_0 {H : List Blk} {v : Value} {n off : Nat} {cs : List Value} (h : Rd H v n cs) (hn : 0 < n) : aFieldAddr PP 40 (rdPtr v off) 0 = some (rdPtr v (off + 0)) := h.fieldOf ft40_0 fa40_0 hn
theorem fa40_1 (b o : Nat) : aFieldAddr PP 40 (.pointer (some ⟨b, o, none⟩)) 1 = some (.pointer (some ⟨b, o + 1, none⟩)) := by kernel_rfl
theorem ft40_1 (off : Nat) (row : Array Value) : aFieldAddr PP 40 (tPtr off row) 1 = some (tPtr (off + 1) row) := by kernel_rfl
theorem fr40_1 {H : List Blk} {v : Value} {n off : Nat} {cs : List Value} (h : Rd H v n cs) (hn : 0 < n) : aFieldAddr PP 40 (rdPtr v off) 1 = some (rdPtr v (off + 1)) := h.fieldOf ft40_1 fa40_1 hn
theorem fa40_2 (b o : Nat) : aFieldAddr PP 40 (.pointer (some ⟨b, o, none⟩)) 2 = some (.pointer (some ⟨b, o + 17, none⟩)) := by kernel_rfl
theorem ft40_2 (off : Nat) (row : Array Value) : aFieldAddr PP 40 (tPtr off row) 2 = some (tPtr (off + 17) row) := by kernel_rfl
theorem fr40_2 {H : List Blk} {v : Value} {n off : Nat} {cs : List Value} (h : Rd H v n cs) (hn : 0 < n) : aFieldAddr PP 40 (rdPtr v off) 2 = some (rdPtr v (off + 17)) := h.fieldOf ft40_2 fa40_2 hn
theorem fa40_3 (b o : Nat) : aFieldAddr PP 40 (.pointer (some ⟨b, o, none⟩)) 3 = some (.pointer (some ⟨b, o + 18, none⟩)) := by kernel_rfl
theorem ft40_3 (off : Nat) (row : Array Value) : aFieldAddr PP 40 (tPtr off row) 3 = some (tPtr (off + 18) row) := by kernel_rfl
theorem fr40_3 {H : List Blk} {v : Value} {n off : Nat} {cs : List Value} (h : Rd H v n cs) (hn : 0 < n) : aFieldAddr PP 40 (rdPtr v off) 3 = some (rdPtr v (off + 18)) := h.fieldOf ft40_3 fa40_3 hn
-- flat40
theorem sz92 : sizeP PP 92 = some 17 := by kernel_rfl
def z92 : List Value := [.int .u64 0, .int .u8 0, .int .u8 0, .int .u8 0, .int .u8 0, .int .u8 0, .int .u8 0, .int .u8 0, .int .u8 0, .int .u8 0, .int .u8 0, .int .u8 0, .int .u8 0, .int .u8 0, .int .u8 0, .int .u8 0, .int .u8 0]
theorem zg92 : (zeroP PP 92).getD unk = .agg z92.toArray := by kernel_rfl
theorem zl92 : z92.length = 17 := by kernel_rfl
theorem za92 : allCells z92 = true := by kernel_rfl
theorem fa92_0 (b o : Nat) : aFieldAddr PP 92 (.pointer (some ⟨b, o, none⟩)) 0 = some (.pointer (some ⟨b, o, none⟩)) := by kernel_rfl
theorem ft92_0 (off : Nat) (row : Array Value) : aFieldAddr PP 92 (tPtr off row) 0 = some (tPtr (off + 0) row) := by kernel_rfl
theorem fr92_0 {H : List Blk} {v : Value} {n off : Nat} {cs : List Value} (h : Rd H v n cs) (hn : 0 < n) : aFieldAddr PP 92 (rdPtr v off) 0 = some (rdPtr v (off + 0)) := h.fieldOf ft92_0 fa92_0 hn
theorem fa92_1 (b o : Nat) : aFieldAddr PP 92 (.pointer (some ⟨b, o, none⟩)) 1 = some (.pointer (some ⟨b, o + 1, none⟩)) := by kernel_rfl
theorem ft92_1 (off : Nat) (row : Array Value) : aFieldAddr PP 92 (tPtr off row) 1 = some (tPtr (off + 1) row) := by kernel_rfl
theorem fr92_1 {H : List Blk} {v : Value} {n off : Nat} {cs : List Value} (h : Rd H v n cs) (hn : 0 < n) : aFieldAddr PP 92 (rdPtr v off) 1 = some (rdPtr v (off + 1)) := h.fieldOf ft92_1 fa92_1 hn
-- flat92
theorem sz89 : sizeP PP 89 = some 4 := by kernel_rfl
def z89 : List Value := [.slice none 0 0, .int .u64 0, .slice none 0 0, .map none]
theorem zg89 : (zeroP PP 89).getD unk = .agg z89.toArray := by kernel_rfl
theorem zl89 : z89.length = 4 := by kernel_rfl
theorem za89 : allCells z89 = true := by kernel_rfl
theorem fa89_0 (b o : Nat) : aFieldAddr PP 89 (.pointer (some ⟨b, o, none⟩)) 0 = some (.pointer (some ⟨b, o, none⟩)) := by kernel_rfl
theorem ft89_0 (off : Nat) (row : Array Value) : aFieldAddr PP 89 (tPtr off row) 0 = some (tPtr (off + 0) row) := by kernel_rfl
theorem fr89_0 {H : List Blk} {v : Value} {n off : Nat} {cs : List Value} (h : Rd H v n cs) (hn : 0 < n) : aFieldAddr PP 89 (rdPtr v off) 0 = some (rdPtr v (off + 0)) := h.fieldOf ft89_0 fa89_0 hn
theorem fa89_1 (b o : Nat) : aFieldAddr PP 89 (.pointer (some ⟨b, o, none⟩)) 1 = some (.pointer (some ⟨b, o + 1, none⟩)) := by kernel_rfl
theorem ft89_1 (off : Nat) (row : Array Value) : aFieldAddr PP 89 (tPtr off row) 1 = some (tPtr (off + 1) row) := by kernel_rfl
theorem fr89_1 {H : List Blk} {v : Value} {n off : Nat} {cs : List Value} (h : Rd H v n cs) (hn : 0 < n) : aFieldAddr PP 89 (rdPtr v off) 1 = some (rdPtr v (off + 1)) := h.fieldOf ft89_1 fa89_1 hn
theorem fa89_2 (b o : Nat) : aFieldAddr PP 89 (.pointer (some ⟨b, o, none⟩)) 2 = some (.pointer (some ⟨b, o + 2, none⟩)) := by kernel_rfl
theorem ft89_2 (off : Nat) (row : Array Value) : aFieldAddr PP 89 (tPtr off row) 2 = some (tPtr (off + 2) row) := by kernel_rfl
theorem fr89_2 {H : List Blk} {v : Value} {n off : Nat} {cs : List Value} (h : Rd H v n cs) (hn : 0 < n) : aFieldAddr PP 89 (rdPtr v off) 2 = some (rdPtr v (off + 2)) := h.fieldOf ft89_2 fa89_2 hn
theorem fa89_3 (b o : Nat) : aFieldAddr PP 89 (.pointer (some ⟨b, o, none⟩)) 3 = some (.pointer (some ⟨b, o + 3, none⟩)) := by kernel_rfl
theorem ft89_3 (off : Nat) (row : Array Value) : aFieldAddr PP 89 (tPtr off row) 3 = some (tPtr (off + 3) row) := by kernel_rfl
theorem fr89_3 {H : List Blk} {v : Value} {n off : Nat} {cs : List Value} (h : Rd H v n cs) (hn : 0 < n) : aFieldAddr PP 89 (rdPtr v off) 3 = some (rdPtr v (off + 3)) := h.fieldOf ft89_3 fa89_3 hn
-- flat89
theorem u3 : PP.underlying 3 = some (.int .i64) := by kernel_rfl
theorem sz3 : sizeP PP 3 = some 1 := by kernel_rfl
theorem zg3 : (zeroP PP 3).getD unk = .int .i64 0 := by kernel_rfl
theorem u4 : PP.underlying 4 = some .bool := by kernel_rfl
theorem sz4 : sizeP PP 4 = some 1 := by kernel_rfl
theorem zg4 : (zeroP PP 4).getD unk = .bool false := by kernel_rfl
theorem u86 : PP.underlying 86 = some (.int .u64) := by kernel_rfl
theorem sz86 : sizeP PP 86 = some 1 := by kernel_rfl
theorem zg86 : (zeroP PP 86).getD unk = .int .u64 0 := by kernel_rfl
theorem u66 : PP.underlying 66 = some (.pointer 89) := by kernel_rfl
theorem sz66 : sizeP PP 66 = some 1 := by kernel_rfl
theorem zg66 : (zeroP PP 66).getD unk = .pointer none := by kernel_rfl
theorem sz90 : sizeP PP 90 = some 1 := by kernel_rfl
theorem zg90 : (zeroP PP 90).getD unk = .nilFunc := by kernel_rfl
theorem u38 : PP.underlying 38 = some (.slice 24) := by kernel_rfl
theorem sz38 : sizeP PP 38 = some 1 := by kernel_rfl
theorem zg38 : (zeroP PP 38).getD unk = .slice none 0 0 := by kernel_rfl
theorem flat24 : FlatAgg PP 24 := ⟨by kernel_rfl, by kernel_rfl, by kernel_rfl⟩
theorem flat64 : FlatAgg PP 64 := ⟨by kernel_rfl, by kernel_rfl, by kernel_rfl⟩
theorem flat40 : FlatAgg PP 40 := ⟨by kernel_rfl, by kernel_rfl, by kernel_rfl⟩
theorem flat92 : FlatAgg PP 92 := ⟨by kernel_rfl, by kernel_rfl, by kernel_rfl⟩
end Go.Proofs.Ytkinmkjalipbpaa
