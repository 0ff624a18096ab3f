/- A part of the proof: ItOps, ItSpan. Its conditions: none. -/
import Derived.Test.YtgpfiiebfhdjhaaAm23
import Derived.Test.YtgpfiiebfhdjhaaItSh
set_option linter.all false
set_option linter.unusedVariables false
set_option linter.unusedSimpArgs false
set_option linter.unnecessarySimpa false
section
namespace Go.Proofs.Ytgpfiiebfhdjhaa
open Go Go.Am
theorem u_bool : PP.underlying t_bool = some .bool := by kernel_rfl
theorem sz_bool : sizeP PP t_bool = some 1 := by kernel_rfl
theorem by_bool : bytesP PP t_bool = some 1 := by kernel_rfl
theorem zg_bool : (zeroP PP t_bool).getD unk = .bool false := by kernel_rfl
theorem zv_bool : zeroP PP t_bool = some (.bool false) := by kernel_rfl
theorem u_int : PP.underlying t_int = some (.int .i64) := by kernel_rfl
theorem sz_int : sizeP PP t_int = some 1 := by kernel_rfl
theorem by_int : bytesP PP t_int = some 8 := by kernel_rfl
theorem zg_int : (zeroP PP t_int).getD unk = .int .i64 0 := by kernel_rfl
theorem zv_int : zeroP PP t_int = some (.int .i64 0) := by kernel_rfl
theorem sz_itree_node : sizeP PP t_itree_node = some 7 := by kernel_rfl
theorem by_itree_node : bytesP PP t_itree_node = some 56 := by kernel_rfl
def z_itree_node : List Value := [.int .i64 0, .int .i64 0, .int .i64 0, .bool false, .int .i64 0, .pointer none, .pointer none]
theorem zg_itree_node : (zeroP PP t_itree_node).getD unk = .agg z_itree_node.toArray := by kernel_rfl
theorem zv_itree_node : zeroP PP t_itree_node = some (.agg z_itree_node.toArray) := by kernel_rfl
theorem zl_itree_node : z_itree_node.length = 7 := by kernel_rfl
theorem za_itree_node : allCells z_itree_node = true := by kernel_rfl
noncomputable def fs_itree_node : Array Field := match PP.underlying t_itree_node with | some (.struct fs) => fs | _ => #[]
theorem us_itree_node : PP.underlying t_itree_node = some (.struct fs_itree_node) := by kernel_rfl
theorem ty_itree_node : fs_itree_node.toList.map (·.type) = [t_itree_entry, t_bool, t_int, t_A2_P_itree_node] := by kernel_rfl
theorem fa_itree_node_0 (b o : Nat) : aFieldAddr PP t_itree_node (.pointer (some ⟨b, o, none⟩)) 0 = some (.pointer (some ⟨b, o, none⟩)) := by kernel_rfl
theorem ft_itree_node_0 (off : Nat) (row : Array Value) : aFieldAddr PP t_itree_node (tPtr off row) 0 = some (tPtr (off) row) := by kernel_rfl
theorem fa_itree_node_1 (b o : Nat) : aFieldAddr PP t_itree_node (.pointer (some ⟨b, o, none⟩)) 1 = some (.pointer (some ⟨b, o + 3, none⟩)) := by kernel_rfl
theorem ft_itree_node_1 (off : Nat) (row : Array Value) : aFieldAddr PP t_itree_node (tPtr off row) 1 = some (tPtr (off + 3) row) := by kernel_rfl
theorem fa_itree_node_2 (b o : Nat) : aFieldAddr PP t_itree_node (.pointer (some ⟨b, o, none⟩)) 2 = some (.pointer (some ⟨b, o + 4, none⟩)) := by kernel_rfl
theorem ft_itree_node_2 (off : Nat) (row : Array Value) : aFieldAddr PP t_itree_node (tPtr off row) 2 = some (tPtr (off + 4) row) := by kernel_rfl
theorem fa_itree_node_3 (b o : Nat) : aFieldAddr PP t_itree_node (.pointer (some ⟨b, o, none⟩)) 3 = some (.pointer (some ⟨b, o + 5, none⟩)) := by kernel_rfl
theorem ft_itree_node_3 (off : Nat) (row : Array Value) : aFieldAddr PP t_itree_node (tPtr off row) 3 = some (tPtr (off + 5) row) := by kernel_rfl
theorem sz_itree_entry : sizeP PP t_itree_entry = some 3 := by kernel_rfl
theorem by_itree_entry : bytesP PP t_itree_entry = some 24 := by kernel_rfl
def z_itree_entry : List Value := [.int .i64 0, .int .i64 0, .int .i64 0]
theorem zg_itree_entry : (zeroP PP t_itree_entry).getD unk = .agg z_itree_entry.toArray := by kernel_rfl
theorem zv_itree_entry : zeroP PP t_itree_entry = some (.agg z_itree_entry.toArray) := by kernel_rfl
theorem zl_itree_entry : z_itree_entry.length = 3 := by kernel_rfl
theorem za_itree_entry : allCells z_itree_entry = true := by kernel_rfl
noncomputable def fs_itree_entry : Array Field := match PP.underlying t_itree_entry with | some (.struct fs) => fs | _ => #[]
theorem us_itree_entry : PP.underlying t_itree_entry = some (.struct fs_itree_entry) := by kernel_rfl
theorem ty_itree_entry : fs_itree_entry.toList.map (·.type) = [t_api_Span, t_int] := by kernel_rfl
theorem fa_itree_entry_0 (b o : Nat) : aFieldAddr PP t_itree_entry (.pointer (some ⟨b, o, none⟩)) 0 = some (.pointer (some ⟨b, o, none⟩)) := by kernel_rfl
theorem ft_itree_entry_0 (off : Nat) (row : Array Value) : aFieldAddr PP t_itree_entry (tPtr off row) 0 = some (tPtr (off) row) := by kernel_rfl
theorem fa_itree_entry_1 (b o : Nat) : aFieldAddr PP t_itree_entry (.pointer (some ⟨b, o, none⟩)) 1 = some (.pointer (some ⟨b, o + 2, none⟩)) := by kernel_rfl
theorem ft_itree_entry_1 (off : Nat) (row : Array Value) : aFieldAddr PP t_itree_entry (tPtr off row) 1 = some (tPtr (off + 2) row) := by kernel_rfl
theorem u_A2_P_itree_node : PP.underlying t_A2_P_itree_node = some (.array 2 t_P_itree_node) := by kernel_rfl
theorem sz_A2_P_itree_node : sizeP PP t_A2_P_itree_node = some 2 := by kernel_rfl
theorem by_A2_P_itree_node : bytesP PP t_A2_P_itree_node = some 16 := by kernel_rfl
def z_A2_P_itree_node : List Value := [.pointer none, .pointer none]
theorem zg_A2_P_itree_node : (zeroP PP t_A2_P_itree_node).getD unk = .agg z_A2_P_itree_node.toArray := by kernel_rfl
theorem zv_A2_P_itree_node : zeroP PP t_A2_P_itree_node = some (.agg z_A2_P_itree_node.toArray) := by kernel_rfl
theorem zl_A2_P_itree_node : z_A2_P_itree_node.length = 2 := by kernel_rfl
theorem za_A2_P_itree_node : allCells z_A2_P_itree_node = true := by kernel_rfl
theorem sz_itree_Tree : sizeP PP t_itree_Tree = some 3 := by kernel_rfl
theorem by_itree_Tree : bytesP PP t_itree_Tree = some 24 := by kernel_rfl
def z_itree_Tree : List Value := [.bool false, .pointer none, .int .i64 0]
theorem zg_itree_Tree : (zeroP PP t_itree_Tree).getD unk = .agg z_itree_Tree.toArray := by kernel_rfl
theorem zv_itree_Tree : zeroP PP t_itree_Tree = some (.agg z_itree_Tree.toArray) := by kernel_rfl
theorem zl_itree_Tree : z_itree_Tree.length = 3 := by kernel_rfl
theorem za_itree_Tree : allCells z_itree_Tree = true := by kernel_rfl
noncomputable def fs_itree_Tree : Array Field := match PP.underlying t_itree_Tree with | some (.struct fs) => fs | _ => #[]
theorem us_itree_Tree : PP.underlying t_itree_Tree = some (.struct fs_itree_Tree) := by kernel_rfl
theorem ty_itree_Tree : fs_itree_Tree.toList.map (·.type) = [t_bool, t_P_itree_node, t_int] := by kernel_rfl
theorem fa_itree_Tree_0 (b o : Nat) : aFieldAddr PP t_itree_Tree (.pointer (some ⟨b, o, none⟩)) 0 = some (.pointer (some ⟨b, o, none⟩)) := by kernel_rfl
theorem ft_itree_Tree_0 (off : Nat) (row : Array Value) : aFieldAddr PP t_itree_Tree (tPtr off row) 0 = some (tPtr (off) row) := by kernel_rfl
theorem fa_itree_Tree_1 (b o : Nat) : aFieldAddr PP t_itree_Tree (.pointer (some ⟨b, o, none⟩)) 1 = some (.pointer (some ⟨b, o + 1, none⟩)) := by kernel_rfl
theorem ft_itree_Tree_1 (off : Nat) (row : Array Value) : aFieldAddr PP t_itree_Tree (tPtr off row) 1 = some (tPtr (off + 1) row) := by kernel_rfl
theorem fa_itree_Tree_2 (b o : Nat) : aFieldAddr PP t_itree_Tree (.pointer (some ⟨b, o, none⟩)) 2 = some (.pointer (some ⟨b, o + 2, none⟩)) := by kernel_rfl
theorem ft_itree_Tree_2 (off : Nat) (row : Array Value) : aFieldAddr PP t_itree_Tree (tPtr off row) 2 = some (tPtr (off + 2) row) := by kernel_rfl
theorem sz_api_Span : sizeP PP t_api_Span = some 2 := by kernel_rfl
theorem by_api_Span : bytesP PP t_api_Span = some 16 := by kernel_rfl
def z_api_Span : List Value := [.int .i64 0, .int .i64 0]
theorem zg_api_Span : (zeroP PP t_api_Span).getD unk = .agg z_api_Span.toArray := by kernel_rfl
theorem zv_api_Span : zeroP PP t_api_Span = some (.agg z_api_Span.toArray) := by kernel_rfl
theorem zl_api_Span : z_api_Span.length = 2 := by kernel_rfl
theorem za_api_Span : allCells z_api_Span = true := by kernel_rfl
noncomputable def fs_api_Span : Array Field := match PP.underlying t_api_Span with | some (.struct fs) => fs | _ => #[]
theorem us_api_Span : PP.underlying t_api_Span = some (.struct fs_api_Span) := by kernel_rfl
theorem ty_api_Span : fs_api_Span.toList.map (·.type) = [t_int, t_int] := by kernel_rfl
theorem fa_api_Span_0 (b o : Nat) : aFieldAddr PP t_api_Span (.pointer (some ⟨b, o, none⟩)) 0 = some (.pointer (some ⟨b, o, none⟩)) := by kernel_rfl
theorem ft_api_Span_0 (off : Nat) (row : Array Value) : aFieldAddr PP t_api_Span (tPtr off row) 0 = some (tPtr (off) row) := by kernel_rfl
theorem fa_api_Span_1 (b o : Nat) : aFieldAddr PP t_api_Span (.pointer (some ⟨b, o, none⟩)) 1 = some (.pointer (some ⟨b, o + 1, none⟩)) := by kernel_rfl
theorem ft_api_Span_1 (off : Nat) (row : Array Value) : aFieldAddr PP t_api_Span (tPtr off row) 1 = some (tPtr (off + 1) row) := by kernel_rfl
theorem u_L_int : PP.underlying t_L_int = some (.slice t_int) := by kernel_rfl
theorem sz_L_int : sizeP PP t_L_int = some 1 := by kernel_rfl
theorem by_L_int : bytesP PP t_L_int = some 24 := by kernel_rfl
theorem zg_L_int : (zeroP PP t_L_int).getD unk = .slice none 0 0 := by kernel_rfl
theorem zv_L_int : zeroP PP t_L_int = some (.slice none 0 0) := by kernel_rfl
theorem el_L_int : ElemT PP t_L_int t_int 1 := ⟨u_L_int, by kernel_rfl, by decide, ⟨.int .i64 0, 8, by kernel_rfl, by kernel_rfl, by kernel_rfl, by decide, by decide⟩⟩
theorem sz_span_side : sizeP PP t_span_side = some 2 := by kernel_rfl
theorem by_span_side : bytesP PP t_span_side = some 16 := by kernel_rfl
def z_span_side : List Value := [.int .i64 0, .int .i64 0]
theorem zg_span_side : (zeroP PP t_span_side).getD unk = .agg z_span_side.toArray := by kernel_rfl
theorem zv_span_side : zeroP PP t_span_side = some (.agg z_span_side.toArray) := by kernel_rfl
theorem zl_span_side : z_span_side.length = 2 := by kernel_rfl
theorem za_span_side : allCells z_span_side = true := by kernel_rfl
noncomputable def fs_span_side : Array Field := match PP.underlying t_span_side with | some (.struct fs) => fs | _ => #[]
theorem us_span_side : PP.underlying t_span_side = some (.struct fs_span_side) := by kernel_rfl
theorem ty_span_side : fs_span_side.toList.map (·.type) = [t_api_Span] := by kernel_rfl
theorem fa_span_side_0 (b o : Nat) : aFieldAddr PP t_span_side (.pointer (some ⟨b, o, none⟩)) 0 = some (.pointer (some ⟨b, o, none⟩)) := by kernel_rfl
theorem ft_span_side_0 (off : Nat) (row : Array Value) : aFieldAddr PP t_span_side (tPtr off row) 0 = some (tPtr (off) row) := by kernel_rfl
theorem sz_twainlaw14_Act : sizeP PP t_twainlaw14_Act = some 4 := by kernel_rfl
theorem by_twainlaw14_Act : bytesP PP t_twainlaw14_Act = some 32 := by kernel_rfl
def z_twainlaw14_Act : List Value := [.bool false, .int .i64 0, .int .i64 0, .int .i64 0]
theorem zg_twainlaw14_Act : (zeroP PP t_twainlaw14_Act).getD unk = .agg z_twainlaw14_Act.toArray := by kernel_rfl
theorem zv_twainlaw14_Act : zeroP PP t_twainlaw14_Act = some (.agg z_twainlaw14_Act.toArray) := by kernel_rfl
theorem zl_twainlaw14_Act : z_twainlaw14_Act.length = 4 := by kernel_rfl
theorem za_twainlaw14_Act : allCells z_twainlaw14_Act = true := by kernel_rfl
noncomputable def fs_twainlaw14_Act : Array Field := match PP.underlying t_twainlaw14_Act with | some (.struct fs) => fs | _ => #[]
theorem us_twainlaw14_Act : PP.underlying t_twainlaw14_Act = some (.struct fs_twainlaw14_Act) := by kernel_rfl
theorem ty_twainlaw14_Act : fs_twainlaw14_Act.toList.map (·.type) = [t_bool, t_api_Span, t_int] := by kernel_rfl
theorem fa_twainlaw14_Act_0 (b o : Nat) : aFieldAddr PP t_twainlaw14_Act (.pointer (some ⟨b, o, none⟩)) 0 = some (.pointer (some ⟨b, o, none⟩)) := by kernel_rfl
theorem ft_twainlaw14_Act_0 (off : Nat) (row : Array Value) : aFieldAddr PP t_twainlaw14_Act (tPtr off row) 0 = some (tPtr (off) row) := by kernel_rfl
theorem fa_twainlaw14_Act_1 (b o : Nat) : aFieldAddr PP t_twainlaw14_Act (.pointer (some ⟨b, o, none⟩)) 1 = some (.pointer (some ⟨b, o + 1, none⟩)) := by kernel_rfl
theorem ft_twainlaw14_Act_1 (off : Nat) (row : Array Value) : aFieldAddr PP t_twainlaw14_Act (tPtr off row) 1 = some (tPtr (off + 1) row) := by kernel_rfl
theorem fa_twainlaw14_Act_2 (b o : Nat) : aFieldAddr PP t_twainlaw14_Act (.pointer (some ⟨b, o, none⟩)) 2 = some (.pointer (some ⟨b, o + 3, none⟩)) := by kernel_rfl
theorem ft_twainlaw14_Act_2 (off : Nat) (row : Array Value) : aFieldAddr PP t_twainlaw14_Act (tPtr off row) 2 = some (tPtr (off + 3) row) := by kernel_rfl
theorem u_L_twainlaw14_Act : PP.underlying t_L_twainlaw14_Act = some (.slice t_twainlaw14_Act) := by kernel_rfl
theorem sz_L_twainlaw14_Act : sizeP PP t_L_twainlaw14_Act = some 1 := by kernel_rfl
theorem by_L_twainlaw14_Act : bytesP PP t_L_twainlaw14_Act = some 24 := by kernel_rfl
theorem zg_L_twainlaw14_Act : (zeroP PP t_L_twainlaw14_Act).getD unk = .slice none 0 0 := by kernel_rfl
theorem zv_L_twainlaw14_Act : zeroP PP t_L_twainlaw14_Act = some (.slice none 0 0) := by kernel_rfl
theorem el_L_twainlaw14_Act : ElemT PP t_L_twainlaw14_Act t_twainlaw14_Act 4 := ⟨u_L_twainlaw14_Act, by kernel_rfl, by decide, ⟨.agg #[.bool false, .int .i64 0, .int .i64 0, .int .i64 0], 32, by kernel_rfl, by kernel_rfl, by kernel_rfl, by decide, by decide⟩⟩
theorem sz_twainlaw14_One : sizeP PP t_twainlaw14_One = some 4 := by kernel_rfl
theorem by_twainlaw14_One : bytesP PP t_twainlaw14_One = some 32 := by kernel_rfl
def z_twainlaw14_One : List Value := [.int .i64 0, .int .i64 0, .int .i64 0, .int .i64 0]
theorem zg_twainlaw14_One : (zeroP PP t_twainlaw14_One).getD unk = .agg z_twainlaw14_One.toArray := by kernel_rfl
theorem zv_twainlaw14_One : zeroP PP t_twainlaw14_One = some (.agg z_twainlaw14_One.toArray) := by kernel_rfl
theorem zl_twainlaw14_One : z_twainlaw14_One.length = 4 := by kernel_rfl
theorem za_twainlaw14_One : allCells z_twainlaw14_One = true := by kernel_rfl
noncomputable def fs_twainlaw14_One : Array Field := match PP.underlying t_twainlaw14_One with | some (.struct fs) => fs | _ => #[]
theorem us_twainlaw14_One : PP.underlying t_twainlaw14_One = some (.struct fs_twainlaw14_One) := by kernel_rfl
theorem ty_twainlaw14_One : fs_twainlaw14_One.toList.map (·.type) = [t_api_Span, t_int, t_int] := by kernel_rfl
theorem fa_twainlaw14_One_0 (b o : Nat) : aFieldAddr PP t_twainlaw14_One (.pointer (some ⟨b, o, none⟩)) 0 = some (.pointer (some ⟨b, o, none⟩)) := by kernel_rfl
theorem ft_twainlaw14_One_0 (off : Nat) (row : Array Value) : aFieldAddr PP t_twainlaw14_One (tPtr off row) 0 = some (tPtr (off) row) := by kernel_rfl
theorem fa_twainlaw14_One_1 (b o : Nat) : aFieldAddr PP t_twainlaw14_One (.pointer (some ⟨b, o, none⟩)) 1 = some (.pointer (some ⟨b, o + 2, none⟩)) := by kernel_rfl
theorem ft_twainlaw14_One_1 (off : Nat) (row : Array Value) : aFieldAddr PP t_twainlaw14_One (tPtr off row) 1 = some (tPtr (off + 2) row) := by kernel_rfl
theorem fa_twainlaw14_One_2 (b o : Nat) : aFieldAddr PP t_twainlaw14_One (.pointer (some ⟨b, o, none⟩)) 2 = some (.pointer (some ⟨b, o + 3, none⟩)) := by kernel_rfl
theorem ft_twainlaw14_One_2 (off : Nat) (row : Array Value) : aFieldAddr PP t_twainlaw14_One (tPtr off row) 2 = some (tPtr (off + 3) row) := by kernel_rfl
theorem sz_twainref14_Item : sizeP PP t_twainref14_Item = some 3 := by kernel_rfl
theorem by_twainref14_Item : bytesP PP t_twainref14_Item = some 24 := by kernel_rfl
def z_twainref14_Item : List Value := [.int .i64 0, .int .i64 0, .int .i64 0]
theorem zg_twainref14_Item : (zeroP PP t_twainref14_Item).getD unk = .agg z_twainref14_Item.toArray := by kernel_rfl
theorem zv_twainref14_Item : zeroP PP t_twainref14_Item = some (.agg z_twainref14_Item.toArray) := by kernel_rfl
theorem zl_twainref14_Item : z_twainref14_Item.length = 3 := by kernel_rfl
theorem za_twainref14_Item : allCells z_twainref14_Item = true := by kernel_rfl
noncomputable def fs_twainref14_Item : Array Field := match PP.underlying t_twainref14_Item with | some (.struct fs) => fs | _ => #[]
theorem us_twainref14_Item : PP.underlying t_twainref14_Item = some (.struct fs_twainref14_Item) := by kernel_rfl
theorem ty_twainref14_Item : fs_twainref14_Item.toList.map (·.type) = [t_api_Span, t_int] := by kernel_rfl
theorem fa_twainref14_Item_0 (b o : Nat) : aFieldAddr PP t_twainref14_Item (.pointer (some ⟨b, o, none⟩)) 0 = some (.pointer (some ⟨b, o, none⟩)) := by kernel_rfl
theorem ft_twainref14_Item_0 (off : Nat) (row : Array Value) : aFieldAddr PP t_twainref14_Item (tPtr off row) 0 = some (tPtr (off) row) := by kernel_rfl
theorem fa_twainref14_Item_1 (b o : Nat) : aFieldAddr PP t_twainref14_Item (.pointer (some ⟨b, o, none⟩)) 1 = some (.pointer (some ⟨b, o + 2, none⟩)) := by kernel_rfl
theorem ft_twainref14_Item_1 (off : Nat) (row : Array Value) : aFieldAddr PP t_twainref14_Item (tPtr off row) 1 = some (tPtr (off + 2) row) := by kernel_rfl
theorem u_L_twainref14_Item : PP.underlying t_L_twainref14_Item = some (.slice t_twainref14_Item) := by kernel_rfl
theorem sz_L_twainref14_Item : sizeP PP t_L_twainref14_Item = some 1 := by kernel_rfl
theorem by_L_twainref14_Item : bytesP PP t_L_twainref14_Item = some 24 := by kernel_rfl
theorem zg_L_twainref14_Item : (zeroP PP t_L_twainref14_Item).getD unk = .slice none 0 0 := by kernel_rfl
theorem zv_L_twainref14_Item : zeroP PP t_L_twainref14_Item = some (.slice none 0 0) := by kernel_rfl
theorem el_L_twainref14_Item : ElemT PP t_L_twainref14_Item t_twainref14_Item 3 := ⟨u_L_twainref14_Item, by kernel_rfl, by decide, ⟨.agg #[.int .i64 0, .int .i64 0, .int .i64 0], 24, by kernel_rfl, by kernel_rfl, by kernel_rfl, by decide, by decide⟩⟩
theorem sz_twainref14_Tree : sizeP PP t_twainref14_Tree = some 1 := by kernel_rfl
theorem by_twainref14_Tree : bytesP PP t_twainref14_Tree = some 24 := by kernel_rfl
def z_twainref14_Tree : List Value := [.slice none 0 0]
theorem zg_twainref14_Tree : (zeroP PP t_twainref14_Tree).getD unk = .agg z_twainref14_Tree.toArray := by kernel_rfl
theorem zv_twainref14_Tree : zeroP PP t_twainref14_Tree = some (.agg z_twainref14_Tree.toArray) := by kernel_rfl
theorem zl_twainref14_Tree : z_twainref14_Tree.length = 1 := by kernel_rfl
theorem za_twainref14_Tree : allCells z_twainref14_Tree = true := by kernel_rfl
noncomputable def fs_twainref14_Tree : Array Field := match PP.underlying t_twainref14_Tree with | some (.struct fs) => fs | _ => #[]
theorem us_twainref14_Tree : PP.underlying t_twainref14_Tree = some (.struct fs_twainref14_Tree) := by kernel_rfl
theorem ty_twainref14_Tree : fs_twainref14_Tree.toList.map (·.type) = [t_L_twainref14_Item] := by kernel_rfl
theorem fa_twainref14_Tree_0 (b o : Nat) : aFieldAddr PP t_twainref14_Tree (.pointer (some ⟨b, o, none⟩)) 0 = some (.pointer (some ⟨b, o, none⟩)) := by kernel_rfl
theorem ft_twainref14_Tree_0 (off : Nat) (row : Array Value) : aFieldAddr PP t_twainref14_Tree (tPtr off row) 0 = some (tPtr (off) row) := by kernel_rfl
end Go.Proofs.Ytgpfiiebfhdjhaa

end
section
namespace Go.Proofs.Ytgpfiiebfhdjhaa
open Go Go.Am
def isI (n : Int) : Prop := -9223372036854775808 ≤ n ∧ n < 9223372036854775808
theorem wrap_in {n : Int} (h : isI n) : IntKind.i64.wrap n = n := by
  unfold isI at h; rw [IntKind.wrap_i64]; omega
theorem wrap_nat {n : Nat} (h : n < 9223372036854775808) : IntKind.i64.wrap (n : Int) = (n : Int) := wrap_in ⟨by omega, by omega⟩
theorem wrap_succ {n : Nat} (h : n < 4611686018427387904) : IntKind.i64.wrap ((n : Int) + 1) = ((n + 1 : Nat) : Int) := by
  rw [wrap_in ⟨by omega, by omega⟩]; omega

/-- a span's cells -/
abbrev spn (o n : Int) : Value := .agg [Value.int .i64 o, Value.int .i64 n].toArray
def withinB (n : Int) : Bool := decide (0 ≤ n) && decide (n ≤ 1073741824)
def plainB (o n : Int) : Bool := withinB o && withinB n
def endI (o n : Int) : Int := if plainB o n = true then o + n else 0
def mxI (x y : Int) : Int := if y > x then y else x
def mnI (x y : Int) : Int := if y < x then y else x
/-- do spans meet, and where? -/
def meetB (a an b bn : Int) : Bool := plainB a an && plainB b bn && decide (mxI a b < mnI (a + an) (b + bn))
def meetV (a an b bn : Int) : Value := if meetB a an b bn = true then spn (mxI a b) (mnI (a + an) (b + bn) - mxI a b) else spn 0 0

theorem plainB_in {o n : Int} (h : plainB o n = true) : 0 ≤ o ∧ o ≤ 1073741824 ∧ 0 ≤ n ∧ n ≤ 1073741824 := by
  simp only [plainB, withinB, Bool.and_eq_true, decide_eq_true_eq] at h
  omega

theorem within_ok (n : Int) (H : List Blk) : acall PP TT n_span_within [.int .i64 n] H = some (.bool (withinB n), H, none) := by
  rw [acall_eq, span_within.eq]
  by_cases h : 0 ≤ n
  · simp only [span_within.sh, mach, Nat.reduceAdd, Nat.reduceLeDiff, Int.reduceEq, Int.reduceLT, Int.reduceLE, h, withinB]
    exact fin_lit0 rfl rfl
  · simp only [span_within.sh, mach, Nat.reduceAdd, Nat.reduceLeDiff, Int.reduceEq, Int.reduceLT, Int.reduceLE, h, withinB, Bool.false_and]
    exact fin_lit0 rfl rfl

theorem plain_ok (o n : Int) (H : List Blk) : acall PP TT n_span_Plain [spn o n] H = some (.bool (plainB o n), H, none) := by
  rw [acall_eq, span_Plain.eq]
  cases h : withinB o with
  | true =>
    simp only [span_Plain.sh, mach, Nat.reduceAdd, Nat.reduceLeDiff, Int.reduceEq, Int.reduceLT, Int.reduceLE, fa_api_Span_0, fa_api_Span_1, within_ok, h, plainB]
    exact fin_lit rfl rfl rfl
  | false =>
    simp only [span_Plain.sh, mach, Nat.reduceAdd, Nat.reduceLeDiff, Int.reduceEq, Int.reduceLT, Int.reduceLE, fa_api_Span_0, fa_api_Span_1, within_ok, h, plainB, Bool.false_and]
    exact fin_lit rfl rfl rfl

theorem end_ok (o n : Int) (H : List Blk) : acall PP TT n_span_End [spn o n] H = some (.int .i64 (endI o n), H, none) := by
  rw [acall_eq, span_End.eq]
  cases h : plainB o n with
  | true =>
    have hp := plainB_in h
    have hw : IntKind.i64.wrap (o + n) = o + n := wrap_in ⟨by omega, by omega⟩
    simp only [span_End.sh, mach, Nat.reduceAdd, Nat.reduceLeDiff, Int.reduceEq, Int.reduceLT, Int.reduceLE, fa_api_Span_0, fa_api_Span_1, plain_ok, h, endI, hw]
    exact fin_lit rfl rfl rfl
  | false =>
    simp only [span_End.sh, mach, Nat.reduceAdd, Nat.reduceLeDiff, Int.reduceEq, Int.reduceLT, Int.reduceLE, fa_api_Span_0, fa_api_Span_1, plain_ok, h, endI]
    exact fin_lit rfl rfl rfl

theorem sfrom_ok (o n m : Int) (H : List Blk) : acall PP TT n_span_side_from [spn o n, .int .i64 m] H = some (.int .i64 (mxI o m), H, none) := by
  rw [acall_eq, span_side_from.eq]
  simp only [span_side_from.sh, mach, Nat.reduceAdd, Nat.reduceLeDiff, Int.reduceEq, Int.reduceLT, Int.reduceLE, fa_api_Span_0, fa_span_side_0]
  exact fin_lit rfl rfl rfl

theorem to_ok (o n m : Int) (H : List Blk) : acall PP TT n_span_side_to [spn o n, .int .i64 m] H = some (.int .i64 (mnI (endI o n) m), H, none) := by
  rw [acall_eq, span_side_to.eq]
  simp only [span_side_to.sh, mach, Nat.reduceAdd, Nat.reduceLeDiff, Int.reduceEq, Int.reduceLT, Int.reduceLE, fa_api_Span_0, fa_span_side_0, end_ok]
  exact fin_lit rfl rfl rfl

theorem bd_span0 : aBuild PP t_api_Span [] = some (spn 0 0) := by kernel_rfl
theorem bd_span2 (x y : Int) : aBuild PP t_api_Span [(0, .int .i64 x), (1, .int .i64 y)] = some (spn x y) := by kernel_rfl
theorem bd_side (x y : Int) : aBuild PP t_span_side [(0, spn x y)] = some (spn x y) := by kernel_rfl
theorem fn_from (x y : Value) : aFn PP (.func (.func n_span_side_from) #[x] #[]) [y] = some (n_span_side_from, [x, y]) := by kernel_rfl
theorem fn_to (x y : Value) : aFn PP (.func (.func n_span_side_to) #[x] #[]) [y] = some (n_span_side_to, [x, y]) := by kernel_rfl
theorem veq_spn (x y : Int) : veq (spn x y) (spn x y) = true := veq_agg _ rfl
theorem beq_st : ((some true : Option Bool) == some true) = true := rfl

theorem meet_ok (a an b bn : Int) (H : List Blk) : acall PP TT n_span_Meet [spn a an, spn b bn] H = some (.tuple #[meetV a an b bn, .bool (meetB a an b bn)], H, none) := by
  rw [acall_eq, span_Meet.eq]
  cases h1 : plainB a an with
  | false =>
    have hm : meetB a an b bn = false := by simp [meetB, h1]
    simp only [span_Meet.sh, span_Meet.j0, mach, Nat.reduceAdd, Nat.reduceLeDiff, Int.reduceEq, Int.reduceLT, Int.reduceLE, zg_api_Span, z_api_Span, fa_api_Span_0, fa_api_Span_1, plain_ok, h1, bd_span0, putCells_all, meetV, hm]
    exact fin_lit rfl rfl rfl
  | true =>
    cases h2 : plainB b bn with
    | false =>
      have hm : meetB a an b bn = false := by simp [meetB, h2]
      simp only [span_Meet.sh, span_Meet.j0, mach, Nat.reduceAdd, Nat.reduceLeDiff, Int.reduceEq, Int.reduceLT, Int.reduceLE, zg_api_Span, z_api_Span, fa_api_Span_0, fa_api_Span_1, plain_ok, h1, h2, bd_span0, putCells_all, meetV, hm]
      exact fin_lit rfl rfl rfl
    | true =>
      have p1 := plainB_in h1
      have p2 := plainB_in h2
      have e1 : endI a an = a + an := by simp [endI, h1]
      have e2 : endI b bn = b + bn := by simp [endI, h2]
      by_cases hc : mnI (a + an) (b + bn) ≤ mxI a b
      · have hm : meetB a an b bn = false := by
          have : ¬ mxI a b < mnI (a + an) (b + bn) := by omega
          simp [meetB, this]
        simp only [span_Meet.sh, span_Meet.j0, span_Meet.j1, mach, Nat.reduceAdd, Nat.reduceLeDiff, Int.reduceEq, Int.reduceLT, Int.reduceLE, zg_api_Span, z_api_Span, fa_api_Span_0, fa_api_Span_1, plain_ok, h1, h2, bd_span0, bd_side, fn_from, fn_to, sfrom_ok, to_ok, end_ok, e1, e2, veq_spn, beq_st, hc, putCells_all, meetV, hm]
        exact fin_lit rfl rfl rfl
      · have hm : meetB a an b bn = true := by
          have : mxI a b < mnI (a + an) (b + bn) := by omega
          simp [meetB, this, h1, h2]
        have hb : -1073741824 ≤ mnI (a + an) (b + bn) - mxI a b ∧ mnI (a + an) (b + bn) - mxI a b ≤ 2147483648 := by
          unfold mnI mxI; constructor <;> split <;> split <;> omega
        have hw : IntKind.i64.wrap (mnI (a + an) (b + bn) - mxI a b) = mnI (a + an) (b + bn) - mxI a b := wrap_in ⟨by omega, by omega⟩
        simp only [span_Meet.sh, span_Meet.j0, span_Meet.j1, mach, Nat.reduceAdd, Nat.reduceLeDiff, Int.reduceEq, Int.reduceLT, Int.reduceLE, zg_api_Span, z_api_Span, fa_api_Span_0, fa_api_Span_1, plain_ok, h1, h2, bd_span0, bd_span2, bd_side, fn_from, fn_to, sfrom_ok, to_ok, end_ok, e1, e2, veq_spn, beq_st, hc, putCells_all, meetV, hm, hw]
        exact fin_lit rfl rfl rfl

theorem overlap_ok (a an b bn : Int) (H : List Blk) : acall PP TT n_span_Overlap [spn a an, spn b bn] H = some (.bool (meetB a an b bn), H, none) := by
  rw [acall_eq, span_Overlap.eq]
  cases hm : meetB a an b bn with
  | true =>
    simp only [span_Overlap.sh, mach, Nat.reduceAdd, Nat.reduceLeDiff, Int.reduceEq, Int.reduceLT, Int.reduceLE, meet_ok, zg_api_Span, z_api_Span, meetV, hm, putCells_all]
    exact fin_lit rfl rfl rfl
  | false =>
    simp only [span_Overlap.sh, mach, Nat.reduceAdd, Nat.reduceLeDiff, Int.reduceEq, Int.reduceLT, Int.reduceLE, meet_ok, zg_api_Span, z_api_Span, meetV, hm, putCells_all]
    exact fin_lit rfl rfl rfl

/-! ### The document's -/

theorem rplain_ok (o n : Int) (H : List Blk) : acall PP TT n_twainref04_Plain [spn o n] H = some (.bool (plainB o n), H, none) := by
  rw [acall_eq, twainref04_Plain.eq]
  by_cases h1 : 0 ≤ o
  · by_cases h2 : o ≤ 1073741824
    · by_cases h3 : 0 ≤ n
      · simp only [twainref04_Plain.sh, mach, Nat.reduceAdd, Nat.reduceLeDiff, Int.reduceEq, Int.reduceLT, Int.reduceLE, fa_api_Span_0, fa_api_Span_1, plainB, withinB, h1, h2, h3]
        exact fin_lit rfl rfl rfl
      · simp only [twainref04_Plain.sh, mach, Nat.reduceAdd, Nat.reduceLeDiff, Int.reduceEq, Int.reduceLT, Int.reduceLE, fa_api_Span_0, fa_api_Span_1, plainB, withinB, h1, h2, h3, Bool.false_and]
        exact fin_lit rfl rfl rfl
    · simp only [twainref04_Plain.sh, mach, Nat.reduceAdd, Nat.reduceLeDiff, Int.reduceEq, Int.reduceLT, Int.reduceLE, fa_api_Span_0, fa_api_Span_1, plainB, withinB, h1, h2, Bool.false_and]
      exact fin_lit rfl rfl rfl
  · simp only [twainref04_Plain.sh, mach, Nat.reduceAdd, Nat.reduceLeDiff, Int.reduceEq, Int.reduceLT, Int.reduceLE, fa_api_Span_0, fa_api_Span_1, plainB, withinB, h1, Bool.false_and]
    exact fin_lit rfl rfl rfl

theorem rmeet_ok (a an b bn : Int) (H : List Blk) : acall PP TT n_twainref04_Meet [spn a an, spn b bn] H = some (.tuple #[meetV a an b bn, .bool (meetB a an b bn)], H, none) := by
  rw [acall_eq, twainref04_Meet.eq]
  cases h1 : plainB a an with
  | false =>
    have hm : meetB a an b bn = false := by simp [meetB, h1]
    simp only [twainref04_Meet.sh, twainref04_Meet.j0, mach, Nat.reduceAdd, Nat.reduceLeDiff, Int.reduceEq, Int.reduceLT, Int.reduceLE, zg_api_Span, z_api_Span, fa_api_Span_0, fa_api_Span_1, rplain_ok, h1, bd_span0, putCells_all, meetV, hm]
    exact fin_lit rfl rfl rfl
  | true =>
    cases h2 : plainB b bn with
    | false =>
      have hm : meetB a an b bn = false := by simp [meetB, h2]
      simp only [twainref04_Meet.sh, twainref04_Meet.j0, mach, Nat.reduceAdd, Nat.reduceLeDiff, Int.reduceEq, Int.reduceLT, Int.reduceLE, zg_api_Span, z_api_Span, fa_api_Span_0, fa_api_Span_1, rplain_ok, h1, h2, bd_span0, putCells_all, meetV, hm]
      exact fin_lit rfl rfl rfl
    | true =>
      have p1 := plainB_in h1
      have p2 := plainB_in h2
      have w1 : IntKind.i64.wrap (a + an) = a + an := wrap_in ⟨by omega, by omega⟩
      have w2 : IntKind.i64.wrap (b + bn) = b + bn := wrap_in ⟨by omega, by omega⟩
      have hb : -1073741824 ≤ mnI (a + an) (b + bn) - mxI a b ∧ mnI (a + an) (b + bn) - mxI a b ≤ 2147483648 := by
        unfold mnI mxI; constructor <;> split <;> split <;> omega
      have hw : IntKind.i64.wrap (mnI (a + an) (b + bn) - mxI a b) = mnI (a + an) (b + bn) - mxI a b := wrap_in ⟨by omega, by omega⟩
      -- the last of it
      have last : ∀ (f t : Int) (l : List Blk), f = mxI a b → t = mnI (a + an) (b + bn) → l = [Blk.cells [.int .i64 a, .int .i64 an] t_api_Span true, .cells [.int .i64 b, .int .i64 bn] t_api_Span true, .cells [.int .i64 0, .int .i64 0] t_api_Span true] →
          twainref04_Meet.j3 (acall PP TT) loopG H.length (.pointer (some ⟨H.length + 2, 0, none⟩)) (.int .i64 f) (.int .i64 t) ⟨H ++ l, none⟩ = some (.tuple #[meetV a an b bn, .bool (meetB a an b bn)], H, none) := by
        rintro f t l rfl rfl rfl
        by_cases hc : mnI (a + an) (b + bn) ≤ mxI a b
        · have hm : meetB a an b bn = false := by
            have : ¬ mxI a b < mnI (a + an) (b + bn) := by omega
            simp [meetB, this]
          simp only [twainref04_Meet.j3, mach, Nat.reduceAdd, Nat.reduceLeDiff, Int.reduceEq, Int.reduceLT, Int.reduceLE, hc, bd_span0, putCells_all, meetV, hm]
          exact fin_lit rfl rfl rfl
        · have hm : meetB a an b bn = true := by
            have : mxI a b < mnI (a + an) (b + bn) := by omega
            simp [meetB, this, h1, h2]
          simp only [twainref04_Meet.j3, mach, Nat.reduceAdd, Nat.reduceLeDiff, Int.reduceEq, Int.reduceLT, Int.reduceLE, hc, bd_span2, putCells_all, meetV, hm, hw]
          exact fin_lit rfl rfl rfl
      by_cases g1 : a < b
      · by_cases g2 : b + bn < a + an
        · simp only [twainref04_Meet.sh, twainref04_Meet.j0, twainref04_Meet.j1, twainref04_Meet.j2, mach, Nat.reduceAdd, Nat.reduceLeDiff, Int.reduceEq, Int.reduceLT, Int.reduceLE, zg_api_Span, z_api_Span, fa_api_Span_0, fa_api_Span_1, rplain_ok, h1, h2, w1, w2, g1, g2]
          exact last _ _ _ (by simp [mxI, g1]) (by simp [mnI, g2]) rfl
        · simp only [twainref04_Meet.sh, twainref04_Meet.j0, twainref04_Meet.j1, twainref04_Meet.j2, mach, Nat.reduceAdd, Nat.reduceLeDiff, Int.reduceEq, Int.reduceLT, Int.reduceLE, zg_api_Span, z_api_Span, fa_api_Span_0, fa_api_Span_1, rplain_ok, h1, h2, w1, w2, g1, g2]
          exact last _ _ _ (by simp [mxI, g1]) (by simp [mnI, g2]) rfl
      · by_cases g2 : b + bn < a + an
        · simp only [twainref04_Meet.sh, twainref04_Meet.j0, twainref04_Meet.j1, twainref04_Meet.j2, mach, Nat.reduceAdd, Nat.reduceLeDiff, Int.reduceEq, Int.reduceLT, Int.reduceLE, zg_api_Span, z_api_Span, fa_api_Span_0, fa_api_Span_1, rplain_ok, h1, h2, w1, w2, g1, g2]
          exact last _ _ _ (by simp [mxI, g1]) (by simp [mnI, g2]) rfl
        · simp only [twainref04_Meet.sh, twainref04_Meet.j0, twainref04_Meet.j1, twainref04_Meet.j2, mach, Nat.reduceAdd, Nat.reduceLeDiff, Int.reduceEq, Int.reduceLT, Int.reduceLE, zg_api_Span, z_api_Span, fa_api_Span_0, fa_api_Span_1, rplain_ok, h1, h2, w1, w2, g1, g2]
          exact last _ _ _ (by simp [mxI, g1]) (by simp [mnI, g2]) rfl

theorem roverlap_ok (a an b bn : Int) (H : List Blk) : acall PP TT n_twainref04_Overlap [spn a an, spn b bn] H = some (.bool (meetB a an b bn), H, none) := by
  rw [acall_eq, twainref04_Overlap.eq]
  cases hm : meetB a an b bn with
  | true =>
    simp only [twainref04_Overlap.sh, mach, Nat.reduceAdd, Nat.reduceLeDiff, Int.reduceEq, Int.reduceLT, Int.reduceLE, rmeet_ok, zg_api_Span, z_api_Span, meetV, hm, putCells_all]
    exact fin_lit rfl rfl rfl
  | false =>
    simp only [twainref04_Overlap.sh, mach, Nat.reduceAdd, Nat.reduceLeDiff, Int.reduceEq, Int.reduceLT, Int.reduceLE, rmeet_ok, zg_api_Span, z_api_Span, meetV, hm, putCells_all]
    exact fin_lit rfl rfl rfl

end Go.Proofs.Ytgpfiiebfhdjhaa

end
