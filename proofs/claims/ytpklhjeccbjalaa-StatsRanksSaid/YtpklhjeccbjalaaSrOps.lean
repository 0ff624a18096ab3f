/- A part of the proof: SrOps. Its conditions: none. -/
import Derived.Test.YtpklhjeccbjalaaAm23
import Derived.Test.YtpklhjeccbjalaaSrSh
set_option linter.all false
set_option linter.unusedVariables false
set_option linter.unusedSimpArgs false
set_option linter.unnecessarySimpa false
namespace Go.Proofs.Ytpklhjeccbjalaa
open Go Go.Am
theorem u_bool : PP.underlying t_bool = some .bool := by kernel_rfl
theorem sz_bool : sizeP PP t_bool = some 1 := by kernel_rfl
theorem by_bool : bytesP PP t_bool = some 1 := by kernel_rfl
theorem zg_bool : (zeroP PP t_bool).getD unk = .bool false := by kernel_rfl
theorem zv_bool : zeroP PP t_bool = some (.bool false) := by kernel_rfl
theorem u_int : PP.underlying t_int = some (.int .i64) := by kernel_rfl
theorem sz_int : sizeP PP t_int = some 1 := by kernel_rfl
theorem by_int : bytesP PP t_int = some 8 := by kernel_rfl
theorem zg_int : (zeroP PP t_int).getD unk = .int .i64 0 := by kernel_rfl
theorem zv_int : zeroP PP t_int = some (.int .i64 0) := by kernel_rfl
theorem u_L_int : PP.underlying t_L_int = some (.slice t_int) := by kernel_rfl
theorem sz_L_int : sizeP PP t_L_int = some 1 := by kernel_rfl
theorem by_L_int : bytesP PP t_L_int = some 24 := by kernel_rfl
theorem zg_L_int : (zeroP PP t_L_int).getD unk = .slice none 0 0 := by kernel_rfl
theorem zv_L_int : zeroP PP t_L_int = some (.slice none 0 0) := by kernel_rfl
theorem el_L_int : ElemT PP t_L_int t_int 1 := ⟨u_L_int, by kernel_rfl, by decide, ⟨.int .i64 0, 8, by kernel_rfl, by kernel_rfl, by kernel_rfl, by decide, by decide⟩⟩
theorem sz_twainlaw47_Case : sizeP PP t_twainlaw47_Case = some 4 := by kernel_rfl
theorem by_twainlaw47_Case : bytesP PP t_twainlaw47_Case = some 32 := by kernel_rfl
def z_twainlaw47_Case : List Value := [.int .i64 0, .int .i64 0, .int .i64 0, .int .i64 0]
theorem zg_twainlaw47_Case : (zeroP PP t_twainlaw47_Case).getD unk = .agg z_twainlaw47_Case.toArray := by kernel_rfl
theorem zv_twainlaw47_Case : zeroP PP t_twainlaw47_Case = some (.agg z_twainlaw47_Case.toArray) := by kernel_rfl
theorem zl_twainlaw47_Case : z_twainlaw47_Case.length = 4 := by kernel_rfl
theorem za_twainlaw47_Case : allCells z_twainlaw47_Case = true := by kernel_rfl
noncomputable def fs_twainlaw47_Case : Array Field := match PP.underlying t_twainlaw47_Case with | some (.struct fs) => fs | _ => #[]
theorem us_twainlaw47_Case : PP.underlying t_twainlaw47_Case = some (.struct fs_twainlaw47_Case) := by kernel_rfl
theorem ty_twainlaw47_Case : fs_twainlaw47_Case.toList.map (·.type) = [t_int, t_int, t_int, t_int] := by kernel_rfl
theorem fa_twainlaw47_Case_0 (b o : Nat) : aFieldAddr PP t_twainlaw47_Case (.pointer (some ⟨b, o, none⟩)) 0 = some (.pointer (some ⟨b, o, none⟩)) := by kernel_rfl
theorem ft_twainlaw47_Case_0 (off : Nat) (row : Array Value) : aFieldAddr PP t_twainlaw47_Case (tPtr off row) 0 = some (tPtr (off) row) := by kernel_rfl
theorem fa_twainlaw47_Case_1 (b o : Nat) : aFieldAddr PP t_twainlaw47_Case (.pointer (some ⟨b, o, none⟩)) 1 = some (.pointer (some ⟨b, o + 1, none⟩)) := by kernel_rfl
theorem ft_twainlaw47_Case_1 (off : Nat) (row : Array Value) : aFieldAddr PP t_twainlaw47_Case (tPtr off row) 1 = some (tPtr (off + 1) row) := by kernel_rfl
theorem fa_twainlaw47_Case_2 (b o : Nat) : aFieldAddr PP t_twainlaw47_Case (.pointer (some ⟨b, o, none⟩)) 2 = some (.pointer (some ⟨b, o + 2, none⟩)) := by kernel_rfl
theorem ft_twainlaw47_Case_2 (off : Nat) (row : Array Value) : aFieldAddr PP t_twainlaw47_Case (tPtr off row) 2 = some (tPtr (off + 2) row) := by kernel_rfl
theorem fa_twainlaw47_Case_3 (b o : Nat) : aFieldAddr PP t_twainlaw47_Case (.pointer (some ⟨b, o, none⟩)) 3 = some (.pointer (some ⟨b, o + 3, none⟩)) := by kernel_rfl
theorem ft_twainlaw47_Case_3 (off : Nat) (row : Array Value) : aFieldAddr PP t_twainlaw47_Case (tPtr off row) 3 = some (tPtr (off + 3) row) := by kernel_rfl
end Go.Proofs.Ytpklhjeccbjalaa
