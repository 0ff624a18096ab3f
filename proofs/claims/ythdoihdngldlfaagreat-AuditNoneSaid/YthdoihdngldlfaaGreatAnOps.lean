/- A part of the proof: AnOps, An1. Its conditions: none. -/
import Derived.Test.YthdoihdngldlfaaGreatAm23
import Derived.Test.YthdoihdngldlfaaGreatAnSh
set_option linter.all false
set_option linter.unusedVariables false
set_option linter.unusedSimpArgs false
set_option linter.unnecessarySimpa false
section
namespace Go.Proofs.YthdoihdngldlfaaGreat
open Go Go.Am
theorem u_bool : PP.underlying t_bool = some .bool := by kernel_rfl
theorem sz_bool : sizeP PP t_bool = some 1 := by kernel_rfl
theorem by_bool : bytesP PP t_bool = some 1 := by kernel_rfl
theorem zg_bool : (zeroP PP t_bool).getD unk = .bool false := by kernel_rfl
theorem zv_bool : zeroP PP t_bool = some (.bool false) := by kernel_rfl
theorem u_int : PP.underlying t_int = some (.int .i64) := by kernel_rfl
theorem sz_int : sizeP PP t_int = some 1 := by kernel_rfl
theorem by_int : bytesP PP t_int = some 8 := by kernel_rfl
theorem zg_int : (zeroP PP t_int).getD unk = .int .i64 0 := by kernel_rfl
theorem zv_int : zeroP PP t_int = some (.int .i64 0) := by kernel_rfl
theorem sz_world_World : sizeP PP t_world_World = some 13 := by kernel_rfl
theorem by_world_World : bytesP PP t_world_World = some 120 := by kernel_rfl
def z_world_World : List Value := [.int .i64 0, .int .i64 0, .int .i64 0, .int .i64 0, .int .i64 0, .pointer none, .pointer none, .int .u64 0, .pointer none, .pointer none, .int .u64 0, .pointer none, .slice none 0 0]
theorem zg_world_World : (zeroP PP t_world_World).getD unk = .agg z_world_World.toArray := by kernel_rfl
theorem zv_world_World : zeroP PP t_world_World = some (.agg z_world_World.toArray) := by kernel_rfl
theorem zl_world_World : z_world_World.length = 13 := by kernel_rfl
theorem za_world_World : allCells z_world_World = true := by kernel_rfl
noncomputable def fs_world_World : Array Field := match PP.underlying t_world_World with | some (.struct fs) => fs | _ => #[]
theorem us_world_World : PP.underlying t_world_World = some (.struct fs_world_World) := by kernel_rfl
theorem ty_world_World : fs_world_World.toList.map (·.type) = [t_api_Config, t_A2_world_side, t_P_net_Net, t_L_world_Event] := by kernel_rfl
theorem fa_world_World_0 (b o : Nat) : aFieldAddr PP t_world_World (.pointer (some ⟨b, o, none⟩)) 0 = some (.pointer (some ⟨b, o, none⟩)) := by kernel_rfl
theorem ft_world_World_0 (off : Nat) (row : Array Value) : aFieldAddr PP t_world_World (tPtr off row) 0 = some (tPtr (off) row) := by kernel_rfl
theorem fa_world_World_1 (b o : Nat) : aFieldAddr PP t_world_World (.pointer (some ⟨b, o, none⟩)) 1 = some (.pointer (some ⟨b, o + 5, none⟩)) := by kernel_rfl
theorem ft_world_World_1 (off : Nat) (row : Array Value) : aFieldAddr PP t_world_World (tPtr off row) 1 = some (tPtr (off + 5) row) := by kernel_rfl
theorem fa_world_World_2 (b o : Nat) : aFieldAddr PP t_world_World (.pointer (some ⟨b, o, none⟩)) 2 = some (.pointer (some ⟨b, o + 11, none⟩)) := by kernel_rfl
theorem ft_world_World_2 (off : Nat) (row : Array Value) : aFieldAddr PP t_world_World (tPtr off row) 2 = some (tPtr (off + 11) row) := by kernel_rfl
theorem fa_world_World_3 (b o : Nat) : aFieldAddr PP t_world_World (.pointer (some ⟨b, o, none⟩)) 3 = some (.pointer (some ⟨b, o + 12, none⟩)) := by kernel_rfl
theorem ft_world_World_3 (off : Nat) (row : Array Value) : aFieldAddr PP t_world_World (tPtr off row) 3 = some (tPtr (off + 12) row) := by kernel_rfl
theorem u_L_P_world_World : PP.underlying t_L_P_world_World = some (.slice t_P_world_World) := by kernel_rfl
theorem sz_L_P_world_World : sizeP PP t_L_P_world_World = some 1 := by kernel_rfl
theorem by_L_P_world_World : bytesP PP t_L_P_world_World = some 24 := by kernel_rfl
theorem zg_L_P_world_World : (zeroP PP t_L_P_world_World).getD unk = .slice none 0 0 := by kernel_rfl
theorem zv_L_P_world_World : zeroP PP t_L_P_world_World = some (.slice none 0 0) := by kernel_rfl
theorem el_L_P_world_World : ElemT PP t_L_P_world_World t_P_world_World 1 := ⟨u_L_P_world_World, by kernel_rfl, by decide, ⟨.pointer none, 8, by kernel_rfl, by kernel_rfl, by kernel_rfl, by decide, by decide⟩⟩
theorem u_api_Sector : PP.underlying t_api_Sector = some (.array 16 t_uint8) := by kernel_rfl
theorem sz_api_Sector : sizeP PP t_api_Sector = some 16 := by kernel_rfl
theorem by_api_Sector : bytesP PP t_api_Sector = some 16 := by kernel_rfl
def z_api_Sector : List Value := [.int .u8 0, .int .u8 0, .int .u8 0, .int .u8 0, .int .u8 0, .int .u8 0, .int .u8 0, .int .u8 0, .int .u8 0, .int .u8 0, .int .u8 0, .int .u8 0, .int .u8 0, .int .u8 0, .int .u8 0, .int .u8 0]
theorem zg_api_Sector : (zeroP PP t_api_Sector).getD unk = .agg z_api_Sector.toArray := by kernel_rfl
theorem zv_api_Sector : zeroP PP t_api_Sector = some (.agg z_api_Sector.toArray) := by kernel_rfl
theorem zl_api_Sector : z_api_Sector.length = 16 := by kernel_rfl
theorem za_api_Sector : allCells z_api_Sector = true := by kernel_rfl
theorem u_api_Errno : PP.underlying t_api_Errno = some (.int .i64) := by kernel_rfl
theorem sz_api_Errno : sizeP PP t_api_Errno = some 1 := by kernel_rfl
theorem by_api_Errno : bytesP PP t_api_Errno = some 8 := by kernel_rfl
theorem zg_api_Errno : (zeroP PP t_api_Errno).getD unk = .int .i64 0 := by kernel_rfl
theorem zv_api_Errno : zeroP PP t_api_Errno = some (.int .i64 0) := by kernel_rfl
end Go.Proofs.YthdoihdngldlfaaGreat

end
section
namespace Go.Proofs.YthdoihdngldlfaaGreat
open Go Go.Am
set_option linter.unusedVariables false
namespace AN
abbrev HW : List Blk := [.cells [.pointer none, .pointer (some ⟨1, 0, none⟩)] t_P_world_World true, .cells z_world_World t_world_World true]
theorem c0 : callF PP TT 30 n_audit_Check [.pointer none] HW = some (.int .i64 1, HW, none) := by kernel_rfl
theorem c1 : callF PP TT 30 n_audit_Check [.pointer (some ⟨1, 0, none⟩)] HW = some (.int .i64 1, HW, none) := by kernel_rfl
theorem a0 : callF PP TT 30 n_audit_Alike [.pointer none] HW = some (.bool true, HW, none) := by kernel_rfl
theorem a1 : callF PP TT 30 n_audit_Alike [.pointer (some ⟨1, 0, none⟩)] HW = some (.bool true, HW, none) := by kernel_rfl
theorem o0 (s : Int) : callF PP TT 30 n_history_Ops [.slice none 0 0, .int .i64 s] HW = some (tSl 0 [], HW, none) := by kernel_rfl
theorem r0 : callF PP TT 30 n_register_Right [tSl 0 [], .agg z_api_Sector.toArray] HW = some (.tuple #[.bool true, .int .i64 0], HW, none) := by kernel_rfl
theorem bw : aBuild PP t_world_World [] = some (.agg z_world_World.toArray) := by kernel_rfl
theorem bs : aBuild PP t_api_Sector [] = some (.agg z_api_Sector.toArray) := by kernel_rfl
theorem pr0 (ox oy : Operand) : aBin PP .eql t_api_Errno ox oy (.int .i64 0) (.int .i64 0) = some (.bool true) := by kernel_rfl
theorem ex0 : pureRun PP (Instr.extract (.tuple #[.bool true, .int .i64 0]) 0) = some (.bool true) := by kernel_rfl
theorem ex1 : pureRun PP (Instr.extract (.tuple #[.bool true, .int .i64 0]) 1) = some (.int .i64 0) := by kernel_rfl

/-- no sector has a history -/
theorem linear_ok (n : Int) : acall PP TT n_audit_Linear [.slice none 0 0, .int .i64 n] HW = some (.bool true, HW, none) := by
  have ho := fun s => acall_of_callF 30 (o0 s)
  have hr := acall_of_callF 30 r0
  obtain ⟨m, hm, hlm⟩ : ∃ m : Int, (if 256 < n then (256 : Int) else n) = m ∧ m ≤ 256 := ⟨_, rfl, by split <;> omega⟩
  obtain ⟨q, hlp, hq⟩ := loop_r (n0 := HW.length) (step := audit_Linear.loop2s (acall PP TT) loopG HW.length) (len := m.toNat) (σ := Unit)
    (fun k _ => ([.slice none 0 0, .int .i64 m, .int .i64 k], ⟨HW, none⟩)) (fun k _ => True) (fun q => q = (.exit 0, [unk], ⟨HW, none⟩))
    (fun k _ hk _ => by
      right
      have hlt : (k : Int) < m := by omega
      have hw : IntKind.i64.wrap ((k : Int) + 1) = ((k + 1 : Nat) : Int) := by rw [IntKind.wrap_i64]; omega
      refine ⟨_, _, (), ?_, gc_same (by simp), trivial⟩
      simp only [audit_Linear.loop2s, audit_Linear.loop2, audit_Linear.j1, audit_Linear.j2, mach, Nat.reduceAdd, Nat.reduceLeDiff, Int.reduceEq, Int.reduceLT, Int.reduceLE, hlt, ho, bs, hr, ex0, ex1, pr0, hw])
    (fun _ _ => by
      have hlt : ¬ ((m.toNat : Nat) : Int) < m := by omega
      refine ⟨_, ?_, rfl⟩
      simp only [audit_Linear.loop2s, audit_Linear.loop2, mach, Nat.reduceAdd, Nat.reduceLeDiff, Int.reduceEq, Int.reduceLT, Int.reduceLE, hlt]) m.toNat 0 () [.slice none 0 0, .int .i64 m, .int .i64 0] ⟨HW, none⟩ (by omega) trivial (gc_same (by simp))
  subst hq
  rw [show HW.length = 2 from rfl] at hlp
  rw [acall_eq, audit_Linear.eq]
  simp only [audit_Linear.sh, mach, Nat.reduceAdd, Nat.reduceLeDiff, Int.reduceEq, Int.reduceLT, Int.reduceLE, min_int]
  rw [show (if (256 : Int) < n then (256 : Int) else n) = m from hm, hlp]
  simp only [audit_Linear.j4, mach, Nat.reduceAdd, Nat.reduceLeDiff, Int.reduceEq, Int.reduceLT, Int.reduceLE]
  exact fin_lit0 (P := PP) (H0 := HW) (vs := [.bool true]) rfl rfl

abbrev fr (n : Int) (i : Int) : List Value := [.int .i64 n, .slice (some ⟨0, 0, none⟩) 2 2, .int .i64 2, .int .i64 i]
theorem audit_law (n : Int) : saysTrue (acall PP TT n_twainlaw39_AuditNone [.int .i64 n] []) = true := by
  have k0 := acall_of_callF 30 c0
  have k1 := acall_of_callF 30 c1
  have k2 := acall_of_callF 30 a0
  have k3 := acall_of_callF 30 a1
  have g0 : gc 0 [.int .i64 n, .slice (some ⟨1, 0, none⟩) 2 2, .int .i64 2, .int .i64 0] ⟨[.cells z_world_World t_world_World true, .cells [.pointer none, .pointer (some ⟨0, 0, none⟩)] t_P_world_World true], none⟩ = (fr n 0, ⟨HW, none⟩) := by kernel_rfl
  have g1 : gc 0 (fr n 1) ⟨HW, none⟩ = (fr n 1, ⟨HW, none⟩) := by kernel_rfl
  have g2 : gc 0 (fr n 2) ⟨HW, none⟩ = (fr n 2, ⟨HW, none⟩) := by kernel_rfl
  have b0 : bsl PP t_L_P_world_World 2 [0, 1] [.pointer none, .pointer (some ⟨0, 0, none⟩)] ⟨[.cells z_world_World t_world_World true], none⟩ = some (.slice (some ⟨1, 0, none⟩) 2 2, ⟨[.cells z_world_World t_world_World true, .cells [.pointer none, .pointer (some ⟨0, 0, none⟩)] t_P_world_World true], none⟩) := by kernel_rfl
  have x0 : aIndexAddr PP t_L_P_world_World (.slice (some ⟨0, 0, none⟩) 2 2) (.int .i64 0) = some (.pointer (some ⟨0, 0, none⟩)) := by kernel_rfl
  have x1 : aIndexAddr PP t_L_P_world_World (.slice (some ⟨0, 0, none⟩) 2 2) (.int .i64 1) = some (.pointer (some ⟨0, 1, none⟩)) := by kernel_rfl
  have ln : ∀ st, aLen PP t_L_P_world_World (.slice (some ⟨1, 0, none⟩) 2 2) st = some (.int .i64 2) := fun st => sl_len u_L_P_world_World
  have w1 : IntKind.i64.wrap (0 + 1) = 1 := by decide
  have w2 : IntKind.i64.wrap (1 + 1) = 2 := by decide
  have s0 : twainlaw39_AuditNone.loop3s (acall PP TT) loopG 0 (fr n 0, ⟨HW, none⟩) = some (.inl (fr n 1, ⟨HW, none⟩)) := by
    simp only [twainlaw39_AuditNone.loop3s, twainlaw39_AuditNone.loop3, twainlaw39_AuditNone.j1, twainlaw39_AuditNone.j2, mach, Nat.reduceAdd, Nat.reduceLeDiff, Int.reduceEq, Int.reduceLT, Int.reduceLE, x0, cellAt, k0, k2, w1]
  have s1 : twainlaw39_AuditNone.loop3s (acall PP TT) loopG 0 (fr n 1, ⟨HW, none⟩) = some (.inl (fr n 2, ⟨HW, none⟩)) := by
    simp only [twainlaw39_AuditNone.loop3s, twainlaw39_AuditNone.loop3, twainlaw39_AuditNone.j1, twainlaw39_AuditNone.j2, mach, Nat.reduceAdd, Nat.reduceLeDiff, Int.reduceEq, Int.reduceLT, Int.reduceLE, x1, cellAt, k1, k3, w2]
  have s2 : twainlaw39_AuditNone.loop3s (acall PP TT) loopG 0 (fr n 2, ⟨HW, none⟩) = some (.inr (.exit 0, [.int .i64 n, unk], ⟨HW, none⟩)) := by
    simp only [twainlaw39_AuditNone.loop3s, twainlaw39_AuditNone.loop3, mach, Nat.reduceAdd, Nat.reduceLeDiff, Int.reduceEq, Int.reduceLT, Int.reduceLE, Int.lt_irrefl]
  have hl : loopG 0 (twainlaw39_AuditNone.loop3s (acall PP TT) loopG 0) ([.int .i64 n, .slice (some ⟨1, 0, none⟩) 2 2, .int .i64 2, .int .i64 0], ⟨[.cells z_world_World t_world_World true, .cells [.pointer none, .pointer (some ⟨0, 0, none⟩)] t_P_world_World true], none⟩) = some (.exit 0, [.int .i64 n, unk], ⟨HW, none⟩) := by
    rw [loopG_eq, g0, s0]
    simp only [Option.bind_some]
    rw [loopG_eq, g1, s1]
    simp only [Option.bind_some]
    rw [loopG_eq, g2, s2]
    rfl
  rw [acall_eq, twainlaw39_AuditNone.eq]
  simp only [twainlaw39_AuditNone.sh, mach, Nat.reduceAdd, Nat.reduceLeDiff, Int.reduceEq, Int.reduceLT, Int.reduceLE, bw, za_world_World, b0, ln]
  rw [hl]
  simp only [twainlaw39_AuditNone.j4, mach, Nat.reduceAdd, Nat.reduceLeDiff, Int.reduceEq, Int.reduceLT, Int.reduceLE, linear_ok, twainlaw39_lives.eq]
  unfold fin endFrz
  simp only [Bool.false_eq_true, if_false, frzL, frz_noSl 0 8 (.bool true) HW rfl]
  rw [gc_vals _ _ _ rfl]
  rfl
end AN
end Go.Proofs.YthdoihdngldlfaaGreat

end
