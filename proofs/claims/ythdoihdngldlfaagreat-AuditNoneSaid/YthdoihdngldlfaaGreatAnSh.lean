/- A part of the proof: AnSh. Its conditions: none. -/
import Derived.Test.YthdoihdngldlfaaGreatAnShD
set_option linter.all false
set_option linter.unusedVariables false
set_option linter.unusedSimpArgs false
set_option linter.unnecessarySimpa false
namespace Go.Proofs.YthdoihdngldlfaaGreat
open Go Go.Am
set_option linter.unusedVariables false
def TT : FuncId → Tab := fun f => if f = n_twainlaw39_AuditNone then twainlaw39_AuditNone.T else if f = n_audit_Check then audit_Check.T else if f = n_audit_Alike then audit_Alike.T else if f = n_audit_Linear then audit_Linear.T else if f = n_register_Right then register_Right.T else if f = n_history_Ops then history_Ops.T else if f = n_twainlaw39_lives then twainlaw39_lives.T else ⟨fun _ => none, fun _ => none, false, fun _ => none, fun _ => false, false, false, fun _ => false, 0⟩
def TT1 : FuncId → Tab := fun f => { TT f with lives := false }
theorem twainlaw39_AuditNone.eq (C : Am.Callee) (L : Loops) (t0 : Value) (H : List Blk) : ebody PP TT C L n_twainlaw39_AuditNone [t0] H = twainlaw39_AuditNone.sh C L H.length t0 ⟨H, none⟩ := by kernel_rfl
theorem audit_Check.eq (C : Am.Callee) (L : Loops) (t0 : Value) (H : List Blk) : ebody PP TT C L n_audit_Check [t0] H = audit_Check.sh C L H.length t0 ⟨H, none⟩ := by kernel_rfl
theorem audit_Alike.eq (C : Am.Callee) (L : Loops) (t0 : Value) (H : List Blk) : ebody PP TT C L n_audit_Alike [t0] H = audit_Alike.sh C L H.length t0 ⟨H, none⟩ := by kernel_rfl
theorem audit_Linear.eq (C : Am.Callee) (L : Loops) (t0 t1 : Value) (H : List Blk) : ebody PP TT C L n_audit_Linear [t0, t1] H = audit_Linear.sh C L H.length t0 t1 ⟨H, none⟩ := by kernel_rfl
theorem register_Right.eq (C : Am.Callee) (L : Loops) (t0 t1 : Value) (H : List Blk) : ebody PP TT C L n_register_Right [t0, t1] H = register_Right.sh C L H.length t0 t1 ⟨H, none⟩ := by kernel_rfl
theorem history_Ops.eq (C : Am.Callee) (L : Loops) (t0 t1 : Value) (H : List Blk) : ebody PP TT C L n_history_Ops [t0, t1] H = history_Ops.sh C L H.length t0 t1 ⟨H, none⟩ := by kernel_rfl
theorem twainlaw39_lives.eq (H : List Blk) : acall PP TT n_twainlaw39_lives [] H = some (.bool true, H, none) := by rw [acall_eq]; kernel_rfl
theorem twainlaw39_lives.lives : Lives PP n_twainlaw39_lives := lives_of (T := TT1) (fun _ => rfl) (n := 40) (by kernel_rfl)
theorem TT_lives : ∀ f, (TT f).lives = true → Lives PP f := by
  intro f h
  unfold TT at h
  by_cases h3 : f = n_twainlaw39_AuditNone
  · subst h3; simp [twainlaw39_AuditNone.T] at h
  simp only [h3, if_false] at h
  by_cases h8 : f = n_audit_Check
  · subst h8; simp [audit_Check.T] at h
  simp only [h8, if_false] at h
  by_cases h9 : f = n_audit_Alike
  · subst h9; simp [audit_Alike.T] at h
  simp only [h9, if_false] at h
  by_cases h10 : f = n_audit_Linear
  · subst h10; simp [audit_Linear.T] at h
  simp only [h10, if_false] at h
  by_cases h57 : f = n_register_Right
  · subst h57; simp [register_Right.T] at h
  simp only [h57, if_false] at h
  by_cases h58 : f = n_history_Ops
  · subst h58; simp [history_Ops.T] at h
  simp only [h58, if_false] at h
  by_cases h11 : f = n_twainlaw39_lives
  · subst h11; exact twainlaw39_lives.lives
  simp only [h11, if_false] at h
  simp at h
end Go.Proofs.YthdoihdngldlfaaGreat
