/- A part of the proof: StSh. Its conditions: none. -/
import Derived.Test.YtpklhjeccbjalaaStShD
set_option linter.all false
set_option linter.unusedVariables false
set_option linter.unusedSimpArgs false
set_option linter.unnecessarySimpa false
namespace Go.Proofs.Ytpklhjeccbjalaa
open Go Go.Am
set_option linter.unusedVariables false
def TT : FuncId → Tab := fun f => if f = n_twainlaw47_StatsWaits then twainlaw47_StatsWaits.T else if f = n_twainlaw47_lives then twainlaw47_lives.T else if f = n_twainref01_Ints then twainref01_Ints.T else if f = n_twainlaw36_Few then twainlaw36_Few.T else if f = n_twainlaw36_Raw then twainlaw36_Raw.T else if f = n_stats_Waits then stats_Waits.T else if f = n_twainref47_Waits then twainref47_Waits.T else if f = n_stats_Most then stats_Most.T else if f = n_twainref47_Most then twainref47_Most.T else if f = n_stats_pairs then stats_pairs.T else if f = n_twainref47_end then twainref47_end.T else if f = n_stats_Most_1 then stats_Most_1.T else if f = n_twainref47_in then twainref47_in.T else if f = n_twainref36_Open then twainref36_Open.T else if f = n_twainref36_ended then twainref36_ended.T else if f = n_twainref36_asked then twainref36_asked.T else ⟨fun _ => none, fun _ => none, false, fun _ => none, fun _ => false, false, false, fun _ => false, 0, false⟩
def TT1 : FuncId → Tab := fun f => { TT f with lives := false }
theorem twainlaw47_StatsWaits.eq (C : Am.Callee) (L : Loops) (t0 : Value) (H : List Blk) : ebody PP TT C L n_twainlaw47_StatsWaits [t0] H = twainlaw47_StatsWaits.sh C L H.length t0 ⟨H, none⟩ := by kernel_rfl
theorem twainlaw47_lives.eq (H : List Blk) : acall PP TT n_twainlaw47_lives [] H = some (.bool true, H, none) := by rw [acall_eq]; kernel_rfl
theorem twainlaw47_lives.lives : Lives PP n_twainlaw47_lives := lives_of (T := TT1) (fun _ => rfl) (n := 40) (by kernel_rfl)
theorem twainref01_Ints.eq (C : Am.Callee) (L : Loops) (t0 t1 : Value) (H : List Blk) : ebody PP TT C L n_twainref01_Ints [t0, t1] H = twainref01_Ints.sh C L H.length t0 t1 ⟨H, none⟩ := by kernel_rfl
theorem twainlaw36_Few.eq (C : Am.Callee) (L : Loops) (t0 : Value) (H : List Blk) : ebody PP TT C L n_twainlaw36_Few [t0] H = twainlaw36_Few.sh C L H.length t0 ⟨H, none⟩ := by kernel_rfl
theorem twainlaw36_Raw.eq (C : Am.Callee) (L : Loops) (t0 : Value) (H : List Blk) : ebody PP TT C L n_twainlaw36_Raw [t0] H = twainlaw36_Raw.sh C L H.length t0 ⟨H, none⟩ := by kernel_rfl
theorem stats_Waits.eq (C : Am.Callee) (L : Loops) (t0 : Value) (H : List Blk) : ebody PP TT C L n_stats_Waits [t0] H = stats_Waits.sh C L H.length t0 ⟨H, none⟩ := by kernel_rfl
theorem twainref47_Waits.eq (C : Am.Callee) (L : Loops) (t0 : Value) (H : List Blk) : ebody PP TT C L n_twainref47_Waits [t0] H = twainref47_Waits.sh C L H.length t0 ⟨H, none⟩ := by kernel_rfl
theorem stats_Most.eq (C : Am.Callee) (L : Loops) (t0 : Value) (H : List Blk) : ebody PP TT C L n_stats_Most [t0] H = stats_Most.sh C L H.length t0 ⟨H, none⟩ := by kernel_rfl
theorem twainref47_Most.eq (C : Am.Callee) (L : Loops) (t0 : Value) (H : List Blk) : ebody PP TT C L n_twainref47_Most [t0] H = twainref47_Most.sh C L H.length t0 ⟨H, none⟩ := by kernel_rfl
theorem stats_pairs.eq (C : Am.Callee) (L : Loops) (t0 : Value) (H : List Blk) : ebody PP TT C L n_stats_pairs [t0] H = stats_pairs.sh C L H.length t0 ⟨H, none⟩ := by kernel_rfl
theorem twainref47_end.eq (C : Am.Callee) (L : Loops) (t0 t1 : Value) (H : List Blk) : ebody PP TT C L n_twainref47_end [t0, t1] H = twainref47_end.sh C L H.length t0 t1 ⟨H, none⟩ := by kernel_rfl
theorem stats_Most_1.eq (C : Am.Callee) (L : Loops) (t0 t1 t2 : Value) (H : List Blk) : ebody PP TT C L n_stats_Most_1 [t0, t1, t2] H = stats_Most_1.sh C L H.length t0 t1 t2 ⟨H, none⟩ := by kernel_rfl
theorem twainref47_in.eq (C : Am.Callee) (L : Loops) (t0 t1 : Value) (H : List Blk) : ebody PP TT C L n_twainref47_in [t0, t1] H = twainref47_in.sh C L H.length t0 t1 ⟨H, none⟩ := by kernel_rfl
theorem twainref36_Open.eq (C : Am.Callee) (L : Loops) (t0 : Value) (H : List Blk) : ebody PP TT C L n_twainref36_Open [t0] H = twainref36_Open.sh C L H.length t0 ⟨H, none⟩ := by kernel_rfl
theorem twainref36_ended.eq (C : Am.Callee) (L : Loops) (t0 t1 : Value) (H : List Blk) : ebody PP TT C L n_twainref36_ended [t0, t1] H = twainref36_ended.sh C L H.length t0 t1 ⟨H, none⟩ := by kernel_rfl
theorem twainref36_asked.eq (C : Am.Callee) (L : Loops) (t0 t1 : Value) (H : List Blk) : ebody PP TT C L n_twainref36_asked [t0, t1] H = twainref36_asked.sh C L H.length t0 t1 ⟨H, none⟩ := by kernel_rfl
theorem TT_lives : ∀ f, (TT f).lives = true → Lives PP f := by
  intro f h
  unfold TT at h
  by_cases h4 : f = n_twainlaw47_StatsWaits
  · subst h4; simp [twainlaw47_StatsWaits.T] at h
  simp only [h4, if_false] at h
  by_cases h5 : f = n_twainlaw47_lives
  · subst h5; exact twainlaw47_lives.lives
  simp only [h5, if_false] at h
  by_cases h9 : f = n_twainref01_Ints
  · subst h9; simp [twainref01_Ints.T] at h
  simp only [h9, if_false] at h
  by_cases h11 : f = n_twainlaw36_Few
  · subst h11; simp [twainlaw36_Few.T] at h
  simp only [h11, if_false] at h
  by_cases h12 : f = n_twainlaw36_Raw
  · subst h12; simp [twainlaw36_Raw.T] at h
  simp only [h12, if_false] at h
  by_cases h13 : f = n_stats_Waits
  · subst h13; simp [stats_Waits.T] at h
  simp only [h13, if_false] at h
  by_cases h14 : f = n_twainref47_Waits
  · subst h14; simp [twainref47_Waits.T] at h
  simp only [h14, if_false] at h
  by_cases h15 : f = n_stats_Most
  · subst h15; simp [stats_Most.T] at h
  simp only [h15, if_false] at h
  by_cases h16 : f = n_twainref47_Most
  · subst h16; simp [twainref47_Most.T] at h
  simp only [h16, if_false] at h
  by_cases h20 : f = n_stats_pairs
  · subst h20; simp [stats_pairs.T] at h
  simp only [h20, if_false] at h
  by_cases h21 : f = n_twainref47_end
  · subst h21; simp [twainref47_end.T] at h
  simp only [h21, if_false] at h
  by_cases h22 : f = n_stats_Most_1
  · subst h22; simp [stats_Most_1.T] at h
  simp only [h22, if_false] at h
  by_cases h26 : f = n_twainref47_in
  · subst h26; simp [twainref47_in.T] at h
  simp only [h26, if_false] at h
  by_cases h27 : f = n_twainref36_Open
  · subst h27; simp [twainref36_Open.T] at h
  simp only [h27, if_false] at h
  by_cases h39 : f = n_twainref36_ended
  · subst h39; simp [twainref36_ended.T] at h
  simp only [h39, if_false] at h
  by_cases h46 : f = n_twainref36_asked
  · subst h46; simp [twainref36_asked.T] at h
  simp only [h46, if_false] at h
  simp at h
end Go.Proofs.Ytpklhjeccbjalaa
