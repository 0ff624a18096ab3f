/- A part of the proof: SrSh. Its conditions: none. -/
import Derived.Test.YtpklhjeccbjalaaSrShD
import Derived.Test.YtpklhjeccbjalaaSs
set_option linter.all false
set_option linter.unusedVariables false
set_option linter.unusedSimpArgs false
set_option linter.unnecessarySimpa false
namespace Go.Proofs.Ytpklhjeccbjalaa
open Go Go.Am
set_option linter.unusedVariables false
noncomputable def TT : FuncId → Tab := fun f => if f = n_twainlaw47_StatsRanks then twainlaw47_StatsRanks.T else if f = n_twainlaw47_lives then twainlaw47_lives.T else if f = n_stats_Rank then stats_Rank.T else if f = n_twainref47_Rank then twainref47_Rank.T else if f = n_stats_Bars then stats_Bars.T else if f = n_twainref01_Ints then twainref01_Ints.T else if f = n_twainref47_Bars then twainref47_Bars.T else if f = n_twainref47_sorted then twainref47_sorted.T else if f = n_slices_Sort_L_int_int then slices_Sort_L_int_int.T else ⟨fun _ => none, fun _ => none, false, fun _ => none, fun _ => false, false, false, fun _ => false, 0, false, none⟩
noncomputable def TT1 : FuncId → Tab := fun f => { TT f with lives := false, sum := none }
theorem twainlaw47_StatsRanks.eq (C : Am.Callee) (L : Loops) (t0 t1 : Value) (H : List Blk) : ebody PP TT C L n_twainlaw47_StatsRanks [t0, t1] H = twainlaw47_StatsRanks.sh C L H.length t0 t1 ⟨H, none⟩ := by kernel_rfl
theorem twainlaw47_lives.eq (H : List Blk) : acall PP TT n_twainlaw47_lives [] H = some (.bool true, H, none) := by rw [acall_eq]; kernel_rfl
theorem twainlaw47_lives.lives : Lives PP n_twainlaw47_lives := lives_of (T := TT1) (fun _ => rfl) (fun _ => rfl) (n := 40) (by kernel_rfl)
theorem stats_Rank.eq (C : Am.Callee) (L : Loops) (t0 t1 t2 : Value) (H : List Blk) : ebody PP TT C L n_stats_Rank [t0, t1, t2] H = stats_Rank.sh C L H.length t0 t1 t2 ⟨H, none⟩ := by kernel_rfl
theorem twainref47_Rank.eq (C : Am.Callee) (L : Loops) (t0 t1 t2 : Value) (H : List Blk) : ebody PP TT C L n_twainref47_Rank [t0, t1, t2] H = twainref47_Rank.sh C L H.length t0 t1 t2 ⟨H, none⟩ := by kernel_rfl
theorem stats_Bars.eq (C : Am.Callee) (L : Loops) (t0 t1 t2 : Value) (H : List Blk) : ebody PP TT C L n_stats_Bars [t0, t1, t2] H = stats_Bars.sh C L H.length t0 t1 t2 ⟨H, none⟩ := by kernel_rfl
theorem twainref01_Ints.eq (C : Am.Callee) (L : Loops) (t0 t1 : Value) (H : List Blk) : ebody PP TT C L n_twainref01_Ints [t0, t1] H = twainref01_Ints.sh C L H.length t0 t1 ⟨H, none⟩ := by kernel_rfl
theorem twainref47_Bars.eq (C : Am.Callee) (L : Loops) (t0 t1 t2 : Value) (H : List Blk) : ebody PP TT C L n_twainref47_Bars [t0, t1, t2] H = twainref47_Bars.sh C L H.length t0 t1 t2 ⟨H, none⟩ := by kernel_rfl
theorem twainref47_sorted.eq (C : Am.Callee) (L : Loops) (t0 : Value) (H : List Blk) : ebody PP TT C L n_twainref47_sorted [t0] H = twainref47_sorted.sh C L H.length t0 ⟨H, none⟩ := by kernel_rfl
theorem slices_Sort_L_int_int.eq (args : List Value) (H : List Blk) : acall PP TT n_slices_Sort_L_int_int args H = gSort args H := by rw [acall_eq]; kernel_rfl
theorem TT_lives : ∀ f, (TT f).lives = true → Lives PP f := by
  intro f h
  unfold TT at h
  by_cases h3 : f = n_twainlaw47_StatsRanks
  · subst h3; simp [twainlaw47_StatsRanks.T] at h
  simp only [h3, if_false] at h
  by_cases h5 : f = n_twainlaw47_lives
  · subst h5; exact twainlaw47_lives.lives
  simp only [h5, if_false] at h
  by_cases h6 : f = n_stats_Rank
  · subst h6; simp [stats_Rank.T] at h
  simp only [h6, if_false] at h
  by_cases h7 : f = n_twainref47_Rank
  · subst h7; simp [twainref47_Rank.T] at h
  simp only [h7, if_false] at h
  by_cases h8 : f = n_stats_Bars
  · subst h8; simp [stats_Bars.T] at h
  simp only [h8, if_false] at h
  by_cases h9 : f = n_twainref01_Ints
  · subst h9; simp [twainref01_Ints.T] at h
  simp only [h9, if_false] at h
  by_cases h10 : f = n_twainref47_Bars
  · subst h10; simp [twainref47_Bars.T] at h
  simp only [h10, if_false] at h
  by_cases h19 : f = n_twainref47_sorted
  · subst h19; simp [twainref47_sorted.T] at h
  simp only [h19, if_false] at h
  by_cases h18 : f = n_slices_Sort_L_int_int
  · subst h18; simp [slices_Sort_L_int_int.T] at h
  simp only [h18, if_false] at h
  simp at h
theorem TT_sum : ∀ f g, (TT f).sum = some g → SumOk PP g f := by
  intro f g h
  unfold TT at h
  by_cases h3 : f = n_twainlaw47_StatsRanks
  · subst h3; simp [twainlaw47_StatsRanks.T] at h
  simp only [h3, if_false] at h
  by_cases h5 : f = n_twainlaw47_lives
  · subst h5; simp [twainlaw47_lives.T] at h
  simp only [h5, if_false] at h
  by_cases h6 : f = n_stats_Rank
  · subst h6; simp [stats_Rank.T] at h
  simp only [h6, if_false] at h
  by_cases h7 : f = n_twainref47_Rank
  · subst h7; simp [twainref47_Rank.T] at h
  simp only [h7, if_false] at h
  by_cases h8 : f = n_stats_Bars
  · subst h8; simp [stats_Bars.T] at h
  simp only [h8, if_false] at h
  by_cases h9 : f = n_twainref01_Ints
  · subst h9; simp [twainref01_Ints.T] at h
  simp only [h9, if_false] at h
  by_cases h10 : f = n_twainref47_Bars
  · subst h10; simp [twainref47_Bars.T] at h
  simp only [h10, if_false] at h
  by_cases h19 : f = n_twainref47_sorted
  · subst h19; simp [twainref47_sorted.T] at h
  simp only [h19, if_false] at h
  by_cases h18 : f = n_slices_Sort_L_int_int
  · subst h18; simp [slices_Sort_L_int_int.T] at h; subst h; exact Ss.sort
  simp only [h18, if_false] at h
  simp at h
theorem TT_ok : TabOk PP TT := ⟨TT_lives, TT_sum⟩
end Go.Proofs.Ytpklhjeccbjalaa
