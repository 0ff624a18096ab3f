/- Of few events, what any sector may hold in the end, and whether any bytes may stand there, is the document's: the statement GhostTells, for every input. Its conditions are the row's own: none. -/
import Derived.Test.YtfinilnkempofaaRows
import Derived.Test.YtfinilnkempofaaAm13c
import Derived.Test.YtfinilnkempofaaGt8
set_option linter.all false
set_option linter.unusedVariables false
set_option linter.unusedSimpArgs false
namespace Go.Proofs.Ytfinilnkempofaa.ghostTells
open Go.ChangeShapes Go.WideShapes Go.ChangeAt Go.RowKit Go.Am

theorem own : ownKnob Try.prog.godebug = none := by kernel_rfl
theorem laidOut : laidOutB Try.prog = true := by kernel_rfl
theorem fine : Try.f7.params.toList.all (q354 Try.prog) = true := by kernel_rfl
theorem fines : Try.f7.params.toList.all (fineT Try.prog 12) = true := by kernel_rfl

theorem tabs : ∀ f, (TT f).lives = true → Lives Try.prog f := TT_lives

/-- THE WALK: what the machine says, whatever the arguments are -/
theorem walk (xs : List (List Value)) (h : TOks Try.prog Try.f7.params.toList xs) : y166 (acall Try.prog TT 7 (argVs Try.prog Try.f7.params.toList xs) []) = true := by
  have hp : Try.f7.params.toList = [q13, q21] := by kernel_rfl
  rw [hp] at h ⊢
  match xs, h with
  | [w, u], ⟨hw, hu, _⟩ =>
    obtain ⟨l, hl, hm, ha⟩ := evs_arg hw
    obtain ⟨at_, v, b, h1, h2, h3, rfl⟩ := GH.end_of hu
    have hv : argVs Try.prog [q13, q21] [w, GH.endC at_ v b] = [tSl l.length (evR l), .agg (GH.endC at_ v b).toArray] := by
      have h4 : argV Try.prog q13 w = tSl l.length (evR l) := ha
      have h5 : argV PP q21 (GH.endC at_ v b) = .agg (GH.endC at_ v b).toArray := by
        unfold argV
        rw [y279]
      have h5 : argV Try.prog q21 (GH.endC at_ v b) = .agg (GH.endC at_ v b).toArray := h5
      simp only [argVs, h4, h5]
    rw [hv]
    exact GH.gtells_law hl hm h1 h2 h3

set_option maxRecDepth 100000 in
theorem contract (H : Type) (enc : TypeId × Value → H) (W : World) (base : Nat) (args : Array Value) (ds gs : List (DataW H)) (before : List MemPlace)
    (hval : ∀ (j : Nat) t v, Try.f7.params[j]? = some t → args[j]? = some v → Value.okWide Try.prog W .any base t v)
    (hW : DataW.Whole enc Try.prog Try.f7.params.toList Rows.ghostTellsSpec.vars false W args.toList ds gs before) :
    Calls Try.prog 7 args W fun e W' => ∃ v, e = .returned v ∧ Rows.ghostTellsSpec.post enc Try.prog Try.f7 false true false false W args v W' := by
  have hA := hW
  obtain ⟨p, q, hA, _⟩ := hA
  refine (calls_open tabs fines walk hA (fun j t v ht hv => hval j t v (by rw [Array.getElem?_toList] at ht; exact ht) hv)).mono fun e W' ⟨he, hk⟩ => ?_
  subst he
  refine ⟨_, rfl, kept_post laidOut fine (tb := 4) (by kernel_rfl) Try.underlying4 rfl ?_ hW hk⟩
  intro ds hd
  match ds, hd with
  | [d0, d1], _ => exact ⟨rfl, rfl, rfl⟩

set_option maxRecDepth 100000 in
theorem lifted (os : Os) (started : os.Started) (H : Type) (enc : TypeId × Value → H) :
    ReturnsInHanded {} Try.checked os 7 .any (Rows.ghostTellsSpec.pre6 enc Try.prog Try.f7 Rows.ghostTellsRow.domain false) (Rows.ghostTellsSpec.post enc Try.prog Try.f7 false true false false) := by
  refine returnsInHanded_of_change_shaped (C := Try.checked) own started (by kernel_rfl) Try.func7
    (ChangeSpec.witness6 (enc := enc) (C := Try.checked) false ⟨#[], (Try.f7.params.map fun t => (zeroP Try.prog t).getD unk), []⟩ 12 (by kernel_rfl) (by kernel_rfl) (by kernel_rfl) (by kernel_rfl)) ?_
  intro W base args ds gs before hval hW _ _ _ _
  exact contract H enc W base args ds gs before hval hW

theorem proved : Rows.GhostTellsSaid :=
  OpenClaim.holds_of_wide 7 Try.f7 rfl rfl rfl rfl rfl rfl rfl ⟨rfl, rfl, rfl, rfl, rfl⟩ rfl rfl rfl rfl rfl (by kernel_rfl) Try.func7 (by kernel_rfl)
    (of_decide_eq_true (by kernel_rfl)) (by unfold Func.isWrapper; first | (rw [if_pos (by decide +kernel)]; kernel_rfl) | (rw [if_neg (by decide +kernel)]; exact ⟨rfl, rfl⟩))
    (fun os started H enc _ => lifted os started H enc)
end Go.Proofs.Ytfinilnkempofaa.ghostTells
