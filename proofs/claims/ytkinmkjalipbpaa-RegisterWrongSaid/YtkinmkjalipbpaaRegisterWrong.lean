/- A read that ended ahead of all writes, and tells another value than was there, is wrong: register.Right and register.Order say so. Its conditions are the row's own: none. -/
import Derived.Test.YtkinmkjalipbpaaRows
import Derived.Test.YtkinmkjalipbpaaAm17
import Derived.Test.YtkinmkjalipbpaaRegWrong
set_option linter.all false
set_option linter.unusedVariables false
set_option linter.unusedSimpArgs false
namespace Go.Proofs.Ytkinmkjalipbpaa.registerWrong
open Go.ChangeShapes Go.WideShapes Go.ChangeAt Go.RowKit Go.Am

theorem own : ownKnob Try.prog.godebug = none := by kernel_rfl
theorem laidOut : laidOutB Try.prog = true := by kernel_rfl
theorem fine : Try.f4.params.toList.all (fineParam Try.prog) = true := by kernel_rfl
theorem fines : Try.f4.params.toList.all (fineT Try.prog 12) = true := by kernel_rfl

theorem tabs : ∀ f, (TT f).lives = true → Lives Try.prog f := TT_lives

/-- THE WALK: what the machine says, whatever the arguments are -/
theorem walk (xs : List (List Value)) (h : TOks Try.prog Try.f4.params.toList xs) : saysTrue (acall Try.prog TT 4 (argVs Try.prog Try.f4.params.toList xs) []) = true := by
  have hp : Try.f4.params.toList = [24, 24, 38] := by kernel_rfl
  rw [hp] at h ⊢
  match xs, h with
  | [u, v, w], ⟨hu, hv, hw, _⟩ =>
    obtain ⟨rows, rfl, _, hr⟩ := hw.slice_inv u38
    have ha : argVs Try.prog [24, 24, 38] [u, v, [tSl rows.length rows.flatten]] = [.agg u.toArray, .agg v.toArray, tSl rows.length rows.flatten] := by
      have h38 : argV PP 38 [tSl rows.length rows.flatten] = tSl rows.length rows.flatten := by unfold argV; rw [u38]; rfl
      simp only [argVs, flat24.argV]
      rw [h38]
    rw [ha]
    exact wrong_ok hu hv hr

set_option maxRecDepth 100000 in
theorem contract (H : Type) (enc : TypeId × Value → H) (W : World) (base : Nat) (args : Array Value) (ds gs : List (DataW H)) (before : List MemPlace)
    (hval : ∀ (j : Nat) t v, Try.f4.params[j]? = some t → args[j]? = some v → Value.okWide Try.prog W .any base t v)
    (hW : DataW.Whole enc Try.prog Try.f4.params.toList Rows.registerWrongSpec.vars false W args.toList ds gs before) :
    Calls Try.prog 4 args W fun e W' => ∃ v, e = .returned v ∧ Rows.registerWrongSpec.post enc Try.prog Try.f4 false true false false W args v W' := by
  have hA := hW
  obtain ⟨p, q, hA, _⟩ := hA
  refine (calls_open tabs fines walk hA (fun j t v ht hv => hval j t v (by rw [Array.getElem?_toList] at ht; exact ht) hv)).mono fun e W' ⟨he, hk⟩ => ?_
  subst he
  refine ⟨_, rfl, kept_post laidOut fine (tb := 4) (by kernel_rfl) Try.underlying4 rfl ?_ hW hk⟩
  intro ds hd
  match ds, hd with
  | [d0, d1, d2], _ => exact ⟨rfl, rfl, rfl⟩

set_option maxRecDepth 100000 in
theorem lifted (os : Os) (started : os.Started) (H : Type) (enc : TypeId × Value → H) :
    ReturnsInHanded {} Try.checked os 4 .any (Rows.registerWrongSpec.pre6 enc Try.prog Try.f4 Rows.registerWrongRow.domain false) (Rows.registerWrongSpec.post enc Try.prog Try.f4 false true false false) := by
  refine returnsInHanded_of_change_shaped (C := Try.checked) own started (by kernel_rfl) Try.func4
    (ChangeSpec.witness6 (enc := enc) (C := Try.checked) false ⟨#[], (Try.f4.params.map fun t => (zeroP Try.prog t).getD unk), []⟩ 12 (by kernel_rfl) (by kernel_rfl) (by kernel_rfl) (by kernel_rfl)) ?_
  intro W base args ds gs before hval hW _ _ _ _
  exact contract H enc W base args ds gs before hval hW

theorem proved : Rows.RegisterWrongSaid :=
  OpenClaim.holds_of_wide 4 Try.f4 rfl rfl rfl rfl rfl rfl rfl ⟨rfl, rfl, rfl, rfl, rfl⟩ rfl rfl rfl rfl rfl (by kernel_rfl) Try.func4 (by kernel_rfl)
    (of_decide_eq_true (by kernel_rfl)) (by unfold Func.isWrapper; first | (rw [if_pos (by decide +kernel)]; kernel_rfl) | (rw [if_neg (by decide +kernel)]; exact ⟨rfl, rfl⟩))
    (fun os started H enc _ => lifted os started H enc)
end Go.Proofs.Ytkinmkjalipbpaa.registerWrong
