/- Of few ops, whether there is an order that is right is the document s; then the order that is told fits. Its conditions are the row's own: none. -/
import Derived.Test.YtkinmkjalipbpaaRows
import Derived.Test.YtkinmkjalipbpaaAm17
import Derived.Test.YtkinmkjalipbpaaRegRight
set_option linter.all false
set_option linter.unusedVariables false
set_option linter.unusedSimpArgs false
namespace Go.Proofs.Ytkinmkjalipbpaa.registerRight
open Go.ChangeShapes Go.WideShapes Go.ChangeAt Go.RowKit Go.Am

theorem own : ownKnob Try.prog.godebug = none := by kernel_rfl
theorem laidOut : laidOutB Try.prog = true := by kernel_rfl
theorem fine : Try.f3.params.toList.all (fineParam Try.prog) = true := by kernel_rfl
theorem fines : Try.f3.params.toList.all (fineT Try.prog 12) = true := by kernel_rfl

theorem tabs : ∀ f, (TT f).lives = true → Lives Try.prog f := TT_lives

/-- THE WALK: what the machine says, whatever the arguments are -/
theorem walk (xs : List (List Value)) (h : TOks Try.prog Try.f3.params.toList xs) : saysTrue (acall Try.prog TT 3 (argVs Try.prog Try.f3.params.toList xs) []) = true := by
  have hp : Try.f3.params.toList = [22, 24] := by kernel_rfl
  rw [hp] at h ⊢
  match xs, h with
  | [w, u], ⟨hw, hu, _⟩ =>
    obtain ⟨rows, rfl, _, hr⟩ := hw.slice_inv u22
    obtain ⟨l, hl, rfl⟩ := ops_of rows hr
    have ha : argVs Try.prog [22, 24] [[tSl (l.map opc).length (l.map opc).flatten], u] = [tSl l.length (opsC l), .agg u.toArray] := by
      have h22 : argV PP 22 [tSl (l.map opc).length (l.map opc).flatten] = tSl (l.map opc).length (l.map opc).flatten := by unfold argV; rw [u22]; rfl
      simp only [argVs, flat24.argV]
      rw [h22, List.length_map]
      rfl
    rw [ha]
    exact right_law hl hu

set_option maxRecDepth 100000 in
theorem contract (H : Type) (enc : TypeId × Value → H) (W : World) (base : Nat) (args : Array Value) (ds gs : List (DataW H)) (before : List MemPlace)
    (hval : ∀ (j : Nat) t v, Try.f3.params[j]? = some t → args[j]? = some v → Value.okWide Try.prog W .any base t v)
    (hW : DataW.Whole enc Try.prog Try.f3.params.toList Rows.registerRightSpec.vars false W args.toList ds gs before) :
    Calls Try.prog 3 args W fun e W' => ∃ v, e = .returned v ∧ Rows.registerRightSpec.post enc Try.prog Try.f3 false true false false W args v W' := by
  have hA := hW
  obtain ⟨p, q, hA, _⟩ := hA
  refine (calls_open tabs fines walk hA (fun j t v ht hv => hval j t v (by rw [Array.getElem?_toList] at ht; exact ht) hv)).mono fun e W' ⟨he, hk⟩ => ?_
  subst he
  refine ⟨_, rfl, kept_post laidOut fine (tb := 4) (by kernel_rfl) Try.underlying4 rfl ?_ hW hk⟩
  intro ds hd
  match ds, hd with
  | [d0, d1], _ => exact ⟨rfl, rfl, rfl⟩

set_option maxRecDepth 100000 in
theorem lifted (os : Os) (started : os.Started) (H : Type) (enc : TypeId × Value → H) :
    ReturnsInHanded {} Try.checked os 3 .any (Rows.registerRightSpec.pre6 enc Try.prog Try.f3 Rows.registerRightRow.domain false) (Rows.registerRightSpec.post enc Try.prog Try.f3 false true false false) := by
  refine returnsInHanded_of_change_shaped (C := Try.checked) own started (by kernel_rfl) Try.func3
    (ChangeSpec.witness6 (enc := enc) (C := Try.checked) false ⟨#[], (Try.f3.params.map fun t => (zeroP Try.prog t).getD unk), []⟩ 12 (by kernel_rfl) (by kernel_rfl) (by kernel_rfl) (by kernel_rfl)) ?_
  intro W base args ds gs before hval hW _ _ _ _
  exact contract H enc W base args ds gs before hval hW

theorem proved : Rows.RegisterRightSaid :=
  OpenClaim.holds_of_wide 3 Try.f3 rfl rfl rfl rfl rfl rfl rfl ⟨rfl, rfl, rfl, rfl, rfl⟩ rfl rfl rfl rfl rfl (by kernel_rfl) Try.func3 (by kernel_rfl)
    (of_decide_eq_true (by kernel_rfl)) (by unfold Func.isWrapper; first | (rw [if_pos (by decide +kernel)]; kernel_rfl) | (rw [if_neg (by decide +kernel)]; exact ⟨rfl, rfl⟩))
    (fun os started H enc _ => lifted os started H enc)
end Go.Proofs.Ytkinmkjalipbpaa.registerRight
