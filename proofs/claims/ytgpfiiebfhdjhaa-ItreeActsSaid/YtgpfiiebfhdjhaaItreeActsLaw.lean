/- Behind any calls the ids, and those that overlap any span, are the document, in its order. Its conditions are the row's own: none. -/
import Derived.Test.YtgpfiiebfhdjhaaRows
import Derived.Test.YtgpfiiebfhdjhaaAm13c
import Derived.Test.YtgpfiiebfhdjhaaIt26
set_option linter.all false
set_option linter.unusedVariables false
set_option linter.unusedSimpArgs false
namespace Go.Proofs.Ytgpfiiebfhdjhaa.itreeActs
open Go.ChangeShapes Go.WideShapes Go.ChangeAt Go.RowKit Go.Am

theorem own : ownKnob Try.prog.godebug = none := by kernel_rfl
theorem laidOut : laidOutB Try.prog = true := by kernel_rfl
theorem fine : Try.f5.params.toList.all (fineParam Try.prog) = true := by kernel_rfl
theorem fines : Try.f5.params.toList.all (fineT Try.prog 12) = true := by kernel_rfl

theorem tabs : ∀ f, (TT f).lives = true → Lives Try.prog f := TT_lives

/-- THE WALK: what the machine says, whatever the arguments are -/
theorem walk (xs : List (List Value)) (h : TOks Try.prog Try.f5.params.toList xs) : saysTrue (acall Try.prog TT 5 (argVs Try.prog Try.f5.params.toList xs) []) = true := by
  have hp : Try.f5.params.toList = [t_L_twainlaw14_Act, t_api_Span] := by kernel_rfl
  rw [hp] at h ⊢
  match xs, h with
  | [w, u], ⟨hw, hu, _⟩ =>
    obtain ⟨l, hl, ha⟩ := IT.acts_arg hw
    obtain ⟨o, n, h1, h2, rfl⟩ := IT.span_of hu
    have hv : argVs Try.prog [t_L_twainlaw14_Act, t_api_Span] [w, [.int .i64 o, .int .i64 n]] = [tSl l.length (IT.actR l), spn o n] := by
      have g1 : argV Try.prog t_L_twainlaw14_Act w = tSl l.length (IT.actR l) := ha
      have g2 : argV Try.prog t_api_Span [.int .i64 o, .int .i64 n] = spn o n := IT.span_arg o n
      simp only [argVs, g1, g2]
    rw [hv]
    exact IT.acts_law hl h1 h2

set_option maxRecDepth 100000 in
theorem contract (H : Type) (enc : TypeId × Value → H) (W : World) (base : Nat) (args : Array Value) (ds gs : List (DataW H)) (before : List MemPlace)
    (hval : ∀ (j : Nat) t v, Try.f5.params[j]? = some t → args[j]? = some v → Value.okWide Try.prog W .any base t v)
    (hW : DataW.Whole enc Try.prog Try.f5.params.toList Rows.itreeActsSpec.vars false W args.toList ds gs before) :
    Calls Try.prog 5 args W fun e W' => ∃ v, e = .returned v ∧ Rows.itreeActsSpec.post enc Try.prog Try.f5 false true false false W args v W' := by
  have hA := hW
  obtain ⟨p, q, hA, _⟩ := hA
  refine (calls_open tabs fines walk hA (fun j t v ht hv => hval j t v (by rw [Array.getElem?_toList] at ht; exact ht) hv)).mono fun e W' ⟨he, hk⟩ => ?_
  subst he
  refine ⟨_, rfl, kept_post laidOut fine (tb := 4) (by kernel_rfl) Try.underlying4 rfl ?_ hW hk⟩
  intro ds hd
  match ds, hd with
  | [d0, d1], _ => exact ⟨rfl, rfl, rfl⟩

set_option maxRecDepth 100000 in
theorem lifted (os : Os) (started : os.Started) (H : Type) (enc : TypeId × Value → H) :
    ReturnsInHanded {} Try.checked os 5 .any (Rows.itreeActsSpec.pre6 enc Try.prog Try.f5 Rows.itreeActsRow.domain false) (Rows.itreeActsSpec.post enc Try.prog Try.f5 false true false false) := by
  refine returnsInHanded_of_change_shaped (C := Try.checked) own started (by kernel_rfl) Try.func5
    (ChangeSpec.witness6 (enc := enc) (C := Try.checked) false ⟨#[], (Try.f5.params.map fun t => (zeroP Try.prog t).getD unk), []⟩ 12 (by kernel_rfl) (by kernel_rfl) (by kernel_rfl) (by kernel_rfl)) ?_
  intro W base args ds gs before hval hW _ _ _ _
  exact contract H enc W base args ds gs before hval hW

theorem proved : Rows.ItreeActsSaid :=
  OpenClaim.holds_of_wide 5 Try.f5 rfl rfl rfl rfl rfl rfl rfl ⟨rfl, rfl, rfl, rfl, rfl⟩ rfl rfl rfl rfl rfl (by kernel_rfl) Try.func5 (by kernel_rfl)
    (of_decide_eq_true (by kernel_rfl)) (by unfold Func.isWrapper; first | (rw [if_pos (by decide +kernel)]; kernel_rfl) | (rw [if_neg (by decide +kernel)]; exact ⟨rfl, rfl⟩))
    (fun os started H enc _ => lifted os started H enc)
end Go.Proofs.Ytgpfiiebfhdjhaa.itreeActs
