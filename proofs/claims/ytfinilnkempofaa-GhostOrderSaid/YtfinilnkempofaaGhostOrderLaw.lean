/- Of few events, the order in which requests took effect is told if there is one; what it tells was asked, each once, and all that ended is there: the statement GhostOrder, for every input. Its conditions are the row's own: none. -/
import Derived.Test.YtfinilnkempofaaRows
import Derived.Test.YtfinilnkempofaaAm13c
import Derived.Test.YtfinilnkempofaaGh0
set_option linter.all false
set_option linter.unusedVariables false
set_option linter.unusedSimpArgs false
namespace Go.Proofs.Ytfinilnkempofaa.ghostOrder
open Go.ChangeShapes Go.WideShapes Go.ChangeAt Go.RowKit Go.Am

theorem own : ownKnob Try.prog.godebug = none := by kernel_rfl
theorem laidOut : laidOutB Try.prog = true := by kernel_rfl
theorem fine : Try.f8.params.toList.all (y333 Try.prog) = true := by kernel_rfl
theorem fines : Try.f8.params.toList.all (fineT Try.prog 12) = true := by kernel_rfl

theorem tabs : ∀ f, (TT f).lives = true → Lives Try.prog f := TT_lives

/-- THE WALK: what the machine says, whatever the arguments are -/
theorem walk (xs : List (List Value)) (h : TOks Try.prog Try.f8.params.toList xs) : q219 (acall Try.prog TT 8 (argVs Try.prog Try.f8.params.toList xs) []) = true := by
  have hp : Try.f8.params.toList = [y24, t_int] := by kernel_rfl
  rw [hp] at h ⊢
  match xs, h with
  | [w, u], ⟨hw, hu, _⟩ =>
    obtain ⟨l, hl, hm, ha⟩ := evs_arg hw
    obtain ⟨n, hn, rfl⟩ := q183 hu
    have hv : argVs Try.prog [y24, t_int] [w, [.int .i64 n]] = [tSl l.length (evR l), .int .i64 n] := by
      have h1 : argV Try.prog y24 w = tSl l.length (evR l) := ha
      have h2 : argV Try.prog t_int [.int .i64 n] = .int .i64 n := q374 n
      simp only [argVs, h1, h2]
    rw [hv]
    exact GH.gorder_law hl hm hn

set_option maxRecDepth 100000 in
theorem contract (H : Type) (enc : TypeId × Value → H) (W : World) (base : Nat) (args : Array Value) (ds gs : List (DataW H)) (before : List MemPlace)
    (hval : ∀ (j : Nat) t v, Try.f8.params[j]? = some t → args[j]? = some v → Value.okWide Try.prog W .any base t v)
    (hW : DataW.Whole enc Try.prog Try.f8.params.toList Rows.ghostOrderSpec.vars false W args.toList ds gs before) :
    Calls Try.prog 8 args W fun e W' => ∃ v, e = .returned v ∧ Rows.ghostOrderSpec.post enc Try.prog Try.f8 false true false false W args v W' := by
  have hA := hW
  obtain ⟨p, q, hA, _⟩ := hA
  refine (calls_open tabs fines walk hA (fun j t v ht hv => hval j t v (by rw [Array.getElem?_toList] at ht; exact ht) hv)).mono fun e W' ⟨he, hk⟩ => ?_
  subst he
  refine ⟨_, rfl, kept_post laidOut fine (tb := 4) (by kernel_rfl) Try.underlying4 rfl ?_ hW hk⟩
  intro ds hd
  match ds, hd with
  | [d0, d1], _ => exact ⟨rfl, rfl, rfl⟩

set_option maxRecDepth 100000 in
theorem lifted (os : Os) (started : os.Started) (H : Type) (enc : TypeId × Value → H) :
    ReturnsInHanded {} Try.checked os 8 .any (Rows.ghostOrderSpec.pre6 enc Try.prog Try.f8 Rows.ghostOrderRow.domain false) (Rows.ghostOrderSpec.post enc Try.prog Try.f8 false true false false) := by
  refine returnsInHanded_of_change_shaped (C := Try.checked) own started (by kernel_rfl) Try.func8
    (ChangeSpec.witness6 (enc := enc) (C := Try.checked) false ⟨#[], (Try.f8.params.map fun t => (zeroP Try.prog t).getD unk), []⟩ 12 (by kernel_rfl) (by kernel_rfl) (by kernel_rfl) (by kernel_rfl)) ?_
  intro W base args ds gs before hval hW _ _ _ _
  exact contract H enc W base args ds gs before hval hW

theorem proved : Rows.GhostOrderSaid :=
  OpenClaim.holds_of_wide 8 Try.f8 rfl rfl rfl rfl rfl rfl rfl ⟨rfl, rfl, rfl, rfl, rfl⟩ rfl rfl rfl rfl rfl (by kernel_rfl) Try.func8 (by kernel_rfl)
    (of_decide_eq_true (by kernel_rfl)) (by unfold Func.isWrapper; first | (rw [if_pos (by decide +kernel)]; kernel_rfl) | (rw [if_neg (by decide +kernel)]; exact ⟨rfl, rfl⟩))
    (fun os started H enc _ => lifted os started H enc)
end Go.Proofs.Ytfinilnkempofaa.ghostOrder
