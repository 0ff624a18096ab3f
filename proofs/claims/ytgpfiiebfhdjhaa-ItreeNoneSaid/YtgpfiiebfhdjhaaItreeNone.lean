/- Of a tree that no call made there is nothing: twainlaw14.ItreeNone answers true, whatever the input. Its conditions are the row's own: none. -/
import Derived.Test.YtgpfiiebfhdjhaaRows
import Derived.Test.YtgpfiiebfhdjhaaAm17
namespace Go.Proofs.Ytgpfiiebfhdjhaa.itreeNone
open Go.ChangeShapes Go.WideShapes Go.ChangeAt Go.RowKit Go.Am

theorem own : ownKnob Try.prog.godebug = none := by kernel_rfl
theorem laidOut : laidOutB Try.prog = true := by kernel_rfl
theorem fine : Try.f6.params.toList.all (fineParam Try.prog) = true := by kernel_rfl
theorem fines : Try.f6.params.toList.all (fineT Try.prog 12) = true := by kernel_rfl

/-- THE WALK: the machine's own run, whatever the argument is -/
theorem run (b : Bool) (x y z : Int) : callF Try.prog T0 30 6 [.agg #[.bool b, .int .i64 x, .int .i64 y, .int .i64 z]] [] = some (.bool true, [], none) := by kernel_rfl

theorem walk (xs : List D) (h : DOks Try.prog Try.f6.params.toList xs) : saysTrue (acall Try.prog T0 6 (argVs Try.prog Try.f6.params.toList xs 0) (D.blksL xs 0)) = true := by
  have h : DOks Try.prog [32] xs := h
  match xs, h with
  | [d], ⟨hd, _⟩ =>
    obtain ⟨ds, rfl, hs⟩ := hd.struct_inv Try.underlying32
    match ds, hs with
    | [d0, d1, d2], ⟨h0, h1, h2, _⟩ =>
      obtain ⟨b, rfl⟩ := h0.bool_inv Try.underlying4
      obtain ⟨ds, rfl, hs⟩ := h1.struct_inv Try.underlying28
      match ds, hs with
      | [e0, e1], ⟨k0, k1, _⟩ =>
        obtain ⟨x, rfl, _⟩ := k0.int_inv Try.underlying3
        obtain ⟨y, rfl, _⟩ := k1.int_inv Try.underlying3
        obtain ⟨z, rfl, _⟩ := h2.int_inv Try.underlying3
        have := acall_of_callF (P := Try.prog) (T := T0) 30 (run b x y z)
        show saysTrue (acall Try.prog T0 6 [.agg #[.bool b, .int .i64 x, .int .i64 y, .int .i64 z]] []) = true
        rw [this]; rfl

theorem contract (H : Type) (enc : TypeId × Value → H) (W : World) (base : Nat) (args : Array Value) (ds gs : List (DataW H)) (before : List MemPlace)
    (hval : ∀ (j : Nat) t v, Try.f6.params[j]? = some t → args[j]? = some v → Value.okWide Try.prog W .any base t v)
    (hW : DataW.Whole enc Try.prog Try.f6.params.toList Rows.itreeNoneSpec.vars false W args.toList ds gs before) :
    Calls Try.prog 6 args W fun e W' => ∃ v, e = .returned v ∧ Rows.itreeNoneSpec.post enc Try.prog Try.f6 false true false false W args v W' := by
  have hA := hW
  obtain ⟨p, q, hA, _⟩ := hA
  refine (calls_open fines walk hA (fun j t v ht hv => hval j t v (by simpa using ht) hv)).mono fun e W' ⟨he, hk⟩ => ?_
  subst he
  refine ⟨_, rfl, kept_post laidOut fine (tb := 4) (by kernel_rfl) Try.underlying4 rfl ?_ hW hk⟩
  intro ds hd
  match ds, hd with
  | [d0], _ => exact ⟨rfl, rfl, rfl⟩

set_option maxRecDepth 100000 in
theorem lifted (os : Os) (started : os.Started) (H : Type) (enc : TypeId × Value → H) :
    ReturnsInHanded {} Try.checked os 6 .any (Rows.itreeNoneSpec.pre6 enc Try.prog Try.f6 Rows.itreeNoneRow.domain false) (Rows.itreeNoneSpec.post enc Try.prog Try.f6 false true false false) := by
  refine returnsInHanded_of_change_shaped (C := Try.checked) own started (by kernel_rfl) Try.func6
    (ChangeSpec.witness6 (enc := enc) (C := Try.checked) false ⟨#[], (Try.f6.params.map fun t => (zeroP Try.prog t).getD unk), []⟩ 12 (by kernel_rfl) (by kernel_rfl) (by kernel_rfl) (by kernel_rfl)) ?_
  intro W base args ds gs before hval hW _ _ _ _
  exact contract H enc W base args ds gs before hval hW

theorem proved : Rows.ItreeNoneSaid :=
  OpenClaim.holds_of_wide 6 Try.f6 rfl rfl rfl rfl rfl rfl rfl ⟨rfl, rfl, rfl, rfl, rfl⟩ rfl rfl rfl rfl rfl (by kernel_rfl) Try.func6 (by kernel_rfl)
    (of_decide_eq_true (by kernel_rfl)) (by unfold Func.isWrapper; first | (rw [if_pos (by decide +kernel)]; kernel_rfl) | (rw [if_neg (by decide +kernel)]; exact ⟨rfl, rfl⟩))
    (fun os started H enc _ => lifted os started H enc)
end Go.Proofs.Ytgpfiiebfhdjhaa.itreeNone
