/- What was done one behind the other is right, and stays so with any writes that never ended: the statement RegisterOrders, for every input. Its conditions are the row's own: none. -/
import Derived.Test.YtfinilnkempofaaRows
import Derived.Test.YtfinilnkempofaaAm13c
import Derived.Test.YtfinilnkempofaaRegOrd4
set_option linter.all false
set_option linter.unusedVariables false
set_option linter.unusedSimpArgs false
namespace Go.Proofs.Ytfinilnkempofaa.registerOrders
open Go.ChangeShapes Go.WideShapes Go.ChangeAt Go.RowKit Go.Am

theorem own : ownKnob Try.prog.godebug = none := by kernel_rfl
theorem laidOut : laidOutB Try.prog = true := by kernel_rfl
theorem fine : Try.f6.params.toList.all (fineParam Try.prog) = true := by kernel_rfl
theorem fines : Try.f6.params.toList.all (fineT Try.prog 12) = true := by kernel_rfl

theorem tabs : ∀ f, (TT f).lives = true → Lives Try.prog f := TT_lives

theorem bools_of : ∀ (rows : List (List Value)), (∀ r ∈ rows, TOk PP t_bool r) → ∃ l : List Bool, rows = l.map fun b => [.bool b]
  | [], _ => ⟨[], rfl⟩
  | r :: rows, h => by
    obtain ⟨b, rfl⟩ := (h r (by simp)).bool_inv u_bool
    obtain ⟨l, rfl⟩ := bools_of rows (fun y hy => h y (by simp [hy]))
    exact ⟨b :: l, rfl⟩

theorem bools_flat (l : List Bool) : (l.map fun b => [Value.bool b]).flatten = RO.bls l := by
  induction l with
  | nil => rfl
  | cons x xs ih => simpa [RO.bls] using ih

/-- THE WALK: what the machine says, whatever the arguments are -/
theorem walk (xs : List (List Value)) (h : TOks Try.prog Try.f6.params.toList xs) : saysTrue (acall Try.prog TT 6 (argVs Try.prog Try.f6.params.toList xs) []) = true := by
  have hp : Try.f6.params.toList = [t_L_api_Sector, t_L_bool, t_L_twainref36_Op] := by kernel_rfl
  rw [hp] at h ⊢
  match xs, h with
  | [w, u, z], ⟨hw, hu, hz, _⟩ =>
    obtain ⟨vals, rfl, _, hv⟩ := hw.slice_inv u_L_api_Sector
    obtain ⟨rows, rfl, _, hr⟩ := hu.slice_inv u_L_bool
    obtain ⟨rds, rfl⟩ := bools_of rows hr
    obtain ⟨rows, rfl, _, hr⟩ := hz.slice_inv u_L_twainref36_Op
    obtain ⟨more, hmo, rfl⟩ := RM.ops_of rows hr
    have h1 : argV PP t_L_api_Sector [tSl vals.length vals.flatten] = tSl vals.length vals.flatten := by unfold argV; rw [u_L_api_Sector]; rfl
    have h2 : argV PP t_L_bool [tSl (rds.map fun b => [Value.bool b]).length (rds.map fun b => [Value.bool b]).flatten] = tSl (rds.map fun b => [Value.bool b]).length (rds.map fun b => [Value.bool b]).flatten := by unfold argV; rw [u_L_bool]; rfl
    have h3 : argV PP t_L_twainref36_Op [tSl (more.map opc).length (more.map opc).flatten] = tSl (more.map opc).length (more.map opc).flatten := by unfold argV; rw [u_L_twainref36_Op]; rfl
    have ha : argVs Try.prog [t_L_api_Sector, t_L_bool, t_L_twainref36_Op] [[tSl vals.length vals.flatten], [tSl (rds.map fun b => [Value.bool b]).length (rds.map fun b => [Value.bool b]).flatten], [tSl (more.map opc).length (more.map opc).flatten]] = [tSl vals.length vals.flatten, tSl rds.length (RO.bls rds), tSl more.length (opsC more)] := by
      simp only [argVs]
      rw [h1, h2, h3, List.length_map, List.length_map, bools_flat]
      rfl
    rw [ha]
    exact RO.orders_law hv hmo

set_option maxRecDepth 100000 in
theorem contract (H : Type) (enc : TypeId × Value → H) (W : World) (base : Nat) (args : Array Value) (ds gs : List (DataW H)) (before : List MemPlace)
    (hval : ∀ (j : Nat) t v, Try.f6.params[j]? = some t → args[j]? = some v → Value.okWide Try.prog W .any base t v)
    (hW : DataW.Whole enc Try.prog Try.f6.params.toList Rows.registerOrdersSpec.vars false W args.toList ds gs before) :
    Calls Try.prog 6 args W fun e W' => ∃ v, e = .returned v ∧ Rows.registerOrdersSpec.post enc Try.prog Try.f6 false true false false W args v W' := by
  have hA := hW
  obtain ⟨p, q, hA, _⟩ := hA
  refine (calls_open tabs fines walk hA (fun j t v ht hv => hval j t v (by rw [Array.getElem?_toList] at ht; exact ht) hv)).mono fun e W' ⟨he, hk⟩ => ?_
  subst he
  refine ⟨_, rfl, kept_post laidOut fine (tb := 4) (by kernel_rfl) Try.underlying4 rfl ?_ hW hk⟩
  intro ds hd
  match ds, hd with
  | [d0, d1, d2], _ => exact ⟨rfl, rfl, rfl⟩

set_option maxRecDepth 100000 in
theorem lifted (os : Os) (started : os.Started) (H : Type) (enc : TypeId × Value → H) :
    ReturnsInHanded {} Try.checked os 6 .any (Rows.registerOrdersSpec.pre6 enc Try.prog Try.f6 Rows.registerOrdersRow.domain false) (Rows.registerOrdersSpec.post enc Try.prog Try.f6 false true false false) := by
  refine returnsInHanded_of_change_shaped (C := Try.checked) own started (by kernel_rfl) Try.func6
    (ChangeSpec.witness6 (enc := enc) (C := Try.checked) false ⟨#[], (Try.f6.params.map fun t => (zeroP Try.prog t).getD unk), []⟩ 12 (by kernel_rfl) (by kernel_rfl) (by kernel_rfl) (by kernel_rfl)) ?_
  intro W base args ds gs before hval hW _ _ _ _
  exact contract H enc W base args ds gs before hval hW

theorem proved : Rows.RegisterOrdersSaid :=
  OpenClaim.holds_of_wide 6 Try.f6 rfl rfl rfl rfl rfl rfl rfl ⟨rfl, rfl, rfl, rfl, rfl⟩ rfl rfl rfl rfl rfl (by kernel_rfl) Try.func6 (by kernel_rfl)
    (of_decide_eq_true (by kernel_rfl)) (by unfold Func.isWrapper; first | (rw [if_pos (by decide +kernel)]; kernel_rfl) | (rw [if_neg (by decide +kernel)]; exact ⟨rfl, rfl⟩))
    (fun os started H enc _ => lifted os started H enc)
end Go.Proofs.Ytfinilnkempofaa.registerOrders
