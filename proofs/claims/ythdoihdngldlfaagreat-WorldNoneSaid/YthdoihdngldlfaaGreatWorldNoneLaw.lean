/- Of a world that no call made nothing is done. Its conditions are the row's own: none. -/
import Derived.Test.YthdoihdngldlfaaGreatRows
import Derived.Test.YthdoihdngldlfaaGreatAm13c
import Derived.Test.YthdoihdngldlfaaGreatLv44
set_option linter.all false
set_option linter.unusedVariables false
set_option linter.unusedSimpArgs false
namespace Go.Proofs.YthdoihdngldlfaaGreat.worldNone
open Go.ChangeShapes Go.WideShapes Go.ChangeAt Go.RowKit Go.Am

theorem own : ownKnob Tryz.prog.godebug = none := by kernel_rfl
theorem laidOut : laidOutB Tryz.prog = true := by kernel_rfl
theorem fine : Tryz.f6.params.toList.all (fineParam Tryz.prog) = true := by kernel_rfl
theorem fines : Tryz.f6.params.toList.all (fineT Tryz.prog 12) = true := by kernel_rfl

theorem toks1 {P : Program} {t0 : TypeId} {xs : List (List Value)} (h : TOks P [t0] xs) : ∃ x0 : List Value, xs = [x0] ∧ TOk P t0 x0 := by
  match xs, h with
  | [x0], ⟨h0, _⟩ => exact ⟨x0, rfl, h0⟩
theorem toks2 {P : Program} {t0 t1 : TypeId} {xs : List (List Value)} (h : TOks P [t0, t1] xs) : ∃ x0 x1 : List Value, xs = [x0, x1] ∧ TOk P t0 x0 ∧ TOk P t1 x1 := by
  match xs, h with
  | [x0, x1], ⟨h0, h1, _⟩ => exact ⟨x0, x1, rfl, h0, h1⟩
theorem toks3 {P : Program} {t0 t1 t2 : TypeId} {xs : List (List Value)} (h : TOks P [t0, t1, t2] xs) : ∃ x0 x1 x2 : List Value, xs = [x0, x1, x2] ∧ TOk P t0 x0 ∧ TOk P t1 x1 ∧ TOk P t2 x2 := by
  match xs, h with
  | [x0, x1, x2], ⟨h0, h1, h2, _⟩ => exact ⟨x0, x1, x2, rfl, h0, h1, h2⟩
theorem toks5 {P : Program} {t0 t1 t2 t3 t4 : TypeId} {xs : List (List Value)} (h : TOks P [t0, t1, t2, t3, t4] xs) : ∃ x0 x1 x2 x3 x4 : List Value, xs = [x0, x1, x2, x3, x4] ∧ TOk P t0 x0 ∧ TOk P t1 x1 ∧ TOk P t2 x2 ∧ TOk P t3 x3 ∧ TOk P t4 x4 := by
  match xs, h with
  | [x0, x1, x2, x3, x4], ⟨h0, h1, h2, h3, h4, _⟩ => exact ⟨x0, x1, x2, x3, x4, rfl, h0, h1, h2, h3, h4⟩
theorem tabs : ∀ f, (WN.T1 f).lives = true → Lives Tryz.prog f := WN.T1_lives

/-- THE WALK: what the machine says, whatever the arguments are; of rows the lengths alone are told -/
theorem walk (xs : List (List Value)) (h : TOks Tryz.prog Tryz.f6.params.toList xs) : ∃ ys, Blur Tryz.prog (argVs Tryz.prog Tryz.f6.params.toList xs) ys ∧ saysTrue (acall Tryz.prog WN.T1 6 ys []) = true := by
  have hp : Tryz.f6.params.toList = [101] := by kernel_rfl
  rw [hp] at h ⊢
  obtain ⟨x2, rfl, a1⟩ := toks1 h
  obtain ⟨d3, rfl, h4⟩ := a1.struct_inv Tryz.underlying101
  obtain ⟨e5, e6, e7, e8, e9, rfl, k10, k11, k12, k13, k14⟩ := toks5 h4
  obtain ⟨i15, rfl, _⟩ := k10.int_inv Tryz.underlying3
  obtain ⟨i16, rfl, _⟩ := k11.int_inv Tryz.underlying3
  obtain ⟨i17, rfl, _⟩ := k12.int_inv Tryz.underlying3
  obtain ⟨i18, rfl, _⟩ := k13.int_inv Tryz.underlying27
  obtain ⟨d19, rfl, h20⟩ := k14.struct_inv Tryz.underlying76
  obtain ⟨e21, e22, e23, rfl, k24, k25, k26⟩ := toks3 h20
  obtain ⟨i27, rfl, _⟩ := k24.int_inv Tryz.underlying3
  obtain ⟨d28, rfl, h29⟩ := k25.struct_inv Tryz.underlying42
  obtain ⟨e30, e31, rfl, k32, k33⟩ := toks2 h29
  obtain ⟨i34, rfl, _⟩ := k32.int_inv Tryz.underlying3
  obtain ⟨i35, rfl, _⟩ := k33.int_inv Tryz.underlying3
  obtain ⟨r36, rfl, _⟩ := k26.slice_inv Tryz.underlying43
  refine ⟨[.agg [Value.int .i64 i15, Value.int .i64 i16, Value.int .i64 i17, Value.int .u64 i18, Value.int .i64 i27, Value.int .i64 i34, Value.int .i64 i35, tSl r36.length []].toArray], ?_, WN.law i15 i16 i17 i18 i27 i34 i35 r36.length⟩
  have hv : argVs Tryz.prog [101] [([[Value.int .i64 i15], [Value.int .i64 i16], [Value.int .i64 i17], [Value.int .u64 i18], ([[Value.int .i64 i27], ([[Value.int .i64 i34], [Value.int .i64 i35]] : List (List Value)).flatten, [tSl r36.length r36.flatten]] : List (List Value)).flatten] : List (List Value)).flatten] = [.agg [Value.int .i64 i15, Value.int .i64 i16, Value.int .i64 i17, Value.int .u64 i18, Value.int .i64 i27, Value.int .i64 i34, Value.int .i64 i35, tSl r36.length r36.flatten].toArray] := by
    simp only [argVs, argV, Tryz.underlying101]
    rfl
  rw [hv]
  exact .cons (.agg (.cons (.refl _) (.cons (.refl _) (.cons (.refl _) (.cons (.refl _) (.cons (.refl _) (.cons (.refl _) (.cons (.refl _) (.cons (.row _ _) (.refl _)))))))))) (.refl _)

set_option maxRecDepth 100000 in
theorem contract (H : Type) (enc : TypeId × Value → H) (W : World) (base : Nat) (args : Array Value) (ds gs : List (DataW H)) (before : List MemPlace)
    (hval : ∀ (j : Nat) t v, Tryz.f6.params[j]? = some t → args[j]? = some v → Value.okWide Tryz.prog W .any base t v)
    (hW : DataW.Whole enc Tryz.prog Tryz.f6.params.toList Rows.worldNoneSpec.vars false W args.toList ds gs before) :
    Calls Tryz.prog 6 args W fun e W' => ∃ v, e = .returned v ∧ Rows.worldNoneSpec.post enc Tryz.prog Tryz.f6 false true false false W args v W' := by
  have hA := hW
  obtain ⟨p, q, hA, _⟩ := hA
  refine (calls_blurred tabs fines walk hA (fun j t v ht hv => hval j t v (by rw [Array.getElem?_toList] at ht; exact ht) hv)).mono fun e W' ⟨he, hk⟩ => ?_
  subst he
  refine ⟨_, rfl, kept_post laidOut fine (tb := 4) (by kernel_rfl) Tryz.underlying4 rfl ?_ hW hk⟩
  intro ds hd
  match ds, hd with
  | [d0], _ => exact ⟨rfl, rfl, rfl⟩

set_option maxRecDepth 100000 in
theorem lifted (os : Os) (started : os.Started) (H : Type) (enc : TypeId × Value → H) :
    ReturnsInHanded {} Tryz.checked os 6 .any (Rows.worldNoneSpec.pre6 enc Tryz.prog Tryz.f6 Rows.worldNoneRow.domain false) (Rows.worldNoneSpec.post enc Tryz.prog Tryz.f6 false true false false) := by
  refine returnsInHanded_of_change_shaped (C := Tryz.checked) own started (by kernel_rfl) Tryz.func6
    (ChangeSpec.witness6 (enc := enc) (C := Tryz.checked) false ⟨#[], (Tryz.f6.params.map fun t => (zeroP Tryz.prog t).getD unk), []⟩ 12 (by kernel_rfl) (by kernel_rfl) (by kernel_rfl) (by kernel_rfl)) ?_
  intro W base args ds gs before hval hW _ _ _ _
  exact contract H enc W base args ds gs before hval hW

theorem ck0 : (Rows.worldNoneRow.wf (OpenSpec.ofChange Rows.worldNoneSpec)) = true := by kernel_rfl
theorem ck1 : (laidOutB Tryz.pinned.checked.prog) = true := by kernel_rfl
theorem ck2 : (mapsRowed Tryz.pinned.checked.prog) = true := by kernel_rfl
theorem ck3 : (Tryz.f6.params.all (Tryz.pinned.checked.prog.readableRec ·)) = true := by kernel_rfl
theorem ck4 : (namedTie Tryz.pinned.checked.prog Rows.worldNoneRow.named Rows.worldNoneSpec.vars) = true := by kernel_rfl
theorem ck5 : ((Rows.worldNoneRow.stops == [])) = true := by kernel_rfl
theorem ck6 : ((Tryz.pinned.checked.prog.stops == [])) = true := by kernel_rfl
theorem ck7 : ((Rows.worldNoneRow.knobs == [])) = true := by kernel_rfl
theorem ck8 : ((Tryz.pinned.checked.prog.stopKnobs == [])) = true := by kernel_rfl
theorem ck9 : ((Rows.worldNoneRow.inPlace == Tryz.pinned.checked.prog.inPlace 6)) = true := by kernel_rfl
theorem ck10 : ((Rows.worldNoneRow.unfollowed == Tryz.pinned.checked.prog.unfollowed 6)) = true := by kernel_rfl
theorem ck11 : ((Rows.worldNoneRow.recurses == Tryz.pinned.checked.prog.recurses 6)) = true := by kernel_rfl
theorem ck12 : ((Rows.worldNoneRow.named == Tryz.pinned.checked.prog.varsNamed 6)) = true := by kernel_rfl
theorem ck13 : ((Rows.worldNoneRow.maps == (Tryz.f6.params.toList ++ Rows.worldNoneSpec.plain.varTypes Tryz.pinned.checked.prog).any (Tryz.pinned.checked.prog.mapsRec ·))) = true := by kernel_rfl
theorem ck14 : ((Rows.worldNoneRow.ifaces == (Tryz.f6.params.toList ++ Rows.worldNoneSpec.plain.varTypes Tryz.pinned.checked.prog).any (Tryz.pinned.checked.prog.ifacesRec ·))) = true := by kernel_rfl
theorem ck15 : ((Rows.worldNoneRow.mapsOut == Tryz.pinned.checked.prog.mapsAmong Tryz.f6.resultTypes.toList)) = true := by kernel_rfl
theorem ck16 : ((Rows.worldNoneRow.loops == (Tryz.f6.params.toList ++ Rows.worldNoneSpec.plain.varTypes Tryz.pinned.checked.prog).any (Tryz.pinned.checked.prog.loopsFrom ·))) = true := by kernel_rfl
theorem ck17 : ((Rows.worldNoneRow.wideKeys == (Tryz.f6.params.toList ++ Rows.worldNoneSpec.plain.varTypes Tryz.pinned.checked.prog ++ Tryz.f6.resultTypes.toList).any (Tryz.pinned.checked.prog.wideKeysFrom ·))) = true := by kernel_rfl
theorem ck18 : (Rows.worldNoneSpec.vars.all (Tryz.pinned.checked.prog.varReadable ·)) = true := by kernel_rfl
theorem ck19 : (Tryz.f6.resultTypes.all (fun t => Tryz.pinned.checked.prog.readableRec t && decide (t < Tryz.pinned.checked.prog.types.size))) = true := by kernel_rfl
theorem ck20 : ((Rows.worldNoneRow.ifacesOut == Tryz.f6.resultTypes.toList.any (Tryz.pinned.checked.prog.ifacesRec ·))) = true := by kernel_rfl
theorem ck21 : ((Rows.worldNoneRow.loopsOut == Tryz.f6.resultTypes.toList.any (Tryz.pinned.checked.prog.loopsFrom ·))) = true := by kernel_rfl
theorem ck22 : ((Rows.worldNoneRow.plainKeys == Tryz.pinned.checked.prog.plainKeys)) = true := by kernel_rfl
theorem ck23 : (Rows.worldNoneRow.shortTexts.isNone) = true := by kernel_rfl
theorem ck24 : (Tryz.pinned.checked.prog.stopsHeard) = true := by kernel_rfl
theorem ck25 : (Tryz.pinned.checked.prog.mayEnter) = true := by kernel_rfl
theorem ck26 : ((Rows.worldNoneRow.lifted == Tryz.pinned.checked.prog.liftsFinal)) = true := by kernel_rfl
theorem ck27 : ((Tryz.pinned.checked.prog.make == some Rows.worldNoneRow.make)) = true := by kernel_rfl
theorem ck29 : ((Rows.worldNoneRow.pinned == Rows.worldNoneRow.pinnedBy)) = true := by kernel_rfl
theorem ck30 : ((Rows.worldNoneRow.veiled == (Tryz.f6.params.toList ++ Rows.worldNoneSpec.plain.varTypes Tryz.pinned.checked.prog ++ Tryz.f6.resultTypes.toList).any (Tryz.pinned.checked.prog.veiledRec ·))) = true := by kernel_rfl
theorem ck31 : (Rows.worldNoneRow.veiledFits Tryz.pinned.checked.prog Tryz.f6.params.toList (Tryz.f6.params.toList ++ Rows.worldNoneSpec.plain.varTypes Tryz.pinned.checked.prog ++ Tryz.f6.resultTypes.toList)) = true := by kernel_rfl
theorem closed : joinedFacts Tryz.pinned.checked.prog 6 Tryz.f6 Rows.worldNoneSpec Rows.worldNoneRow = true := by
  unfold joinedFacts
  simp only [Bool.and_eq_true]
  exact ⟨⟨⟨⟨⟨⟨⟨⟨⟨⟨⟨⟨⟨⟨⟨⟨⟨⟨⟨⟨⟨⟨⟨⟨⟨⟨⟨⟨⟨⟨⟨ck0, ck1⟩, ck2⟩, ck3⟩, ck4⟩, ck5⟩, ck6⟩, ck7⟩, ck8⟩, ck9⟩, ck10⟩, ck11⟩, ck12⟩, ck13⟩, ck14⟩, ck15⟩, ck16⟩, ck17⟩, ck18⟩, ck19⟩, ck20⟩, ck21⟩, ck22⟩, ck23⟩, ck24⟩, ck25⟩, ck26⟩, ck27⟩, (by kernel_rfl)⟩, ck29⟩, ck30⟩, ck31⟩

theorem proved : Rows.WorldNoneSaid :=
  OpenClaim.holds_of_wide 6 Tryz.f6 rfl rfl rfl rfl rfl rfl rfl ⟨rfl, rfl, rfl, rfl, rfl⟩ rfl rfl rfl rfl rfl (by kernel_rfl) Tryz.func6 closed
    (of_decide_eq_true (by kernel_rfl)) (by unfold Func.isWrapper; first | (rw [if_pos (by decide +kernel)]; kernel_rfl) | (rw [if_neg (by decide +kernel)]; exact ⟨rfl, rfl⟩))
    (fun os started H enc _ => lifted os started H enc)
end Go.Proofs.YthdoihdngldlfaaGreat.worldNone
