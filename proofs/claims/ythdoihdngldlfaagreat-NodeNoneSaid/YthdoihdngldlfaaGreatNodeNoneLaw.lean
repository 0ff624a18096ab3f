/- Of a node that no call made nothing is told. Its conditions are the row's own: none. -/
import Derived.Test.YthdoihdngldlfaaGreatRows
import Derived.Test.YthdoihdngldlfaaGreatAm13c
import Derived.Test.YthdoihdngldlfaaGreatNn1
set_option linter.all false
set_option linter.unusedVariables false
set_option linter.unusedSimpArgs false
namespace Go.Proofs.YthdoihdngldlfaaGreat.nodeNone
open Go.ChangeShapes Go.WideShapes Go.ChangeAt Go.RowKit Go.Am

theorem own : ownKnob Tryz.prog.godebug = none := by kernel_rfl
theorem laidOut : laidOutB Tryz.prog = true := by kernel_rfl
theorem fine : Tryz.f5.params.toList.all (fineParam Tryz.prog) = true := by kernel_rfl
theorem fines : Tryz.f5.params.toList.all (fineT Tryz.prog 12) = true := by kernel_rfl

theorem toks1 {P : Program} {t0 : TypeId} {xs : List (List Value)} (h : TOks P [t0] xs) : ∃ x0 : List Value, xs = [x0] ∧ TOk P t0 x0 := by
  match xs, h with
  | [x0], ⟨h0, _⟩ => exact ⟨x0, rfl, h0⟩
theorem toks2 {P : Program} {t0 t1 : TypeId} {xs : List (List Value)} (h : TOks P [t0, t1] xs) : ∃ x0 x1 : List Value, xs = [x0, x1] ∧ TOk P t0 x0 ∧ TOk P t1 x1 := by
  match xs, h with
  | [x0, x1], ⟨h0, h1, _⟩ => exact ⟨x0, x1, rfl, h0, h1⟩
theorem toks3 {P : Program} {t0 t1 t2 : TypeId} {xs : List (List Value)} (h : TOks P [t0, t1, t2] xs) : ∃ x0 x1 x2 : List Value, xs = [x0, x1, x2] ∧ TOk P t0 x0 ∧ TOk P t1 x1 ∧ TOk P t2 x2 := by
  match xs, h with
  | [x0, x1, x2], ⟨h0, h1, h2, _⟩ => exact ⟨x0, x1, x2, rfl, h0, h1, h2⟩
theorem toks6 {P : Program} {t0 t1 t2 t3 t4 t5 : TypeId} {xs : List (List Value)} (h : TOks P [t0, t1, t2, t3, t4, t5] xs) : ∃ x0 x1 x2 x3 x4 x5 : List Value, xs = [x0, x1, x2, x3, x4, x5] ∧ TOk P t0 x0 ∧ TOk P t1 x1 ∧ TOk P t2 x2 ∧ TOk P t3 x3 ∧ TOk P t4 x4 ∧ TOk P t5 x5 := by
  match xs, h with
  | [x0, x1, x2, x3, x4, x5], ⟨h0, h1, h2, h3, h4, h5, _⟩ => exact ⟨x0, x1, x2, x3, x4, x5, rfl, h0, h1, h2, h3, h4, h5⟩
theorem toks7 {P : Program} {t0 t1 t2 t3 t4 t5 t6 : TypeId} {xs : List (List Value)} (h : TOks P [t0, t1, t2, t3, t4, t5, t6] xs) : ∃ x0 x1 x2 x3 x4 x5 x6 : List Value, xs = [x0, x1, x2, x3, x4, x5, x6] ∧ TOk P t0 x0 ∧ TOk P t1 x1 ∧ TOk P t2 x2 ∧ TOk P t3 x3 ∧ TOk P t4 x4 ∧ TOk P t5 x5 ∧ TOk P t6 x6 := by
  match xs, h with
  | [x0, x1, x2, x3, x4, x5, x6], ⟨h0, h1, h2, h3, h4, h5, h6, _⟩ => exact ⟨x0, x1, x2, x3, x4, x5, x6, rfl, h0, h1, h2, h3, h4, h5, h6⟩
theorem tabs : ∀ f, (TT f).lives = true → Lives Tryz.prog f := TT_lives

/-- THE WALK: what the machine says, whatever the arguments are; of rows the lengths alone are told -/
theorem walk (xs : List (List Value)) (h : TOks Tryz.prog Tryz.f5.params.toList xs) : ∃ ys, Blur Tryz.prog (argVs Tryz.prog Tryz.f5.params.toList xs) ys ∧ saysTrue (acall Tryz.prog TT 5 ys []) = true := by
  have hp : Tryz.f5.params.toList = [81] := by kernel_rfl
  rw [hp] at h ⊢
  obtain ⟨x2, rfl, a1⟩ := toks1 h
  obtain ⟨d3, rfl, h4⟩ := a1.struct_inv Tryz.underlying81
  obtain ⟨e5, e6, e7, e8, e9, e10, e11, rfl, k12, k13, k14, k15, k16, k17, k18⟩ := toks7 h4
  obtain ⟨i19, rfl, _⟩ := k12.int_inv Tryz.underlying3
  obtain ⟨i20, rfl, _⟩ := k13.int_inv Tryz.underlying3
  obtain ⟨i21, rfl, _⟩ := k14.int_inv Tryz.underlying27
  obtain ⟨d22, rfl, h23⟩ := k15.struct_inv Tryz.underlying76
  obtain ⟨e24, e25, e26, rfl, k27, k28, k29⟩ := toks3 h23
  obtain ⟨i30, rfl, _⟩ := k27.int_inv Tryz.underlying3
  obtain ⟨d31, rfl, h32⟩ := k28.struct_inv Tryz.underlying42
  obtain ⟨e33, e34, rfl, k35, k36⟩ := toks2 h32
  obtain ⟨i37, rfl, _⟩ := k35.int_inv Tryz.underlying3
  obtain ⟨i38, rfl, _⟩ := k36.int_inv Tryz.underlying3
  obtain ⟨r39, rfl, _⟩ := k29.slice_inv Tryz.underlying43
  obtain ⟨d40, rfl, h41⟩ := k16.struct_inv Tryz.underlying79
  obtain ⟨e42, e43, e44, e45, e46, e47, rfl, k48, k49, k50, k51, k52, k53⟩ := toks6 h41
  obtain ⟨i54, rfl, _⟩ := k48.int_inv Tryz.underlying77
  obtain ⟨i55, rfl, _⟩ := k49.int_inv Tryz.underlying77
  obtain ⟨i56, rfl, _⟩ := k50.int_inv Tryz.underlying3
  obtain ⟨i57, rfl, _⟩ := k51.int_inv Tryz.underlying3
  obtain ⟨i58, rfl, _⟩ := k52.int_inv Tryz.underlying3
  obtain ⟨r59, rfl, _⟩ := k53.slice_inv Tryz.underlying43
  obtain ⟨d60, rfl, h61⟩ := k17.struct_inv Tryz.underlying45
  obtain ⟨e62, e63, e64, e65, e66, e67, rfl, k68, k69, k70, k71, k72, k73⟩ := toks6 h61
  obtain ⟨i74, rfl, _⟩ := k68.int_inv Tryz.underlying3
  obtain ⟨i75, rfl, _⟩ := k69.int_inv Tryz.underlying3
  obtain ⟨i76, rfl, _⟩ := k70.int_inv Tryz.underlying3
  obtain ⟨i77, rfl, _⟩ := k71.int_inv Tryz.underlying27
  obtain ⟨b78, rfl⟩ := k72.bool_inv Tryz.underlying4
  obtain ⟨r79, rfl, _⟩ := k73.slice_inv Tryz.underlying43
  obtain ⟨r80, rfl, _⟩ := k18.slice_inv Tryz.underlying43
  refine ⟨[.agg [Value.int .i64 i19, Value.int .i64 i20, Value.int .u64 i21, Value.int .i64 i30, Value.int .i64 i37, Value.int .i64 i38, tSl r39.length [], Value.int .u32 i54, Value.int .u32 i55, Value.int .i64 i56, Value.int .i64 i57, Value.int .i64 i58, tSl r59.length [], Value.int .i64 i74, Value.int .i64 i75, Value.int .i64 i76, Value.int .u64 i77, Value.bool b78, tSl r79.length [], tSl r80.length []].toArray], ?_, NN.law i19 i20 i21 i30 i37 i38 r39.length i54 i55 i56 i57 i58 r59.length i74 i75 i76 i77 b78 r79.length r80.length⟩
  have hv : argVs Tryz.prog [81] [([[Value.int .i64 i19], [Value.int .i64 i20], [Value.int .u64 i21], ([[Value.int .i64 i30], ([[Value.int .i64 i37], [Value.int .i64 i38]] : List (List Value)).flatten, [tSl r39.length r39.flatten]] : List (List Value)).flatten, ([[Value.int .u32 i54], [Value.int .u32 i55], [Value.int .i64 i56], [Value.int .i64 i57], [Value.int .i64 i58], [tSl r59.length r59.flatten]] : List (List Value)).flatten, ([[Value.int .i64 i74], [Value.int .i64 i75], [Value.int .i64 i76], [Value.int .u64 i77], [Value.bool b78], [tSl r79.length r79.flatten]] : List (List Value)).flatten, [tSl r80.length r80.flatten]] : List (List Value)).flatten] = [.agg [Value.int .i64 i19, Value.int .i64 i20, Value.int .u64 i21, Value.int .i64 i30, Value.int .i64 i37, Value.int .i64 i38, tSl r39.length r39.flatten, Value.int .u32 i54, Value.int .u32 i55, Value.int .i64 i56, Value.int .i64 i57, Value.int .i64 i58, tSl r59.length r59.flatten, Value.int .i64 i74, Value.int .i64 i75, Value.int .i64 i76, Value.int .u64 i77, Value.bool b78, tSl r79.length r79.flatten, tSl r80.length r80.flatten].toArray] := by
    simp only [argVs, argV, Tryz.underlying81]
    rfl
  rw [hv]
  exact .cons (.agg (.cons (.refl _) (.cons (.refl _) (.cons (.refl _) (.cons (.refl _) (.cons (.refl _) (.cons (.refl _) (.cons (.row _ _) (.cons (.refl _) (.cons (.refl _) (.cons (.refl _) (.cons (.refl _) (.cons (.refl _) (.cons (.row _ _) (.cons (.refl _) (.cons (.refl _) (.cons (.refl _) (.cons (.refl _) (.cons (.refl _) (.cons (.row _ _) (.cons (.row _ _) (.refl _)))))))))))))))))))))) (.refl _)

set_option maxRecDepth 100000 in
theorem contract (H : Type) (enc : TypeId × Value → H) (W : World) (base : Nat) (args : Array Value) (ds gs : List (DataW H)) (before : List MemPlace)
    (hval : ∀ (j : Nat) t v, Tryz.f5.params[j]? = some t → args[j]? = some v → Value.okWide Tryz.prog W .any base t v)
    (hW : DataW.Whole enc Tryz.prog Tryz.f5.params.toList Rows.nodeNoneSpec.vars false W args.toList ds gs before) :
    Calls Tryz.prog 5 args W fun e W' => ∃ v, e = .returned v ∧ Rows.nodeNoneSpec.post enc Tryz.prog Tryz.f5 false true false false W args v W' := by
  have hA := hW
  obtain ⟨p, q, hA, _⟩ := hA
  refine (calls_blurred tabs fines walk hA (fun j t v ht hv => hval j t v (by rw [Array.getElem?_toList] at ht; exact ht) hv)).mono fun e W' ⟨he, hk⟩ => ?_
  subst he
  refine ⟨_, rfl, kept_post laidOut fine (tb := 4) (by kernel_rfl) Tryz.underlying4 rfl ?_ hW hk⟩
  intro ds hd
  match ds, hd with
  | [d0], _ => exact ⟨rfl, rfl, rfl⟩

set_option maxRecDepth 100000 in
theorem lifted (os : Os) (started : os.Started) (H : Type) (enc : TypeId × Value → H) :
    ReturnsInHanded {} Tryz.checked os 5 .any (Rows.nodeNoneSpec.pre6 enc Tryz.prog Tryz.f5 Rows.nodeNoneRow.domain false) (Rows.nodeNoneSpec.post enc Tryz.prog Tryz.f5 false true false false) := by
  refine returnsInHanded_of_change_shaped (C := Tryz.checked) own started (by kernel_rfl) Tryz.func5
    (ChangeSpec.witness6 (enc := enc) (C := Tryz.checked) false ⟨#[], (Tryz.f5.params.map fun t => (zeroP Tryz.prog t).getD unk), []⟩ 12 (by kernel_rfl) (by kernel_rfl) (by kernel_rfl) (by kernel_rfl)) ?_
  intro W base args ds gs before hval hW _ _ _ _
  exact contract H enc W base args ds gs before hval hW

theorem ck0 : (Rows.nodeNoneRow.wf (OpenSpec.ofChange Rows.nodeNoneSpec)) = true := by kernel_rfl
theorem ck1 : (laidOutB Tryz.pinned.checked.prog) = true := by kernel_rfl
theorem ck2 : (mapsRowed Tryz.pinned.checked.prog) = true := by kernel_rfl
theorem ck3 : (Tryz.f5.params.all (Tryz.pinned.checked.prog.readableRec ·)) = true := by kernel_rfl
theorem ck4 : (namedTie Tryz.pinned.checked.prog Rows.nodeNoneRow.named Rows.nodeNoneSpec.vars) = true := by kernel_rfl
theorem ck5 : ((Rows.nodeNoneRow.stops == [])) = true := by kernel_rfl
theorem ck6 : ((Tryz.pinned.checked.prog.stops == [])) = true := by kernel_rfl
theorem ck7 : ((Rows.nodeNoneRow.knobs == [])) = true := by kernel_rfl
theorem ck8 : ((Tryz.pinned.checked.prog.stopKnobs == [])) = true := by kernel_rfl
theorem ck9 : ((Rows.nodeNoneRow.inPlace == Tryz.pinned.checked.prog.inPlace 5)) = true := by kernel_rfl
theorem ck10 : ((Rows.nodeNoneRow.unfollowed == Tryz.pinned.checked.prog.unfollowed 5)) = true := by kernel_rfl
theorem ck11 : ((Rows.nodeNoneRow.recurses == Tryz.pinned.checked.prog.recurses 5)) = true := by kernel_rfl
theorem ck12 : ((Rows.nodeNoneRow.named == Tryz.pinned.checked.prog.varsNamed 5)) = true := by kernel_rfl
theorem ck13 : ((Rows.nodeNoneRow.maps == (Tryz.f5.params.toList ++ Rows.nodeNoneSpec.plain.varTypes Tryz.pinned.checked.prog).any (Tryz.pinned.checked.prog.mapsRec ·))) = true := by kernel_rfl
theorem ck14 : ((Rows.nodeNoneRow.ifaces == (Tryz.f5.params.toList ++ Rows.nodeNoneSpec.plain.varTypes Tryz.pinned.checked.prog).any (Tryz.pinned.checked.prog.ifacesRec ·))) = true := by kernel_rfl
theorem ck15 : ((Rows.nodeNoneRow.mapsOut == Tryz.pinned.checked.prog.mapsAmong Tryz.f5.resultTypes.toList)) = true := by kernel_rfl
theorem ck16 : ((Rows.nodeNoneRow.loops == (Tryz.f5.params.toList ++ Rows.nodeNoneSpec.plain.varTypes Tryz.pinned.checked.prog).any (Tryz.pinned.checked.prog.loopsFrom ·))) = true := by kernel_rfl
theorem ck17 : ((Rows.nodeNoneRow.wideKeys == (Tryz.f5.params.toList ++ Rows.nodeNoneSpec.plain.varTypes Tryz.pinned.checked.prog ++ Tryz.f5.resultTypes.toList).any (Tryz.pinned.checked.prog.wideKeysFrom ·))) = true := by kernel_rfl
theorem ck18 : (Rows.nodeNoneSpec.vars.all (Tryz.pinned.checked.prog.varReadable ·)) = true := by kernel_rfl
theorem ck19 : (Tryz.f5.resultTypes.all (fun t => Tryz.pinned.checked.prog.readableRec t && decide (t < Tryz.pinned.checked.prog.types.size))) = true := by kernel_rfl
theorem ck20 : ((Rows.nodeNoneRow.ifacesOut == Tryz.f5.resultTypes.toList.any (Tryz.pinned.checked.prog.ifacesRec ·))) = true := by kernel_rfl
theorem ck21 : ((Rows.nodeNoneRow.loopsOut == Tryz.f5.resultTypes.toList.any (Tryz.pinned.checked.prog.loopsFrom ·))) = true := by kernel_rfl
theorem ck22 : ((Rows.nodeNoneRow.plainKeys == Tryz.pinned.checked.prog.plainKeys)) = true := by kernel_rfl
theorem ck23 : (Rows.nodeNoneRow.shortTexts.isNone) = true := by kernel_rfl
theorem ck24 : (Tryz.pinned.checked.prog.stopsHeard) = true := by kernel_rfl
theorem ck25 : (Tryz.pinned.checked.prog.mayEnter) = true := by kernel_rfl
theorem ck26 : ((Rows.nodeNoneRow.lifted == Tryz.pinned.checked.prog.liftsFinal)) = true := by kernel_rfl
theorem ck27 : ((Tryz.pinned.checked.prog.make == some Rows.nodeNoneRow.make)) = true := by kernel_rfl
theorem ck29 : ((Rows.nodeNoneRow.pinned == Rows.nodeNoneRow.pinnedBy)) = true := by kernel_rfl
theorem ck30 : ((Rows.nodeNoneRow.veiled == (Tryz.f5.params.toList ++ Rows.nodeNoneSpec.plain.varTypes Tryz.pinned.checked.prog ++ Tryz.f5.resultTypes.toList).any (Tryz.pinned.checked.prog.veiledRec ·))) = true := by kernel_rfl
theorem ck31 : (Rows.nodeNoneRow.veiledFits Tryz.pinned.checked.prog Tryz.f5.params.toList (Tryz.f5.params.toList ++ Rows.nodeNoneSpec.plain.varTypes Tryz.pinned.checked.prog ++ Tryz.f5.resultTypes.toList)) = true := by kernel_rfl
theorem closed : joinedFacts Tryz.pinned.checked.prog 5 Tryz.f5 Rows.nodeNoneSpec Rows.nodeNoneRow = true := by
  unfold joinedFacts
  simp only [Bool.and_eq_true]
  exact ⟨⟨⟨⟨⟨⟨⟨⟨⟨⟨⟨⟨⟨⟨⟨⟨⟨⟨⟨⟨⟨⟨⟨⟨⟨⟨⟨⟨⟨⟨⟨ck0, ck1⟩, ck2⟩, ck3⟩, ck4⟩, ck5⟩, ck6⟩, ck7⟩, ck8⟩, ck9⟩, ck10⟩, ck11⟩, ck12⟩, ck13⟩, ck14⟩, ck15⟩, ck16⟩, ck17⟩, ck18⟩, ck19⟩, ck20⟩, ck21⟩, ck22⟩, ck23⟩, ck24⟩, ck25⟩, ck26⟩, ck27⟩, (by kernel_rfl)⟩, ck29⟩, ck30⟩, ck31⟩

theorem proved : Rows.NodeNoneSaid :=
  OpenClaim.holds_of_wide 5 Tryz.f5 rfl rfl rfl rfl rfl rfl rfl ⟨rfl, rfl, rfl, rfl, rfl⟩ rfl rfl rfl rfl rfl (by kernel_rfl) Tryz.func5 closed
    (of_decide_eq_true (by kernel_rfl)) (by unfold Func.isWrapper; first | (rw [if_pos (by decide +kernel)]; kernel_rfl) | (rw [if_neg (by decide +kernel)]; exact ⟨rfl, rfl⟩))
    (fun os started H enc _ => lifted os started H enc)
end Go.Proofs.YthdoihdngldlfaaGreat.nodeNone
