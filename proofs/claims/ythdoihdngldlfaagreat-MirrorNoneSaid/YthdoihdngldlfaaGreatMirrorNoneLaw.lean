/- Of a mirror that no call made nothing is told. Its conditions are the row's own: none. -/
import Derived.Test.YthdoihdngldlfaaGreatRows
import Derived.Test.YthdoihdngldlfaaGreatAm13c
import Derived.Test.YthdoihdngldlfaaGreatMn1
set_option linter.all false
set_option linter.unusedVariables false
set_option linter.unusedSimpArgs false
namespace Go.Proofs.YthdoihdngldlfaaGreat.mirrorNone
open Go.ChangeShapes Go.WideShapes Go.ChangeAt Go.RowKit Go.Am

theorem own : ownKnob Tryz.prog.godebug = none := by kernel_rfl
theorem laidOut : laidOutB Tryz.prog = true := by kernel_rfl
theorem fine : Tryz.f4.params.toList.all (fineParam Tryz.prog) = true := by kernel_rfl
theorem fines : Tryz.f4.params.toList.all (fineT Tryz.prog 12) = true := by kernel_rfl

theorem toks1 {P : Program} {t0 : TypeId} {xs : List (List Value)} (h : TOks P [t0] xs) : ∃ x0 : List Value, xs = [x0] ∧ TOk P t0 x0 := by
  match xs, h with
  | [x0], ⟨h0, _⟩ => exact ⟨x0, rfl, h0⟩
theorem toks2 {P : Program} {t0 t1 : TypeId} {xs : List (List Value)} (h : TOks P [t0, t1] xs) : ∃ x0 x1 : List Value, xs = [x0, x1] ∧ TOk P t0 x0 ∧ TOk P t1 x1 := by
  match xs, h with
  | [x0, x1], ⟨h0, h1, _⟩ => exact ⟨x0, x1, rfl, h0, h1⟩
theorem toks6 {P : Program} {t0 t1 t2 t3 t4 t5 : TypeId} {xs : List (List Value)} (h : TOks P [t0, t1, t2, t3, t4, t5] xs) : ∃ x0 x1 x2 x3 x4 x5 : List Value, xs = [x0, x1, x2, x3, x4, x5] ∧ TOk P t0 x0 ∧ TOk P t1 x1 ∧ TOk P t2 x2 ∧ TOk P t3 x3 ∧ TOk P t4 x4 ∧ TOk P t5 x5 := by
  match xs, h with
  | [x0, x1, x2, x3, x4, x5], ⟨h0, h1, h2, h3, h4, h5, _⟩ => exact ⟨x0, x1, x2, x3, x4, x5, rfl, h0, h1, h2, h3, h4, h5⟩
theorem tabs : ∀ f, (TT f).lives = true → Lives Tryz.prog f := TT_lives

/-- THE WALK: what the machine says, whatever the arguments are; of rows the lengths alone are told -/
theorem walk (xs : List (List Value)) (h : TOks Tryz.prog Tryz.f4.params.toList xs) : ∃ ys, Blur Tryz.prog (argVs Tryz.prog Tryz.f4.params.toList xs) ys ∧ saysTrue (acall Tryz.prog TT 4 ys []) = true := by
  have hp : Tryz.f4.params.toList = [47] := by kernel_rfl
  rw [hp] at h ⊢
  obtain ⟨x2, rfl, a1⟩ := toks1 h
  obtain ⟨d3, rfl, h4⟩ := a1.struct_inv Tryz.underlying47
  obtain ⟨e5, e6, e7, e8, e9, e10, rfl, k11, k12, k13, k14, k15, k16⟩ := toks6 h4
  obtain ⟨i17, rfl, _⟩ := k11.int_inv Tryz.underlying3
  obtain ⟨i18, rfl, _⟩ := k12.int_inv Tryz.underlying3
  obtain ⟨i19, rfl, _⟩ := k13.int_inv Tryz.underlying27
  obtain ⟨d20, rfl, h21⟩ := k14.struct_inv Tryz.underlying42
  obtain ⟨e22, e23, rfl, k24, k25⟩ := toks2 h21
  obtain ⟨i26, rfl, _⟩ := k24.int_inv Tryz.underlying3
  obtain ⟨i27, rfl, _⟩ := k25.int_inv Tryz.underlying3
  obtain ⟨r28, rfl, _⟩ := k15.slice_inv Tryz.underlying43
  obtain ⟨d29, rfl, h30⟩ := k16.struct_inv Tryz.underlying45
  obtain ⟨e31, e32, e33, e34, e35, e36, rfl, k37, k38, k39, k40, k41, k42⟩ := toks6 h30
  obtain ⟨i43, rfl, _⟩ := k37.int_inv Tryz.underlying3
  obtain ⟨i44, rfl, _⟩ := k38.int_inv Tryz.underlying3
  obtain ⟨i45, rfl, _⟩ := k39.int_inv Tryz.underlying3
  obtain ⟨i46, rfl, _⟩ := k40.int_inv Tryz.underlying27
  obtain ⟨b47, rfl⟩ := k41.bool_inv Tryz.underlying4
  obtain ⟨r48, rfl, _⟩ := k42.slice_inv Tryz.underlying43
  refine ⟨[.agg [Value.int .i64 i17, Value.int .i64 i18, Value.int .u64 i19, Value.int .i64 i26, Value.int .i64 i27, tSl r28.length [], Value.int .i64 i43, Value.int .i64 i44, Value.int .i64 i45, Value.int .u64 i46, Value.bool b47, tSl r48.length []].toArray], ?_, (fun k tk mk o l n mK mI mO mM mW m => MN.law k tk mk o l mK mI mO mM mW n m) i17 i18 i19 i26 i27 r28.length i43 i44 i45 i46 b47 r48.length⟩
  have hv : argVs Tryz.prog [47] [([[Value.int .i64 i17], [Value.int .i64 i18], [Value.int .u64 i19], ([[Value.int .i64 i26], [Value.int .i64 i27]] : List (List Value)).flatten, [tSl r28.length r28.flatten], ([[Value.int .i64 i43], [Value.int .i64 i44], [Value.int .i64 i45], [Value.int .u64 i46], [Value.bool b47], [tSl r48.length r48.flatten]] : List (List Value)).flatten] : List (List Value)).flatten] = [.agg [Value.int .i64 i17, Value.int .i64 i18, Value.int .u64 i19, Value.int .i64 i26, Value.int .i64 i27, tSl r28.length r28.flatten, Value.int .i64 i43, Value.int .i64 i44, Value.int .i64 i45, Value.int .u64 i46, Value.bool b47, tSl r48.length r48.flatten].toArray] := by
    simp only [argVs, argV, Tryz.underlying47]
    rfl
  rw [hv]
  exact .cons (.agg (.cons (.refl _) (.cons (.refl _) (.cons (.refl _) (.cons (.refl _) (.cons (.refl _) (.cons (.row _ _) (.cons (.refl _) (.cons (.refl _) (.cons (.refl _) (.cons (.refl _) (.cons (.refl _) (.cons (.row _ _) (.refl _)))))))))))))) (.refl _)

set_option maxRecDepth 100000 in
theorem contract (H : Type) (enc : TypeId × Value → H) (W : World) (base : Nat) (args : Array Value) (ds gs : List (DataW H)) (before : List MemPlace)
    (hval : ∀ (j : Nat) t v, Tryz.f4.params[j]? = some t → args[j]? = some v → Value.okWide Tryz.prog W .any base t v)
    (hW : DataW.Whole enc Tryz.prog Tryz.f4.params.toList Rows.mirrorNoneSpec.vars false W args.toList ds gs before) :
    Calls Tryz.prog 4 args W fun e W' => ∃ v, e = .returned v ∧ Rows.mirrorNoneSpec.post enc Tryz.prog Tryz.f4 false true false false W args v W' := by
  have hA := hW
  obtain ⟨p, q, hA, _⟩ := hA
  refine (calls_blurred tabs fines walk hA (fun j t v ht hv => hval j t v (by rw [Array.getElem?_toList] at ht; exact ht) hv)).mono fun e W' ⟨he, hk⟩ => ?_
  subst he
  refine ⟨_, rfl, kept_post laidOut fine (tb := 4) (by kernel_rfl) Tryz.underlying4 rfl ?_ hW hk⟩
  intro ds hd
  match ds, hd with
  | [d0], _ => exact ⟨rfl, rfl, rfl⟩

set_option maxRecDepth 100000 in
theorem lifted (os : Os) (started : os.Started) (H : Type) (enc : TypeId × Value → H) :
    ReturnsInHanded {} Tryz.checked os 4 .any (Rows.mirrorNoneSpec.pre6 enc Tryz.prog Tryz.f4 Rows.mirrorNoneRow.domain false) (Rows.mirrorNoneSpec.post enc Tryz.prog Tryz.f4 false true false false) := by
  refine returnsInHanded_of_change_shaped (C := Tryz.checked) own started (by kernel_rfl) Tryz.func4
    (ChangeSpec.witness6 (enc := enc) (C := Tryz.checked) false ⟨#[], (Tryz.f4.params.map fun t => (zeroP Tryz.prog t).getD unk), []⟩ 12 (by kernel_rfl) (by kernel_rfl) (by kernel_rfl) (by kernel_rfl)) ?_
  intro W base args ds gs before hval hW _ _ _ _
  exact contract H enc W base args ds gs before hval hW

theorem ck0 : (Rows.mirrorNoneRow.wf (OpenSpec.ofChange Rows.mirrorNoneSpec)) = true := by kernel_rfl
theorem ck1 : (laidOutB Tryz.pinned.checked.prog) = true := by kernel_rfl
theorem ck2 : (mapsRowed Tryz.pinned.checked.prog) = true := by kernel_rfl
theorem ck3 : (Tryz.f4.params.all (Tryz.pinned.checked.prog.readableRec ·)) = true := by kernel_rfl
theorem ck4 : (namedTie Tryz.pinned.checked.prog Rows.mirrorNoneRow.named Rows.mirrorNoneSpec.vars) = true := by kernel_rfl
theorem ck5 : ((Rows.mirrorNoneRow.stops == [])) = true := by kernel_rfl
theorem ck6 : ((Tryz.pinned.checked.prog.stops == [])) = true := by kernel_rfl
theorem ck7 : ((Rows.mirrorNoneRow.knobs == [])) = true := by kernel_rfl
theorem ck8 : ((Tryz.pinned.checked.prog.stopKnobs == [])) = true := by kernel_rfl
theorem ck9 : ((Rows.mirrorNoneRow.inPlace == Tryz.pinned.checked.prog.inPlace 4)) = true := by kernel_rfl
theorem ck10 : ((Rows.mirrorNoneRow.unfollowed == Tryz.pinned.checked.prog.unfollowed 4)) = true := by kernel_rfl
theorem ck11 : ((Rows.mirrorNoneRow.recurses == Tryz.pinned.checked.prog.recurses 4)) = true := by kernel_rfl
theorem ck12 : ((Rows.mirrorNoneRow.named == Tryz.pinned.checked.prog.varsNamed 4)) = true := by kernel_rfl
theorem ck13 : ((Rows.mirrorNoneRow.maps == (Tryz.f4.params.toList ++ Rows.mirrorNoneSpec.plain.varTypes Tryz.pinned.checked.prog).any (Tryz.pinned.checked.prog.mapsRec ·))) = true := by kernel_rfl
theorem ck14 : ((Rows.mirrorNoneRow.ifaces == (Tryz.f4.params.toList ++ Rows.mirrorNoneSpec.plain.varTypes Tryz.pinned.checked.prog).any (Tryz.pinned.checked.prog.ifacesRec ·))) = true := by kernel_rfl
theorem ck15 : ((Rows.mirrorNoneRow.mapsOut == Tryz.pinned.checked.prog.mapsAmong Tryz.f4.resultTypes.toList)) = true := by kernel_rfl
theorem ck16 : ((Rows.mirrorNoneRow.loops == (Tryz.f4.params.toList ++ Rows.mirrorNoneSpec.plain.varTypes Tryz.pinned.checked.prog).any (Tryz.pinned.checked.prog.loopsFrom ·))) = true := by kernel_rfl
theorem ck17 : ((Rows.mirrorNoneRow.wideKeys == (Tryz.f4.params.toList ++ Rows.mirrorNoneSpec.plain.varTypes Tryz.pinned.checked.prog ++ Tryz.f4.resultTypes.toList).any (Tryz.pinned.checked.prog.wideKeysFrom ·))) = true := by kernel_rfl
theorem ck18 : (Rows.mirrorNoneSpec.vars.all (Tryz.pinned.checked.prog.varReadable ·)) = true := by kernel_rfl
theorem ck19 : (Tryz.f4.resultTypes.all (fun t => Tryz.pinned.checked.prog.readableRec t && decide (t < Tryz.pinned.checked.prog.types.size))) = true := by kernel_rfl
theorem ck20 : ((Rows.mirrorNoneRow.ifacesOut == Tryz.f4.resultTypes.toList.any (Tryz.pinned.checked.prog.ifacesRec ·))) = true := by kernel_rfl
theorem ck21 : ((Rows.mirrorNoneRow.loopsOut == Tryz.f4.resultTypes.toList.any (Tryz.pinned.checked.prog.loopsFrom ·))) = true := by kernel_rfl
theorem ck22 : ((Rows.mirrorNoneRow.plainKeys == Tryz.pinned.checked.prog.plainKeys)) = true := by kernel_rfl
theorem ck23 : (Rows.mirrorNoneRow.shortTexts.isNone) = true := by kernel_rfl
theorem ck24 : (Tryz.pinned.checked.prog.stopsHeard) = true := by kernel_rfl
theorem ck25 : (Tryz.pinned.checked.prog.mayEnter) = true := by kernel_rfl
theorem ck26 : ((Rows.mirrorNoneRow.lifted == Tryz.pinned.checked.prog.liftsFinal)) = true := by kernel_rfl
theorem ck27 : ((Tryz.pinned.checked.prog.make == some Rows.mirrorNoneRow.make)) = true := by kernel_rfl
theorem ck29 : ((Rows.mirrorNoneRow.pinned == Rows.mirrorNoneRow.pinnedBy)) = true := by kernel_rfl
theorem ck30 : ((Rows.mirrorNoneRow.veiled == (Tryz.f4.params.toList ++ Rows.mirrorNoneSpec.plain.varTypes Tryz.pinned.checked.prog ++ Tryz.f4.resultTypes.toList).any (Tryz.pinned.checked.prog.veiledRec ·))) = true := by kernel_rfl
theorem ck31 : (Rows.mirrorNoneRow.veiledFits Tryz.pinned.checked.prog Tryz.f4.params.toList (Tryz.f4.params.toList ++ Rows.mirrorNoneSpec.plain.varTypes Tryz.pinned.checked.prog ++ Tryz.f4.resultTypes.toList)) = true := by kernel_rfl
theorem closed : joinedFacts Tryz.pinned.checked.prog 4 Tryz.f4 Rows.mirrorNoneSpec Rows.mirrorNoneRow = true := by
  unfold joinedFacts
  simp only [Bool.and_eq_true]
  exact ⟨⟨⟨⟨⟨⟨⟨⟨⟨⟨⟨⟨⟨⟨⟨⟨⟨⟨⟨⟨⟨⟨⟨⟨⟨⟨⟨⟨⟨⟨⟨ck0, ck1⟩, ck2⟩, ck3⟩, ck4⟩, ck5⟩, ck6⟩, ck7⟩, ck8⟩, ck9⟩, ck10⟩, ck11⟩, ck12⟩, ck13⟩, ck14⟩, ck15⟩, ck16⟩, ck17⟩, ck18⟩, ck19⟩, ck20⟩, ck21⟩, ck22⟩, ck23⟩, ck24⟩, ck25⟩, ck26⟩, ck27⟩, (by kernel_rfl)⟩, ck29⟩, ck30⟩, ck31⟩

theorem proved : Rows.MirrorNoneSaid :=
  OpenClaim.holds_of_wide 4 Tryz.f4 rfl rfl rfl rfl rfl rfl rfl ⟨rfl, rfl, rfl, rfl, rfl⟩ rfl rfl rfl rfl rfl (by kernel_rfl) Tryz.func4 closed
    (of_decide_eq_true (by kernel_rfl)) (by unfold Func.isWrapper; first | (rw [if_pos (by decide +kernel)]; kernel_rfl) | (rw [if_neg (by decide +kernel)]; exact ⟨rfl, rfl⟩))
    (fun os started H enc _ => lifted os started H enc)
end Go.Proofs.YthdoihdngldlfaaGreat.mirrorNone
