/- Of flights that no call made there is none. Its conditions are the row's own: none. -/
import Derived.Test.YtgdlcoaokmileaaRows
import Derived.Test.YtgdlcoaokmileaaAm13c
import Derived.Test.YtgdlcoaokmileaaFl1
set_option linter.all false
set_option linter.unusedVariables false
set_option linter.unusedSimpArgs false
namespace Go.Proofs.Ytgdlcoaokmileaa.flightNone
open Go.ChangeShapes Go.WideShapes Go.ChangeAt Go.RowKit Go.Am

theorem own : ownKnob Try.prog.godebug = none := by kernel_rfl
theorem laidOut : laidOutB Try.prog = true := by kernel_rfl
theorem fine : Try.f5.params.toList.all (fineParam Try.prog) = true := by kernel_rfl
theorem fines : Try.f5.params.toList.all (fineT Try.prog 12) = true := by kernel_rfl

theorem tabs : ∀ f, (FL.T1 f).lives = true → Lives Try.prog f := FL.T1_lives

/-- THE WALK: the machine's own run, whatever the numbers are; of the row its length alone is told -/
theorem walk (xs : List (List Value)) (h : TOks Try.prog Try.f5.params.toList xs) : ∃ ys, Blur Try.prog (argVs Try.prog Try.f5.params.toList xs) ys ∧ saysTrue (acall Try.prog FL.T1 5 ys []) = true := by
  have hp : Try.f5.params.toList = [30] := by kernel_rfl
  rw [hp] at h ⊢
  match xs, h with
  | [d], ⟨hd, _⟩ =>
    obtain ⟨ds, rfl, hs⟩ := hd.struct_inv Try.underlying30
    match ds, hs with
    | [d0, d1, d2, d3, d4], ⟨h0, h1, h2, h3, h4, _⟩ =>
      obtain ⟨k, rfl, _⟩ := h0.int_inv Try.underlying3
      obtain ⟨t, rfl, _⟩ := h1.int_inv Try.underlying3
      obtain ⟨n, rfl, _⟩ := h2.int_inv Try.underlying3
      obtain ⟨es, rfl, hs⟩ := h3.struct_inv Try.underlying28
      obtain ⟨rows, rfl, _⟩ := h4.slice_inv Try.underlying23
      match es, hs with
      | [e0, e1], ⟨k0, k1, _⟩ =>
        obtain ⟨o, rfl, _⟩ := k0.int_inv Try.underlying3
        obtain ⟨l, rfl, _⟩ := k1.int_inv Try.underlying3
        refine ⟨[.agg [Value.int .i64 k, .int .i64 t, .int .i64 n, .int .i64 o, .int .i64 l, tSl rows.length []].toArray], ?_, ?_⟩
        · have hv : argVs Try.prog [30] [([[.int .i64 k], [.int .i64 t], [.int .i64 n], [[.int .i64 o], [.int .i64 l]].flatten, [tSl rows.length rows.flatten]] : List (List Value)).flatten] = [.agg [Value.int .i64 k, .int .i64 t, .int .i64 n, .int .i64 o, .int .i64 l, tSl rows.length rows.flatten].toArray] := by
            simp only [argVs, argV, Try.underlying30]
            rfl
          rw [hv]
          refine .cons (.agg ?_) (.refl _)
          exact .cons (.refl _) (.cons (.refl _) (.cons (.refl _) (.cons (.refl _) (.cons (.refl _) (.cons (.row _ _) (.refl _))))))
        · have := acall_of_callF (P := Try.prog) (T := FL.T1) 40 (FL.run k t n o l rows.length)
          show saysTrue (acall Try.prog FL.T1 5 [.agg #[.int .i64 k, .int .i64 t, .int .i64 n, .int .i64 o, .int .i64 l, tSl rows.length []]] []) = true
          rw [this]; rfl

set_option maxRecDepth 100000 in
theorem contract (H : Type) (enc : TypeId × Value → H) (W : World) (base : Nat) (args : Array Value) (ds gs : List (DataW H)) (before : List MemPlace)
    (hval : ∀ (j : Nat) t v, Try.f5.params[j]? = some t → args[j]? = some v → Value.okWide Try.prog W .any base t v)
    (hW : DataW.Whole enc Try.prog Try.f5.params.toList Rows.flightNoneSpec.vars false W args.toList ds gs before) :
    Calls Try.prog 5 args W fun e W' => ∃ v, e = .returned v ∧ Rows.flightNoneSpec.post enc Try.prog Try.f5 false true false false W args v W' := by
  have hA := hW
  obtain ⟨p, q, hA, _⟩ := hA
  refine (calls_blurred tabs fines walk hA (fun j t v ht hv => hval j t v (by rw [Array.getElem?_toList] at ht; exact ht) hv)).mono fun e W' ⟨he, hk⟩ => ?_
  subst he
  refine ⟨_, rfl, kept_post laidOut fine (tb := 4) (by kernel_rfl) Try.underlying4 rfl ?_ hW hk⟩
  intro ds hd
  match ds, hd with
  | [d0], _ => exact ⟨rfl, rfl, rfl⟩

set_option maxRecDepth 100000 in
theorem lifted (os : Os) (started : os.Started) (H : Type) (enc : TypeId × Value → H) :
    ReturnsInHanded {} Try.checked os 5 .any (Rows.flightNoneSpec.pre6 enc Try.prog Try.f5 Rows.flightNoneRow.domain false) (Rows.flightNoneSpec.post enc Try.prog Try.f5 false true false false) := by
  refine returnsInHanded_of_change_shaped (C := Try.checked) own started (by kernel_rfl) Try.func5
    (ChangeSpec.witness6 (enc := enc) (C := Try.checked) false ⟨#[], (Try.f5.params.map fun t => (zeroP Try.prog t).getD unk), []⟩ 12 (by kernel_rfl) (by kernel_rfl) (by kernel_rfl) (by kernel_rfl)) ?_
  intro W base args ds gs before hval hW _ _ _ _
  exact contract H enc W base args ds gs before hval hW

theorem ck0 : (Rows.flightNoneRow.wf (OpenSpec.ofChange Rows.flightNoneSpec)) = true := by kernel_rfl
theorem ck1 : (laidOutB Try.pinned.checked.prog) = true := by kernel_rfl
theorem ck2 : (mapsRowed Try.pinned.checked.prog) = true := by kernel_rfl
theorem ck3 : (Try.f5.params.all (Try.pinned.checked.prog.readableRec ·)) = true := by kernel_rfl
theorem ck4 : (namedTie Try.pinned.checked.prog Rows.flightNoneRow.named Rows.flightNoneSpec.vars) = true := by kernel_rfl
theorem ck5 : ((Rows.flightNoneRow.stops == [])) = true := by kernel_rfl
theorem ck6 : ((Try.pinned.checked.prog.stops == [])) = true := by kernel_rfl
theorem ck7 : ((Rows.flightNoneRow.knobs == [])) = true := by kernel_rfl
theorem ck8 : ((Try.pinned.checked.prog.stopKnobs == [])) = true := by kernel_rfl
theorem ck9 : ((Rows.flightNoneRow.inPlace == Try.pinned.checked.prog.inPlace 5)) = true := by kernel_rfl
theorem ck10 : ((Rows.flightNoneRow.unfollowed == Try.pinned.checked.prog.unfollowed 5)) = true := by kernel_rfl
theorem ck11 : ((Rows.flightNoneRow.recurses == Try.pinned.checked.prog.recurses 5)) = true := by kernel_rfl
theorem ck12 : ((Rows.flightNoneRow.named == Try.pinned.checked.prog.varsNamed 5)) = true := by kernel_rfl
theorem ck13 : ((Rows.flightNoneRow.maps == (Try.f5.params.toList ++ Rows.flightNoneSpec.plain.varTypes Try.pinned.checked.prog).any (Try.pinned.checked.prog.mapsRec ·))) = true := by kernel_rfl
theorem ck14 : ((Rows.flightNoneRow.ifaces == (Try.f5.params.toList ++ Rows.flightNoneSpec.plain.varTypes Try.pinned.checked.prog).any (Try.pinned.checked.prog.ifacesRec ·))) = true := by kernel_rfl
theorem ck15 : ((Rows.flightNoneRow.mapsOut == Try.pinned.checked.prog.mapsAmong Try.f5.resultTypes.toList)) = true := by kernel_rfl
theorem ck16 : ((Rows.flightNoneRow.loops == (Try.f5.params.toList ++ Rows.flightNoneSpec.plain.varTypes Try.pinned.checked.prog).any (Try.pinned.checked.prog.loopsFrom ·))) = true := by kernel_rfl
theorem ck17 : ((Rows.flightNoneRow.wideKeys == (Try.f5.params.toList ++ Rows.flightNoneSpec.plain.varTypes Try.pinned.checked.prog ++ Try.f5.resultTypes.toList).any (Try.pinned.checked.prog.wideKeysFrom ·))) = true := by kernel_rfl
theorem ck18 : (Rows.flightNoneSpec.vars.all (Try.pinned.checked.prog.varReadable ·)) = true := by kernel_rfl
theorem ck19 : (Try.f5.resultTypes.all (fun t => Try.pinned.checked.prog.readableRec t && decide (t < Try.pinned.checked.prog.types.size))) = true := by kernel_rfl
theorem ck20 : ((Rows.flightNoneRow.ifacesOut == Try.f5.resultTypes.toList.any (Try.pinned.checked.prog.ifacesRec ·))) = true := by kernel_rfl
theorem ck21 : ((Rows.flightNoneRow.loopsOut == Try.f5.resultTypes.toList.any (Try.pinned.checked.prog.loopsFrom ·))) = true := by kernel_rfl
theorem ck22 : ((Rows.flightNoneRow.plainKeys == Try.pinned.checked.prog.plainKeys)) = true := by kernel_rfl
theorem ck23 : (Rows.flightNoneRow.shortTexts.isNone) = true := by kernel_rfl
theorem ck24 : (Try.pinned.checked.prog.stopsHeard) = true := by kernel_rfl
theorem ck25 : (Try.pinned.checked.prog.mayEnter) = true := by kernel_rfl
theorem ck26 : ((Rows.flightNoneRow.lifted == Try.pinned.checked.prog.liftsFinal)) = true := by kernel_rfl
theorem ck27 : ((Try.pinned.checked.prog.make == some Rows.flightNoneRow.make)) = true := by kernel_rfl
theorem ck29 : ((Rows.flightNoneRow.pinned == Rows.flightNoneRow.pinnedBy)) = true := by kernel_rfl
theorem ck30 : ((Rows.flightNoneRow.veiled == (Try.f5.params.toList ++ Rows.flightNoneSpec.plain.varTypes Try.pinned.checked.prog ++ Try.f5.resultTypes.toList).any (Try.pinned.checked.prog.veiledRec ·))) = true := by kernel_rfl
theorem ck31 : (Rows.flightNoneRow.veiledFits Try.pinned.checked.prog Try.f5.params.toList (Try.f5.params.toList ++ Rows.flightNoneSpec.plain.varTypes Try.pinned.checked.prog ++ Try.f5.resultTypes.toList)) = true := by kernel_rfl
theorem closed : joinedFacts Try.pinned.checked.prog 5 Try.f5 Rows.flightNoneSpec Rows.flightNoneRow = true := by
  unfold joinedFacts
  simp only [Bool.and_eq_true]
  exact ⟨⟨⟨⟨⟨⟨⟨⟨⟨⟨⟨⟨⟨⟨⟨⟨⟨⟨⟨⟨⟨⟨⟨⟨⟨⟨⟨⟨⟨⟨⟨ck0, ck1⟩, ck2⟩, ck3⟩, ck4⟩, ck5⟩, ck6⟩, ck7⟩, ck8⟩, ck9⟩, ck10⟩, ck11⟩, ck12⟩, ck13⟩, ck14⟩, ck15⟩, ck16⟩, ck17⟩, ck18⟩, ck19⟩, ck20⟩, ck21⟩, ck22⟩, ck23⟩, ck24⟩, ck25⟩, ck26⟩, ck27⟩, (by kernel_rfl)⟩, ck29⟩, ck30⟩, ck31⟩

theorem proved : Rows.FlightNoneSaid :=
  OpenClaim.holds_of_wide 5 Try.f5 rfl rfl rfl rfl rfl rfl rfl ⟨rfl, rfl, rfl, rfl, rfl⟩ rfl rfl rfl rfl rfl (by kernel_rfl) Try.func5 closed
    (of_decide_eq_true (by kernel_rfl)) (by unfold Func.isWrapper; first | (rw [if_pos (by decide +kernel)]; kernel_rfl) | (rw [if_neg (by decide +kernel)]; exact ⟨rfl, rfl⟩))
    (fun os started H enc _ => lifted os started H enc)
end Go.Proofs.Ytgdlcoaokmileaa.flightNone
