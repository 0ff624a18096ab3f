/- Where two sums are unlike, the extents are; what is unlike one way round is so the other way round, and nothing is unlike itself. Its conditions are the row's own: none. -/
import Derived.Test.YtadllcgmimbjdaaRows
import Derived.Test.YtadllcgmimbjdaaAm13c
import Derived.Test.YtadllcgmimbjdaaCmp1
set_option linter.all false
set_option linter.unusedVariables false
set_option linter.unusedSimpArgs false
namespace Go.Proofs.Ytadllcgmimbjdaa.compareSums
open Go.ChangeShapes Go.WideShapes Go.ChangeAt Go.RowKit Go.Am

theorem own : ownKnob Try.prog.godebug = none := by kernel_rfl
theorem laidOut : laidOutB Try.prog = true := by kernel_rfl
theorem fine : Try.f3.params.toList.all (fineParam Try.prog) = true := by kernel_rfl
theorem fines : Try.f3.params.toList.all (fineT Try.prog 12) = true := by kernel_rfl

theorem tabs : ∀ f, (TT f).lives = true → Lives Try.prog f := TT_lives

/-- THE WALK: what the machine says, whatever the arguments are -/
theorem walk (xs : List (List Value)) (h : TOks Try.prog Try.f3.params.toList xs) : saysTrue (acall Try.prog TT 3 (argVs Try.prog Try.f3.params.toList xs) []) = true := by
  have hp : Try.f3.params.toList = [t_L_twainlaw46_Fill] := by kernel_rfl
  rw [hp] at h ⊢
  match xs, h with
  | [w], ⟨hw, _⟩ =>
    obtain ⟨l, ha⟩ := DK.fls_arg hw
    have hv : argVs Try.prog [t_L_twainlaw46_Fill] [w] = [tSl l.length (DK.flRow l)] := by
      have h1 : argV Try.prog t_L_twainlaw46_Fill w = tSl l.length (DK.flRow l) := ha
      simp only [argVs, h1]
    rw [hv]
    exact DK.sums_law l

set_option maxRecDepth 100000 in
theorem contract (H : Type) (enc : TypeId × Value → H) (W : World) (base : Nat) (args : Array Value) (ds gs : List (DataW H)) (before : List MemPlace)
    (hval : ∀ (j : Nat) t v, Try.f3.params[j]? = some t → args[j]? = some v → Value.okWide Try.prog W .any base t v)
    (hW : DataW.Whole enc Try.prog Try.f3.params.toList Rows.compareSumsSpec.vars false W args.toList ds gs before) :
    Calls Try.prog 3 args W fun e W' => ∃ v, e = .returned v ∧ Rows.compareSumsSpec.post enc Try.prog Try.f3 false true false false W args v W' := by
  have hA := hW
  obtain ⟨p, q, hA, _⟩ := hA
  refine (calls_open tabs fines walk hA (fun j t v ht hv => hval j t v (by rw [Array.getElem?_toList] at ht; exact ht) hv)).mono fun e W' ⟨he, hk⟩ => ?_
  subst he
  refine ⟨_, rfl, kept_post laidOut fine (tb := 4) (by kernel_rfl) Try.underlying4 rfl ?_ hW hk⟩
  intro ds hd
  match ds, hd with
  | [d0], _ => exact ⟨rfl, rfl, rfl⟩

set_option maxRecDepth 100000 in
theorem lifted (os : Os) (started : os.Started) (H : Type) (enc : TypeId × Value → H) :
    ReturnsInHanded {} Try.checked os 3 .any (Rows.compareSumsSpec.pre6 enc Try.prog Try.f3 Rows.compareSumsRow.domain false) (Rows.compareSumsSpec.post enc Try.prog Try.f3 false true false false) := by
  refine returnsInHanded_of_change_shaped (C := Try.checked) own started (by kernel_rfl) Try.func3
    (ChangeSpec.witness6 (enc := enc) (C := Try.checked) false ⟨#[], (Try.f3.params.map fun t => (zeroP Try.prog t).getD unk), []⟩ 12 (by kernel_rfl) (by kernel_rfl) (by kernel_rfl) (by kernel_rfl)) ?_
  intro W base args ds gs before hval hW _ _ _ _
  exact contract H enc W base args ds gs before hval hW

theorem ck0 : (Rows.compareSumsRow.wf (OpenSpec.ofChange Rows.compareSumsSpec)) = true := by kernel_rfl
theorem ck1 : (laidOutB Try.pinned.checked.prog) = true := by kernel_rfl
theorem ck2 : (mapsRowed Try.pinned.checked.prog) = true := by kernel_rfl
theorem ck3 : (Try.f3.params.all (Try.pinned.checked.prog.readableRec ·)) = true := by kernel_rfl
theorem ck4 : (namedTie Try.pinned.checked.prog Rows.compareSumsRow.named Rows.compareSumsSpec.vars) = true := by kernel_rfl
theorem ck5 : ((Rows.compareSumsRow.stops == [])) = true := by kernel_rfl
theorem ck6 : ((Try.pinned.checked.prog.stops == [])) = true := by kernel_rfl
theorem ck7 : ((Rows.compareSumsRow.knobs == [])) = true := by kernel_rfl
theorem ck8 : ((Try.pinned.checked.prog.stopKnobs == [])) = true := by kernel_rfl
theorem ck9 : ((Rows.compareSumsRow.inPlace == Try.pinned.checked.prog.inPlace 3)) = true := by kernel_rfl
theorem ck10 : ((Rows.compareSumsRow.unfollowed == Try.pinned.checked.prog.unfollowed 3)) = true := by kernel_rfl
theorem ck11 : ((Rows.compareSumsRow.recurses == Try.pinned.checked.prog.recurses 3)) = true := by kernel_rfl
theorem ck12 : ((Rows.compareSumsRow.named == Try.pinned.checked.prog.varsNamed 3)) = true := by kernel_rfl
theorem ck13 : ((Rows.compareSumsRow.maps == (Try.f3.params.toList ++ Rows.compareSumsSpec.plain.varTypes Try.pinned.checked.prog).any (Try.pinned.checked.prog.mapsRec ·))) = true := by kernel_rfl
theorem ck14 : ((Rows.compareSumsRow.ifaces == (Try.f3.params.toList ++ Rows.compareSumsSpec.plain.varTypes Try.pinned.checked.prog).any (Try.pinned.checked.prog.ifacesRec ·))) = true := by kernel_rfl
theorem ck15 : ((Rows.compareSumsRow.mapsOut == Try.pinned.checked.prog.mapsAmong Try.f3.resultTypes.toList)) = true := by kernel_rfl
theorem ck16 : ((Rows.compareSumsRow.loops == (Try.f3.params.toList ++ Rows.compareSumsSpec.plain.varTypes Try.pinned.checked.prog).any (Try.pinned.checked.prog.loopsFrom ·))) = true := by kernel_rfl
theorem ck17 : ((Rows.compareSumsRow.wideKeys == (Try.f3.params.toList ++ Rows.compareSumsSpec.plain.varTypes Try.pinned.checked.prog ++ Try.f3.resultTypes.toList).any (Try.pinned.checked.prog.wideKeysFrom ·))) = true := by kernel_rfl
theorem ck18 : (Rows.compareSumsSpec.vars.all (Try.pinned.checked.prog.varReadable ·)) = true := by kernel_rfl
theorem ck19 : (Try.f3.resultTypes.all (fun t => Try.pinned.checked.prog.readableRec t && decide (t < Try.pinned.checked.prog.types.size))) = true := by kernel_rfl
theorem ck20 : ((Rows.compareSumsRow.ifacesOut == Try.f3.resultTypes.toList.any (Try.pinned.checked.prog.ifacesRec ·))) = true := by kernel_rfl
theorem ck21 : ((Rows.compareSumsRow.loopsOut == Try.f3.resultTypes.toList.any (Try.pinned.checked.prog.loopsFrom ·))) = true := by kernel_rfl
theorem ck22 : ((Rows.compareSumsRow.plainKeys == Try.pinned.checked.prog.plainKeys)) = true := by kernel_rfl
theorem ck23 : (Rows.compareSumsRow.shortTexts.isNone) = true := by kernel_rfl
theorem ck24 : (Try.pinned.checked.prog.stopsHeard) = true := by kernel_rfl
theorem ck25 : (Try.pinned.checked.prog.mayEnter) = true := by kernel_rfl
theorem ck26 : ((Rows.compareSumsRow.lifted == Try.pinned.checked.prog.liftsFinal)) = true := by kernel_rfl
theorem ck27 : ((Try.pinned.checked.prog.make == some Rows.compareSumsRow.make)) = true := by kernel_rfl
theorem ck29 : ((Rows.compareSumsRow.pinned == Rows.compareSumsRow.pinnedBy)) = true := by kernel_rfl
theorem ck30 : ((Rows.compareSumsRow.veiled == (Try.f3.params.toList ++ Rows.compareSumsSpec.plain.varTypes Try.pinned.checked.prog ++ Try.f3.resultTypes.toList).any (Try.pinned.checked.prog.veiledRec ·))) = true := by kernel_rfl
theorem ck31 : (Rows.compareSumsRow.veiledFits Try.pinned.checked.prog Try.f3.params.toList (Try.f3.params.toList ++ Rows.compareSumsSpec.plain.varTypes Try.pinned.checked.prog ++ Try.f3.resultTypes.toList)) = true := by kernel_rfl
theorem closed : joinedFacts Try.pinned.checked.prog 3 Try.f3 Rows.compareSumsSpec Rows.compareSumsRow = true := by
  unfold joinedFacts
  simp only [Bool.and_eq_true]
  exact ⟨⟨⟨⟨⟨⟨⟨⟨⟨⟨⟨⟨⟨⟨⟨⟨⟨⟨⟨⟨⟨⟨⟨⟨⟨⟨⟨⟨⟨⟨⟨ck0, ck1⟩, ck2⟩, ck3⟩, ck4⟩, ck5⟩, ck6⟩, ck7⟩, ck8⟩, ck9⟩, ck10⟩, ck11⟩, ck12⟩, ck13⟩, ck14⟩, ck15⟩, ck16⟩, ck17⟩, ck18⟩, ck19⟩, ck20⟩, ck21⟩, ck22⟩, ck23⟩, ck24⟩, ck25⟩, ck26⟩, ck27⟩, (by kernel_rfl)⟩, ck29⟩, ck30⟩, ck31⟩

theorem proved : Rows.CompareSumsSaid :=
  OpenClaim.holds_of_wide 3 Try.f3 rfl rfl rfl rfl rfl rfl rfl ⟨rfl, rfl, rfl, rfl, rfl⟩ rfl rfl rfl rfl rfl (by kernel_rfl) Try.func3 closed
    (of_decide_eq_true (by kernel_rfl)) (by unfold Func.isWrapper; first | (rw [if_pos (by decide +kernel)]; kernel_rfl) | (rw [if_neg (by decide +kernel)]; exact ⟨rfl, rfl⟩))
    (fun os started H enc _ => lifted os started H enc)
end Go.Proofs.Ytadllcgmimbjdaa.compareSums
