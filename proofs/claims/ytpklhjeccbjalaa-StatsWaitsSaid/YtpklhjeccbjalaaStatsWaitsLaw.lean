/- How long each took, and how many were open at one time, is the document's. Its conditions are the row's own: none. -/
import Derived.Test.YtpklhjeccbjalaaRows
import Derived.Test.YtpklhjeccbjalaaAm13c
import Derived.Test.YtpklhjeccbjalaaSw1
set_option linter.all false
set_option linter.unusedVariables false
set_option linter.unusedSimpArgs false
namespace Go.Proofs.Ytpklhjeccbjalaa.statsWaits
open Go.ChangeShapes Go.WideShapes Go.ChangeAt Go.RowKit Go.Am

theorem own : ownKnob Try.prog.godebug = none := by kernel_rfl
theorem laidOut : laidOutB Try.prog = true := by kernel_rfl
theorem fine : Try.f4.params.toList.all (fineParam Try.prog) = true := by kernel_rfl
theorem fines : Try.f4.params.toList.all (fineT Try.prog 12) = true := by kernel_rfl

theorem tabs : ∀ f, (TT f).lives = true → Lives Try.prog f := TT_lives

/-- THE WALK: what the machine says, whatever the arguments are -/
theorem walk (xs : List (List Value)) (h : TOks Try.prog Try.f4.params.toList xs) : saysTrue (acall Try.prog TT 4 (argVs Try.prog Try.f4.params.toList xs) []) = true := by
  have hp : Try.f4.params.toList = [t_L_twainref34_Event] := by kernel_rfl
  rw [hp] at h ⊢
  match xs, h with
  | [w], ⟨hw, _⟩ =>
    obtain ⟨l, h1, h2, ha⟩ := evs_arg hw
    have hv : argVs Try.prog [t_L_twainref34_Event] [w] = [tSl l.length (evR l)] := by
      have h1 : argV Try.prog t_L_twainref34_Event w = tSl l.length (evR l) := ha
      simp only [argVs, h1]
    rw [hv]
    exact waits_law h1 h2

set_option maxRecDepth 100000 in
theorem contract (H : Type) (enc : TypeId × Value → H) (W : World) (base : Nat) (args : Array Value) (ds gs : List (DataW H)) (before : List MemPlace)
    (hval : ∀ (j : Nat) t v, Try.f4.params[j]? = some t → args[j]? = some v → Value.okWide Try.prog W .any base t v)
    (hW : DataW.Whole enc Try.prog Try.f4.params.toList Rows.statsWaitsSpec.vars false W args.toList ds gs before) :
    Calls Try.prog 4 args W fun e W' => ∃ v, e = .returned v ∧ Rows.statsWaitsSpec.post enc Try.prog Try.f4 false true false false W args v W' := by
  have hA := hW
  obtain ⟨p, q, hA, _⟩ := hA
  refine (calls_open tabs fines walk hA (fun j t v ht hv => hval j t v (by rw [Array.getElem?_toList] at ht; exact ht) hv)).mono fun e W' ⟨he, hk⟩ => ?_
  subst he
  refine ⟨_, rfl, kept_post laidOut fine (tb := 4) (by kernel_rfl) Try.underlying4 rfl ?_ hW hk⟩
  intro ds hd
  match ds, hd with
  | [d0], _ => exact ⟨rfl, rfl, rfl⟩

set_option maxRecDepth 100000 in
theorem lifted (os : Os) (started : os.Started) (H : Type) (enc : TypeId × Value → H) :
    ReturnsInHanded {} Try.checked os 4 .any (Rows.statsWaitsSpec.pre6 enc Try.prog Try.f4 Rows.statsWaitsRow.domain false) (Rows.statsWaitsSpec.post enc Try.prog Try.f4 false true false false) := by
  refine returnsInHanded_of_change_shaped (C := Try.checked) own started (by kernel_rfl) Try.func4
    (ChangeSpec.witness6 (enc := enc) (C := Try.checked) false ⟨#[], (Try.f4.params.map fun t => (zeroP Try.prog t).getD unk), []⟩ 12 (by kernel_rfl) (by kernel_rfl) (by kernel_rfl) (by kernel_rfl)) ?_
  intro W base args ds gs before hval hW _ _ _ _
  exact contract H enc W base args ds gs before hval hW

theorem ck0 : (Rows.statsWaitsRow.wf (OpenSpec.ofChange Rows.statsWaitsSpec)) = true := by kernel_rfl
theorem ck1 : (laidOutB Try.pinned.checked.prog) = true := by kernel_rfl
theorem ck2 : (mapsRowed Try.pinned.checked.prog) = true := by kernel_rfl
theorem ck3 : (Try.f4.params.all (Try.pinned.checked.prog.readableRec ·)) = true := by kernel_rfl
theorem ck4 : (namedTie Try.pinned.checked.prog Rows.statsWaitsRow.named Rows.statsWaitsSpec.vars) = true := by kernel_rfl
theorem ck5 : ((Rows.statsWaitsRow.stops == [])) = true := by kernel_rfl
theorem ck6 : ((Try.pinned.checked.prog.stops == [])) = true := by kernel_rfl
theorem ck7 : ((Rows.statsWaitsRow.knobs == [])) = true := by kernel_rfl
theorem ck8 : ((Try.pinned.checked.prog.stopKnobs == [])) = true := by kernel_rfl
theorem ck9 : ((Rows.statsWaitsRow.inPlace == Try.pinned.checked.prog.inPlace 4)) = true := by kernel_rfl
theorem ck10 : ((Rows.statsWaitsRow.unfollowed == Try.pinned.checked.prog.unfollowed 4)) = true := by kernel_rfl
theorem ck11 : ((Rows.statsWaitsRow.recurses == Try.pinned.checked.prog.recurses 4)) = true := by kernel_rfl
theorem ck12 : ((Rows.statsWaitsRow.named == Try.pinned.checked.prog.varsNamed 4)) = true := by kernel_rfl
theorem ck13 : ((Rows.statsWaitsRow.maps == (Try.f4.params.toList ++ Rows.statsWaitsSpec.plain.varTypes Try.pinned.checked.prog).any (Try.pinned.checked.prog.mapsRec ·))) = true := by kernel_rfl
theorem ck14 : ((Rows.statsWaitsRow.ifaces == (Try.f4.params.toList ++ Rows.statsWaitsSpec.plain.varTypes Try.pinned.checked.prog).any (Try.pinned.checked.prog.ifacesRec ·))) = true := by kernel_rfl
theorem ck15 : ((Rows.statsWaitsRow.mapsOut == Try.pinned.checked.prog.mapsAmong Try.f4.resultTypes.toList)) = true := by kernel_rfl
theorem ck16 : ((Rows.statsWaitsRow.loops == (Try.f4.params.toList ++ Rows.statsWaitsSpec.plain.varTypes Try.pinned.checked.prog).any (Try.pinned.checked.prog.loopsFrom ·))) = true := by kernel_rfl
theorem ck17 : ((Rows.statsWaitsRow.wideKeys == (Try.f4.params.toList ++ Rows.statsWaitsSpec.plain.varTypes Try.pinned.checked.prog ++ Try.f4.resultTypes.toList).any (Try.pinned.checked.prog.wideKeysFrom ·))) = true := by kernel_rfl
theorem ck18 : (Rows.statsWaitsSpec.vars.all (Try.pinned.checked.prog.varReadable ·)) = true := by kernel_rfl
theorem ck19 : (Try.f4.resultTypes.all (fun t => Try.pinned.checked.prog.readableRec t && decide (t < Try.pinned.checked.prog.types.size))) = true := by kernel_rfl
theorem ck20 : ((Rows.statsWaitsRow.ifacesOut == Try.f4.resultTypes.toList.any (Try.pinned.checked.prog.ifacesRec ·))) = true := by kernel_rfl
theorem ck21 : ((Rows.statsWaitsRow.loopsOut == Try.f4.resultTypes.toList.any (Try.pinned.checked.prog.loopsFrom ·))) = true := by kernel_rfl
theorem ck22 : ((Rows.statsWaitsRow.plainKeys == Try.pinned.checked.prog.plainKeys)) = true := by kernel_rfl
theorem ck23 : (Rows.statsWaitsRow.shortTexts.isNone) = true := by kernel_rfl
theorem ck24 : (Try.pinned.checked.prog.stopsHeard) = true := by kernel_rfl
theorem ck25 : (Try.pinned.checked.prog.mayEnter) = true := by kernel_rfl
theorem ck26 : ((Rows.statsWaitsRow.lifted == Try.pinned.checked.prog.liftsFinal)) = true := by kernel_rfl
theorem ck27 : ((Try.pinned.checked.prog.make == some Rows.statsWaitsRow.make)) = true := by kernel_rfl
theorem ck29 : ((Rows.statsWaitsRow.pinned == Rows.statsWaitsRow.pinnedBy)) = true := by kernel_rfl
theorem ck30 : ((Rows.statsWaitsRow.veiled == (Try.f4.params.toList ++ Rows.statsWaitsSpec.plain.varTypes Try.pinned.checked.prog ++ Try.f4.resultTypes.toList).any (Try.pinned.checked.prog.veiledRec ·))) = true := by kernel_rfl
theorem ck31 : (Rows.statsWaitsRow.veiledFits Try.pinned.checked.prog Try.f4.params.toList (Try.f4.params.toList ++ Rows.statsWaitsSpec.plain.varTypes Try.pinned.checked.prog ++ Try.f4.resultTypes.toList)) = true := by kernel_rfl
theorem closed : joinedFacts Try.pinned.checked.prog 4 Try.f4 Rows.statsWaitsSpec Rows.statsWaitsRow = true := by
  unfold joinedFacts
  simp only [Bool.and_eq_true]
  exact ⟨⟨⟨⟨⟨⟨⟨⟨⟨⟨⟨⟨⟨⟨⟨⟨⟨⟨⟨⟨⟨⟨⟨⟨⟨⟨⟨⟨⟨⟨⟨ck0, ck1⟩, ck2⟩, ck3⟩, ck4⟩, ck5⟩, ck6⟩, ck7⟩, ck8⟩, ck9⟩, ck10⟩, ck11⟩, ck12⟩, ck13⟩, ck14⟩, ck15⟩, ck16⟩, ck17⟩, ck18⟩, ck19⟩, ck20⟩, ck21⟩, ck22⟩, ck23⟩, ck24⟩, ck25⟩, ck26⟩, ck27⟩, (by kernel_rfl)⟩, ck29⟩, ck30⟩, ck31⟩

theorem proved : Rows.StatsWaitsSaid :=
  OpenClaim.holds_of_wide 4 Try.f4 rfl rfl rfl rfl rfl rfl rfl ⟨rfl, rfl, rfl, rfl, rfl⟩ rfl rfl rfl rfl rfl (by kernel_rfl) Try.func4 closed
    (of_decide_eq_true (by kernel_rfl)) (by unfold Func.isWrapper; first | (rw [if_pos (by decide +kernel)]; kernel_rfl) | (rw [if_neg (by decide +kernel)]; exact ⟨rfl, rfl⟩))
    (fun os started H enc _ => lifted os started H enc)
end Go.Proofs.Ytpklhjeccbjalaa.statsWaits
