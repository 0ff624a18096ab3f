/- Of any numbers, ranks and bars are the document's; All bars together are as many as there are numbers; The numbers stay as they were. Its conditions are the row's own: none. -/
import Derived.Test.YtpklhjeccbjalaaRows
import Derived.Test.YtpklhjeccbjalaaAm13c
import Derived.Test.YtpklhjeccbjalaaSrtP
set_option linter.all false
set_option linter.unusedVariables false
set_option linter.unusedSimpArgs false
namespace Go.Proofs.Ytpklhjeccbjalaa.statsRanks
open Go.ChangeShapes Go.WideShapes Go.ChangeAt Go.RowKit Go.Am

theorem own : ownKnob Try.prog.godebug = none := by kernel_rfl
theorem laidOut : laidOutB Try.prog = true := by kernel_rfl
theorem fine : Try.f3.params.toList.all (fineParam Try.prog) = true := by kernel_rfl
theorem fines : Try.f3.params.toList.all (fineT Try.prog 12) = true := by kernel_rfl

theorem tabs : TabOk Try.prog TT := TT_ok

/-- THE WALK: what the machine says, whatever the arguments are -/
theorem walk (xs : List (List Value)) (h : TOks Try.prog Try.f3.params.toList xs) : saysTrue (acall Try.prog TT 3 (argVs Try.prog Try.f3.params.toList xs) []) = true := by
  have hp : Try.f3.params.toList = [t_L_int, t_twainlaw47_Case] := by kernel_rfl
  rw [hp] at h ⊢
  match xs, h with
  | [w, v], ⟨hw, hv, _⟩ =>
    obtain ⟨l, hI, ha⟩ := SR.ints_arg hw
    obtain ⟨a, b, c, d, hb⟩ := SR.cs_arg hv
    have hx : argVs Try.prog [t_L_int, t_twainlaw47_Case] [w, v] = [tSl l.length (SR.nv l), .agg (SR.csC a b c d).toArray] := by
      have h1 : argV Try.prog t_L_int w = tSl l.length (SR.nv l) := ha
      have h2 : argV Try.prog t_twainlaw47_Case v = .agg (SR.csC a b c d).toArray := hb
      simp only [argVs, h1, h2]
    rw [hx]
    exact SR.ranks_law hI a b c d

set_option maxRecDepth 100000 in
theorem contract (H : Type) (enc : TypeId × Value → H) (W : World) (base : Nat) (args : Array Value) (ds gs : List (DataW H)) (before : List MemPlace)
    (hval : ∀ (j : Nat) t v, Try.f3.params[j]? = some t → args[j]? = some v → Value.okWide Try.prog W .any base t v)
    (hW : DataW.Whole enc Try.prog Try.f3.params.toList Rows.statsRanksSpec.vars false W args.toList ds gs before) :
    Calls Try.prog 3 args W fun e W' => ∃ v, e = .returned v ∧ Rows.statsRanksSpec.post enc Try.prog Try.f3 false true false false W args v W' := by
  have hA := hW
  obtain ⟨p, q, hA, _⟩ := hA
  refine (calls_open tabs fines walk hA (fun j t v ht hv => hval j t v (by rw [Array.getElem?_toList] at ht; exact ht) hv)).mono fun e W' ⟨he, hk⟩ => ?_
  subst he
  refine ⟨_, rfl, kept_post laidOut fine (tb := 4) (by kernel_rfl) Try.underlying4 rfl ?_ hW hk⟩
  intro ds hd
  match ds, hd with
  | [d0, d1], _ => exact ⟨rfl, rfl, rfl⟩

set_option maxRecDepth 100000 in
theorem lifted (os : Os) (started : os.Started) (H : Type) (enc : TypeId × Value → H) :
    ReturnsInHanded {} Try.checked os 3 .any (Rows.statsRanksSpec.pre6 enc Try.prog Try.f3 Rows.statsRanksRow.domain false) (Rows.statsRanksSpec.post enc Try.prog Try.f3 false true false false) := by
  refine returnsInHanded_of_change_shaped (C := Try.checked) own started (by kernel_rfl) Try.func3
    (ChangeSpec.witness6 (enc := enc) (C := Try.checked) false ⟨#[], (Try.f3.params.map fun t => (zeroP Try.prog t).getD unk), []⟩ 12 (by kernel_rfl) (by kernel_rfl) (by kernel_rfl) (by kernel_rfl)) ?_
  intro W base args ds gs before hval hW _ _ _ _
  exact contract H enc W base args ds gs before hval hW

theorem ck0 : (Rows.statsRanksRow.wf (OpenSpec.ofChange Rows.statsRanksSpec)) = true := by kernel_rfl
theorem ck1 : (laidOutB Try.pinned.checked.prog) = true := by kernel_rfl
theorem ck2 : (mapsRowed Try.pinned.checked.prog) = true := by kernel_rfl
theorem ck3 : (Try.f3.params.all (Try.pinned.checked.prog.readableRec ·)) = true := by kernel_rfl
theorem ck4 : (namedTie Try.pinned.checked.prog Rows.statsRanksRow.named Rows.statsRanksSpec.vars) = true := by kernel_rfl
theorem ck5 : ((Rows.statsRanksRow.stops == [])) = true := by kernel_rfl
theorem ck6 : ((Try.pinned.checked.prog.stops == [])) = true := by kernel_rfl
theorem ck7 : ((Rows.statsRanksRow.knobs == [])) = true := by kernel_rfl
theorem ck8 : ((Try.pinned.checked.prog.stopKnobs == [])) = true := by kernel_rfl
theorem ck9 : ((Rows.statsRanksRow.inPlace == Try.pinned.checked.prog.inPlace 3)) = true := by kernel_rfl
theorem ck10 : ((Rows.statsRanksRow.unfollowed == Try.pinned.checked.prog.unfollowed 3)) = true := by kernel_rfl
theorem ck11 : ((Rows.statsRanksRow.recurses == Try.pinned.checked.prog.recurses 3)) = true := by kernel_rfl
theorem ck12 : ((Rows.statsRanksRow.named == Try.pinned.checked.prog.varsNamed 3)) = true := by kernel_rfl
theorem ck13 : ((Rows.statsRanksRow.maps == (Try.f3.params.toList ++ Rows.statsRanksSpec.plain.varTypes Try.pinned.checked.prog).any (Try.pinned.checked.prog.mapsRec ·))) = true := by kernel_rfl
theorem ck14 : ((Rows.statsRanksRow.ifaces == (Try.f3.params.toList ++ Rows.statsRanksSpec.plain.varTypes Try.pinned.checked.prog).any (Try.pinned.checked.prog.ifacesRec ·))) = true := by kernel_rfl
theorem ck15 : ((Rows.statsRanksRow.mapsOut == Try.pinned.checked.prog.mapsAmong Try.f3.resultTypes.toList)) = true := by kernel_rfl
theorem ck16 : ((Rows.statsRanksRow.loops == (Try.f3.params.toList ++ Rows.statsRanksSpec.plain.varTypes Try.pinned.checked.prog).any (Try.pinned.checked.prog.loopsFrom ·))) = true := by kernel_rfl
theorem ck17 : ((Rows.statsRanksRow.wideKeys == (Try.f3.params.toList ++ Rows.statsRanksSpec.plain.varTypes Try.pinned.checked.prog ++ Try.f3.resultTypes.toList).any (Try.pinned.checked.prog.wideKeysFrom ·))) = true := by kernel_rfl
theorem ck18 : (Rows.statsRanksSpec.vars.all (Try.pinned.checked.prog.varReadable ·)) = true := by kernel_rfl
theorem ck19 : (Try.f3.resultTypes.all (fun t => Try.pinned.checked.prog.readableRec t && decide (t < Try.pinned.checked.prog.types.size))) = true := by kernel_rfl
theorem ck20 : ((Rows.statsRanksRow.ifacesOut == Try.f3.resultTypes.toList.any (Try.pinned.checked.prog.ifacesRec ·))) = true := by kernel_rfl
theorem ck21 : ((Rows.statsRanksRow.loopsOut == Try.f3.resultTypes.toList.any (Try.pinned.checked.prog.loopsFrom ·))) = true := by kernel_rfl
theorem ck22 : ((Rows.statsRanksRow.plainKeys == Try.pinned.checked.prog.plainKeys)) = true := by kernel_rfl
theorem ck23 : (Rows.statsRanksRow.shortTexts.isNone) = true := by kernel_rfl
theorem ck24 : (Try.pinned.checked.prog.stopsHeard) = true := by kernel_rfl
theorem ck25 : (Try.pinned.checked.prog.mayEnter) = true := by kernel_rfl
theorem ck26 : ((Rows.statsRanksRow.lifted == Try.pinned.checked.prog.liftsFinal)) = true := by kernel_rfl
theorem ck27 : ((Try.pinned.checked.prog.make == some Rows.statsRanksRow.make)) = true := by kernel_rfl
theorem ck29 : ((Rows.statsRanksRow.pinned == Rows.statsRanksRow.pinnedBy)) = true := by kernel_rfl
theorem ck30 : ((Rows.statsRanksRow.veiled == (Try.f3.params.toList ++ Rows.statsRanksSpec.plain.varTypes Try.pinned.checked.prog ++ Try.f3.resultTypes.toList).any (Try.pinned.checked.prog.veiledRec ·))) = true := by kernel_rfl
theorem ck31 : (Rows.statsRanksRow.veiledFits Try.pinned.checked.prog Try.f3.params.toList (Try.f3.params.toList ++ Rows.statsRanksSpec.plain.varTypes Try.pinned.checked.prog ++ Try.f3.resultTypes.toList)) = true := by kernel_rfl
theorem closed : joinedFacts Try.pinned.checked.prog 3 Try.f3 Rows.statsRanksSpec Rows.statsRanksRow = true := by
  unfold joinedFacts
  simp only [Bool.and_eq_true]
  exact ⟨⟨⟨⟨⟨⟨⟨⟨⟨⟨⟨⟨⟨⟨⟨⟨⟨⟨⟨⟨⟨⟨⟨⟨⟨⟨⟨⟨⟨⟨⟨ck0, ck1⟩, ck2⟩, ck3⟩, ck4⟩, ck5⟩, ck6⟩, ck7⟩, ck8⟩, ck9⟩, ck10⟩, ck11⟩, ck12⟩, ck13⟩, ck14⟩, ck15⟩, ck16⟩, ck17⟩, ck18⟩, ck19⟩, ck20⟩, ck21⟩, ck22⟩, ck23⟩, ck24⟩, ck25⟩, ck26⟩, ck27⟩, (by kernel_rfl)⟩, ck29⟩, ck30⟩, ck31⟩

theorem proved : Rows.StatsRanksSaid :=
  OpenClaim.holds_of_wide 3 Try.f3 rfl rfl rfl rfl rfl rfl rfl ⟨rfl, rfl, rfl, rfl, rfl⟩ rfl rfl rfl rfl rfl (by kernel_rfl) Try.func3 closed
    (of_decide_eq_true (by kernel_rfl)) (by unfold Func.isWrapper; first | (rw [if_pos (by decide +kernel)]; kernel_rfl) | (rw [if_neg (by decide +kernel)]; exact ⟨rfl, rfl⟩))
    (fun os started H enc _ => lifted os started H enc)
end Go.Proofs.Ytpklhjeccbjalaa.statsRanks
