/- Of any two disks, where they are unlike, their sums, where those are, and what either knows, is the document's. Its conditions are the row's own: none. -/
import Derived.Test.YtadllcgmimbjdaaGreatRows
import Derived.Test.YtadllcgmimbjdaaGreatAm13c
import Derived.Test.YtadllcgmimbjdaaGreatRn1
set_option linter.all false
set_option linter.unusedVariables false
set_option linter.unusedSimpArgs false
namespace Go.Proofs.YtadllcgmimbjdaaGreat.compareTells
open Go.ChangeShapes Go.WideShapes Go.ChangeAt Go.RowKit Go.Am

theorem own : ownKnob Tryz.prog.godebug = none := by kernel_rfl
theorem laidOut : laidOutB Tryz.prog = true := by kernel_rfl
theorem fine : Tryz.f3.params.toList.all (fineParam Tryz.prog) = true := by kernel_rfl
theorem fines : Tryz.f3.params.toList.all (fineT Tryz.prog 12) = true := by kernel_rfl

theorem tabs : ∀ f, (TT f).lives = true → Lives Tryz.prog f := TT_lives

/-- THE WALK: what the machine says, whatever the arguments are -/
theorem walk (xs : List (List Value)) (h : TOks Tryz.prog Tryz.f3.params.toList xs) : saysTrue (acall Tryz.prog TT 3 (argVs Tryz.prog Tryz.f3.params.toList xs) []) = true := by
  have hp : Tryz.f3.params.toList = [t_L_twainlaw46_Fill, t_twainlaw46_Case] := by kernel_rfl
  rw [hp] at h ⊢
  match xs, h with
  | [w, c], ⟨hw, hc, _⟩ =>
    obtain ⟨l, ha⟩ := DK.fls_arg hw
    obtain ⟨n, m, x, y, hb⟩ := DK.cs_arg hc
    have hv : argVs Tryz.prog [t_L_twainlaw46_Fill, t_twainlaw46_Case] [w, c] = [tSl l.length (DK.flRow l), .agg (DK.csC n m x y).toArray] := by
      have h1 : argV Tryz.prog t_L_twainlaw46_Fill w = tSl l.length (DK.flRow l) := ha
      have h2 : argV Tryz.prog t_twainlaw46_Case c = .agg (DK.csC n m x y).toArray := hb
      simp only [argVs, h1, h2]
    rw [hv]
    exact DK.tells_law l n m x y

set_option maxRecDepth 100000 in
theorem contract (H : Type) (enc : TypeId × Value → H) (W : World) (base : Nat) (args : Array Value) (ds gs : List (DataW H)) (before : List MemPlace)
    (hval : ∀ (j : Nat) t v, Tryz.f3.params[j]? = some t → args[j]? = some v → Value.okWide Tryz.prog W .any base t v)
    (hW : DataW.Whole enc Tryz.prog Tryz.f3.params.toList Rows.compareTellsSpec.vars false W args.toList ds gs before) :
    Calls Tryz.prog 3 args W fun e W' => ∃ v, e = .returned v ∧ Rows.compareTellsSpec.post enc Tryz.prog Tryz.f3 false true false false W args v W' := by
  have hA := hW
  obtain ⟨p, q, hA, _⟩ := hA
  refine (calls_open tabs fines walk hA (fun j t v ht hv => hval j t v (by rw [Array.getElem?_toList] at ht; exact ht) hv)).mono fun e W' ⟨he, hk⟩ => ?_
  subst he
  refine ⟨_, rfl, kept_post laidOut fine (tb := 4) (by kernel_rfl) Tryz.underlying4 rfl ?_ hW hk⟩
  intro ds hd
  match ds, hd with
  | [d0, d1], _ => exact ⟨rfl, rfl, rfl⟩

set_option maxRecDepth 100000 in
theorem lifted (os : Os) (started : os.Started) (H : Type) (enc : TypeId × Value → H) :
    ReturnsInHanded {} Tryz.checked os 3 .any (Rows.compareTellsSpec.pre6 enc Tryz.prog Tryz.f3 Rows.compareTellsRow.domain false) (Rows.compareTellsSpec.post enc Tryz.prog Tryz.f3 false true false false) := by
  refine returnsInHanded_of_change_shaped (C := Tryz.checked) own started (by kernel_rfl) Tryz.func3
    (ChangeSpec.witness6 (enc := enc) (C := Tryz.checked) false ⟨#[], (Tryz.f3.params.map fun t => (zeroP Tryz.prog t).getD unk), []⟩ 12 (by kernel_rfl) (by kernel_rfl) (by kernel_rfl) (by kernel_rfl)) ?_
  intro W base args ds gs before hval hW _ _ _ _
  exact contract H enc W base args ds gs before hval hW

theorem ck0 : (Rows.compareTellsRow.wf (OpenSpec.ofChange Rows.compareTellsSpec)) = true := by kernel_rfl
theorem ck1 : (laidOutB Tryz.pinned.checked.prog) = true := by kernel_rfl
theorem ck2 : (mapsRowed Tryz.pinned.checked.prog) = true := by kernel_rfl
theorem ck3 : (Tryz.f3.params.all (Tryz.pinned.checked.prog.readableRec ·)) = true := by kernel_rfl
theorem ck4 : (namedTie Tryz.pinned.checked.prog Rows.compareTellsRow.named Rows.compareTellsSpec.vars) = true := by kernel_rfl
theorem ck5 : ((Rows.compareTellsRow.stops == [])) = true := by kernel_rfl
theorem ck6 : ((Tryz.pinned.checked.prog.stops == [])) = true := by kernel_rfl
theorem ck7 : ((Rows.compareTellsRow.knobs == [])) = true := by kernel_rfl
theorem ck8 : ((Tryz.pinned.checked.prog.stopKnobs == [])) = true := by kernel_rfl
theorem ck9 : ((Rows.compareTellsRow.inPlace == Tryz.pinned.checked.prog.inPlace 3)) = true := by kernel_rfl
theorem ck10 : ((Rows.compareTellsRow.unfollowed == Tryz.pinned.checked.prog.unfollowed 3)) = true := by kernel_rfl
theorem ck11 : ((Rows.compareTellsRow.recurses == Tryz.pinned.checked.prog.recurses 3)) = true := by kernel_rfl
theorem ck12 : ((Rows.compareTellsRow.named == Tryz.pinned.checked.prog.varsNamed 3)) = true := by kernel_rfl
theorem ck13 : ((Rows.compareTellsRow.maps == (Tryz.f3.params.toList ++ Rows.compareTellsSpec.plain.varTypes Tryz.pinned.checked.prog).any (Tryz.pinned.checked.prog.mapsRec ·))) = true := by kernel_rfl
theorem ck14 : ((Rows.compareTellsRow.ifaces == (Tryz.f3.params.toList ++ Rows.compareTellsSpec.plain.varTypes Tryz.pinned.checked.prog).any (Tryz.pinned.checked.prog.ifacesRec ·))) = true := by kernel_rfl
theorem ck15 : ((Rows.compareTellsRow.mapsOut == Tryz.pinned.checked.prog.mapsAmong Tryz.f3.resultTypes.toList)) = true := by kernel_rfl
theorem ck16 : ((Rows.compareTellsRow.loops == (Tryz.f3.params.toList ++ Rows.compareTellsSpec.plain.varTypes Tryz.pinned.checked.prog).any (Tryz.pinned.checked.prog.loopsFrom ·))) = true := by kernel_rfl
theorem ck17 : ((Rows.compareTellsRow.wideKeys == (Tryz.f3.params.toList ++ Rows.compareTellsSpec.plain.varTypes Tryz.pinned.checked.prog ++ Tryz.f3.resultTypes.toList).any (Tryz.pinned.checked.prog.wideKeysFrom ·))) = true := by kernel_rfl
theorem ck18 : (Rows.compareTellsSpec.vars.all (Tryz.pinned.checked.prog.varReadable ·)) = true := by kernel_rfl
theorem ck19 : (Tryz.f3.resultTypes.all (fun t => Tryz.pinned.checked.prog.readableRec t && decide (t < Tryz.pinned.checked.prog.types.size))) = true := by kernel_rfl
theorem ck20 : ((Rows.compareTellsRow.ifacesOut == Tryz.f3.resultTypes.toList.any (Tryz.pinned.checked.prog.ifacesRec ·))) = true := by kernel_rfl
theorem ck21 : ((Rows.compareTellsRow.loopsOut == Tryz.f3.resultTypes.toList.any (Tryz.pinned.checked.prog.loopsFrom ·))) = true := by kernel_rfl
theorem ck22 : ((Rows.compareTellsRow.plainKeys == Tryz.pinned.checked.prog.plainKeys)) = true := by kernel_rfl
theorem ck23 : (Rows.compareTellsRow.shortTexts.isNone) = true := by kernel_rfl
theorem ck24 : (Tryz.pinned.checked.prog.stopsHeard) = true := by kernel_rfl
theorem ck25 : (Tryz.pinned.checked.prog.mayEnter) = true := by kernel_rfl
theorem ck26 : ((Rows.compareTellsRow.lifted == Tryz.pinned.checked.prog.liftsFinal)) = true := by kernel_rfl
theorem ck27 : ((Tryz.pinned.checked.prog.make == some Rows.compareTellsRow.make)) = true := by kernel_rfl
theorem ck29 : ((Rows.compareTellsRow.pinned == Rows.compareTellsRow.pinnedBy)) = true := by kernel_rfl
theorem ck30 : ((Rows.compareTellsRow.veiled == (Tryz.f3.params.toList ++ Rows.compareTellsSpec.plain.varTypes Tryz.pinned.checked.prog ++ Tryz.f3.resultTypes.toList).any (Tryz.pinned.checked.prog.veiledRec ·))) = true := by kernel_rfl
theorem ck31 : (Rows.compareTellsRow.veiledFits Tryz.pinned.checked.prog Tryz.f3.params.toList (Tryz.f3.params.toList ++ Rows.compareTellsSpec.plain.varTypes Tryz.pinned.checked.prog ++ Tryz.f3.resultTypes.toList)) = true := by kernel_rfl
theorem closed : joinedFacts Tryz.pinned.checked.prog 3 Tryz.f3 Rows.compareTellsSpec Rows.compareTellsRow = true := by
  unfold joinedFacts
  simp only [Bool.and_eq_true]
  exact ⟨⟨⟨⟨⟨⟨⟨⟨⟨⟨⟨⟨⟨⟨⟨⟨⟨⟨⟨⟨⟨⟨⟨⟨⟨⟨⟨⟨⟨⟨⟨ck0, ck1⟩, ck2⟩, ck3⟩, ck4⟩, ck5⟩, ck6⟩, ck7⟩, ck8⟩, ck9⟩, ck10⟩, ck11⟩, ck12⟩, ck13⟩, ck14⟩, ck15⟩, ck16⟩, ck17⟩, ck18⟩, ck19⟩, ck20⟩, ck21⟩, ck22⟩, ck23⟩, ck24⟩, ck25⟩, ck26⟩, ck27⟩, (by kernel_rfl)⟩, ck29⟩, ck30⟩, ck31⟩

theorem proved : Rows.CompareTellsSaid :=
  OpenClaim.holds_of_wide 3 Tryz.f3 rfl rfl rfl rfl rfl rfl rfl ⟨rfl, rfl, rfl, rfl, rfl⟩ rfl rfl rfl rfl rfl (by kernel_rfl) Tryz.func3 closed
    (of_decide_eq_true (by kernel_rfl)) (by unfold Func.isWrapper; first | (rw [if_pos (by decide +kernel)]; kernel_rfl) | (rw [if_neg (by decide +kernel)]; exact ⟨rfl, rfl⟩))
    (fun os started H enc _ => lifted os started H enc)
end Go.Proofs.YtadllcgmimbjdaaGreat.compareTells
