/- From what the machine says of a law's call to the row's own words. -/
import Derived.Test.YtfinilnkempofaaAm15
import Derived.RowKit
import Derived.ProofKit
import Derived.OpenShut
import Derived.WideKeyArgs
import Derived.HandedShaped
import Derived.JoinedCond
set_option linter.all false
set_option linter.unusedVariables false
set_option linter.unusedSimpArgs false
set_option linter.unnecessarySimpa false
namespace Go.Am
open Go.ChangeShapes Go.WideShapes Go.RowKit

section
variable {P : Program}

theorem Kept.same {w w' : World} (h : Kept w w') {p : MemPlace} (hp : p.block < w.heap.size) : w.sameAt w' p := by
  cases p with
  | cell b o => exact World.cell?_of_block (w := w) (h.block b hp)
  | map b => exact h.block b hp

theorem Kept.but {w w' : World} (h : Kept w w') (may : MemPlace → Prop) : w.keptBut w' may := by
  refine ⟨h.os, h.output, fun i hi => ?_⟩
  rw [h.block i hi]
  split <;> simp_all

/-- what is asked of a parameter's type -/
def fineParam (P : Program) (t : TypeId) : Bool := P.readableRec t && decide (t < P.types.size)

variable {H : Type} {enc : TypeId × Value → H}

theorem trodAll_stays (hl : laidOutB P = true) {w w' : World} {sp : Nat → Bool} : ∀ {ts : List TypeId} {vs : List Value} {ds : List (DataW H)} {ps : List MemPlace}, ts.all (fineParam P) = true →
    DataW.TrodAll enc P w 0 (fun _ => true) true ts vs ds ps → (∀ p ∈ ps, w.sameAt w' p) → (∀ p ∈ ps, sp p.block = true) → DataW.TrodAll enc P w' 0 sp true ts vs ds ps
  | [], vs, ds, ps, _, h, _, _ => by
    obtain ⟨rfl, rfl, rfl⟩ := trodAll_nil h
    exact trodAll_mk0
  | t :: ts, vs, ds, ps, hf, h, hs, hp => by
    obtain ⟨v, vs1, d, ds1, a, b, rfl, rfl, rfl, h1, h2⟩ := trodAll_cons h
    simp only [List.all_cons, Bool.and_eq_true, fineParam, decide_eq_true_eq] at hf
    exact ⟨a, b, WideElems.Trod_stays hl hf.1.1 hf.1.2 h1 (fun p h => hs p (by simp [h])) (fun p h => hp p (by simp [h])),
      trodAll_stays hl hf.2 h2 (fun p h => hs p (by simp [h])) (fun p h => hp p (by simp [h])), rfl⟩

/-- A LAW'S ROW: it answers true, and what was there stands as it stood. -/
theorem kept_post (hl : laidOutB P = true) {f : Func} {s : ChangeSpec} {apart fresh handsOn again : Bool} {w w' : World} {args : Array Value} {ds gs : List (DataW H)} {before : List MemPlace} {tb : TypeId}
    (hf : f.params.toList.all (fineParam P) = true) (hr : f.resultTypes = #[tb]) (hb : P.underlying tb = some .bool) (hv : s.vars = [])
    (hs : ∀ ds : List (DataW H), ds.length = f.params.size → (s.fn H ds).results = [.lit (.bool true)] ∧ (s.fn H ds).args = ds ∧ (s.fn H ds).vars = [])
    (hw : DataW.Whole enc P f.params.toList s.vars apart w args.toList ds gs before) (hk : Kept w w') : s.post enc P f apart fresh handsOn again w args (.bool true) w' := by
  have hw' := hw
  obtain ⟨p, q, hA, hV, rfl, hz, hn⟩ := hw
  rw [hv] at hV
  obtain ⟨rfl, rfl⟩ := trodVars_none hV
  have hlen : ∀ {ts : List TypeId} {vs : List Value} {ds : List (DataW H)} {ps : List MemPlace}, DataW.TrodAll enc P w 0 (fun _ => true) true ts vs ds ps → ds.length = ts.length := by
    intro ts
    induction ts with
    | nil => intro vs ds ps h; obtain ⟨_, rfl, _⟩ := trodAll_nil h; rfl
    | cons t ts ih => intro vs ds ps h; obtain ⟨v, vs1, d, ds1, a, b, rfl, rfl, rfl, h1, h2⟩ := trodAll_cons h; simp [ih h2]
  have hd := hlen hA
  obtain ⟨h1, h2, h3⟩ := hs ds (by simpa using hd)
  have hold : ∀ x ∈ p, x.block < w.heap.size := fun x hx => by simpa using hw'.lt x (by simpa using hx)
  have hres : ∀ (b : Nat) (sp : Nat → Bool) (hd : Bool), DataW.TrodAll enc P w' b sp hd f.resultTypes.toList ((Value.bool true).resultList f.resultTypes.size) (s.fn H (ds ++ [])).results [] := by
    intro b sp hd
    rw [List.append_nil, h1, hr]
    exact trodAll_cons_mk (shut_bool hb _) trodAll_mk0
  have hargs : ∀ sp : Nat → Bool, (∀ x ∈ p, sp x.block = true) → DataW.TrodAll enc P w' 0 sp true f.params.toList args.toList (s.fn H (ds ++ [])).args p := by
    intro sp hsp
    rw [List.append_nil, h2]
    exact trodAll_stays hl hf hA (fun x hx => hk.same (hold x hx)) hsp
  have hvars : ∀ sp : Nat → Bool, DataW.TrodVars enc P w' sp s.vars (s.fn H (ds ++ [])).vars [] := by
    intro sp
    rw [List.append_nil, h3, hv]; exact rfl
  refine ⟨ds, [], p ++ [], [], p, [], hw', hres _ _ _, hargs _ (fun x hx => by simpa using hold x hx), hvars _, World.keptBut_mono (fun x hx => ⟨hx, ?_⟩) (hk.but (· ∈ p ++ [])), fun _ => ?_⟩
  · exact .inr (.inl (by simpa using hx))
  · refine ⟨ok_one hr rfl (okWide_bool_mk hb _), _, _, ([] ++ p) ++ [], ⟨[] ++ p, [], trodAll_append (hargs _ (fun _ _ => rfl)) (hres _ _ _), hvars _, rfl, ?_, ?_⟩, ?_⟩
    · intro b off hp
      have hp : MemPlace.cell b off ∈ p := by simpa using hp
      have hlt := hold _ hp
      rw [World.frozen?_of_block (w := w) (hk.block b hlt)]
      exact hz b off (by simpa using hp)
    · intro ha; simpa using hn ha
    · intro x hx _; simpa using hx

/-! ### Arguments of which nothing is asked -/

/-- a value of a type, of which nothing is known -/
def blur (P : Program) (t : TypeId) : Value :=
  match P.underlying t with
  | some (.struct _) | some (.array _ _) => .agg (List.replicate (P.cellsOf t) unk).toArray
  | _ => unk

theorem blur_rel {ρ : Ren} {sh : Sh} {w : World} {base : Nat} {t : TypeId} {v : Value} (h : Value.okWide P w .any base t v) : VRel P ρ sh (blur P t) v := by
  have agg : ∀ cs : Array Value, cs.size = P.cellsOf t → VRel P ρ sh (.agg (List.replicate (P.cellsOf t) unk).toArray) (.agg cs) := fun cs hc =>
    .agg (by simp [hc]) (fun i h1 h2 => by simp; exact .any _)
  unfold blur
  unfold Value.okWide at h
  split
  · rename_i h1; rw [h1] at h; obtain ⟨cs, rfl, hc, _⟩ := h; exact agg cs hc
  · rename_i h1; rw [h1] at h; obtain ⟨cs, rfl, hc, _⟩ := h; exact agg cs hc
  · exact .any _

theorem trodAll_args {w : World} : ∀ {ts : List TypeId} {vs : List Value} {ds : List (DataW H)} {ps : List MemPlace}, DataW.TrodAll enc P w 0 (fun _ => true) true ts vs ds ps → vs.length = ts.length := by
  intro ts
  induction ts with
  | nil => intro vs ds ps h; obtain ⟨rfl, _, _⟩ := trodAll_nil h; rfl
  | cons t ts ih => intro vs ds ps h; obtain ⟨v, vs1, d, ds1, a, b, rfl, rfl, rfl, h1, h2⟩ := trodAll_cons h; simp [ih h2]

/-- ahead of a call all rows that are there are as they will ever be: the machine owns none of them -/
def rho0 (w : World) : Ren := ⟨fun _ => none, fun cb => match w.heap[cb]? with | some (.cells c _ _) => some c | _ => none⟩

theorem rho0_fz {w : World} {cb : Nat} {c : Array Value} (h : (rho0 w).fz cb = some c) : ∃ e fz, w.heap[cb]? = some (.cells c e fz) := by
  simp only [rho0] at h
  split at h
  · rename_i c' e fz hc; simp at h; subst h; exact ⟨e, fz, hc⟩
  · simp at h

theorem rel_nil (w : World) : Rel P (rho0 w) [] w := ⟨fun b k h => by simp at h, fun b b' k k' h => by simp at h, fun _ _ => rfl, fun cb c hc => ⟨rho0_fz hc, fun ⟨b, k, x, hb, _⟩ => by simp at hb⟩⟩

theorem kept_of_step {n : Nat} {ρ ρ' : Ren} {H H' : List Blk} {w w' : World} (h : Step n ρ H w ρ' H' w') (hro : ∀ (b : Nat) (k : Blk), H[b]? = some k → k.owns = false) : Kept w w' :=
  ⟨h.os, h.output, fun k hk => h.keep k hk (fun ⟨b, x, y, h1, h2, _⟩ => by rw [hro b x h1] at h2; simp at h2)⟩

def saysTrue : Option (Value × List Blk × Option Nat) → Bool
  | some (.bool true, _, _) => true
  | _ => false

/-- a call whose arguments nobody looks at -/
theorem calls_blur {T : FuncId → Tab} (hT : ∀ f, (T f).lives = true → Lives P f) {f : FuncId} {ts : List TypeId} {n : Nat} (h : saysTrue (callF P T n f (ts.map (blur P)) []) = true) {w : World} {base : Nat} {args : Array Value}
    (hlen : args.toList.length = ts.length) (hval : ∀ (j : Nat) t v, ts[j]? = some t → args[j]? = some v → Value.okWide P w .any base t v) :
    Calls P f args w fun e w' => e = .returned (.bool true) ∧ Kept w w' := by
  unfold saysTrue at h
  split at h
  · rename_i H' e hc
    have hL : LRel P (rho0 w) w.shape? (ts.map (blur P)) args.toList := by
      refine ⟨by simpa using hlen.symm, fun i v hv => ?_⟩
      simp only [List.getElem?_map, Option.map_eq_some_iff] at hv
      obtain ⟨t, ht, rfl⟩ := hv
      have hi : i < args.toList.length := by rw [hlen]; exact lt_of_get ht
      refine ⟨args.toList[i], by simp [List.getElem?_eq_getElem hi], blur_rel (hval i t _ ht (by simp at hi; simp [Array.getElem?_eq_getElem hi]))⟩
    refine (acall_sound P T hT f _ [] _ _ _ (rho0 w) w args (acall_of_callF n hc) (rel_nil w) hL).mono fun e w' ⟨cv, he, ho⟩ => ?_
    obtain ⟨⟨ρ', _, h2, h3⟩, _⟩ := ho
    exact ⟨by rw [he, h3.bool_inv], kept_of_step h2 (fun b k hb => by simp at hb)⟩
  · simp at h

/-- what the machine says of a function without arguments, none of it leaning on the like -/
theorem lives_of {T : FuncId → Tab} (hT : ∀ f, (T f).lives = false) {f : FuncId} {n : Nat} (h : saysTrue (callF P T n f [] []) = true) : Lives P f := fun w =>
  calls_blur (fun f h => by rw [hT] at h; simp at h) (ts := []) h (base := 0) rfl (fun j t v h => by simp at h)

/-- no live slots are told -/
def T0 : FuncId → Tab := fun _ => ⟨fun _ => none, fun _ => none, false, fun _ => none, fun _ => false, false⟩

theorem T0_lives (f : FuncId) : (T0 f).lives = true → Lives P f := fun h => by simp [T0] at h

end
end Go.Am
