/- Calls. -/
import Derived.Test.YtfinilnkempofaaAm13c
set_option linter.all false
set_option linter.unusedVariables false
set_option linter.unusedSimpArgs false
set_option linter.unnecessarySimpa false
namespace Go.Am

section
variable {P : Program}

def resOne (tmps : Array Value) : ResultVar → Sem Value
  | .tmp t => pure (tmps.getD t undef)
  | .cell a t => do loadVar t (← asAddr (tmps.getD a undef))

theorem resultVs_run {ρ : Ren} {H : List Blk} {e : Option Nat} {w : World} {fr : List Value} {tmps : Array Value} (h : Rel P ρ H w) (hfr : LRel P ρ w.shape? fr tmps.toList) : ∀ (rs : List ResultVar) (vs : List Value), resultVs P fr ⟨H, e⟩ rs = some vs →
    ∃ cvs, (rs.mapM (resOne tmps)).run P w = .ok cvs w ∧ LRel P ρ w.shape? vs cvs
  | [], vs, hv => by simp [resultVs] at hv; subst hv; exact ⟨[], by simp, .nil⟩
  | r :: rs, vs, hv => by
    simp only [resultVs, Option.bind_eq_some_iff] at hv
    obtain ⟨v, h1, vs', h2, h3⟩ := hv
    simp at h3; subst h3
    obtain ⟨cvs, h4, h5⟩ := resultVs_run h hfr rs vs' h2
    have one : ∃ cv, (resOne tmps r).run P w = .ok cv w ∧ VRel P ρ w.shape? v cv := by
      cases r with
      | tmp t =>
        simp [resultV] at h1; subst h1
        exact ⟨_, by simp [resOne]; rfl, by have := hfr.getD t undef; simpa using this⟩
      | cell a t =>
        simp only [resultV] at h1
        split at h1
        · rename_i g n hg hn
          have ha := hfr.getD a undef
          obtain ⟨cv, hrun, hr⟩ := aLoad_sound h hg hn h1 ha
          refine ⟨cv, ?_, hr⟩
          -- the address is one
          have hp : (∃ ad, fr.getD a unk = .pointer (some ad)) ∨ ∃ off row, fr.getD a unk = .iface off (.agg row) := by
            unfold aLoad at h1
            split at h1
            · rename_i ad he; exact .inl ⟨ad, he⟩
            · rename_i off row he; exact .inr ⟨off, row, he⟩
            · simp at h1
          rcases hp with ⟨ad, hp⟩ | ⟨off, row, hp⟩
          case inr =>
            rw [hp] at ha
            obtain ⟨cb, base, _, _, hc, _⟩ := ha.tptr_inv
            rw [hc] at hrun
            have hc' : tmps.getD a undef = .pointer (some ⟨cb, base + off, none⟩) := by simpa using hc
            simp only [resOne, hc', asAddr, Sem.run_bind, Sem.run_pure, Result.andThen_ok]
            simpa [Instr.loadAt, Instr.sureAddr] using hrun
          rw [hp] at ha
          obtain ⟨cb, base, _, _, hc⟩ := ha.ptr_inv
          rw [hc] at hrun
          have hc' : tmps.getD a undef = .pointer (some ⟨cb, base + ad.off, none⟩) := by simpa using hc
          simp only [resOne, hc', asAddr, Sem.run_bind, Sem.run_pure, Result.andThen_ok]
          simpa [Instr.loadAt, Instr.sureAddr] using hrun
        · simp at h1
    obtain ⟨cv, h6, h7⟩ := one
    exact ⟨cv :: cvs, by simp [List.mapM_cons, h6, h4], .cons h7 h5⟩

theorem results_run {fn : Func} {tmps : Array Value} {w : World} {cvs : List Value} (h : (fn.results.toList.mapM (resOne tmps)).run P w = .ok cvs w) : (results fn tmps).run P w = .ok (oneOf cvs) w := by
  have e : results fn tmps = (do let vs ← fn.results.toList.mapM (resOne tmps); pure (oneOf vs)) := by
    unfold results
    rw [Array.mapM_eq_mapM_toList]
    simp only [bind_pure_comp, Functor.map_map, bind_map_left]
    refine congr (congrArg Functor.map (funext fun vs => ?_)) (congrArg (fun f => List.mapM f fn.results.toList) (funext fun x => by cases x <;> rfl))
    match vs with
    | [] => rfl
    | [v] => rfl
    | v :: u :: l => simp [oneOf]
  rw [e, Sem.run_bind, h]
  rfl

theorem oneOf_rel {ρ : Ren} {sh : Sh} {vs cvs : List Value} (h : LRel P ρ sh vs cvs) : VRel P ρ sh (oneOf vs) (oneOf cvs) := by
  match vs, cvs, h with
  | [], [], h => exact .same _ rfl
  | [v], [c], h => exact h.head.1
  | v :: u :: l, c :: d :: l', h => exact .tuple_list h
  | [], c :: l, h => have := h.1; simp at this
  | [v], [], h => have := h.1; simp at this
  | [v], c :: d :: l, h => have := h.1; simp at this
  | v :: u :: l, [], h => have := h.1; simp at this
  | v :: u :: l, [c], h => have := h.1; simp at this

theorem endFrz_sound {keep : Bool} {n0 : Nat} {ρ : Ren} {H : List Blk} {w : World} {vs cvs : List Value} (h : Rel P ρ H w) (hL : LRel P ρ w.shape? vs cvs) :
    ∃ ρ', Rel P ρ' (endFrz P keep n0 vs H).2 w ∧ Step H.length ρ H w ρ' (endFrz P keep n0 vs H).2 w ∧ LRel P ρ' w.shape? (endFrz P keep n0 vs H).1 cvs ∧ (endFrz P keep n0 vs H).2.length = H.length := by
  unfold endFrz
  split
  · exact ⟨ρ, h, .refl _, hL, rfl⟩
  · obtain ⟨ρ', _, h1, h2, h3, h4⟩ := frzL_sound (frz_sound n0 8) vs cvs ρ H h hL
    exact ⟨ρ', h1, h2, h3, h4⟩

theorem endFrz_up {keep : Bool} {n0 : Nat} (vs : List Value) (st : AS) : UpC st ⟨(endFrz P keep n0 vs st.H).2, st.esc⟩ := by
  unfold endFrz
  split
  · exact .refl _
  · exact frz_up n0 8 vs st

/-- the end of a call -/
theorem finish_sound {keep : Bool} {B : Base P} {nt : Nat} {fn : Func} {fr : List Value} {st : AS} {a : Act} {w : World} {v : Value} {H' : List Blk} {e' : Option Nat} (hs : Stt B nt fr st a w) (h : finish P keep B.H.length fn.results.toList fr st = some (v, H', e')) :
    (∃ cv, (results fn a.tmps).run P w = .ok cv w ∧ Out P B.H.length B.ρ B.H B.w H' v cv w) ∧ Up B.H H' e' ∧ B.H.length ≤ H'.length := by
  obtain ⟨ρ, h1, h2, h3, h4, h5, h6, h7⟩ := hs
  obtain ⟨H, e⟩ := st
  unfold finish at h
  obtain ⟨vs, hv, h⟩ := Option.bind_eq_some_iff.1 h
  simp only [Option.some.injEq, Prod.mk.injEq] at h
  obtain ⟨rfl, rfl, rfl⟩ := h
  obtain ⟨cvs, hrun, hL⟩ := resultVs_run h1 h2 _ _ hv
  obtain ⟨ρ1, f1, f2, f3, f4⟩ := endFrz_sound (keep := keep) (n0 := B.H.length) h1 hL
  have fu := endFrz_up (P := P) (keep := keep) (n0 := B.H.length) vs ⟨H, e⟩
  replace h4 : Up B.H (endFrz P keep B.H.length vs H).2 e := h4.step h5 fu.1 fu.2.1
  replace h5 : B.H.length ≤ (endFrz P keep B.H.length vs H).2.length := by rw [f4]; exact h5
  replace h3 := h3.trans (f2.less (by simpa [f4] using h5))
  obtain ⟨ρ', g1, g2, g3, g4, g5, g6, g7⟩ := gc_sound f1 (n := B.H.length) (e := e) f3 h5 (gc_hold (st := ⟨(endFrz P keep B.H.length vs H).2, e⟩) h4)
  refine ⟨⟨_, results_run hrun, ⟨ρ', g1, h3.trans (g3.less (Nat.le_refl _)), oneOf_rel g2⟩, g4⟩, fun b k r hb hk hr hlt => ?_, g4⟩
  rw [g5 b hb] at hk
  rcases h4 b k r hb hk hr hlt with h8 | ⟨m, h8, h9⟩
  · exact .inl h8
  · try simp only at h8
    rcases g6 with g6 | ⟨g6, g8⟩
    · refine .inr ⟨m, ?_, h9⟩
      rw [g6, h8]
      simp only [escBelow]
      rw [if_pos (by omega)]
    · have := g8 m h8; omega

theorem replicate_rel {ρ : Ren} {sh : Sh} (n : Nat) : LRel P ρ sh (List.replicate n undef) (List.replicate n undef) := .refl_plain (by
  induction n with
  | zero => rfl
  | succ n ih => rw [List.replicate_succ]; simp only [plainL, ih, Bool.and_true]; rfl)

theorem Kept.size {w w' : World} (h : Kept w w') : w.heap.size ≤ w'.heap.size := by
  by_cases hs : w.heap.size ≤ w'.heap.size
  · exact hs
  · exfalso
    have h1 : w'.heap.size < w.heap.size := by omega
    have := h.block w'.heap.size h1
    rw [Array.getElem?_eq_none (Nat.le_refl _), Array.getElem?_eq_getElem h1] at this
    simp at this

theorem Kept.shape {w w' : World} (h : Kept w w') (r : Nat) (x : TypeId × Nat) (hx : w.shape? r = some x) : w'.shape? r = some x := by
  have hlt : r < w.heap.size := by
    by_cases hi : r < w.heap.size
    · exact hi
    · unfold World.shape? at hx
      rw [Array.getElem?_eq_none (Nat.le_of_not_lt hi)] at hx; simp at hx
  unfold World.shape? at hx ⊢
  rw [h.block r hlt]; exact hx

theorem lives_sound {f : FuncId} (hl : Lives P f) {ρ : Ren} {H : List Blk} {w : World} (hrel : Rel P ρ H w) {cargs : Array Value} (hargs : LRel P ρ w.shape? [] cargs.toList) :
    Calls P f cargs w fun en w' => ∃ cv, en = .returned cv ∧ Out P H.length ρ H w H (.bool true) cv w' := by
  have h0 : cargs = #[] := by
    have := hargs.1
    exact Array.eq_empty_of_size_eq_zero (by simpa using this.symm)
  subst h0
  refine (hl w).mono fun e w' ⟨he, hk⟩ => ⟨_, he, ⟨ρ, ?_, ?_, .same _ rfl⟩, Nat.le_refl _⟩
  · have lt : ∀ {cb : Nat} {o : Obj}, w.heap[cb]? = some o → cb < w.heap.size := fun {cb o} h => by
      by_cases hi : cb < w.heap.size
      · exact hi
      · rw [Array.getElem?_eq_none (Nat.le_of_not_lt hi)] at h; simp at h
    refine ⟨fun b k hb hlv => ?_, hrel.uniq, hrel.dom, fun cb c hc => ?_⟩
    · obtain ⟨cb, base, o, h1, h2, h3⟩ := hrel.blk b k hb hlv
      exact ⟨cb, base, o, h1, by rw [hk.block cb (lt h2)]; exact h2, h3.mono (fun _ _ h => h) (fun _ _ h => h) hk.shape⟩
    · obtain ⟨⟨e, fz, h1⟩, h2⟩ := hrel.frozen cb c hc
      exact ⟨⟨e, fz, by rw [hk.block cb (lt h1)]; exact h1⟩, h2⟩
  · exact ⟨fun _ _ => rfl, hk.shape, hk.size, fun cb hlt _ => hk.block cb hlt, fun _ _ h => h, hk.os, hk.output, fun _ _ h => h, fun _ _ h => h⟩

theorem ebody_sound {T : FuncId → Tab} (hT : ∀ f, (T f).lives = true → Lives P f) {C : Callee} (hC : CSound P C) (hU : CUp C) {L : Loops} (hL : LSound L) : CSound P (ebody P T C L) := by
  intro f args H v H' e ρ w cargs h hrel hargs
  unfold ebody at h
  cases hlv : (T f).lives with
  | true =>
    simp only [hlv] at h
    cases args with
    | cons _ _ => simp at h
    | nil =>
      simp only [Option.some.injEq, Prod.mk.injEq] at h
      obtain ⟨rfl, rfl, rfl⟩ := h
      exact lives_sound (hT f hlv) hrel hargs
  | false =>
  simp only [hlv] at h
  cases hf : P.funcs[f]? with
  | none => simp [hf] at h
  | some fn =>
    simp only [hf] at h
    cases hb : fn.body with
    | none => simp [hb] at h
    | some c =>
      simp only [hb] at h
      rw [ite_some] at h
      obtain ⟨hle, h⟩ := h
      let B : Base P := ⟨ρ, H, w, hrel⟩
      have hsz : cargs.size = args.length := by have := hargs.1; simpa using this.symm
      have hs : Stt B fn.ntmps (args ++ List.replicate (fn.ntmps - args.length) undef) ⟨H, none⟩ { tmps := cargs ++ Array.replicate (fn.ntmps - cargs.size) undef, defers := [] } w := by
        refine ⟨ρ, hrel, ?_, .refl _, fun b k r hb hk hr _ => .inl ⟨k, hk, hr⟩, Nat.le_refl _, rfl, by simp; omega⟩
        simp only [Array.toList_append, Array.toList_replicate, hsz]
        exact hargs.append (replicate_rel _)
      refine calls_of_wp hf hb (ecode_sound hC hU hL (B := B) c _ _ _ _ _ _ _ hs h (fun e2 fr' st' a' w' hs' hk => ?_))
      cases e2 with
      | normal =>
        obtain ⟨⟨cv, hrun, ho⟩, _⟩ := finish_sound hs' hk
        exact ⟨hs'.choose_spec.2.2.2.2.2.1, cv, hrun, cv, rfl, ho⟩
      | ret =>
        obtain ⟨⟨cv, hrun, ho⟩, _⟩ := finish_sound hs' hk
        exact ⟨hs'.choose_spec.2.2.2.2.2.1, cv, hrun, cv, rfl, ho⟩
      | exit i => simp at hk

theorem allW_spec {R : Type} {n : Nat} {f : Nat → Option R} {r : R} (h : allW n f = some r) : 0 < n ∧ ∀ i, i < n → f i = some r := by
  unfold allW at h
  split at h
  · rename_i hx
    simp at h; subst h
    exact ⟨hx.1, Classical.choose_spec hx.2⟩
  · simp at h

theorem anyW_spec {R : Type} {n0 : Nat} {step : ((List Value × AS) ⊕ (AEx × List Value × AS) → Option R) → List Value × AS → Option R} {s : List Value × AS} {k : AEx × List Value × AS → Option R} {r : R} (h : anyW n0 step s k = some r) :
    ∃ n, ∀ m, n ≤ m → roundsK n0 step k m s = some r := by
  unfold anyW at h
  split at h
  · rename_i hx
    simp at h; subst h
    exact Classical.choose_spec hx
  · simp at h

theorem loopW_sound : LSound loopG := ⟨fun _ _ _ _ h => loopW_spec h, fun _ _ _ _ _ h => (anyW_spec h).imp fun n hn => hn n (Nat.le_refl n), fun _ _ _ h => allW_spec h⟩
theorem rounds_sound (n : Nat) : LSound (loopB n) := ⟨fun _ _ _ _ h => ⟨n, h⟩, fun _ _ _ _ _ h => ⟨n, h⟩, fun n f r h => by
  simp only [loopB] at h
  rw [ite_some] at h
  obtain ⟨rfl, h⟩ := h
  exact ⟨Nat.one_pos, fun i hi => by have : i = 0 := by omega
                                     subst this; exact h⟩⟩

end

/-! The escapes, once more, without the model. -/
section
variable {P : Program} {R : Type}

/-- the blocks' side of a state, against what an activation began with -/
def Ups (H : List Blk) (st : AS) : Prop := Up H st.H st.esc ∧ H.length ≤ st.H.length

theorem Ups.next {H : List Blk} {st s : AS} (h : Ups H st) (h' : UpC st s) : Ups H s := ⟨h.1.step h.2 h'.1 h'.2.1, Nat.le_trans h.2 h'.2.2⟩

theorem eops_ups {C : Callee} (hU : CUp C) {H : List Blk} {ops : Array Oper} {chk : Nat → List Value → AS → Bool} : ∀ (is sk : List Nat) (fr : List Value) (st : AS) (k : List Value → AS → Option R) (r : R),
    Ups H st → eops P C ops chk is sk fr st k = some r → ∃ fr' st', Ups H st' ∧ k fr' st' = some r
  | [], sk, fr, st, k, r, hs, h => ⟨fr, st, hs, by simpa [eops] using h⟩
  | i :: is, sk, fr, st, k, r, hs, h => by
    simp only [eops] at h
    have run : ∀ (fr1 : List Value) (o : Oper), eop P C fr1 st o (fun v s => if chk i (setD fr1 o.dst v) s = true then eops P C ops chk is sk (setD fr1 o.dst v) s k else none) = some r → ∃ fr' st', Ups H st' ∧ k fr' st' = some r := by
      intro fr1 o h1
      have := eop_guard hU h1
      -- somewhere behind it the rest runs
      obtain ⟨v, s, hv⟩ := eop_some this
      by_cases hu : UpC st s
      · rw [if_pos hu] at hv; rw [ite_some] at hv; exact eops_ups hU is sk _ s k r (hs.next hu) hv.2
      · rw [if_neg hu] at hv; simp at hv
    cases ho : ops[i]? with
    | none => simp [ho] at h
    | some o =>
      simp only [ho] at h
      cases hg : o.guard with
      | none => simp only [hg] at h; exact run fr o h
      | some g =>
        obtain ⟨j, want⟩ := g
        simp only [hg] at h
        cases hd : (ops[j]?).bind (·.dst) with
        | none => simp [hd] at h
        | some d =>
          simp only [hd] at h
          by_cases hsk : sk.contains j = true
          · rw [if_pos hsk] at h
            split at h
            · exact eops_ups hU is _ _ st k r hs h
            · simp at h
          · rw [if_neg hsk] at h
            rcases bcase_some h with ⟨hb, h⟩ | ⟨hb, h⟩ <;> cases want <;> simp at h
            · exact eops_ups hU is _ _ st k r hs h
            · exact run _ o h
            · exact run _ o h
            · exact eops_ups hU is _ _ st k r hs h
where
  eop_some {C : Callee} {o : Oper} {fr : List Value} {st : AS} {k : Value → AS → Option R} {r : R} (h : eop P C fr st o k = some r) : ∃ v s, k v s = some r := by
    have two : ∀ (x : Option (Value × AS)), (x.bind fun r => k r.1 r.2) = some r → ∃ v s, k v s = some r := by
      intro x hx; obtain ⟨y, _, hy⟩ := Option.bind_eq_some_iff.1 hx; exact ⟨_, _, hy⟩
    have one : ∀ (x : Option AS) (v : Value), (x.bind fun s => k v s) = some r → ∃ v s, k v s = some r := by
      intro x v hx; obtain ⟨y, _, hy⟩ := Option.bind_eq_some_iff.1 hx; exact ⟨_, _, hy⟩
    have pure1 : ∀ (x : Option Value), x.bind (k · st) = some r → ∃ v s, k v s = some r := by
      intro x hx; obtain ⟨y, _, hy⟩ := Option.bind_eq_some_iff.1 hx; exact ⟨_, _, hy⟩
    cases hop : o.op <;> simp only [eop, hop] at h
    case move x => exact ⟨_, _, h⟩
    case assign x => exact ⟨_, _, h⟩
    case pick c a b => exact pure1 _ h
    case alloc elem =>
      obtain ⟨z, hz, h⟩ := Option.bind_eq_some_iff.1 h
      rw [ite_some] at h; exact two _ h.2
    case box elem x => exact two _ h
    case build t parts => exact pure1 _ h
    case buildSlice t n parts => exact two _ h
    case load t a => split at h <;> first | exact pure1 _ h | (simp at h)
    case store t a x => split at h <;> first | exact one _ _ h | (simp at h)
    case nilCheck x => exact pure1 _ h
    case binOp op t x y u => exact pure1 _ h
    case unOp op t x => exact pure1 _ h
    case convert s d x => exact two _ h
    case makeFunc fn a b => split at h <;> first | exact ⟨_, _, h⟩ | (simp at h)
    case makeMap t x => cases x <;> first | exact ⟨_, _, h⟩ | (simp at h)
    case makeSlice t l c => exact two _ h
    case slice t x lo hi mx => exact pure1 _ h
    case fieldAddr s x f => exact pure1 _ h
    case field t x f => exact pure1 _ h
    case indexAddr t x ix => exact pure1 _ h
    case index t x ix => rw [ite_some] at h; exact pure1 _ h.2
    case lookup t m ky ok => exact pure1 _ h
    case mapUpdate t m ky x => exact one _ _ h
    case insert t m ky x => exact one _ _ h
    case sliceToArrayPointer t x => exact pure1 _ h
    case range t x => exact two _ h
    case entry x => exact pure1 _ h
    case extract t ix => exact pure1 _ h
    case call c =>
      cases hcal : c.callee with
      | value f =>
        simp only [hcal] at h
        obtain ⟨g, _, h⟩ := Option.bind_eq_some_iff.1 h
        obtain ⟨y, _, h⟩ := Option.bind_eq_some_iff.1 h
        exact ⟨_, _, h⟩
      | builtin b =>
        simp only [hcal] at h
        unfold eBuiltin at h
        split at h
        · obtain ⟨t, _, h⟩ := Option.bind_eq_some_iff.1 h; exact pure1 _ h
        · exact two _ h
        · exact two _ h
        · exact one _ _ h
        · exact pure1 _ h
        · exact pure1 _ h
        · simp at h
      | invoke a m => simp [hcal] at h
    all_goals (simp at h)


theorem gc_abs (n : Nat) (vs : List Value) (st : AS) (hn : n ≤ st.H.length) : (∀ b, b < n → (gc n vs st).2.H[b]? = st.H[b]?) ∧ n ≤ (gc n vs st).2.H.length ∧
    ((gc n vs st).2.esc = st.esc ∨ ((gc n vs st).2.esc = none ∧ ∀ m, st.esc = some m → n ≤ m)) := by
  unfold gc
  split
  · rename_i he
    have he' : ∀ m, st.esc = some m → n ≤ m := by intro m hm; rw [hm] at he; simpa [escOk] using he
    simp only
    split
    · refine ⟨fun b hb => ?_, by simp; omega, .inr ⟨rfl, he'⟩⟩
      rw [List.getElem?_append_left (by simp; omega), List.getElem?_take, if_pos hb]
    · exact ⟨fun _ _ => rfl, hn, .inl rfl⟩
  · exact ⟨fun _ _ => rfl, hn, .inl rfl⟩

theorem gc_ups {H : List Blk} {st : AS} (vs : List Value) (h : Ups H st) : Ups H (gc H.length vs st).2 := by
  obtain ⟨g1, g2, g3⟩ := gc_abs H.length vs st h.2
  refine ⟨fun b k r hb hk hr hlt => ?_, g2⟩
  rw [g1 b hb] at hk
  rcases h.1 b k r hb hk hr hlt with h8 | ⟨m, h8, h9⟩
  · exact .inl h8
  · rcases g3 with g3 | ⟨_, g4⟩
    · exact .inr ⟨m, by rw [g3]; exact h8, h9⟩
    · have := g4 m h8; omega

theorem jFrz_ups {H : List Blk} {st : AS} (vs : List Value) (on : Bool) (h : Ups H st) : Ups H (jFrz P H.length vs st on).2 := by
  cases on with
  | false => exact h
  | true => exact h.next (frz_up H.length 8 vs st)

theorem eopsLate_ups {C : Callee} (hU : CUp C) {H : List Blk} {ops : Array Oper} : ∀ (l : List Nat) (fr : List Value) (st : AS) (k : List Value → AS → Option R) (r : R),
    Ups H st → eopsLate P C ops l fr st k = some r → ∃ fr' st', Ups H st' ∧ k fr' st' = some r
  | [], fr, st, k, r, hs, h => ⟨fr, st, hs, h⟩
  | i :: is, fr, st, k, r, hs, h => by
    simp only [eopsLate] at h
    cases ho : ops[i]? with
    | none => simp [ho] at h
    | some o =>
      simp only [ho] at h
      rw [ite_some] at h
      have := eop_guard hU h.2
      obtain ⟨v, s, hv⟩ := eops_ups.eop_some this
      by_cases hu : UpC st s
      · rw [if_pos hu] at hv; exact eopsLate_ups hU is _ s k r (hs.next hu) hv
      · rw [if_neg hu] at hv; simp at hv

theorem ecode_ups {C : Callee} (hU : CUp C) {L : Loops} (hL : LSound L) {H : List Blk} {T : Tab} {nt : Nat} : ∀ (c : Code) {R : Type} (fr : List Value) (st : AS) (k : AEx → List Value → AS → Option R) (r : R),
    Ups H st → ecode P T nt H.length C L c fr st k = some r → ∃ e fr' st', Ups H st' ∧ k e fr' st' = some r
  | .skip, R, fr, st, k, r, hs, h => ⟨.normal, fr, st, hs, by simpa [ecode] using h⟩
  | .label _, R, fr, st, k, r, hs, h => ⟨.normal, fr, st, hs, by simpa [ecode] using h⟩
  | .exit id, R, fr, st, k, r, hs, h => ⟨.exit id, fr, st, hs, by simpa [ecode] using h⟩
  | .ret, R, fr, st, k, r, hs, h => ⟨.ret, fr, st, hs, by simpa [ecode] using h⟩
  | .region id ops draw, R, fr, st, k, r, hs, h => by
    simp only [ecode] at h
    cases draw with
    | true =>
      simp only [if_true] at h
      split at h
      · split at h
        · simp at h
        · obtain ⟨fr1, st1, g1, g2⟩ := eops_ups hU _ _ _ _ _ _ hs h
          obtain ⟨fr2, st2, g3, g4⟩ := eopsLate_ups hU _ _ _ _ _ g1 g2
          obtain ⟨fr', st', h1, h2⟩ := eops_ups hU _ _ _ _ _ _ g3 g4
          exact ⟨.normal, fr', st', h1, h2⟩
      · obtain ⟨fr', st', h1, h2⟩ := eops_ups hU _ _ _ _ _ _ hs h
        exact ⟨.normal, fr', st', h1, h2⟩
    | false =>
      simp only [Bool.false_eq_true, if_false] at h
      split at h
      case h_2 =>
        obtain ⟨q, hq, h⟩ := Option.bind_eq_some_iff.1 h
        obtain ⟨h0, hall⟩ := hL.all _ _ _ h
        obtain ⟨fr', st', h1, h2⟩ := eops_ups hU _ _ _ _ _ _ (hs.next ((next_up hq).2 0)) (hall 0 h0)
        exact ⟨.normal, fr', st', h1, h2⟩
      obtain ⟨fr', st', h1, h2⟩ := eops_ups hU _ _ _ _ _ _ hs h
      exact ⟨.normal, fr', st', h1, h2⟩
  | .seq x y, R, fr, st, k, r, hs, h => by
    simp only [ecode] at h
    cases hj : (firstRegion y).bind T.jn with
    | none =>
      simp only [hj] at h
      obtain ⟨e, fr', st', h1, h2⟩ := ecode_ups hU hL x fr st _ r hs h
      cases e with
      | normal => exact ecode_ups hU hL y fr' st' k r h1 h2
      | exit i => exact ⟨.exit i, fr', st', h1, h2⟩
      | ret => exact ⟨.ret, fr', st', h1, h2⟩
    | some l =>
      simp only [hj] at h
      obtain ⟨⟨e0, fr0, st0⟩, h1, h2⟩ := Option.bind_eq_some_iff.1 h
      obtain ⟨e, fr', st', h3, h4⟩ := ecode_ups hU hL x fr st _ _ hs h1
      simp only [Option.some.injEq, Prod.mk.injEq] at h4
      obtain ⟨rfl, rfl, rfl⟩ := h4
      cases e with
      | normal => exact ecode_ups hU hL y _ _ k r (jFrz_ups _ _ h3) h2
      | exit i => exact ⟨.exit i, _, _, h3, h2⟩
      | ret => exact ⟨.ret, _, _, h3, h2⟩
  | .cond c x y, R, fr, st, k, r, hs, h => by
    simp only [ecode] at h
    rcases bcase_some h with ⟨_, h⟩ | ⟨_, h⟩
    · exact ecode_ups hU hL x fr st k r hs h
    · exact ecode_ups hU hL y fr st k r hs h
  | .block id x, R, fr, st, k, r, hs, h => by
    simp only [ecode] at h
    obtain ⟨e, fr', st', h1, h2⟩ := ecode_ups hU hL x fr st _ r hs h
    cases e with
    | normal => exact ⟨.normal, fr', st', h1, h2⟩
    | exit i =>
      by_cases hi : i = id
      · simp only [hi, if_true] at h2; exact ⟨.normal, fr', st', h1, h2⟩
      · simp only [hi, if_false] at h2; exact ⟨.exit i, fr', st', h1, h2⟩
    | ret => exact ⟨.ret, fr', st', h1, h2⟩
  | .loop x, R, fr, st, k, r, hs, h => by
    simp only [ecode] at h
    by_cases hni : nextIn x = true
    · rw [if_pos hni] at h
      obtain ⟨n, hn⟩ := hL.any _ _ _ _ _ h
      clear h
      generalize packF ((firstRegion x).bind T.at_) fr = vs at hn
      revert vs st
      induction n with
      | zero => intro st hs vs hn; simp [roundsK] at hn
      | succ n ih =>
        intro st hs vs hn
        simp only [roundsK] at hn
        obtain ⟨e2, fr2, st2, h1, h2⟩ := ecode_ups hU hL x _ _ _ r (gc_ups _ hs) hn
        cases e2 with
        | normal => exact ih _ h1 _ h2
        | exit i => exact ⟨.exit i, _, _, gc_ups _ h1, h2⟩
        | ret => exact ⟨.ret, _, _, gc_ups _ h1, h2⟩
    rw [if_neg hni] at h
    obtain ⟨⟨e, fr', st'⟩, hloop, hk'⟩ := Option.bind_eq_some_iff.1 h
    obtain ⟨n, hn⟩ := hL.run _ _ _ _ hloop
    clear hloop h
    refine ⟨e, _, st', ?_, hk'⟩
    generalize packF ((firstRegion x).bind T.at_) fr = vs at hn
    revert vs st
    induction n with
    | zero => intro st hs vs hn; simp [rounds] at hn
    | succ n ih =>
      intro st hs vs hn
      simp only [rounds] at hn
      split at hn
      · simp at hn
      · rename_i res hstep
        simp at hn; subst hn
        obtain ⟨e2, fr2, st2, h1, h2⟩ := ecode_ups hU hL x _ _ _ (Sum.inr (e, fr', st')) (gc_ups _ hs) hstep
        cases e2 with
        | normal => simp [loopEnd] at h2
        | exit i => simp [loopEnd] at h2; obtain ⟨_, _, rfl⟩ := h2; exact h1
        | ret => simp [loopEnd] at h2; obtain ⟨_, _, rfl⟩ := h2; exact h1
      · rename_i s' hstep
        obtain ⟨e2, fr2, st2, h1, h2⟩ := ecode_ups hU hL x _ _ _ (Sum.inl s') (gc_ups _ hs) hstep
        cases e2 with
        | normal => simp [loopEnd] at h2; subst h2; exact ih _ h1 _ hn
        | exit i => simp [loopEnd] at h2
        | ret => simp [loopEnd] at h2
  | .rangeFunc .., R, fr, st, k, r, hs, h => by simp [ecode] at h
  | .scope x, R, fr, st, k, r, hs, h => by
    simp only [ecode] at h
    exact ecode_ups hU hL x fr st k r hs h
  | .goto .., R, fr, st, k, r, hs, h => by simp [ecode] at h
  | .refuse .., R, fr, st, k, r, hs, h => by simp [ecode] at h

theorem ebody_up {T : FuncId → Tab} {C : Callee} (hU : CUp C) {L : Loops} (hL : LSound L) : CUp (ebody P T C L) := by
  intro f args H v H' e h
  unfold ebody at h
  cases hlv : (T f).lives with
  | true =>
    simp only [hlv] at h
    cases args with
    | cons _ _ => simp at h
    | nil =>
      simp only [Option.some.injEq, Prod.mk.injEq] at h
      obtain ⟨_, rfl, _⟩ := h
      exact ⟨fun b k r hb hk hr _ => .inl ⟨k, hk, hr⟩, Nat.le_refl _⟩
  | false =>
  simp only [hlv] at h
  cases hf : P.funcs[f]? with
  | none => simp [hf] at h
  | some fn =>
    simp only [hf] at h
    cases hb : fn.body with
    | none => simp [hb] at h
    | some c =>
      simp only [hb] at h
      rw [ite_some] at h
      obtain ⟨_, h⟩ := h
      obtain ⟨e2, fr', st', h1, h2⟩ := ecode_ups hU hL (H := H) c _ _ _ _ ⟨fun b k r hb hk hr _ => .inl ⟨k, hk, hr⟩, Nat.le_refl _⟩ h
      have fin : finish P (T f).keep H.length fn.results.toList fr' st' = some (v, H', e) → Up H H' e ∧ H.length ≤ H'.length := by
        intro hfin
        unfold finish at hfin
        obtain ⟨vs, _, hfin⟩ := Option.bind_eq_some_iff.1 hfin
        simp only [Option.some.injEq, Prod.mk.injEq] at hfin
        obtain ⟨_, rfl, rfl⟩ := hfin
        have := gc_ups (endFrz P (T f).keep H.length vs st'.H).1 (h1.next (endFrz_up (P := P) (keep := (T f).keep) (n0 := H.length) vs st'))
        refine ⟨fun b k r hb hk hr hlt => ?_, this.2⟩
        rcases this.1 b k r hb hk hr hlt with h8 | ⟨m, h8, h9⟩
        · exact .inl h8
        · refine .inr ⟨m, ?_, h9⟩
          rw [h8]; simp only [escBelow]; rw [if_pos (by omega)]
      cases e2 with
      | normal => exact fin h2
      | ret => exact fin h2
      | exit i => simp at h2

theorem callN_sound (P : Program) (T : FuncId → Tab) (hT : ∀ f, (T f).lives = true → Lives P f) : ∀ n, CSound P (callN P T n) ∧ CUp (callN P T n)
  | 0 => ⟨fun _ _ _ _ _ _ _ _ _ h => by simp [callN] at h, fun _ _ _ _ _ _ h => by simp [callN] at h⟩
  | n + 1 => ⟨ebody_sound hT (callN_sound P T hT n).1 (callN_sound P T hT n).2 loopW_sound, ebody_up (callN_sound P T hT n).2 loopW_sound⟩

theorem callF_sound (P : Program) (T : FuncId → Tab) (hT : ∀ f, (T f).lives = true → Lives P f) : ∀ n, CSound P (callF P T n) ∧ CUp (callF P T n)
  | 0 => ⟨fun _ _ _ _ _ _ _ _ _ h => by simp [callF] at h, fun _ _ _ _ _ _ h => by simp [callF] at h⟩
  | n + 1 => ⟨ebody_sound hT (callF_sound P T hT n).1 (callF_sound P T hT n).2 (rounds_sound _), ebody_up (callF_sound P T hT n).2 (rounds_sound _)⟩

theorem acall_spec {P : Program} {T : FuncId → Tab} {f : FuncId} {args : List Value} {H : List Blk} {r : Value × List Blk × Option Nat} (h : acall P T f args H = some r) : ∃ n, callN P T n f args H = some r := by
  unfold acall at h
  split at h
  · rename_i hex
    injection h with h
    have := Classical.choose_spec (Classical.choose_spec hex)
    exact ⟨_, this.trans (congrArg some h)⟩
  · simp at h

/-- WHAT THE MACHINE SAYS OF A CALL HOLDS OF THE MODEL. -/
theorem acall_sound (P : Program) (T : FuncId → Tab) (hT : ∀ f, (T f).lives = true → Lives P f) : CSound P (acall P T) := fun f args H v H' e ρ w cargs h =>
  let ⟨n, hn⟩ := acall_spec h
  (callN_sound P T hT n).1 f args H v H' e ρ w cargs hn

end
end Go.Am
