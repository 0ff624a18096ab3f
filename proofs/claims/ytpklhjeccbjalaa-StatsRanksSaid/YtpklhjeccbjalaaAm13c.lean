/- A part of the proof: Am13c, Am14, Am15, Am16, Am17, Am18. Its conditions: none. -/
import Derived.Test.YtpklhjeccbjalaaAm13d
import Derived.Scope
import Derived.LoopNIn
import Derived.RowKit
import Derived.ProofKit
import Derived.OpenShut
import Derived.WideKeyArgs
import Derived.HandedShaped
import Derived.JoinedCond
import Derived.Deep.Slices
import Derived.KernelRfl
set_option linter.all false
set_option linter.unusedVariables false
set_option linter.unusedSimpArgs false
set_option linter.unnecessarySimpa false
section
namespace Go.Am

section
variable {P : Program} {R : Type}

theorem keepGo_rel {ρ : Ren} {sh : Sh} {l : List Nat} {fr tm : List Value} (h : LRel P ρ sh fr tm) : ∀ (n i : Nat), i + n = tm.length → LRel P ρ sh (keepGo l fr n i) (tm.drop i)
  | 0, i, hi => by
    have : tm.drop i = [] := List.drop_eq_nil_of_le (by omega)
    rw [this]; exact .nil
  | n + 1, i, hi => by
    have hlt : i < tm.length := by omega
    rw [List.drop_eq_getElem_cons hlt]
    simp only [keepGo]
    refine .cons ?_ (keepGo_rel h n (i + 1) (by omega))
    split
    · have := h.getD i undef
      simpa [List.getD, List.getElem?_eq_getElem hlt] using this
    · exact .any _

theorem keepGo_length (l : List Nat) (fr : List Value) : ∀ n i, (keepGo l fr n i).length = n
  | 0, _ => rfl
  | n + 1, i => by simp [keepGo, keepGo_length l fr n (i + 1)]

theorem Stt.keep {B : Base P} {nt : Nat} {fr : List Value} {st : AS} {a : Act} {w : World} (h : Stt B nt fr st a w) (l : Option (List Nat)) : Stt B nt (keep nt l fr) st a w := by
  cases l with
  | none => exact h
  | some l =>
    obtain ⟨ρ, h1, h2, h3, h4, h5, h6, h7⟩ := h
    refine ⟨ρ, h1, ?_, h3, h4, h5, h6, by simp [Am.keep, keepGo_length]⟩
    have := keepGo_rel (l := l) h2 nt 0 (by have := h2.1; omega)
    simpa [Am.keep] using this

theorem gc_hold {B : Base P} {st : AS} (hup : Up B.H st.H st.esc) : (∀ m, st.esc = some m → B.H.length ≤ m) → ∀ (b : Nat) (k : Blk) (r : Nat), b < B.H.length → st.H[b]? = some k → r ∈ blkRefs k → r < B.H.length := by
  intro he b k r hb hk hr
  by_cases hlt : b < r
  · rcases hup b k r hb hk hr hlt with ⟨k0, h1, h2⟩ | ⟨m, h1, h2⟩
    · exact refs_lt B.rel h1 h2
    · have := he m h1; omega
  · omega

theorem Stt.gc {B : Base P} {nt : Nat} {fr : List Value} {st : AS} {a : Act} {w : World} (h : Stt B nt fr st a w) : Stt B nt (gc B.H.length fr st).1 (gc B.H.length fr st).2 a w := by
  obtain ⟨ρ, h1, h2, h3, h4, h5, h6, h7⟩ := h
  obtain ⟨H, e⟩ := st
  obtain ⟨ρ', g1, g2, g3, g4, g5, g6, g7⟩ := gc_sound h1 (n := B.H.length) (e := e) h2 h5 (gc_hold h4)
  refine ⟨ρ', g1, g2, h3.trans g3, fun b k r hb hk hr hlt => ?_, g4, h6, by rw [g7]; exact h7⟩
  rw [g5 b hb] at hk
  rcases h4 b k r hb hk hr hlt with h8 | ⟨m, h8, h9⟩
  · exact .inl h8
  · rcases g6 with g6 | ⟨g6, g8⟩
    · exact .inr ⟨m, by rw [g6]; exact h8, h9⟩
    · have := g8 m h8; omega

theorem LRel.pack {ρ : Ren} {sh : Sh} {fr tm : List Value} (h : LRel P ρ sh fr tm) (l : Option (List Nat)) : LRel P ρ sh (packF l fr) (packF l tm) := by
  cases l with
  | none => exact h
  | some l =>
    refine ⟨by simp [packF], fun i v hv => ?_⟩
    simp only [packF, List.getElem?_map, Option.map_eq_some_iff] at hv ⊢
    obtain ⟨j, hj, rfl⟩ := hv
    exact ⟨_, ⟨j, hj, rfl⟩, h.getD j unk⟩

theorem findIx_get : ∀ (l : List Nat) (r k j : Nat), findIx r l k = some j → k ≤ j ∧ l[j - k]? = some r
  | [], r, k, j, h => by simp [findIx] at h
  | x :: xs, r, k, j, h => by
    simp only [findIx] at h
    split at h
    · rename_i hx; simp at h; subst h; subst hx; simp
    · obtain ⟨h1, h2⟩ := findIx_get xs r (k + 1) j h
      refine ⟨by omega, ?_⟩
      rw [show j - k = (j - (k + 1)) + 1 by omega]
      simpa using h2

theorem unpackGo_rel {ρ : Ren} {sh : Sh} {l : List Nat} {vs tm : List Value} (h : LRel P ρ sh vs (packF (some l) tm)) : ∀ (n i : Nat), i + n = tm.length → LRel P ρ sh (unpackGo l vs n i) (tm.drop i)
  | 0, i, hi => by
    have : tm.drop i = [] := List.drop_eq_nil_of_le (by omega)
    rw [this]; exact .nil
  | n + 1, i, hi => by
    have hlt : i < tm.length := by omega
    rw [List.drop_eq_getElem_cons hlt]
    simp only [unpackGo]
    refine .cons ?_ (unpackGo_rel h n (i + 1) (by omega))
    split
    · rename_i j hj
      have hg := (findIx_get l i 0 j hj).2
      have := h.getD j undef
      have e : (packF (some l) tm).getD j undef = tm[i] := by
        simp only [packF, List.getD, List.getElem?_map]
        rw [show l[j]? = some i by simpa using hg]
        simp [List.getElem?_eq_getElem hlt]
      rwa [e] at this
    · exact .any _

theorem unpackGo_length (l : List Nat) (vs : List Value) : ∀ n i, (unpackGo l vs n i).length = n
  | 0, _ => rfl
  | n + 1, i => by simp [unpackGo, unpackGo_length l vs n (i + 1)]

/-- a loop's head: the slots that are live there -/
def SttP (B : Base P) (nt : Nat) (l : Option (List Nat)) (vs : List Value) (st : AS) (a : Act) (w : World) : Prop :=
  ∃ ρ, Rel P ρ st.H w ∧ LRel P ρ w.shape? vs (packF l a.tmps.toList) ∧ Step B.H.length B.ρ B.H B.w ρ st.H w ∧ Up B.H st.H st.esc ∧ B.H.length ≤ st.H.length ∧ MarksB B w a.defers ∧ a.tmps.toList.length = nt

theorem Stt.pack {B : Base P} {nt : Nat} {fr : List Value} {st : AS} {a : Act} {w : World} (h : Stt B nt fr st a w) (l : Option (List Nat)) : SttP B nt l (packF l fr) st a w := by
  obtain ⟨ρ, h1, h2, h3, h4, h5, h6, h7⟩ := h
  exact ⟨ρ, h1, h2.pack l, h3, h4, h5, h6, by rw [← h2.1]; exact h7⟩

theorem SttP.unpack {B : Base P} {nt : Nat} {l : Option (List Nat)} {vs : List Value} {st : AS} {a : Act} {w : World} (h : SttP B nt l vs st a w) : Stt B nt (unpackF nt l vs) st a w := by
  obtain ⟨ρ, h1, h2, h3, h4, h5, h6, h7⟩ := h
  cases l with
  | none => exact ⟨ρ, h1, h2, h3, h4, h5, h6, by have := h2.1; simp only [packF] at this; simp only [unpackF]; omega⟩
  | some l =>
    refine ⟨ρ, h1, ?_, h3, h4, h5, h6, by simp [unpackF, unpackGo_length]⟩
    have := unpackGo_rel h2 nt 0 (by omega)
    simpa [unpackF] using this

theorem SttP.gc {B : Base P} {nt : Nat} {l : Option (List Nat)} {vs : List Value} {st : AS} {a : Act} {w : World} (h : SttP B nt l vs st a w) : SttP B nt l (gc B.H.length vs st).1 (gc B.H.length vs st).2 a w := by
  obtain ⟨ρ, h1, h2, h3, h4, h5, h6, h7⟩ := h
  obtain ⟨H, e⟩ := st
  obtain ⟨ρ', g1, g2, g3, g4, g5, g6, _⟩ := gc_sound h1 (n := B.H.length) (e := e) h2 h5 (gc_hold h4)
  refine ⟨ρ', g1, g2, h3.trans g3, fun b k r hb hk hr hlt => ?_, g4, h6, h7⟩
  rw [g5 b hb] at hk
  rcases h4 b k r hb hk hr hlt with h8 | ⟨m, h8, h9⟩
  · exact .inl h8
  · rcases g6 with g6 | ⟨g6, g8⟩
    · exact .inr ⟨m, by rw [g6]; exact h8, h9⟩
    · have := g8 m h8; omega

theorem SttP.jFrz {B : Base P} {nt : Nat} {l : Option (List Nat)} {vs : List Value} {st : AS} {a : Act} {w : World} (h : SttP B nt l vs st a w) (on : Bool) : SttP B nt l (jFrz P B.H.length vs st on).1 (Am.jFrz P B.H.length vs st on).2 a w := by
  cases on with
  | false => exact h
  | true =>
    obtain ⟨ρ, h1, h2, h3, h4, h5, h6, h7⟩ := h
    obtain ⟨ρ1, _, f1, f2, f3, f4⟩ := frzL_sound (frz_sound B.H.length 8) vs _ ρ st.H h1 h2
    have fu := frz_up (P := P) B.H.length 8 vs st
    have h5' : B.H.length ≤ (frzL (frz P B.H.length 8) vs st.H).2.length := by rw [f4]; exact h5
    exact ⟨ρ1, f1, f3, h3.trans (f2.less (by simpa [f4] using h5)), h4.step h5 fu.1 fu.2.1, h5', h6, h7⟩

theorem SttP.jGc {B : Base P} {nt : Nat} {l : Option (List Nat)} {q : List Value × AS} {a : Act} {w : World} (h : SttP B nt l q.1 q.2 a w) (on : Bool) : SttP B nt l (jGc B.H.length q on).1 (Am.jGc B.H.length q on).2 a w := by
  cases on with
  | false => exact h
  | true => exact h.gc

def AEx.toExit : AEx → Exit
  | .normal => .normal
  | .exit i => .exit i
  | .ret => .ret

theorem loopW_spec {σ ρ : Type} {step : σ → Option (σ ⊕ ρ)} {s : σ} {r : ρ} (h : loopW step s = some r) : ∃ n, rounds step n s = some r := by
  unfold loopW at h
  split at h
  · rename_i hex
    simp at h
    have := Classical.choose_spec (Classical.choose_spec hex)
    rw [h] at this
    exact ⟨_, this⟩
  · simp at h

/-- a way to do rounds that bears a number of them -/
structure LSound (L : Loops) : Prop where
  run : ∀ n0 step s r, L.run n0 step s = some r → ∃ n, rounds (headed n0 step) n s = some r
  any : ∀ {R : Type} n0 step s k (r : R), L.any n0 step s k = some r → ∃ n, roundsK n0 step k n s = some r
  all : ∀ {R : Type} n (f : Nat → Option R) r, L.all n f = some r → 0 < n ∧ ∀ i, i < n → f i = some r

theorem nextAt_some {ops : Array Oper} {x : Operand} {d : Option Tmp} (h : nextAt ops = some (x, d)) : ∃ o, ops[0]? = some o ∧ o.op = .next x false ∧ o.guard = none ∧ o.dst = d ∧ List.range ops.size = 0 :: (List.range ops.size).tail := by
  unfold nextAt at h
  split at h
  · simp at h
  · rename_i o l hl
    have h0 : ops[0]? = some o := by rw [← Array.getElem?_toList, hl]; rfl
    split at h
    · rename_i x' h1 h2
      simp at h; obtain ⟨rfl, rfl⟩ := h
      refine ⟨o, h0, h1, h2, rfl, ?_⟩
      have : 0 < ops.size := lt_of_getA h0
      obtain ⟨n, hn⟩ : ∃ n, ops.size = n + 1 := ⟨ops.size - 1, by omega⟩
      rw [hn, List.range_succ_eq_map]; rfl
    · simp at h

theorem nextR_sound {ro : Option Nat} {C : Callee} (hC : CSound P C) (hU : CUp C) {L : Loops} (hL : LSound L) {B : Base P} {nt : Nat} {ops : Array Oper} {x : Operand} {d : Option Tmp} {fr : List Value} {st : AS} {a : Act} {w : World} {k : List Value → AS → Option R} {r : R} {Q : Exit → Act → World → Prop}
    (hn : nextAt ops = some (x, d)) (hs : Stt B nt fr st a w)
    (h : ((aNext (ev fr x) st).bind fun q => L.all q.1 fun i => eops P C ops noChk (List.range ops.size).tail [] (setD fr d (q.2 i).1) (q.2 i).2 k) = some r)
    (hk : ∀ fr' st' a' w', Stt B nt fr' st' a' w' → k fr' st' = some r → Q .normal a' w') : wpOpsIn (Wd ro) 0 P ops Q (List.range ops.size) a w := by
  obtain ⟨o, h0, hop, hg, hd, hr⟩ := nextAt_some hn
  obtain ⟨q, hq, h⟩ := Option.bind_eq_some_iff.1 h
  obtain ⟨_, hall⟩ := hL.all _ _ _ h
  rw [hr]
  simp only [wpOpsIn, h0]
  have hw : Region.wanted o (yielded ops a.tmps) = true := by simp [Region.wanted, hg]
  rw [if_pos hw]
  obtain ⟨ρ, h1, h2, h3, h4, h5, h6, h7⟩ := hs
  obtain ⟨i, hi, cv, w', hrun, ho⟩ := next_sound (e := st.esc) h1 o.type hq (ev_rel h2 x)
  refine wp_of_value (fun c hc => by simp [hop] at hc) (cv := cv) (w' := w') (by simp [execOp, hop, hrun]) ?_
  have hs' : Stt B nt (setD fr d (q.2 i).1) (q.2 i).2 (a.put o.dst cv) w' := by
    rw [hd]
    exact .step h1 h2 h3 h4 h5 h6 h7 ho ((next_up hq).2 i)
  exact eops_sound hC hU _ _ _ _ _ _ _ _ hs' (hall i hi) hk

theorem stepR_scope {b : Frame} {a : Act} {k : List Item} {cs : List Frame} {w : World} {c : Code} : Go.step P (lone (b.atR a (.code (.scope c) :: k)) cs w) = .next (lone (b.atR a (.code c :: .inScope c :: k)) cs w) :=
  step_lone_go (by simp [stepG, stepG.exec, Frame.atR])
theorem stepR_inScope {b : Frame} {a : Act} {k : List Item} {cs : List Frame} {w : World} {c : Code} : Go.step P (lone (b.atR a (.inScope c :: k)) cs w) = .next (lone (b.atR a k) cs w) :=
  step_lone_go (by simp [stepG, stepG.exec, Frame.atR])

theorem wpIn_scope_straight {F : Fence} {n : Nat} {a : Act} {w : World} {Q : Exit → Act → World → Prop} {c : Code} (h : c.wpIn F n P (Exit.noGoto Q) a w) : (Code.scope c).wpIn F n P Q a w := by
  intro b k cs hro hb hr
  have h0 : (lone (b.atR a (.code (.scope c) :: k)) cs w).fenced P F := fenced_calm hb hr rfl
  obtain ⟨e, a₁, w₁, hq, harr⟩ := h b (.inScope c :: k) cs hro hb hr
  cases e with
  | normal => exact ⟨.normal, a₁, w₁, hq, .head h0 stepR_scope (StepsIn.trans harr (.one (fenced_calm hb hr rfl) stepR_inScope))⟩
  | exit id =>
    have hx : exitTo id (.inScope c :: k) = exitTo id k := by simp [exitTo]
    exact ⟨.exit id, a₁, w₁, hq, fun k' hk => .head h0 stepR_scope (harr.1 k' (by rw [hx]; exact hk)),
      fun hr' hk => let ⟨k₁, h1, h2⟩ := harr.2 hr' (by rw [hx]; exact hk); ⟨k₁, h1, .head h0 stepR_scope h2⟩⟩
  | goto l => exact hq.elim
  | ret => exact ⟨_, a₁, w₁, hq, .of_steps (.one h0 stepR_scope) harr⟩
  | panic ch => exact ⟨_, a₁, w₁, hq, .of_steps (.one h0 stepR_scope) harr⟩
  | outgrown => exact ⟨_, a₁, w₁, hq, .of_steps (.one h0 stepR_scope) harr⟩

/-- a walk over a function's values begins: its record -/
theorem enter_sound {ro : Option Nat} {B : Base P} (hro : ∀ l, ro = some l → ∃ r, B.w.heap[l]? = some (.loop r)) {fr : List Value} {st : AS} {a : Act} {w : World} {ρ : Ren} (h1 : Rel P ρ st.H w) (h2 : LRel P ρ w.shape? fr a.tmps.toList) (h3 : Step B.H.length B.ρ B.H B.w ρ st.H w) (h6 : MarksB B w a.defers) (fn : FuncId) (ps : Array Tmp) (x y : Code) (me : FuncId) :
    ∃ l mark w1, (Instr.enterLoop fn a.tmps ps x y ro).run P w = .ok (l, mark) w1 ∧ Rel P (upd ρ st.H.length (l, 0)) (st.H ++ [.loop me ps.toList x y fr .ready]) w1 ∧
      Step st.H.length ρ st.H w (upd ρ st.H.length (l, 0)) (st.H ++ [.loop me ps.toList x y fr .ready]) w1 ∧ MarksB B w1 (mark ++ a.defers) := by
  have hd : ρ st.H.length = none := h1.dom _ (Nat.le_refl _)
  cases ro with
  | none =>
    obtain ⟨r1, s1⟩ := h1.alloc_bare (.deferred (some []))
    have hb : ∀ (rc : Loop), rc.params = ps → rc.assign = x → rc.body = y → rc.tmps = a.tmps → rc.state = .ready → rc.pending = none → BRel P (upd ρ st.H.length ((w.alloc (.deferred (some []))).heap.size, 0)) ((w.alloc (.deferred (some []))).alloc (.loop rc)).shape? (.loop me ps.toList x y fr .ready) 0 (.loop rc) := by
      intro rc e1 e2 e3 e4 e5 e6
      refine ⟨rfl, rc, rfl, by rw [e1], e2, e3, ?_, e5, e6⟩
      rw [e4]
      exact h2.mono (fun _ _ h => h) (upd_mono hd) (fun r z hz => shape_alloc _ _ _ _ (shape_alloc _ _ _ _ hz))
    have hsz : (w.alloc (.deferred (some []))).heap.size = w.heap.size + 1 := by rw [World.size_alloc]
    obtain ⟨r2, s2⟩ := alloc_rel r1 (.loop me ps.toList x y fr .ready) (.loop { state := .ready, pending := none, fn, tmps := a.tmps, params := ps, assign := x, body := y, defers := w.heap.size }) (hb _ rfl rfl rfl rfl rfl rfl)
    rw [hsz] at r2 s2
    refine ⟨_, _, _, run_enterLoop_outer fn a.tmps ps x y, r2, s1.trans s2, ?_⟩
    obtain ⟨ms, hms, h6⟩ := h6
    have hm := (h6.step h1 s1).step r1 s2
    refine ⟨{ target := .collected w.heap.size, args := #[] } :: ms, by rw [hms]; rfl, List.nodup_cons.2 ⟨fun hin => ?_, hm.1⟩, fun d hdm => ?_⟩
    · obtain ⟨m, e1, e2, e3⟩ := h6.2 _ hin
      have := lt_of_getA e3
      injection e1 with e1 _
      injection e1 with e1
      omega
    · rcases List.mem_cons.1 hdm with rfl | hdm
      · refine ⟨w.heap.size, rfl, h3.size, ?_⟩
        rw [heap_alloc_old _ _ (by rw [hsz]; omega)]
        exact heap_alloc_new _ _
      · exact hm.2 d hdm
  | some l0 =>
    obtain ⟨r0, hr0⟩ := hro l0 rfl
    obtain ⟨r0', hr0'⟩ := h3.loops l0 r0 hr0
    have hb : ∀ (rc : Loop), rc.params = ps → rc.assign = x → rc.body = y → rc.tmps = a.tmps → rc.state = .ready → rc.pending = none → BRel P (upd ρ st.H.length (w.heap.size, 0)) (w.alloc (.loop rc)).shape? (.loop me ps.toList x y fr .ready) 0 (.loop rc) := by
      intro rc e1 e2 e3 e4 e5 e6
      refine ⟨rfl, rc, rfl, by rw [e1], e2, e3, ?_, e5, e6⟩
      rw [e4]
      exact h2.mono (fun _ _ h => h) (upd_mono hd) (fun r z hz => shape_alloc _ _ _ _ hz)
    obtain ⟨r2, s2⟩ := alloc_rel h1 (.loop me ps.toList x y fr .ready) (.loop { state := .ready, pending := none, fn, tmps := a.tmps, params := ps, assign := x, body := y, defers := r0'.defers }) (hb _ rfl rfl rfl rfl rfl rfl)
    exact ⟨_, _, _, run_enterLoop_inner hr0' fn a.tmps ps x y, r2, s2, h6.step h1 s2⟩

/-- the jump that a walk left pending -/
def jumpOf : AEx → Option Code
  | .normal => none
  | .ret => some .ret
  | .exit i => some (.exit i)
theorem loopPend_some {H : List Blk} {l : Nat} {e : AEx} (h : loopPend H l = some e) : ∃ f ps x y fr s, H[l]? = some (.loop f ps x y fr s) ∧ ∀ r, LStRel s r → r.state ≠ .busy ∧ r.pending = jumpOf e := by
  unfold loopPend at h
  split at h
  · rename_i f ps x y fr hl
    simp at h; subst h
    exact ⟨f, ps, x, y, fr, _, hl, fun r hr => ⟨by rw [hr.1]; simp, hr.2⟩⟩
  · rename_i f ps x y fr hl
    simp at h; subst h
    exact ⟨f, ps, x, y, fr, _, hl, fun r hr => ⟨by rw [hr.1]; simp, hr.2⟩⟩
  · rename_i f ps x y fr i hl
    simp at h; subst h
    exact ⟨f, ps, x, y, fr, _, hl, fun r hr => ⟨by rw [hr.1]; simp, hr.2⟩⟩
  · simp at h

theorem rangeF_sound {ro : Option Nat} {C : Callee} (hC : CSound P C) (hU : CUp C) {B : Base P} {nt : Nat} (hro : ∀ l, ro = some l → ∃ r, B.w.heap[l]? = some (.loop r)) {g : Operand} {ps : Array Tmp} {x y : Code} {fr : List Value} {st : AS} {k : AEx → List Value → AS → Option R} {r : R} {a : Act} {w : World} {Q : Exit → Act → World → Prop} {me : FuncId}
    (hs : Stt B nt fr st a w) (h : ((aFn P (ev fr g) [.chan (some st.H.length)]).bind fun q => if q.1 < yidB then (C q.1 q.2 (st.H ++ [.loop me ps.toList x y fr .ready])).bind fun r =>
      (loopPend r.2.1 st.H.length).bind fun e => k e fr ⟨r.2.1.set st.H.length .dead, joinEsc st.esc r.2.2⟩ else none) = some r)
    (hk : ∀ e fr' st' a' w', Stt B nt fr' st' a' w' → k e fr' st' = some r → Q e.toExit a' w') : (Code.rangeFunc g ps x y).wpIn (Wd ro) 0 P Q a w := by
  obtain ⟨ρ, h1, h2, h3, h4, h5, h6, h7⟩ := hs
  obtain ⟨⟨q1, q2⟩, hfn, h⟩ := Option.bind_eq_some_iff.1 h
  rw [ite_some] at h
  obtain ⟨hlt, h⟩ := h
  obtain ⟨⟨v, H', e'⟩, hcall, h⟩ := Option.bind_eq_some_iff.1 h
  obtain ⟨e, hpend, hkk⟩ := Option.bind_eq_some_iff.1 h
  simp only at hlt hcall hpend hkk
  refine wpIn_rangeFunc fun fn _ => ?_
  obtain ⟨l, mark, w1, he, hr1, hs1, hm1⟩ := enter_sound hro h1 h2 h3 h6 fn ps x y me
  have hmono : ∀ b z, ρ b = some z → upd ρ st.H.length (l, 0) b = some z := upd_mono (h1.dom _ (Nat.le_refl _))
  have hfr1 := h2.mono hs1.fz hmono hs1.shape
  have hf := ev_rel h2 g
  unfold aFn at hfn
  split at hfn
  · rename_i g' first captured heq
    rw [heq] at hf
    obtain ⟨first', captured', hcf, hL1, hL2⟩ := hf.func_inv
    split at hfn
    · rename_i fn' hfn'
      rw [ite_some] at hfn
      obtain ⟨⟨hbody, hname, hlt'⟩, hfn⟩ := hfn
      simp only [Option.some.injEq, Prod.mk.injEq] at hfn
      obtain ⟨rfl, rfl⟩ := hfn
      have hyl : LRel P (upd ρ st.H.length (l, 0)) w1.shape? [.chan (some st.H.length)] [.func (.yield l) #[] #[]] := .cons (.yld (upd_self _ _ _)) .nil
      have hargs : LRel P (upd ρ st.H.length (l, 0)) w1.shape? (first.toList ++ [.chan (some st.H.length)] ++ captured.toList) (first' ++ #[Value.func (Fn.yield l) #[] #[]] ++ captured').toList := by
        simpa using ((hL1.mono hs1.fz hmono hs1.shape).append hyl).append (hL2.mono hs1.fz hmono hs1.shape)
      have hcs := hC.fn _ _ _ _ _ _ _ _ _ hlt hcall hr1 hargs
      have hbn : fn'.body.isNone = false := by cases hb : fn'.body <;> simp_all
      have hname' : ¬ fn'.name = "runtime.NumGoroutine" := by simpa using hname
      refine ⟨l, mark, w1, { target := Target.fn (Fn.func g') captured', args := first' ++ #[Value.func (Fn.yield l) #[] #[]] }, w1, g', _, w1, he, ?_, fun _ _ => trivial, ?_, fun hx => by simp at hx, CallsIn.mono (F := Wd ro) (n := 0 - 1) (callsIn_wide.2 hcs) ?_⟩
      · simp only [resolve, rangeCall, hcf, Deferred.ofValue, Sem.run_bind, Sem.run_pure, Result.andThen_ok]
        simp [Act.eval]
      · simp only [invoke, callFunc, Sem.run_bind, Sem.run_pure, Result.andThen_ok, run_program, hfn', hname, hbn, Bool.false_eq_true, if_false]
      · intro en w3 hen
        obtain ⟨cv, rfl, ⟨ρ2, g1, g2, _⟩, g4⟩ := hen
        obtain ⟨f0, ps0, x0, y0, fr0, s0, hl0, hst0⟩ := loopPend_some hpend
        obtain ⟨cb, base, o, k1, k2, k3⟩ := g1.blk _ _ hl0 rfl
        have hρ2 : ρ2 st.H.length = some (l, 0) := by
          rw [g2.ext _ (by simp)]
          exact upd_self _ _ _
        rw [hρ2] at k1
        simp only [Option.some.injEq, Prod.mk.injEq] at k1
        obtain ⟨rfl, rfl⟩ := k1
        obtain ⟨_, rc, rfl, j1, j2, j3, j4, j5⟩ := k3
        obtain ⟨hb1, hb2⟩ := hst0 rc j5
        have hset := set_rel g1 (k' := .loop f0 ps0 x0 y0 fr0 .busy) (o' := .loop { rc with state := .exhausted }) hl0 rfl hρ2 k2 rfl rfl ⟨rfl, _, rfl, j1, j2, j3, j4, trivial⟩ (fun _ _ => ⟨_, rfl⟩)
        obtain ⟨z1, z2⟩ := hset
        have hkill := kill_rel z1 (b := st.H.length)
        have hss : (H'.set st.H.length (.loop f0 ps0 x0 y0 fr0 .busy)).set st.H.length .dead = H'.set st.H.length .dead := by rw [List.set_set]
        rw [hss] at hkill
        have hlen : st.H.length + 1 ≤ H'.length := by simpa using g4
        have S1 := hs1.trans (g2.less (m := st.H.length) (by simp))
        have S2 := S1.trans (z2.less (m := st.H.length) (by omega))
        have S : Step st.H.length ρ st.H w ρ2 (H'.set st.H.length .dead) (setBlk w3 l (.loop { rc with state := .exhausted })) := S2.trans (hkill.2.less (by simp; omega))
        have hup : UpC st ⟨H'.set st.H.length .dead, joinEsc st.esc e'⟩ := by
          have u1 : UpC st ⟨st.H ++ [.loop me ps.toList x y fr .ready], st.esc⟩ := .app rfl rfl
          have u2 := call_up hU (st := ⟨st.H ++ [.loop me ps.toList x y fr .ready], st.esc⟩) hcall
          exact (u1.trans u2).trans (.kill rfl rfl)
        have hm3 := ((hm1.step hr1 g2).step g1 z2)
        have hs' : Stt B nt fr ⟨H'.set st.H.length .dead, joinEsc st.esc e'⟩ { a with defers := mark ++ a.defers } (setBlk w3 l (.loop { rc with state := .exhausted })) :=
          ⟨ρ2, hkill.1, h2.mono S.fz (rho_mono h1 S) S.shape, h3.trans (S.less h5), h4.step h5 hup.1 hup.2.1, by simp; omega, hm3, h7⟩
        have hq := hk e fr _ _ _ hs' hkk
        have key : ∀ (w4 : World) (p : Option Code), Q e.toExit { a with defers := mark ++ a.defers } w4 → p = jumpOf e →
            (match p with | none => Q .normal { a with defers := mark ++ a.defers } w4 | some c => c.wpIn (Wd ro) 0 P Q { a with defers := mark ++ a.defers } w4) := by
          intro w4 p hq4 hp
          subst hp
          cases e with
          | normal => exact hq4
          | ret => exact wpIn_ret hq4
          | exit i => exact wpIn_exit hq4
        exact ⟨_, _, run_endLoop k2 hb1, key _ _ hq hb2⟩
    · simp at hfn
  · simp only [Option.some.injEq, Prod.mk.injEq] at hfn
    obtain ⟨rfl, _⟩ := hfn
    exact absurd hlt (Nat.not_lt.2 (Nat.le_add_left _ _))
  · simp at hfn

theorem ecode_sound {ro : Option Nat} {C : Callee} (hC : CSound P C) (hU : CUp C) {L : Loops} (hL : LSound L) {B : Base P} {T : Tab} {nt : Nat} (hro : ∀ l, ro = some l → ∃ r, B.w.heap[l]? = some (.loop r)) : ∀ (c : Code) {R : Type} (fr : List Value) (st : AS) (k : AEx → List Value → AS → Option R) (r : R) (a : Act) (w : World) (Q : Exit → Act → World → Prop),
    Stt B nt fr st a w → ecode P T nt B.H.length C L c fr st k = some r → (∀ e fr' st' a' w', Stt B nt fr' st' a' w' → k e fr' st' = some r → Q e.toExit a' w') → c.wpIn (Wd ro) 0 P Q a w
  | .skip, R, fr, st, k, r, a, w, Q, hs, h, hk => wpIn_skip (hk .normal _ _ _ _ hs (by simpa [ecode] using h))
  | .label _, R, fr, st, k, r, a, w, Q, hs, h, hk => wpIn_label (hk .normal _ _ _ _ hs (by simpa [ecode] using h))
  | .exit id, R, fr, st, k, r, a, w, Q, hs, h, hk => wpIn_exit (hk (.exit id) _ _ _ _ hs (by simpa [ecode] using h))
  | .ret, R, fr, st, k, r, a, w, Q, hs, h, hk => wpIn_ret (hk .ret _ _ _ _ hs (by simpa [ecode] using h))
  | .region id ops draw, R, fr, st, k, r, a, w, Q, hs, h, hk => by
    simp only [ecode] at h
    cases draw with
    | true =>
      simp only [if_true] at h
      split at h
      · split at h
        · simp at h
        · rename_i opsL ord1 l ord2 hp
          exact late_sound hC hU hp (hs.keep _) h (fun fr' st' a' w' hs' hk' => hk .normal _ _ _ _ hs' hk')
      · rename_i ord chk hp
        exact draw_sound hC hU hp (hs.keep _) h (fun fr' st' a' w' hs' hk' => hk .normal _ _ _ _ hs' hk')
    | false =>
      simp only [Bool.false_eq_true, if_false] at h
      split at h
      case h_2 hn => exact wpIn_region (nextR_sound hC hU hL hn (hs.keep _) h (fun fr' st' a' w' hs' hk' => hk .normal _ _ _ _ hs' hk'))
      exact wpIn_region (eops_sound hC hU _ _ _ _ _ _ _ _ (hs.keep _) h (fun fr' st' a' w' hs' hk' => hk .normal _ _ _ _ hs' hk'))
  | .seq x y, R, fr, st, k, r, a, w, Q, hs, h, hk => by
    simp only [ecode] at h
    cases hj : (firstRegion y).bind T.jn with
    | none =>
      simp only [hj] at h
      refine wpIn_seq (ecode_sound hC hU hL hro x fr st _ r a w _ hs h (fun e fr' st' a' w' hs' hk' => ?_))
      cases e with
      | normal => exact ecode_sound hC hU hL hro y fr' st' k r a' w' Q hs' hk' hk
      | exit i => exact hk (.exit i) _ _ _ _ hs' hk'
      | ret => exact hk .ret _ _ _ _ hs' hk'
    | some l =>
      simp only [hj] at h
      obtain ⟨⟨e0, fr0, st0⟩, h1, h2⟩ := Option.bind_eq_some_iff.1 h
      refine wpIn_seq (ecode_sound hC hU hL hro x fr st _ _ a w _ hs h1 (fun e fr' st' a' w' hs' hk' => ?_))
      simp only [Option.some.injEq, Prod.mk.injEq] at hk'
      obtain ⟨rfl, rfl, rfl⟩ := hk'
      have hs2 := (hs'.pack (some l)).unpack
      cases e with
      | normal => exact ecode_sound hC hU hL hro y _ _ k r a' w' Q (((hs'.pack (some l)).jFrz _).jGc _).unpack h2 hk
      | exit i => exact hk (.exit i) _ _ _ _ hs2 h2
      | ret => exact hk .ret _ _ _ _ hs2 h2
  | .cond c x y, R, fr, st, k, r, a, w, Q, hs, h, hk => by
    simp only [ecode] at h
    obtain ⟨ρ, h1, h2, _⟩ := id hs
    have hc := ev_rel h2 c
    rcases bcase_some h with ⟨hb, h⟩ | ⟨hb, h⟩
    · rw [hb] at hc
      exact wpIn_cond_true hc.bool_inv (ecode_sound hC hU hL hro x fr st k r a w Q hs h hk)
    · rw [hb] at hc
      exact wpIn_cond_false hc.bool_inv (ecode_sound hC hU hL hro y fr st k r a w Q hs h hk)
  | .block id x, R, fr, st, k, r, a, w, Q, hs, h, hk => by
    simp only [ecode] at h
    refine wpIn_block (ecode_sound hC hU hL hro x fr st _ r a w _ hs h (fun e fr' st' a' w' hs' hk' => ?_))
    cases e with
    | normal => exact hk .normal _ _ _ _ hs' hk'
    | exit i =>
      simp only [AEx.toExit, Exit.inBlock]
      by_cases hi : i = id
      · rw [if_pos hi]; simp only [hi, if_true] at hk'; exact hk .normal _ _ _ _ hs' hk'
      · rw [if_neg hi]; simp only [hi, if_false] at hk'; exact hk (.exit i) _ _ _ _ hs' hk'
    | ret => exact hk .ret _ _ _ _ hs' hk'
  | .loop x, R, fr, st, k, r, a, w, Q, hs, h, hk => by
    simp only [ecode] at h
    by_cases hni : nextIn x = true
    · rw [if_pos hni] at h
      obtain ⟨n, hn⟩ := hL.any _ _ _ _ _ h
      refine wpIn_loop_rounds n ?_
      clear h
      have hp := hs.pack ((firstRegion x).bind T.at_)
      clear hs
      generalize packF ((firstRegion x).bind T.at_) fr = vs at hp hn
      induction n generalizing vs st a w with
      | zero => simp [roundsK] at hn
      | succ n ih =>
        have hs := hp
        rw [roundsIn_succ]
        simp only [roundsK] at hn
        refine ecode_sound hC hU hL hro x _ _ _ r a w _ hs.gc.unpack hn (fun e2 fr2 st2 a2 w2 hs2 hk2 => ?_)
        cases e2 with
        | normal =>
          exact ih _ _ _ _ (hs2.pack _) hk2
        | exit i =>
          exact hk (.exit i) _ _ _ _ (hs2.pack _).gc.unpack hk2
        | ret =>
          exact hk .ret _ _ _ _ (hs2.pack _).gc.unpack hk2
    rw [if_neg hni] at h
    obtain ⟨⟨e, fr', st'⟩, hloop, hk'⟩ := Option.bind_eq_some_iff.1 h
    obtain ⟨n, hn⟩ := hL.run _ _ _ _ hloop
    refine wpIn_loop_rounds n ?_
    clear hloop h
    have hp := hs.pack ((firstRegion x).bind T.at_)
    clear hs
    generalize packF ((firstRegion x).bind T.at_) fr = vs at hp hn
    induction n generalizing vs st a w with
    | zero => simp [rounds] at hn
    | succ n ih =>
      have hs := hp
      rw [roundsIn_succ]
      simp only [rounds] at hn
      split at hn
      · simp at hn
      · rename_i res hstep
        simp at hn; subst hn
        refine ecode_sound hC hU hL hro x _ _ _ (Sum.inr (e, fr', st')) a w _ hs.gc.unpack hstep (fun e2 fr2 st2 a2 w2 hs2 hk2 => ?_)
        cases e2 with
        | normal => simp [loopEnd] at hk2
        | exit i =>
          simp [loopEnd] at hk2
          obtain ⟨rfl, rfl, rfl⟩ := hk2
          exact hk (.exit i) _ _ _ _ (hs2.pack _).unpack hk'
        | ret =>
          simp [loopEnd] at hk2
          obtain ⟨rfl, rfl, rfl⟩ := hk2
          exact hk .ret _ _ _ _ (hs2.pack _).unpack hk'
      · rename_i s' hstep
        refine ecode_sound hC hU hL hro x _ _ _ (Sum.inl s') a w _ hs.gc.unpack hstep (fun e2 fr2 st2 a2 w2 hs2 hk2 => ?_)
        cases e2 with
        | normal =>
          simp [loopEnd] at hk2
          subst hk2
          exact ih _ _ _ _ (hs2.pack _) hn
        | exit i => simp [loopEnd] at hk2
        | ret => simp [loopEnd] at hk2
  | .rangeFunc g ps x y, R, fr, st, k, r, a, w, Q, hs, h, hk => by
    simp only [ecode] at h
    exact rangeF_sound hC hU hro hs h hk
  | .scope c, R, fr, st, k, r, a, w, Q, hs, h, hk => by
    simp only [ecode] at h
    exact wpIn_scope_straight (ecode_sound hC hU hL hro c fr st k r a w _ hs h (fun e fr' st' a' w' hs' hk' => by
      have := hk e fr' st' a' w' hs' hk'
      cases e <;> exact this))
  | .goto .., R, fr, st, k, r, a, w, Q, hs, h, hk => by simp [ecode] at h
  | .refuse .., R, fr, st, k, r, a, w, Q, hs, h, hk => by simp [ecode] at h

end
end Go.Am

end
section
namespace Go.Am

section
variable {P : Program}

def resOne (tmps : Array Value) : ResultVar → Sem Value
  | .tmp t => pure (tmps.getD t undef)
  | .cell a t => do loadVar t (← asAddr (tmps.getD a undef))

theorem resultVs_run {ρ : Ren} {H : List Blk} {e : Option Nat} {w : World} {fr : List Value} {tmps : Array Value} (h : Rel P ρ H w) (hfr : LRel P ρ w.shape? fr tmps.toList) : ∀ (rs : List ResultVar) (vs : List Value), resultVs P fr ⟨H, e⟩ rs = some vs →
    ∃ cvs, (rs.mapM (resOne tmps)).run P w = .ok cvs w ∧ LRel P ρ w.shape? vs cvs
  | [], vs, hv => by simp [resultVs] at hv; subst hv; exact ⟨[], by simp, .nil⟩
  | r :: rs, vs, hv => by
    simp only [resultVs, Option.bind_eq_some_iff] at hv
    obtain ⟨v, h1, vs', h2, h3⟩ := hv
    simp at h3; subst h3
    obtain ⟨cvs, h4, h5⟩ := resultVs_run h hfr rs vs' h2
    have one : ∃ cv, (resOne tmps r).run P w = .ok cv w ∧ VRel P ρ w.shape? v cv := by
      cases r with
      | tmp t =>
        simp [resultV] at h1; subst h1
        exact ⟨_, by simp [resOne]; rfl, by have := hfr.getD t undef; simpa using this⟩
      | cell a t =>
        simp only [resultV] at h1
        split at h1
        · rename_i g n hg hn
          have ha := hfr.getD a undef
          obtain ⟨cv, hrun, hr⟩ := aLoad_sound h hg hn h1 ha
          refine ⟨cv, ?_, hr⟩
          -- the address is one
          have hp : (∃ ad, fr.getD a unk = .pointer (some ad)) ∨ ∃ off row, fr.getD a unk = .iface off (.agg row) := by
            unfold aLoad at h1
            split at h1
            · rename_i ad he; exact .inl ⟨ad, he⟩
            · rename_i off row he; exact .inr ⟨off, row, he⟩
            · simp at h1
          rcases hp with ⟨ad, hp⟩ | ⟨off, row, hp⟩
          case inr =>
            rw [hp] at ha
            obtain ⟨cb, base, _, _, hc, _⟩ := ha.tptr_inv
            rw [hc] at hrun
            have hc' : tmps.getD a undef = .pointer (some ⟨cb, base + off, none⟩) := by simpa using hc
            simp only [resOne, hc', asAddr, Sem.run_bind, Sem.run_pure, Result.andThen_ok]
            simpa [Instr.loadAt, Instr.sureAddr] using hrun
          rw [hp] at ha
          obtain ⟨cb, base, _, _, hc⟩ := ha.ptr_inv
          rw [hc] at hrun
          have hc' : tmps.getD a undef = .pointer (some ⟨cb, base + ad.off, none⟩) := by simpa using hc
          simp only [resOne, hc', asAddr, Sem.run_bind, Sem.run_pure, Result.andThen_ok]
          simpa [Instr.loadAt, Instr.sureAddr] using hrun
        · simp at h1
    obtain ⟨cv, h6, h7⟩ := one
    exact ⟨cv :: cvs, by simp [List.mapM_cons, h6, h4], .cons h7 h5⟩

theorem results_run {fn : Func} {tmps : Array Value} {w : World} {cvs : List Value} (h : (fn.results.toList.mapM (resOne tmps)).run P w = .ok cvs w) : (results fn tmps).run P w = .ok (oneOf cvs) w := by
  have e : results fn tmps = (do let vs ← fn.results.toList.mapM (resOne tmps); pure (oneOf vs)) := by
    unfold results
    rw [Array.mapM_eq_mapM_toList]
    simp only [bind_pure_comp, Functor.map_map, bind_map_left]
    refine congr (congrArg Functor.map (funext fun vs => ?_)) (congrArg (fun f => List.mapM f fn.results.toList) (funext fun x => by cases x <;> rfl))
    match vs with
    | [] => rfl
    | [v] => rfl
    | v :: u :: l => simp [oneOf]
  rw [e, Sem.run_bind, h]
  rfl

theorem oneOf_rel {ρ : Ren} {sh : Sh} {vs cvs : List Value} (h : LRel P ρ sh vs cvs) : VRel P ρ sh (oneOf vs) (oneOf cvs) := by
  match vs, cvs, h with
  | [], [], h => exact .same _ rfl
  | [v], [c], h => exact h.head.1
  | v :: u :: l, c :: d :: l', h => exact .tuple_list h
  | [], c :: l, h => have := h.1; simp at this
  | [v], [], h => have := h.1; simp at this
  | [v], c :: d :: l, h => have := h.1; simp at this
  | v :: u :: l, [], h => have := h.1; simp at this
  | v :: u :: l, [c], h => have := h.1; simp at this

theorem endFrz_sound {keep : Bool} {n0 : Nat} {ρ : Ren} {H : List Blk} {w : World} {vs cvs : List Value} (h : Rel P ρ H w) (hL : LRel P ρ w.shape? vs cvs) :
    ∃ ρ', Rel P ρ' (endFrz P keep n0 vs H).2 w ∧ Step H.length ρ H w ρ' (endFrz P keep n0 vs H).2 w ∧ LRel P ρ' w.shape? (endFrz P keep n0 vs H).1 cvs ∧ (endFrz P keep n0 vs H).2.length = H.length := by
  unfold endFrz
  split
  · exact ⟨ρ, h, .refl _, hL, rfl⟩
  · obtain ⟨ρ', _, h1, h2, h3, h4⟩ := frzL_sound (frz_sound n0 8) vs cvs ρ H h hL
    exact ⟨ρ', h1, h2, h3, h4⟩

theorem endFrz_up {keep : Bool} {n0 : Nat} (vs : List Value) (st : AS) : UpC st ⟨(endFrz P keep n0 vs st.H).2, st.esc⟩ := by
  unfold endFrz
  split
  · exact .refl _
  · exact frz_up n0 8 vs st

/-- the end of a call -/
theorem finish_sound {keep : Bool} {B : Base P} {nt : Nat} {fn : Func} {fr : List Value} {st : AS} {a : Act} {w : World} {v : Value} {H' : List Blk} {e' : Option Nat} (hs : Stt B nt fr st a w) (h : finish P keep B.H.length fn.results.toList fr st = some (v, H', e')) :
    (∃ cv, (results fn a.tmps).run P w = .ok cv w ∧ Out P B.H.length B.ρ B.H B.w H' v cv w) ∧ Up B.H H' e' ∧ B.H.length ≤ H'.length := by
  obtain ⟨ρ, h1, h2, h3, h4, h5, h6, h7⟩ := hs
  obtain ⟨H, e⟩ := st
  unfold finish at h
  obtain ⟨vs, hv, h⟩ := Option.bind_eq_some_iff.1 h
  simp only [Option.some.injEq, Prod.mk.injEq] at h
  obtain ⟨rfl, rfl, rfl⟩ := h
  obtain ⟨cvs, hrun, hL⟩ := resultVs_run h1 h2 _ _ hv
  obtain ⟨ρ1, f1, f2, f3, f4⟩ := endFrz_sound (keep := keep) (n0 := B.H.length) h1 hL
  have fu := endFrz_up (P := P) (keep := keep) (n0 := B.H.length) vs ⟨H, e⟩
  replace h4 : Up B.H (endFrz P keep B.H.length vs H).2 e := h4.step h5 fu.1 fu.2.1
  replace h5 : B.H.length ≤ (endFrz P keep B.H.length vs H).2.length := by rw [f4]; exact h5
  replace h3 := h3.trans (f2.less (by simpa [f4] using h5))
  cases keep with
  | true =>
    refine ⟨⟨_, results_run hrun, ⟨ρ1, f1, h3, oneOf_rel f3⟩, h5⟩, fun b k r hb hk hr hlt => ?_, h5⟩
    rcases h4 b k r hb hk hr hlt with h8 | ⟨m, h8, h9⟩
    · exact .inl h8
    · refine .inr ⟨m, ?_, h9⟩
      show escBelow B.H.length e = some m
      rw [h8]
      simp only [escBelow]
      rw [if_pos (by omega)]
  | false =>
  simp only [Bool.false_eq_true, if_false]
  obtain ⟨ρ', g1, g2, g3, g4, g5, g6, g7⟩ := gc_sound f1 (n := B.H.length) (e := e) f3 h5 (gc_hold (st := ⟨(endFrz P false B.H.length vs H).2, e⟩) h4)
  refine ⟨⟨_, results_run hrun, ⟨ρ', g1, h3.trans (g3.less (Nat.le_refl _)), oneOf_rel g2⟩, g4⟩, fun b k r hb hk hr hlt => ?_, g4⟩
  rw [g5 b hb] at hk
  rcases h4 b k r hb hk hr hlt with h8 | ⟨m, h8, h9⟩
  · exact .inl h8
  · try simp only at h8
    rcases g6 with g6 | ⟨g6, g8⟩
    · refine .inr ⟨m, ?_, h9⟩
      rw [g6, h8]
      simp only [escBelow]
      rw [if_pos (by omega)]
    · have := g8 m h8; omega

theorem replicate_rel {ρ : Ren} {sh : Sh} (n : Nat) : LRel P ρ sh (List.replicate n undef) (List.replicate n undef) := .refl_plain (by
  induction n with
  | zero => rfl
  | succ n ih => rw [List.replicate_succ]; simp only [plainL, ih, Bool.and_true]; rfl)

theorem Kept.size {w w' : World} (h : Kept w w') : w.heap.size ≤ w'.heap.size := by
  by_cases hs : w.heap.size ≤ w'.heap.size
  · exact hs
  · exfalso
    have h1 : w'.heap.size < w.heap.size := by omega
    have := h.block w'.heap.size h1
    rw [Array.getElem?_eq_none (Nat.le_refl _), Array.getElem?_eq_getElem h1] at this
    simp at this

theorem Kept.shape {w w' : World} (h : Kept w w') (r : Nat) (x : TypeId × Nat) (hx : w.shape? r = some x) : w'.shape? r = some x := by
  have hlt : r < w.heap.size := by
    by_cases hi : r < w.heap.size
    · exact hi
    · unfold World.shape? at hx
      rw [Array.getElem?_eq_none (Nat.le_of_not_lt hi)] at hx; simp at hx
  unfold World.shape? at hx ⊢
  rw [h.block r hlt]; exact hx

theorem lives_sound {f : FuncId} (hl : Lives P f) {ρ : Ren} {H : List Blk} {w : World} (hrel : Rel P ρ H w) {cargs : Array Value} (hargs : LRel P ρ w.shape? [] cargs.toList) :
    Calls P f cargs w fun en w' => ∃ cv, en = .returned cv ∧ Out P H.length ρ H w H (.bool true) cv w' := by
  have h0 : cargs = #[] := by
    have := hargs.1
    exact Array.eq_empty_of_size_eq_zero (by simpa using this.symm)
  subst h0
  refine (hl w).mono fun e w' ⟨he, hk⟩ => ⟨_, he, ⟨ρ, ?_, ?_, .same _ rfl⟩, Nat.le_refl _⟩
  · have lt : ∀ {cb : Nat} {o : Obj}, w.heap[cb]? = some o → cb < w.heap.size := fun {cb o} h => by
      by_cases hi : cb < w.heap.size
      · exact hi
      · rw [Array.getElem?_eq_none (Nat.le_of_not_lt hi)] at h; simp at h
    refine ⟨fun b k hb hlv => ?_, hrel.uniq, hrel.dom, fun cb c hc => ?_⟩
    · obtain ⟨cb, base, o, h1, h2, h3⟩ := hrel.blk b k hb hlv
      exact ⟨cb, base, o, h1, by rw [hk.block cb (lt h2)]; exact h2, h3.mono (fun _ _ h => h) (fun _ _ h => h) hk.shape⟩
    · obtain ⟨⟨e, fz, h1⟩, h2⟩ := hrel.frozen cb c hc
      exact ⟨⟨e, fz, by rw [hk.block cb (lt h1)]; exact h1⟩, h2⟩
  · exact ⟨fun _ _ => rfl, hk.shape, hk.size, fun cb hlt _ => hk.block cb hlt, fun _ _ h => h, hk.os, hk.output, fun _ _ h => h, fun _ _ h => h, fun cb r h => ⟨r, by rw [hk.block cb (lt_of_getA h)]; exact h⟩⟩

/-! ### The end of a function that walked over others' values -/

theorem set_bare {ρ : Ren} {H : List Blk} {w : World} (h : Rel P ρ H w) {m : Nat} {x y : Option (List Deferred)} (hm : w.heap[m]? = some (.deferred x)) : Rel P ρ H (setBlk w m (.deferred y)) := by
  have hne : ∀ {cb : Nat} {o : Obj}, w.heap[cb]? = some o → Mapped ρ H cb → cb ≠ m := by
    rintro cb o _ hmap rfl
    exact h.not_deferred hm hmap
  have hsh : (setBlk w m (.deferred y)).shape? = w.shape? := setBlk_shape hm rfl
  refine ⟨fun b k hb hl => ?_, h.uniq, h.dom, fun cb c hc => ?_⟩
  · obtain ⟨cb, base, o, h1, h2, h3⟩ := h.blk b k hb hl
    refine ⟨cb, base, o, h1, ?_, by rw [hsh]; exact h3⟩
    rw [setBlk_other (hne h2 (.inl ⟨b, k, base, hb, hl, h1⟩))]
    exact h2
  · obtain ⟨⟨e, fz, h1⟩, h2⟩ := h.frozen cb c hc
    exact ⟨⟨e, fz, by rw [setBlk_other (hne h1 (.inr ⟨c, hc⟩))]; exact h1⟩, h2⟩

theorem Stt.shut {B : Base P} {nt : Nat} {fr : List Value} {st : AS} {a : Act} {w : World} {m : Nat} {ms : List Deferred} (h : Stt B nt fr st a w) (hd : a.defers = { target := .collected m, args := #[] } :: (ms ++ B.dfr)) : w.heap[m]? = some (.deferred (some [])) ∧ Stt B nt fr st { a with defers := ms ++ B.dfr } (setBlk w m (.deferred none)) := by
  obtain ⟨ρ, h1, h2, h3, h4, h5, ⟨ms0, hm0, h6⟩, h7⟩ := h
  have h0 : ms0 = { target := .collected m, args := #[] } :: ms := List.append_cancel_right (bs := B.dfr) (by rw [← hm0, hd]; rfl)
  subst h0
  obtain ⟨m', e1, e2, e3⟩ := h6.2 _ (List.mem_cons_self ..)
  have : m = m' := by
    injection e1 with e1 _
    injection e1 with e1
  subst this
  have hsh : (setBlk w m (.deferred none)).shape? = w.shape? := setBlk_shape e3 rfl
  refine ⟨e3, ρ, set_bare h1 e3, by rw [hsh]; exact h2, ?_, h4, h5, ⟨ms, rfl, ?_⟩, h7⟩
  · refine ⟨h3.ext, fun r x hx => by rw [hsh]; exact h3.shape r x hx, by rw [setBlk_size]; exact h3.size, fun cb hc hn => ?_, h3.own, h3.os, h3.output, h3.fz, h3.old, fun cb r hr => ?_⟩
    · rw [setBlk_other (by omega)]; exact h3.keep cb hc hn
    · obtain ⟨r', hr'⟩ := h3.loops cb r hr
      exact setBlk_loops e3 (fun r h => by cases h) cb r' hr'
  · refine ⟨(List.nodup_cons.1 h6.1).2, fun d hdm => ?_⟩
    obtain ⟨m2, g1, g2, g3⟩ := h6.2 d (List.mem_cons_of_mem _ hdm)
    refine ⟨m2, g1, g2, ?_⟩
    rw [setBlk_other]
    · exact g3
    · rintro rfl
      exact (List.nodup_cons.1 h6.1).1 (g1 ▸ hdm)

theorem Stt.mark {B : Base P} {nt : Nat} {fr : List Value} {st : AS} {a : Act} {w : World} {d : Deferred} {ms : List Deferred} (h : Stt B nt fr st a w) (hd : a.defers = d :: (ms ++ B.dfr)) : ∃ m, d = { target := .collected m, args := #[] } := by
  obtain ⟨ρ, h1, h2, h3, h4, h5, ⟨ms0, hm0, h6⟩, h7⟩ := h
  have h0 : ms0 = d :: ms := List.append_cancel_right (bs := B.dfr) (by rw [← hm0, hd]; rfl)
  subst h0
  obtain ⟨m', e1, _⟩ := h6.2 _ (List.mem_cons_self ..)
  exact ⟨m', e1⟩

theorem leaves_base {B : Base P} {nt : Nat} {fn : Func} {fr : List Value} {st : AS} {R : Ending → World → Prop} : ∀ (ms : List Deferred) (a : Act) (w : World), a.defers = ms ++ B.dfr → Stt B nt fr st a w →
    (∀ a' w', a'.tmps = a.tmps → a'.defers = B.dfr → Stt B nt fr st a' w' → LeavesInM (Wd none) 0 P fn a.tmps R B.dfr .returning w') → LeavesInM (Wd none) 0 P fn a.tmps R (ms ++ B.dfr) .returning w
  | [], a, w, hd, hs, hk => hk a w rfl hd hs
  | d :: ms, a, w, hd, hs, hk => by
    obtain ⟨m, rfl⟩ := hs.mark hd
    obtain ⟨g1, g2⟩ := hs.shut hd
    exact ⟨by simp, .inl ⟨m, _, rfl, run_takeDeferred g1, leaves_base ms { a with defers := ms ++ B.dfr } _ rfl g2 hk⟩⟩

theorem leaves_marks {keep : Bool} {B : Base P} {nt : Nat} {fn : Func} {fr : List Value} {st : AS} {v : Value} {H' : List Blk} {e' : Option Nat} (hB : B.dfr = []) (h : finish P keep B.H.length fn.results.toList fr st = some (v, H', e')) {a : Act} {w : World} (hs : Stt B nt fr st a w) :
    LeavesInM (Wd none) 0 P fn a.tmps (fun en w' => ∃ cv, en = .returned cv ∧ Out P B.H.length B.ρ B.H B.w H' v cv w') a.defers .returning w := by
  obtain ⟨ms, hms⟩ : ∃ ms, a.defers = ms ++ B.dfr := by
    obtain ⟨_, _, _, _, _, _, ⟨ms, hm, _⟩, _⟩ := hs
    exact ⟨ms, hm⟩
  rw [hms]
  refine leaves_base ms a w hms hs fun a' w' ht _ hs' => ?_
  rw [hB]
  obtain ⟨⟨cv, hrun, ho⟩, _⟩ := finish_sound hs' h
  rw [ht] at hrun
  exact ⟨cv, hrun, cv, rfl, ho⟩

/-- marks are shut, whatever kind of frame it is -/
theorem shut_steps {B : Base P} {nt : Nat} {fr : List Value} {st : AS} (hB : B.dfr = []) : ∀ (ms : List Deferred) (a : Act) (w : World), a.defers = ms → Stt B nt fr st a w →
    ∃ w', (∀ (f0 : Frame) (cs : List Frame), f0.mode ≠ .run → f0.defers = ms → StepsIn (Machine.fenced P Fence.wide) P (lone f0 cs w) (lone { f0 with defers := [] } cs w')) ∧ Stt B nt fr st { a with defers := [] } w'
  | [], a, w, hd, hs => ⟨w, fun f0 cs _ h0 => by
      have : ({ f0 with defers := [] } : Frame) = f0 := by rw [← h0]
      rw [this]; exact .refl _, by
      have : ({ a with defers := [] } : Act) = a := by rw [← hd]
      rw [this]; exact hs⟩
  | d :: ms, a, w, hd, hs => by
    have hd' : a.defers = d :: (ms ++ B.dfr) := by rw [hd, hB, List.append_nil]
    obtain ⟨m, rfl⟩ := hs.mark hd'
    obtain ⟨g1, g2⟩ := hs.shut hd'
    rw [hB, List.append_nil] at g2
    obtain ⟨w', q1, q2⟩ := shut_steps hB ms { a with defers := ms } _ rfl g2
    refine ⟨w', fun f0 cs hm h0 => ?_, q2⟩
    have s1 := step_collected (P := P) (fr := f0) (cs := cs) hm h0 rfl (run_takeDeferred g1)
    exact .head (fenced_wide _ _) s1 (q1 { f0 with defers := [] ++ ms } cs hm rfl)

/-- a function that is entered as a deferred call -/
theorem callsD_of {f : FuncId} {fn : Func} {c : Code} {args : Array Value} {u : FrameMode} {w : World} {R : Ending → World → Prop} (hf : P.funcs[f]? = some fn) (hb : fn.body = some c)
    (h : c.wpIn (Wd none) 0 P (fun e a w => (e = .normal ∨ e = .ret) ∧ ∃ w' v, (∀ (f0 : Frame) (cs : List Frame), f0.mode ≠ .run → f0.defers = a.defers → StepsIn (Machine.fenced P Fence.wide) P (lone f0 cs w) (lone { f0 with defers := [] } cs w')) ∧
      (results fn a.tmps).run P w' = .ok v w' ∧ R (.returned v) w') { tmps := args ++ Array.replicate (fn.ntmps - args.size) undef, defers := [] } w) :
    CallsDIn Fence.wide 0 P f args u w fun e u' w' => u' = u ∧ R e w' := by
  refine ⟨trivial, fun c₀ cs hu hr => ?_⟩
  let b : Frame := { (default : Frame) with fn := f, kind := .deferred, roundOf := none }
  have henter : Frame.enter P f args .deferred = b.atR { tmps := args ++ Array.replicate (fn.ntmps - args.size) undef, defers := [] } [.code c] := by
    simp [Frame.enter, Frame.atR, hf, hb, b]
  have hc : ({ c₀ with mode := u } : Frame) = c₀ := by subst hu; rfl
  obtain ⟨e, a', w1, ⟨he, w', v, hst, hrun, hR⟩, harr⟩ := h b [] (c₀ :: cs) rfl trivial (fun _ h => by simp at h)
  rw [← henter] at harr
  rcases he with rfl | rfl
  · have s1 := StepsIn.trans harr (.one (fenced_wide _ _) (stepR_end rfl))
    have s2 := StepsIn.trans s1 (hst _ _ (by simp) rfl)
    exact ⟨.returned v, u, w', _, ⟨rfl, hR⟩, (by rw [hc]; exact s2), rfl, rfl, rfl, rfl, fn, hf, hrun⟩
  · obtain ⟨todo, hs⟩ := harr.1 rfl
    have s2 := StepsIn.trans hs (hst _ _ (by simp) rfl)
    exact ⟨.returned v, u, w', _, ⟨rfl, hR⟩, (by rw [hc]; exact s2), rfl, rfl, rfl, rfl, fn, hf, hrun⟩

/-! ### A function that defers a call -/

def seqWp (P : Program) : List Code → (Exit → Act → World → Prop) → Act → World → Prop
  | [], Q, a, w => Q .normal a w
  | c :: cs, Q, a, w => c.wpIn (Wd none) 0 P (Exit.then (seqWp P cs Q) Q) a w

theorem seqWp_snoc {b : Code} {Q : Exit → Act → World → Prop} : ∀ (cs : List Code) (a : Act) (w : World), seqWp P (cs ++ [b]) Q a w → seqWp P cs (Exit.then (b.wpIn (Wd none) 0 P Q) Q) a w
  | [], a, w, h => by
    have h : b.wpIn (Wd none) 0 P (Exit.then (fun a w => Q .normal a w) Q) a w := h
    exact wpIn_mono h fun e a w he => by cases e <;> exact he
  | c :: cs, a, w, h => by
    have h : c.wpIn (Wd none) 0 P (Exit.then (seqWp P (cs ++ [b]) Q) Q) a w := h
    refine wpIn_mono h fun e a w he => ?_
    cases e with
    | normal => exact seqWp_snoc cs a w he
    | _ => exact he

theorem deferAt_some {ops : Array Oper} {cl : Call} (h : deferAt ops = some cl) : ∃ o, ops[ops.size - 1]? = some o ∧ o.op = .defer cl ∧ o.guard = none ∧ o.dst = none ∧ List.range ops.size = List.range (ops.size - 1) ++ [ops.size - 1] := by
  unfold deferAt at h
  split at h
  · rename_i o ho
    split at h
    · rename_i c h1 h2 h3
      simp at h; subst h
      refine ⟨o, ho, h1, h2, h3, ?_⟩
      have := lt_of_getA ho
      obtain ⟨n, hn⟩ : ∃ n, ops.size = n + 1 := ⟨ops.size - 1, by omega⟩
      rw [hn, List.range_succ]; rfl
    · simp at h
  · simp at h

theorem edef_sound {C : Callee} (hC : CSound P C) (hU : CUp C) {L : Loops} (hL : LSound L) {B : Base P} {T : Tab} {nt : Nat} : ∀ (c : Code) {R : Type} (fr : List Value) (st : AS) (k : List Value → AS → Call → List Code → Option R) (r : R) (a : Act) (w : World) (Q : Exit → Act → World → Prop),
    Stt B nt fr st a w → edef P T nt B.H.length C L c fr st k = some r → (∀ fr' st' a' w' cl rest, Stt B nt fr' st' a' w' → k fr' st' cl rest = some r → ∀ ty, ∃ d, (resolve a'.eval cl ty).run P w' = .ok d w' ∧ seqWp P rest Q { a' with defers := d :: a'.defers } w') → c.wpIn (Wd none) 0 P Q a w
  | .seq x y, R, fr, st, k, r, a, w, Q, hs, h, hk => by
    simp only [edef] at h
    by_cases hd : deferIn x = true
    · rw [if_pos hd] at h
      refine wpIn_seq (edef_sound hC hU hL x fr st _ r a w _ hs h fun fr' st' a' w' cl rest hs' hk' ty => ?_)
      obtain ⟨d, g1, g2⟩ := hk fr' st' a' w' cl (rest ++ [y]) hs' hk' ty
      exact ⟨d, g1, seqWp_snoc rest _ _ g2⟩
    · rw [if_neg hd] at h
      refine wpIn_seq (ecode_sound (ro := none) hC hU hL (fun l hl => by cases hl) x fr st _ r a w _ hs h fun e fr' st' a' w' hs' hk' => ?_)
      cases e with
      | normal => exact edef_sound hC hU hL y fr' st' k r a' w' Q hs' hk' hk
      | exit i => simp at hk'
      | ret => simp at hk'
  | .region id ops draw, R, fr, st, k, r, a, w, Q, hs, h, hk => by
    simp only [edef] at h
    cases draw with
    | true => simp at h
    | false =>
      simp only [Bool.false_eq_true, if_false] at h
      split at h
      · rename_i cl hcl
        obtain ⟨o, ho, hop, hg, hdst, hr⟩ := deferAt_some hcl
        refine wpIn_region ?_
        rw [hr]
        refine eops_soundJ (ro := none) hC hU _ _ _ _ _ _ _ _ (hs.keep _) h fun fr' st' a' w' hs' hk' => ?_
        obtain ⟨d, g1, g2⟩ := hk fr' st' a' w' cl [] hs' hk' o.type
        simp only [wpOpsIn, ho]
        have hw : Region.wanted o (yielded ops a'.tmps) = true := by simp [Region.wanted, hg]
        rw [if_pos hw]
        refine ⟨fun _ _ => trivial, ?_⟩
        have hrun : (execOp a'.eval o).run P w' = .ok (.defer d) w' := by simp [execOp, hop, g1]
        show o.uponIn (Wd none) 0 P a' _ Q ((execOp a'.eval o).run P w')
        rw [hrun, Oper.uponIn_defer, hdst]
        exact g2
      · simp at h
  | .skip, R, fr, st, k, r, a, w, Q, hs, h, hk => by simp [edef] at h
  | .label _, R, fr, st, k, r, a, w, Q, hs, h, hk => by simp [edef] at h
  | .exit _, R, fr, st, k, r, a, w, Q, hs, h, hk => by simp [edef] at h
  | .ret, R, fr, st, k, r, a, w, Q, hs, h, hk => by simp [edef] at h
  | .cond .., R, fr, st, k, r, a, w, Q, hs, h, hk => by simp [edef] at h
  | .block .., R, fr, st, k, r, a, w, Q, hs, h, hk => by simp [edef] at h
  | .loop _, R, fr, st, k, r, a, w, Q, hs, h, hk => by simp [edef] at h
  | .rangeFunc .., R, fr, st, k, r, a, w, Q, hs, h, hk => by simp [edef] at h
  | .scope _, R, fr, st, k, r, a, w, Q, hs, h, hk => by simp [edef] at h
  | .goto .., R, fr, st, k, r, a, w, Q, hs, h, hk => by simp [edef] at h
  | .refuse .., R, fr, st, k, r, a, w, Q, hs, h, hk => by simp [edef] at h

theorem eseq_sound {C : Callee} (hC : CSound P C) (hU : CUp C) {L : Loops} (hL : LSound L) {B : Base P} {T : Tab} {nt : Nat} {R : Type} : ∀ (cs : List Code) (fr : List Value) (st : AS) (k : AEx → List Value → AS → Option R) (r : R) (a : Act) (w : World) (Q : Exit → Act → World → Prop),
    Stt B nt fr st a w → eseq P T nt B.H.length C L cs fr st k = some r → (∀ e fr' st' a' w', Stt B nt fr' st' a' w' → k e fr' st' = some r → Q e.toExit a' w') → seqWp P cs Q a w
  | [], fr, st, k, r, a, w, Q, hs, h, hk => hk .normal _ _ _ _ hs (by simpa [eseq] using h)
  | c :: cs, fr, st, k, r, a, w, Q, hs, h, hk => by
    simp only [eseq] at h
    refine ecode_sound (ro := none) hC hU hL (fun l hl => by cases hl) c fr st _ r a w _ hs h fun e fr' st' a' w' hs' hk' => ?_
    cases e with
    | normal => exact eseq_sound hC hU hL cs fr' st' k r a' w' Q hs' hk' hk
    | exit i => exact hk (.exit i) _ _ _ _ hs' hk'
    | ret => exact hk .ret _ _ _ _ hs' hk'

theorem up_join {H H1 H2 : List Blk} {e1 e2 : Option Nat} (h : Up H H1 e1) (hn : H.length ≤ H1.length) (h2 : Up H1 H2 e2) (hn2 : H1.length ≤ H2.length) : Up H H2 (joinEsc e1 e2) := by
  have := call_up (C := fun _ _ _ => some (.bool true, H2, e2)) (f := 0) (args := []) (v := .bool true) (st := ⟨H1, e1⟩) (H' := H2) (e := e2)
  intro b k r hb hk hr hlt
  have hb1 : b < H1.length := by omega
  rcases h2 b k r hb1 hk hr hlt with ⟨k1, q1, q2⟩ | ⟨m, q1, q2⟩
  · rcases h b k1 r hb q1 q2 hlt with q3 | ⟨m, q3, q4⟩
    · exact .inl q3
    · subst q3
      cases e2 with
      | none => exact .inr ⟨m, rfl, q4⟩
      | some m2 =>
        obtain ⟨m', z1, z2⟩ := minO_esc (some m) m2 m rfl
        exact .inr ⟨m', z1, Nat.le_trans z2 q4⟩
  · subst q1
    obtain ⟨m', z1, z2⟩ := minO_le e1 m
    exact .inr ⟨m', z1, Nat.le_trans z2 q2⟩

theorem edbody_sound {C : Callee} (hC : CSound P C) {nd : FuncId → Bool} (hD : DSound P C nd) (hU : CUp C) {L : Loops} (hL : LSound L) {B : Base P} (hB : B.dfr = []) {T : Tab} {fn : Func} {c : Code} {fr : List Value} {v : Value} {H' : List Blk} {e : Option Nat} {a : Act} {w : World} (hs : Stt B fn.ntmps fr ⟨B.H, none⟩ a w)
    (h : edbody P T nd C L fn c fr B.H = some (v, H', e)) : c.wpIn (Wd none) 0 P (bodyPostM (Wd none) 0 P fn fun en w' => ∃ cv, en = .returned cv ∧ Out P B.H.length B.ρ B.H B.w H' v cv w') a w := by
  unfold edbody at h
  refine edef_sound hC hU hL (B := B) c _ _ _ _ _ _ _ hs h fun fr1 st1 a1 w1 cl rest hs1 hk ty => ?_
  cases hcal : cl.callee with
  | builtin b => simp [hcal] at hk
  | invoke x m => simp [hcal] at hk
  | value f =>
    simp only [hcal] at hk
    obtain ⟨⟨g, ga⟩, hfn, hk⟩ := Option.bind_eq_some_iff.1 hk
    rw [ite_some] at hk
    obtain ⟨⟨hlt, hne, hpl, hnd⟩, hk⟩ := hk
    obtain ⟨ρ1, r1, L1, S1, U1, n1, ⟨ms1, hm1, M1⟩, z1⟩ := hs1
    have hf := ev_rel L1 f
    simp only at hlt hne hpl hnd
    unfold aFn at hfn
    split at hfn
    · rename_i g' first captured heq
      rw [heq] at hf
      obtain ⟨first', captured', hcf, hL1, hL2⟩ := hf.func_inv
      split at hfn
      · rename_i fn' hfn'
        rw [ite_some] at hfn
        obtain ⟨⟨hbody, hname, _⟩, hfn⟩ := hfn
        simp only [Option.some.injEq, Prod.mk.injEq] at hfn
        obtain ⟨rfl, rfl⟩ := hfn
        have hargs : LRel P ρ1 w1.shape? (first.toList ++ cl.args.toList.map (ev fr1) ++ captured.toList) (first' ++ cl.args.map a1.eval ++ captured').toList := by
          simpa using (hL1.append (evs_rel L1 cl.args.toList)).append hL2
        have hbn : fn'.body.isNone = false := by cases hb : fn'.body <;> simp_all
        have hname' : ¬ fn'.name = "runtime.NumGoroutine" := by simpa using hname
        refine ⟨{ target := Target.fn (Fn.func g') captured', args := first' ++ cl.args.map a1.eval }, by simp only [resolve, hcal, hcf, Deferred.ofValue, Sem.run_bind, Sem.run_pure, Result.andThen_ok], ?_⟩
        let B' : Base P := ⟨ρ1, st1.H, w1, r1, { target := Target.fn (Fn.func g') captured', args := first' ++ cl.args.map a1.eval } :: a1.defers⟩
        have hs' : Stt B' fn.ntmps fr1 ⟨st1.H, none⟩ { a1 with defers := { target := Target.fn (Fn.func g') captured', args := first' ++ cl.args.map a1.eval } :: a1.defers } w1 :=
          ⟨ρ1, r1, L1, .refl _, fun b k r hb hk hr _ => .inl ⟨k, hk, hr⟩, Nat.le_refl _, ⟨[], rfl, .nil _ _⟩, z1⟩
        refine eseq_sound hC hU hL (B := B') rest _ _ _ _ _ _ _ hs' hk fun e2 fr2 st2 a2 w2 hs2 hk2 => ?_
        have key : ((C g' (first.toList ++ cl.args.toList.map (ev fr1) ++ captured.toList) st2.H).bind fun r => finish P T.keep B.H.length fn.results.toList fr2 ⟨r.2.1, joinEsc st1.esc (joinEsc st2.esc r.2.2)⟩) = some (v, H', e) →
            LeavesInM (Wd none) 0 P fn a2.tmps (fun en w' => ∃ cv, en = .returned cv ∧ Out P B.H.length B.ρ B.H B.w H' v cv w') a2.defers .returning w2 := by
          intro hk2
          obtain ⟨⟨v3, H3, e3⟩, hcall, hfin⟩ := Option.bind_eq_some_iff.1 hk2
          obtain ⟨ms2, hms2⟩ : ∃ ms, a2.defers = ms ++ B'.dfr := by
            obtain ⟨_, _, _, _, _, _, ⟨ms, hm, _⟩, _⟩ := hs2
            exact ⟨ms, hm⟩
          rw [hms2]
          refine leaves_base ms2 a2 w2 hms2 hs2 fun a3 w3 ht hd3 hs3 => ?_
          obtain ⟨ρ3, r3, L3, S3, U3, n3, _, z3⟩ := hs3
          have hmono := rho_mono r1 S3
          refine ⟨by simp, .inr ⟨fun hx => by simp at hx, Fn.func g', captured', g', _, rfl, ?_, fun _ _ => trivial, CallsDIn.mono (hD.df g' _ st2.H v3 H3 e3 ρ3 w3 (first' ++ cl.args.map a1.eval ++ captured') hlt hne hpl hnd hcall r3 (hargs.mono S3.fz hmono S3.shape)) ?_⟩⟩
          · simp only [invoke, callFunc, Sem.run_bind, Sem.run_pure, Result.andThen_ok, run_program, hfn', hname, hbn, Bool.false_eq_true, if_false]
          · rintro en u' w4 ⟨rfl, cv3, rfl, ⟨ρ4, r4, S4, _⟩, n4⟩
            have hu := call_up hU (st := st2) hcall
            have S' := S3.trans (S4.less n3)
            have hs4 : Stt B fn.ntmps fr2 ⟨H3, joinEsc st1.esc (joinEsc st2.esc e3)⟩ { a3 with defers := a1.defers } w4 :=
              ⟨ρ4, r4, L3.mono S4.fz (rho_mono r3 S4) S4.shape, S1.trans (S'.less n1), up_join U1 n1 (U3.step n3 hu.1 hu.2.1) (Nat.le_trans n3 hu.2.2), Nat.le_trans n1 (Nat.le_trans n3 hu.2.2), ⟨ms1, hm1, M1.step r1 S'⟩, z3⟩
            have := leaves_marks hB hfin hs4
            simp only at this
            rw [ht] at this
            exact this
        cases e2 with
        | exit i => simp at hk2
        | normal => exact key hk2
        | ret => exact key hk2
      · simp at hfn
    · simp only [Option.some.injEq, Prod.mk.injEq] at hfn
      obtain ⟨rfl, _⟩ := hfn
      exact absurd hlt (Nat.not_lt.2 (Nat.le_add_left _ _))
    · simp at hfn

/-! ### A round -/

theorem Stt.setLoop {B : Base P} {nt : Nat} {fr : List Value} {st st' : AS} {a : Act} {w : World} {l cl : Nat} {ok : LSt → Bool} {s' : LSt} (h : Stt B nt fr st a w) (hl : l < B.H.length) (hρ : B.ρ l = some (cl, 0)) (hs : setLoop l st ok s' = some st') :
    ∃ rc s, w.heap[cl]? = some (.loop rc) ∧ ok s = true ∧ LStRel s rc ∧ ∀ rc' : Loop, rc'.params = rc.params → rc'.assign = rc.assign → rc'.body = rc.body → rc'.tmps = rc.tmps → LStRel s' rc' → Stt B nt fr st' a (setBlk w cl (.loop rc')) := by
  obtain ⟨ρ, h1, h2, h3, h4, h5, h6, h7⟩ := h
  have hu := setLoop_up hs
  unfold Am.setLoop at hs
  split at hs
  case h_2 => simp at hs
  rename_i f ps x y fr0 s hb
  rw [ite_some] at hs
  obtain ⟨hok, hs⟩ := hs
  simp only [Option.some.injEq] at hs
  subst hs
  have hρ' : ρ l = some (cl, 0) := by rw [h3.ext l hl]; exact hρ
  obtain ⟨cb, base, o, k1, k2, k3⟩ := h1.blk l _ hb rfl
  rw [hρ'] at k1
  simp only [Option.some.injEq, Prod.mk.injEq] at k1
  obtain ⟨rfl, rfl⟩ := k1
  obtain ⟨_, rc, rfl, j1, j2, j3, j4, j5⟩ := k3
  refine ⟨rc, s, k2, hok, j5, fun rc' e1 e2 e3 e4 e5 => ?_⟩
  obtain ⟨z1, z2⟩ := set_rel h1 (k' := .loop f ps x y fr0 s') (o' := .loop rc') hb rfl hρ' k2 rfl rfl ⟨rfl, _, rfl, by rw [e1]; exact j1, by rw [e2]; exact j2, by rw [e3]; exact j3, by rw [e4]; exact j4, e5⟩ (fun _ _ => ⟨_, rfl⟩)
  exact ⟨ρ, z1, h2.mono z2.fz (fun _ _ h => h) z2.shape, h3.trans (z2.less h5), h4.step h5 hu.1 hu.2.1, by simpa using h5, h6.step h1 z2, h7⟩

theorem setPs_length : ∀ (ps : List Tmp) (vs fr : List Value), (setPs fr ps vs).length = fr.length
  | [], vs, fr => by cases vs <;> rfl
  | t :: ts, [], fr => rfl
  | t :: ts, v :: vs, fr => by simp only [setPs]; rw [setPs_length ts vs _]; simp
theorem setPs_rel {ρ : Ren} {sh : Sh} : ∀ (ps : List Tmp) (vs cvs fr : List Value) (tm : Array Value), LRel P ρ sh fr tm.toList → LRel P ρ sh vs cvs → LRel P ρ sh (setPs fr ps vs) ((ps.zip cvs).foldl (fun tmps x => tmps.setIfInBounds x.1 x.2) tm).toList
  | [], vs, cvs, fr, tm, h, _ => by cases vs <;> simpa [setPs] using h
  | t :: ts, [], cvs, fr, tm, h, hv => by
    have : cvs = [] := by have := hv.1; simpa using this.symm
    subst this
    simpa [setPs] using h
  | t :: ts, v :: vs, [], fr, tm, h, hv => by have := hv.1; simp at this
  | t :: ts, v :: vs, c :: cs, fr, tm, h, hv => by
    simp only [setPs, List.zip_cons_cons, List.foldl_cons]
    refine setPs_rel ts vs cs _ _ ?_ hv.head.2
    rw [Array.toList_setIfInBounds]
    exact h.set t hv.head.1

theorem eround_sound {T : FuncId → Tab} {C : Callee} (hC : CSound P C) (hU : CUp C) {L : Loops} (hL : LSound L) {l : Nat} {args : List Value} {H : List Blk} {v : Value} {H' : List Blk} {e : Option Nat} {ρ : Ren} {w : World} {cargs : Array Value}
    (h : eround P T C L l args H = some (v, H', e)) (hrel : Rel P ρ H w) (hargs : LRel P ρ w.shape? args cargs.toList) : ∃ cl fn tm x y, ρ l = some (cl, 0) ∧ (Instr.yield cl cargs).run P w = .ok (.round cl fn tm x y) w ∧
      RoundIn Fence.wide 0 P cl fn tm x y w fun en w' => ∃ cv, en = .returned cv ∧ Out P H.length ρ H w H' v cv w' := by
  unfold eround at h
  split at h
  case h_2 => simp at h
  rename_i f ps x y fr hl
  rw [ite_some] at h
  obtain ⟨hlen, h⟩ := h
  obtain ⟨cl, base, o, k1, k2, k3⟩ := hrel.blk l _ hl rfl
  obtain ⟨rfl, rc, rfl, j1, j2, j3, j4, j5⟩ := k3
  have hll := lt_of_get hl
  have hsz : cargs.size = rc.params.size := by
    have g1 := hargs.1
    have g2 := congrArg List.length j1
    simp at g1 g2
    omega
  refine ⟨cl, rc.fn, _, rc.assign, rc.body, k1, run_yield k2 hsz, ?_⟩
  let B : Base P := ⟨ρ, H, w, hrel, []⟩
  have hro : ∀ l', some cl = some l' → ∃ r, B.w.heap[l']? = some (.loop r) := fun l' hl' => by
    simp only [Option.some.injEq] at hl'
    subst hl'
    exact ⟨rc, k2⟩
  have htm : LRel P ρ w.shape? (setPs fr ps args) ((rc.params.zip cargs).foldl (fun tmps x => tmps.setIfInBounds x.1 x.2) rc.tmps).toList := by
    have := setPs_rel ps args cargs.toList fr rc.tmps j4 hargs
    rw [← j1] at this ⊢
    rw [← Array.foldl_toList, Array.toList_zip]
    exact this
  have hs0 : Stt B fr.length (setPs fr ps args) ⟨H, none⟩ { tmps := (rc.params.zip cargs).foldl (fun tmps x => tmps.setIfInBounds x.1 x.2) rc.tmps, defers := [] } w :=
    ⟨ρ, hrel, htm, .refl _, fun b k r hb hk hr _ => .inl ⟨k, hk, hr⟩, Nat.le_refl _, ⟨[], rfl, .nil _ _⟩, setPs_length _ _ _⟩
  refine roundIn_of_wpIn (F := Fence.wide) (n := 0) trivial ?_
  rw [j2]
  refine ecode_sound (ro := some cl) hC hU hL (B := B) hro x _ _ _ _ _ _ _ hs0 h (fun e1 fr1 st1 a1 w1 hs1 h1 => ?_)
  cases e1 with
  | exit i => simp at h1
  | ret => simp at h1
  | normal =>
    simp only at h1
    obtain ⟨st2, hset, h1⟩ := Option.bind_eq_some_iff.1 h1
    obtain ⟨rc1, s1, q1, q2, q3, q4⟩ := hs1.setLoop hll k1 hset
    have hrd : rc1.state = .ready := by
      cases s1 with
      | ready => exact q3.1
      | busy => simp [LSt.isReady] at q2
      | done _ => simp [LSt.isReady] at q2
    refine ⟨_, run_beginRound q1 hrd, ?_⟩
    rw [j3]
    refine ecode_sound (ro := some cl) hC hU hL (B := B) hro y _ _ _ _ _ _ _ (q4 { rc1 with state := .busy } rfl rfl rfl rfl trivial) h1 (fun e2 fr2 st3 a3 w3 hs3 h3 => ?_)
    obtain ⟨st4, hset3, h3⟩ := Option.bind_eq_some_iff.1 h3
    obtain ⟨rc3, s3, p1, _, _, p4⟩ := hs3.setLoop hll k1 hset3
    simp only [Option.some.injEq, Prod.mk.injEq] at h3
    obtain ⟨rfl, rfl, rfl⟩ := h3
    have key : ∀ jump : Option Code, (∀ hh : LStRel (roundSt e2) { rc3 with state := if jump.isNone then .ready else .done, pending := jump }, jump.isNone = roundV e2 →
        ∃ v w', (Instr.endRound cl jump).run P w3 = .ok v w' ∧ ∃ cv, Ending.returned v = Ending.returned cv ∧ Out P H.length ρ H w (Am.gc H.length [] st4).2.H (.bool (roundV e2)) cv w') := by
      intro jump hh hv
      obtain ⟨ρ4, g1, g2, g3, g4, g5, g6, g7⟩ := p4 { rc3 with state := if jump.isNone then .ready else .done, pending := jump } rfl rfl rfl rfl hh
      refine ⟨_, _, run_endRound jump p1, _, rfl, ?_⟩
      obtain ⟨H4, e4⟩ := st4
      obtain ⟨ρ5, z1, z2, z3, z4, _⟩ := gc_sound g1 (n := H.length) (vs := []) (cvs := []) (e := e4) .nil g5 (gc_hold (B := B) (st := ⟨H4, e4⟩) g4)
      have hvr : ∀ sh, VRel P ρ5 sh (.bool (roundV e2)) (.bool jump.isNone) := fun sh => by rw [hv]; exact .same _ rfl
      exact ⟨⟨ρ5, z1, g3.trans (z3.less (Nat.le_refl _)), hvr _⟩, z4⟩
    cases e2 with
    | normal => exact key none ⟨rfl, rfl⟩ rfl
    | ret => exact key (some .ret) ⟨rfl, rfl⟩ rfl
    | exit i => exact key (some (.exit i)) ⟨rfl, rfl⟩ rfl

theorem ble_any (Y l : Nat) : Nat.ble Y (l + Y) = true := by rw [Nat.ble_eq]; exact Nat.le_add_left _ _
theorem sub_any (Y l : Nat) : l + Y - Y = l := Nat.add_sub_cancel ..
theorem not_any {Y f : Nat} (h : f < Y) : Nat.ble Y f = false := by
  cases hb : Nat.ble Y f with
  | false => rfl
  | true =>
    rw [Nat.ble_eq] at hb
    omega
theorem is_any {Y f : Nat} (h : ¬ f < Y) : Nat.ble Y f = true := by
  rw [Nat.ble_eq]
  omega
theorem ebody0_yd {T : FuncId → Tab} {C : Callee} {L : Loops} (l : Nat) (args : List Value) (H : List Blk) : ebody0 P T C L (l + yidB) args H = eround P T C L l args H := by
  unfold ebody0
  rw [ble_any yidB l, cond_true, sub_any yidB l]
theorem yid_not {f : FuncId} (h : f < yidB) : Nat.ble yidB f = false := not_any h

/-- what is told at once holds -/
structure SumOk (P : Program) (g : List Value → List Blk → Option (Value × List Blk × Option Nat)) (f : FuncId) : Prop where
  fn : ∀ (args : List Value) (H : List Blk) (v : Value) (H' : List Blk) (e : Option Nat) (ρ : Ren) (w : World) (cargs : Array Value),
    g args H = some (v, H', e) → Rel P ρ H w → LRel P ρ w.shape? args cargs.toList → Calls P f cargs w fun en w' => ∃ cv, en = .returned cv ∧ Out P H.length ρ H w H' v cv w'
  up : ∀ (args : List Value) (H : List Blk) (v : Value) (H' : List Blk) (e : Option Nat), g args H = some (v, H', e) → Up H H' e ∧ H.length ≤ H'.length
/-- the tables hold -/
structure TabOk (P : Program) (T : FuncId → Tab) : Prop where
  lives : ∀ f, (T f).lives = true → Lives P f
  sum : ∀ f g, (T f).sum = some g → SumOk P g f
theorem TabOk.of {T : FuncId → Tab} (h : ∀ f, (T f).lives = true → Lives P f) (hs : ∀ f, (T f).sum = none) : TabOk P T := ⟨h, fun f g hg => by rw [hs f] at hg; cases hg⟩

theorem ebody0_sound {T : FuncId → Tab} (hT : TabOk P T) {C : Callee} (hC : CSound P C) (hD : DSound P C (noSum T)) (hU : CUp C) {L : Loops} (hL : LSound L) : CSound P (ebody0 P T C L) ∧ DSound P (ebody0 P T C L) (noSum T) := by
  refine ⟨⟨?_, ?_⟩, ⟨?_⟩⟩
  · intro f args H v H' e ρ w cargs hlt h hrel hargs
    unfold ebody0 at h
    rw [yid_not hlt, cond_false] at h
    cases hsm : (T f).sum with
    | some g =>
      simp only [hsm] at h
      exact (hT.sum f g hsm).fn args H v H' e ρ w cargs h hrel hargs
    | none =>
    simp only [hsm] at h
    cases hlv : (T f).lives with
    | true =>
      simp only [hlv] at h
      cases args with
      | cons _ _ => simp at h
      | nil =>
        simp only [Option.some.injEq, Prod.mk.injEq] at h
        obtain ⟨rfl, rfl, rfl⟩ := h
        exact lives_sound (hT.lives f hlv) hrel hargs
    | false =>
    simp only [hlv] at h
    cases hf : P.funcs[f]? with
    | none => simp [hf] at h
    | some fn =>
      simp only [hf] at h
      cases hb : fn.body with
      | none => simp [hb] at h
      | some c =>
        simp only [hb] at h
        rw [ite_some] at h
        obtain ⟨hle, h⟩ := h
        let B : Base P := ⟨ρ, H, w, hrel, []⟩
        have hsz : cargs.size = args.length := by have := hargs.1; simpa using this.symm
        have hs : Stt B fn.ntmps (args ++ List.replicate (fn.ntmps - args.length) undef) ⟨H, none⟩ { tmps := cargs ++ Array.replicate (fn.ntmps - cargs.size) undef, defers := [] } w := by
          refine ⟨ρ, hrel, ?_, .refl _, fun b k r hb hk hr _ => .inl ⟨k, hk, hr⟩, Nat.le_refl _, ⟨[], rfl, .nil _ _⟩, by simp; omega⟩
          simp only [Array.toList_append, Array.toList_replicate, hsz]
          exact hargs.append (replicate_rel _)
        cases hdf : (T f).dfr with
        | true =>
          simp only [hdf] at h
          rw [ite_some] at h
          exact callsIn_wide.1 (callsIn_of_wp_marks (F := Wd none) (n := 0) hf hb trivial (edbody_sound hC hD hU hL (B := B) rfl hs h.2))
        | false =>
        simp only [hdf] at h
        refine callsIn_wide.1 (callsIn_of_wp_marks (F := Wd none) (n := 0) hf hb trivial (ecode_sound (ro := none) hC hU hL (B := B) (fun l hl => by cases hl) c _ _ _ _ _ _ _ hs h (fun e2 fr' st' a' w' hs' hk => ?_)))
        cases e2 with
        | normal => exact leaves_marks (B := B) rfl hk hs'
        | ret => exact leaves_marks (B := B) rfl hk hs'
        | exit i => simp at hk
  · intro l args H v H' e ρ w cargs h hrel hargs
    rw [ebody0_yd] at h
    exact eround_sound hC hU hL h hrel hargs
  · intro f args H v H' e ρ w cargs hlt hne hpl hnd h hrel hargs
    unfold ebody0 at h
    rw [yid_not hlt, cond_false] at h
    cases hsm : (T f).sum with
    | some g => simp [noSum, hsm] at hnd
    | none =>
    simp only [hsm] at h
    cases hlv : (T f).lives with
    | true =>
      simp only [hlv] at h
      cases args with
      | cons _ _ => simp at h
      | nil => exact absurd rfl hne
    | false =>
    simp only [hlv] at h
    cases hf : P.funcs[f]? with
    | none => simp [hf] at h
    | some fn =>
      simp only [hf] at h
      cases hb : fn.body with
      | none => simp [hb] at h
      | some c =>
        simp only [hb] at h
        rw [ite_some] at h
        obtain ⟨hle, h⟩ := h
        have hnd : hasDefer c = false := by simpa [plainD, hf, hb] using hpl
        cases hdf : (T f).dfr with
        | true =>
          simp only [hdf, hnd] at h
          simp at h
        | false =>
        simp only [hdf] at h
        let B : Base P := ⟨ρ, H, w, hrel, []⟩
        have hsz : cargs.size = args.length := by have := hargs.1; simpa using this.symm
        have hs : Stt B fn.ntmps (args ++ List.replicate (fn.ntmps - args.length) undef) ⟨H, none⟩ { tmps := cargs ++ Array.replicate (fn.ntmps - cargs.size) undef, defers := [] } w := by
          refine ⟨ρ, hrel, ?_, .refl _, fun b k r hb hk hr _ => .inl ⟨k, hk, hr⟩, Nat.le_refl _, ⟨[], rfl, .nil _ _⟩, by simp; omega⟩
          simp only [Array.toList_append, Array.toList_replicate, hsz]
          exact hargs.append (replicate_rel _)
        refine callsD_of (R := fun en w' => ∃ cv, en = .returned cv ∧ Out P H.length ρ H w H' v cv w') hf hb (ecode_sound (ro := none) hC hU hL (B := B) (fun l hl => by cases hl) c _ _ _ _ _ _ _ hs h (fun e2 fr' st' a' w' hs' hk => ?_))
        have key : finish P (T f).keep H.length fn.results.toList fr' st' = some (v, H', e) → ∃ w2 v2, (∀ (f0 : Frame) (cs : List Frame), f0.mode ≠ .run → f0.defers = a'.defers → StepsIn (Machine.fenced P Fence.wide) P (lone f0 cs w') (lone { f0 with defers := [] } cs w2)) ∧
            (results fn a'.tmps).run P w2 = .ok v2 w2 ∧ ∃ cv, Ending.returned v2 = .returned cv ∧ Out P H.length ρ H w H' v cv w2 := by
          intro hk
          obtain ⟨w2, q1, q2⟩ := shut_steps (B := B) rfl a'.defers a' w' rfl hs'
          obtain ⟨⟨cv, hrun, ho⟩, _⟩ := finish_sound q2 hk
          exact ⟨w2, cv, q1, hrun, cv, rfl, ho⟩
        cases e2 with
        | normal => exact ⟨.inl rfl, key hk⟩
        | ret => exact ⟨.inr rfl, key hk⟩
        | exit i => simp at hk

theorem ebody_sound {T : FuncId → Tab} (hT : TabOk P T) {C : Callee} (hC : CSound P C) (hD : DSound P C (noSum T)) (hU : CUp C) {L : Loops} (hL : LSound L) : CSound P (ebody P T C L) ∧ DSound P (ebody P T C L) (noSum T) := by
  have out : ∀ {ρ ρ2 : Ren} {H H' : List Blk} {args : List Value} {w w' : World} {v cv : Value}, Step H.length ρ H w ρ2 (frzL (frz P 0 8) args H).2 w → (frzL (frz P 0 8) args H).2.length = H.length → Out P (frzL (frz P 0 8) args H).2.length ρ2 (frzL (frz P 0 8) args H).2 w H' v cv w' → Out P H.length ρ H w H' v cv w' := by
    rintro ρ ρ2 H H' args w w' v cv s2 n2 ⟨⟨ρ3, r3, s3, v3⟩, hl⟩
    exact ⟨⟨ρ3, r3, s2.trans (s3.less (by omega)), v3⟩, by omega⟩
  refine ⟨⟨?_, ?_⟩, ⟨?_⟩⟩
  · intro f args H v H' e ρ w cargs hlt h hrel hargs
    unfold ebody at h
    cases hz : (T f).fza with
    | false => rw [hz] at h; exact (ebody0_sound hT hC hD hU hL).1.fn f args H v H' e ρ w cargs hlt h hrel hargs
    | true =>
      rw [hz] at h
      obtain ⟨ρ2, a2, r2, s2, L2, n2⟩ := frzL_sound (frz_sound (P := P) 0 8) args cargs.toList ρ H hrel hargs
      exact ((ebody0_sound hT hC hD hU hL).1.fn f _ _ v H' e ρ2 w cargs hlt h r2 L2).mono fun en w' ⟨cv, hc, ho⟩ => ⟨cv, hc, out s2 n2 ho⟩
  · intro l args H v H' e ρ w cargs h hrel hargs
    unfold ebody at h
    cases hz : (T (l + yidB)).fza with
    | false => rw [hz] at h; exact (ebody0_sound hT hC hD hU hL).1.yd l args H v H' e ρ w cargs h hrel hargs
    | true =>
      rw [hz] at h
      obtain ⟨ρ2, a2, r2, s2, L2, n2⟩ := frzL_sound (frz_sound (P := P) 0 8) args cargs.toList ρ H hrel hargs
      obtain ⟨cl, fn, tm, x, y, h1, h2, h3⟩ := (ebody0_sound hT hC hD hU hL).1.yd l _ _ v H' e ρ2 w cargs h r2 L2
      exact ⟨cl, fn, tm, x, y, by rw [← a2]; exact h1, h2, h3.mono fun en w' ⟨cv, hc, ho⟩ => ⟨cv, hc, out s2 n2 ho⟩⟩
  · intro f args H v H' e ρ w cargs hlt hne hpl hnd h hrel hargs
    unfold ebody at h
    cases hz : (T f).fza with
    | false => rw [hz] at h; exact (ebody0_sound hT hC hD hU hL).2.df f args H v H' e ρ w cargs hlt hne hpl hnd h hrel hargs
    | true =>
      rw [hz] at h
      obtain ⟨ρ2, a2, r2, s2, L2, n2⟩ := frzL_sound (frz_sound (P := P) 0 8) args cargs.toList ρ H hrel hargs
      have hne2 : (jFrz P 0 args ⟨H, none⟩ true).1 ≠ [] := by
        intro h0
        have h1 := frzL_len (f := frz P 0 8) args H
        have h2 : (frzL (frz P 0 8) args H).1 = [] := h0
        rw [h2] at h1
        exact hne (List.eq_nil_of_length_eq_zero (by simpa using h1.symm))
      exact ((ebody0_sound hT hC hD hU hL).2.df f _ _ v H' e ρ2 w cargs hlt hne2 hpl hnd h r2 L2).mono fun en u w' ⟨hu, cv, hc, ho⟩ => ⟨hu, cv, hc, out s2 n2 ho⟩

theorem allW_spec {R : Type} {n : Nat} {f : Nat → Option R} {r : R} (h : allW n f = some r) : 0 < n ∧ ∀ i, i < n → f i = some r := by
  unfold allW at h
  split at h
  · rename_i hx
    simp at h; subst h
    exact ⟨hx.1, Classical.choose_spec hx.2⟩
  · simp at h

theorem anyW_spec {R : Type} {n0 : Nat} {step : ((List Value × AS) ⊕ (AEx × List Value × AS) → Option R) → List Value × AS → Option R} {s : List Value × AS} {k : AEx × List Value × AS → Option R} {r : R} (h : anyW n0 step s k = some r) :
    ∃ n, ∀ m, n ≤ m → roundsK n0 step k m s = some r := by
  unfold anyW at h
  split at h
  · rename_i hx
    simp at h; subst h
    exact Classical.choose_spec hx
  · simp at h

theorem loopW_sound : LSound loopG := ⟨fun _ _ _ _ h => loopW_spec h, fun _ _ _ _ _ h => (anyW_spec h).imp fun n hn => hn n (Nat.le_refl n), fun _ _ _ h => allW_spec h⟩
theorem rounds_sound (n : Nat) : LSound (loopB n) := ⟨fun _ _ _ _ h => ⟨n, h⟩, fun _ _ _ _ _ h => ⟨n, h⟩, fun n f r h => by
  simp only [loopB] at h
  rw [ite_some] at h
  obtain ⟨rfl, h⟩ := h
  exact ⟨Nat.one_pos, fun i hi => by have : i = 0 := by omega
                                     subst this; exact h⟩⟩

end

/-! The escapes, once more, without the model. -/
section
variable {P : Program} {R : Type}

/-- the blocks' side of a state, against what an activation began with -/
def Ups (H : List Blk) (st : AS) : Prop := Up H st.H st.esc ∧ H.length ≤ st.H.length

theorem Ups.next {H : List Blk} {st s : AS} (h : Ups H st) (h' : UpC st s) : Ups H s := ⟨h.1.step h.2 h'.1 h'.2.1, Nat.le_trans h.2 h'.2.2⟩

theorem eops_ups {C : Callee} (hU : CUp C) {H : List Blk} {ops : Array Oper} {chk : Nat → List Value → AS → Bool} : ∀ (is sk : List Nat) (fr : List Value) (st : AS) (k : List Value → AS → Option R) (r : R),
    Ups H st → eops P C ops chk is sk fr st k = some r → ∃ fr' st', Ups H st' ∧ k fr' st' = some r
  | [], sk, fr, st, k, r, hs, h => ⟨fr, st, hs, by simpa [eops] using h⟩
  | i :: is, sk, fr, st, k, r, hs, h => by
    simp only [eops] at h
    have run : ∀ (fr1 : List Value) (o : Oper), eop P C fr1 st o (fun v s => if chk i (setD fr1 o.dst v) s = true then eops P C ops chk is sk (setD fr1 o.dst v) s k else none) = some r → ∃ fr' st', Ups H st' ∧ k fr' st' = some r := by
      intro fr1 o h1
      have := eop_guard hU h1
      -- somewhere behind it the rest runs
      obtain ⟨v, s, hv⟩ := eop_some this
      by_cases hu : UpC st s
      · rw [if_pos hu] at hv; rw [ite_some] at hv; exact eops_ups hU is sk _ s k r (hs.next hu) hv.2
      · rw [if_neg hu] at hv; simp at hv
    cases ho : ops[i]? with
    | none => simp [ho] at h
    | some o =>
      simp only [ho] at h
      cases hg : o.guard with
      | none => simp only [hg] at h; exact run fr o h
      | some g =>
        obtain ⟨j, want⟩ := g
        simp only [hg] at h
        cases hd : (ops[j]?).bind (·.dst) with
        | none => simp [hd] at h
        | some d =>
          simp only [hd] at h
          by_cases hsk : sk.contains j = true
          · rw [if_pos hsk] at h
            split at h
            · rw [ite_some] at h; exact eops_ups hU is _ _ st k r hs h.2
            · simp at h
          · rw [if_neg hsk] at h
            rcases bcase_some h with ⟨hb, h⟩ | ⟨hb, h⟩ <;> cases want <;> simp at h
            · exact eops_ups hU is _ _ st k r hs h.2
            · exact run _ o h
            · exact run _ o h
            · exact eops_ups hU is _ _ st k r hs h.2
where
  eop_some {C : Callee} {o : Oper} {fr : List Value} {st : AS} {k : Value → AS → Option R} {r : R} (h : eop P C fr st o k = some r) : ∃ v s, k v s = some r := by
    have two : ∀ (x : Option (Value × AS)), (x.bind fun r => k r.1 r.2) = some r → ∃ v s, k v s = some r := by
      intro x hx; obtain ⟨y, _, hy⟩ := Option.bind_eq_some_iff.1 hx; exact ⟨_, _, hy⟩
    have one : ∀ (x : Option AS) (v : Value), (x.bind fun s => k v s) = some r → ∃ v s, k v s = some r := by
      intro x v hx; obtain ⟨y, _, hy⟩ := Option.bind_eq_some_iff.1 hx; exact ⟨_, _, hy⟩
    have pure1 : ∀ (x : Option Value), x.bind (k · st) = some r → ∃ v s, k v s = some r := by
      intro x hx; obtain ⟨y, _, hy⟩ := Option.bind_eq_some_iff.1 hx; exact ⟨_, _, hy⟩
    cases hop : o.op <;> simp only [eop, hop] at h
    case move x => exact ⟨_, _, h⟩
    case assign x => exact ⟨_, _, h⟩
    case pick c a b => exact pure1 _ h
    case alloc elem =>
      obtain ⟨z, hz, h⟩ := Option.bind_eq_some_iff.1 h
      rw [ite_some] at h; exact two _ h.2
    case box elem x => exact two _ h
    case build t parts => exact pure1 _ h
    case buildSlice t n parts => exact two _ h
    case load t a => split at h <;> first | exact pure1 _ h | (simp at h)
    case store t a x => split at h <;> first | exact one _ _ h | (simp at h)
    case nilCheck x => exact pure1 _ h
    case binOp op t x y u => exact pure1 _ h
    case unOp op t x => exact pure1 _ h
    case convert s d x => exact two _ h
    case makeFunc fn a b => split at h <;> first | exact ⟨_, _, h⟩ | (simp at h)
    case makeMap t x => cases x <;> first | exact ⟨_, _, h⟩ | (simp at h)
    case makeSlice t l c => exact two _ h
    case slice t x lo hi mx => exact pure1 _ h
    case fieldAddr s x f => exact pure1 _ h
    case field t x f => exact pure1 _ h
    case indexAddr t x ix => exact pure1 _ h
    case index t x ix => rw [ite_some] at h; exact pure1 _ h.2
    case lookup t m ky ok => exact pure1 _ h
    case mapUpdate t m ky x => exact one _ _ h
    case insert t m ky x => exact one _ _ h
    case sliceToArrayPointer t x => exact pure1 _ h
    case range t x => exact two _ h
    case entry x => exact pure1 _ h
    case extract t ix => exact pure1 _ h
    case call c =>
      cases hcal : c.callee with
      | value f =>
        simp only [hcal] at h
        obtain ⟨g, _, h⟩ := Option.bind_eq_some_iff.1 h
        obtain ⟨y, _, h⟩ := Option.bind_eq_some_iff.1 h
        exact ⟨_, _, h⟩
      | builtin b =>
        simp only [hcal] at h
        unfold eBuiltin at h
        split at h
        · obtain ⟨t, _, h⟩ := Option.bind_eq_some_iff.1 h; exact pure1 _ h
        · exact two _ h
        · exact two _ h
        · exact one _ _ h
        · exact one _ _ h
        · exact pure1 _ h
        · exact pure1 _ h
        · simp at h
      | invoke a m => simp [hcal] at h
    all_goals (simp at h)


theorem gc_abs (n : Nat) (vs : List Value) (st : AS) (hn : n ≤ st.H.length) : (∀ b, b < n → (gc n vs st).2.H[b]? = st.H[b]?) ∧ n ≤ (gc n vs st).2.H.length ∧
    ((gc n vs st).2.esc = st.esc ∨ ((gc n vs st).2.esc = none ∧ ∀ m, st.esc = some m → n ≤ m)) := by
  unfold gc
  split
  · rename_i he
    have he' : ∀ m, st.esc = some m → n ≤ m := by intro m hm; rw [hm] at he; simpa [escOk] using he
    simp only
    split
    · refine ⟨fun b hb => ?_, by simp; omega, .inr ⟨rfl, he'⟩⟩
      rw [List.getElem?_append_left (by simp; omega), List.getElem?_take, if_pos hb]
    · exact ⟨fun _ _ => rfl, hn, .inl rfl⟩
  · exact ⟨fun _ _ => rfl, hn, .inl rfl⟩

theorem gc_ups {H : List Blk} {st : AS} (vs : List Value) (h : Ups H st) : Ups H (gc H.length vs st).2 := by
  obtain ⟨g1, g2, g3⟩ := gc_abs H.length vs st h.2
  refine ⟨fun b k r hb hk hr hlt => ?_, g2⟩
  rw [g1 b hb] at hk
  rcases h.1 b k r hb hk hr hlt with h8 | ⟨m, h8, h9⟩
  · exact .inl h8
  · rcases g3 with g3 | ⟨_, g4⟩
    · exact .inr ⟨m, by rw [g3]; exact h8, h9⟩
    · have := g4 m h8; omega

theorem jFrz_ups {H : List Blk} {st : AS} (vs : List Value) (on : Bool) (h : Ups H st) : Ups H (jFrz P H.length vs st on).2 := by
  cases on with
  | false => exact h
  | true => exact h.next (frz_up H.length 8 vs st)

theorem jGc_ups {H : List Blk} {q : List Value × AS} (on : Bool) (h : Ups H q.2) : Ups H (jGc H.length q on).2 := by
  cases on with
  | false => exact h
  | true => exact gc_ups q.1 h

theorem eopsLate_ups {C : Callee} (hU : CUp C) {H : List Blk} {ops : Array Oper} : ∀ (l : List Nat) (fr : List Value) (st : AS) (k : List Value → AS → Option R) (r : R),
    Ups H st → eopsLate P C ops l fr st k = some r → ∃ fr' st', Ups H st' ∧ k fr' st' = some r
  | [], fr, st, k, r, hs, h => ⟨fr, st, hs, h⟩
  | i :: is, fr, st, k, r, hs, h => by
    simp only [eopsLate] at h
    cases ho : ops[i]? with
    | none => simp [ho] at h
    | some o =>
      simp only [ho] at h
      rw [ite_some] at h
      have := eop_guard hU h.2
      obtain ⟨v, s, hv⟩ := eops_ups.eop_some this
      by_cases hu : UpC st s
      · rw [if_pos hu] at hv; exact eopsLate_ups hU is _ s k r (hs.next hu) hv
      · rw [if_neg hu] at hv; simp at hv

theorem ecode_ups {C : Callee} (hU : CUp C) {L : Loops} (hL : LSound L) {H : List Blk} {T : Tab} {nt : Nat} : ∀ (c : Code) {R : Type} (fr : List Value) (st : AS) (k : AEx → List Value → AS → Option R) (r : R),
    Ups H st → ecode P T nt H.length C L c fr st k = some r → ∃ e fr' st', Ups H st' ∧ k e fr' st' = some r
  | .skip, R, fr, st, k, r, hs, h => ⟨.normal, fr, st, hs, by simpa [ecode] using h⟩
  | .label _, R, fr, st, k, r, hs, h => ⟨.normal, fr, st, hs, by simpa [ecode] using h⟩
  | .exit id, R, fr, st, k, r, hs, h => ⟨.exit id, fr, st, hs, by simpa [ecode] using h⟩
  | .ret, R, fr, st, k, r, hs, h => ⟨.ret, fr, st, hs, by simpa [ecode] using h⟩
  | .region id ops draw, R, fr, st, k, r, hs, h => by
    simp only [ecode] at h
    cases draw with
    | true =>
      simp only [if_true] at h
      split at h
      · split at h
        · simp at h
        · obtain ⟨fr1, st1, g1, g2⟩ := eops_ups hU _ _ _ _ _ _ hs h
          obtain ⟨fr2, st2, g3, g4⟩ := eopsLate_ups hU _ _ _ _ _ g1 g2
          obtain ⟨fr', st', h1, h2⟩ := eops_ups hU _ _ _ _ _ _ g3 g4
          exact ⟨.normal, fr', st', h1, h2⟩
      · obtain ⟨fr', st', h1, h2⟩ := eops_ups hU _ _ _ _ _ _ hs h
        exact ⟨.normal, fr', st', h1, h2⟩
    | false =>
      simp only [Bool.false_eq_true, if_false] at h
      split at h
      case h_2 =>
        obtain ⟨q, hq, h⟩ := Option.bind_eq_some_iff.1 h
        obtain ⟨h0, hall⟩ := hL.all _ _ _ h
        obtain ⟨fr', st', h1, h2⟩ := eops_ups hU _ _ _ _ _ _ (hs.next ((next_up hq).2 0)) (hall 0 h0)
        exact ⟨.normal, fr', st', h1, h2⟩
      obtain ⟨fr', st', h1, h2⟩ := eops_ups hU _ _ _ _ _ _ hs h
      exact ⟨.normal, fr', st', h1, h2⟩
  | .seq x y, R, fr, st, k, r, hs, h => by
    simp only [ecode] at h
    cases hj : (firstRegion y).bind T.jn with
    | none =>
      simp only [hj] at h
      obtain ⟨e, fr', st', h1, h2⟩ := ecode_ups hU hL x fr st _ r hs h
      cases e with
      | normal => exact ecode_ups hU hL y fr' st' k r h1 h2
      | exit i => exact ⟨.exit i, fr', st', h1, h2⟩
      | ret => exact ⟨.ret, fr', st', h1, h2⟩
    | some l =>
      simp only [hj] at h
      obtain ⟨⟨e0, fr0, st0⟩, h1, h2⟩ := Option.bind_eq_some_iff.1 h
      obtain ⟨e, fr', st', h3, h4⟩ := ecode_ups hU hL x fr st _ _ hs h1
      simp only [Option.some.injEq, Prod.mk.injEq] at h4
      obtain ⟨rfl, rfl, rfl⟩ := h4
      cases e with
      | normal => exact ecode_ups hU hL y _ _ k r (jGc_ups _ (jFrz_ups _ _ h3)) h2
      | exit i => exact ⟨.exit i, _, _, h3, h2⟩
      | ret => exact ⟨.ret, _, _, h3, h2⟩
  | .cond c x y, R, fr, st, k, r, hs, h => by
    simp only [ecode] at h
    rcases bcase_some h with ⟨_, h⟩ | ⟨_, h⟩
    · exact ecode_ups hU hL x fr st k r hs h
    · exact ecode_ups hU hL y fr st k r hs h
  | .block id x, R, fr, st, k, r, hs, h => by
    simp only [ecode] at h
    obtain ⟨e, fr', st', h1, h2⟩ := ecode_ups hU hL x fr st _ r hs h
    cases e with
    | normal => exact ⟨.normal, fr', st', h1, h2⟩
    | exit i =>
      by_cases hi : i = id
      · simp only [hi, if_true] at h2; exact ⟨.normal, fr', st', h1, h2⟩
      · simp only [hi, if_false] at h2; exact ⟨.exit i, fr', st', h1, h2⟩
    | ret => exact ⟨.ret, fr', st', h1, h2⟩
  | .loop x, R, fr, st, k, r, hs, h => by
    simp only [ecode] at h
    by_cases hni : nextIn x = true
    · rw [if_pos hni] at h
      obtain ⟨n, hn⟩ := hL.any _ _ _ _ _ h
      clear h
      generalize packF ((firstRegion x).bind T.at_) fr = vs at hn
      revert vs st
      induction n with
      | zero => intro st hs vs hn; simp [roundsK] at hn
      | succ n ih =>
        intro st hs vs hn
        simp only [roundsK] at hn
        obtain ⟨e2, fr2, st2, h1, h2⟩ := ecode_ups hU hL x _ _ _ r (gc_ups _ hs) hn
        cases e2 with
        | normal => exact ih _ h1 _ h2
        | exit i => exact ⟨.exit i, _, _, gc_ups _ h1, h2⟩
        | ret => exact ⟨.ret, _, _, gc_ups _ h1, h2⟩
    rw [if_neg hni] at h
    obtain ⟨⟨e, fr', st'⟩, hloop, hk'⟩ := Option.bind_eq_some_iff.1 h
    obtain ⟨n, hn⟩ := hL.run _ _ _ _ hloop
    clear hloop h
    refine ⟨e, _, st', ?_, hk'⟩
    generalize packF ((firstRegion x).bind T.at_) fr = vs at hn
    revert vs st
    induction n with
    | zero => intro st hs vs hn; simp [rounds] at hn
    | succ n ih =>
      intro st hs vs hn
      simp only [rounds] at hn
      split at hn
      · simp at hn
      · rename_i res hstep
        simp at hn; subst hn
        obtain ⟨e2, fr2, st2, h1, h2⟩ := ecode_ups hU hL x _ _ _ (Sum.inr (e, fr', st')) (gc_ups _ hs) hstep
        cases e2 with
        | normal => simp [loopEnd] at h2
        | exit i => simp [loopEnd] at h2; obtain ⟨_, _, rfl⟩ := h2; exact h1
        | ret => simp [loopEnd] at h2; obtain ⟨_, _, rfl⟩ := h2; exact h1
      · rename_i s' hstep
        obtain ⟨e2, fr2, st2, h1, h2⟩ := ecode_ups hU hL x _ _ _ (Sum.inl s') (gc_ups _ hs) hstep
        cases e2 with
        | normal => simp [loopEnd] at h2; subst h2; exact ih _ h1 _ hn
        | exit i => simp [loopEnd] at h2
        | ret => simp [loopEnd] at h2
  | .rangeFunc g ps x y, R, fr, st, k, r, hs, h => by
    simp only [ecode] at h
    obtain ⟨⟨q1, q2⟩, hfn, h⟩ := Option.bind_eq_some_iff.1 h
    rw [ite_some] at h
    obtain ⟨_, h⟩ := h
    obtain ⟨⟨v, H', e'⟩, hcall, h⟩ := Option.bind_eq_some_iff.1 h
    obtain ⟨e, hpend, hkk⟩ := Option.bind_eq_some_iff.1 h
    have u1 : UpC st ⟨st.H ++ [.loop T.me ps.toList x y fr .ready], st.esc⟩ := .app rfl rfl
    have u2 := call_up hU (st := ⟨st.H ++ [.loop T.me ps.toList x y fr .ready], st.esc⟩) hcall
    exact ⟨e, fr, ⟨H'.set st.H.length .dead, joinEsc st.esc e'⟩, hs.next ((u1.trans u2).trans (UpC.kill (b := st.H.length) (s := ⟨H'.set st.H.length .dead, joinEsc st.esc e'⟩) rfl rfl)), hkk⟩
  | .scope x, R, fr, st, k, r, hs, h => by
    simp only [ecode] at h
    exact ecode_ups hU hL x fr st k r hs h
  | .goto .., R, fr, st, k, r, hs, h => by simp [ecode] at h
  | .refuse .., R, fr, st, k, r, hs, h => by simp [ecode] at h

theorem finish_up {keep : Bool} {H : List Blk} {rs : List ResultVar} {fr' : List Value} {st' : AS} {v : Value} {H' : List Blk} {e : Option Nat} (h1 : Ups H st') (hfin : finish P keep H.length rs fr' st' = some (v, H', e)) : Up H H' e ∧ H.length ≤ H'.length := by
  unfold finish at hfin
  obtain ⟨vs, _, hfin⟩ := Option.bind_eq_some_iff.1 hfin
  simp only [Option.some.injEq, Prod.mk.injEq] at hfin
  obtain ⟨_, rfl, rfl⟩ := hfin
  have hu := h1.next (endFrz_up (P := P) (keep := keep) (n0 := H.length) vs st')
  have : Ups H (if keep = true then ((endFrz P keep H.length vs st'.H).1, (⟨(endFrz P keep H.length vs st'.H).2, st'.esc⟩ : AS)) else gc H.length (endFrz P keep H.length vs st'.H).1 ⟨(endFrz P keep H.length vs st'.H).2, st'.esc⟩).2 := by
    split
    · exact hu
    · exact gc_ups (endFrz P keep H.length vs st'.H).1 hu
  refine ⟨fun b k r hb hk hr hlt => ?_, this.2⟩
  rcases this.1 b k r hb hk hr hlt with h8 | ⟨m, h8, h9⟩
  · exact .inl h8
  · refine .inr ⟨m, ?_, h9⟩
    rw [h8]; simp only [escBelow]; rw [if_pos (by omega)]

theorem edef_ups {C : Callee} (hU : CUp C) {L : Loops} (hL : LSound L) {H : List Blk} {T : Tab} {nt : Nat} : ∀ (c : Code) {R : Type} (fr : List Value) (st : AS) (k : List Value → AS → Call → List Code → Option R) (r : R),
    Ups H st → edef P T nt H.length C L c fr st k = some r → ∃ fr' st' cl rest, Ups H st' ∧ k fr' st' cl rest = some r
  | .seq x y, R, fr, st, k, r, hs, h => by
    simp only [edef] at h
    by_cases hd : deferIn x = true
    · rw [if_pos hd] at h
      obtain ⟨fr', st', cl, rest, h1, h2⟩ := edef_ups hU hL x fr st _ r hs h
      exact ⟨fr', st', cl, _, h1, h2⟩
    · rw [if_neg hd] at h
      obtain ⟨e, fr', st', h1, h2⟩ := ecode_ups hU hL x fr st _ r hs h
      cases e with
      | normal => exact edef_ups hU hL y fr' st' k r h1 h2
      | exit i => simp at h2
      | ret => simp at h2
  | .region id ops draw, R, fr, st, k, r, hs, h => by
    simp only [edef] at h
    cases draw with
    | true => simp at h
    | false =>
      simp only [Bool.false_eq_true, if_false] at h
      split at h
      · obtain ⟨fr', st', h1, h2⟩ := eops_ups hU _ _ _ _ _ _ hs h
        exact ⟨fr', st', _, _, h1, h2⟩
      · simp at h
  | .skip, R, fr, st, k, r, hs, h => by simp [edef] at h
  | .label _, R, fr, st, k, r, hs, h => by simp [edef] at h
  | .exit _, R, fr, st, k, r, hs, h => by simp [edef] at h
  | .ret, R, fr, st, k, r, hs, h => by simp [edef] at h
  | .cond .., R, fr, st, k, r, hs, h => by simp [edef] at h
  | .block .., R, fr, st, k, r, hs, h => by simp [edef] at h
  | .loop _, R, fr, st, k, r, hs, h => by simp [edef] at h
  | .rangeFunc .., R, fr, st, k, r, hs, h => by simp [edef] at h
  | .scope _, R, fr, st, k, r, hs, h => by simp [edef] at h
  | .goto .., R, fr, st, k, r, hs, h => by simp [edef] at h
  | .refuse .., R, fr, st, k, r, hs, h => by simp [edef] at h

theorem eseq_ups {C : Callee} (hU : CUp C) {L : Loops} (hL : LSound L) {H : List Blk} {T : Tab} {nt : Nat} {R : Type} : ∀ (cs : List Code) (fr : List Value) (st : AS) (k : AEx → List Value → AS → Option R) (r : R),
    Ups H st → eseq P T nt H.length C L cs fr st k = some r → ∃ e fr' st', Ups H st' ∧ k e fr' st' = some r
  | [], fr, st, k, r, hs, h => ⟨.normal, fr, st, hs, by simpa [eseq] using h⟩
  | c :: cs, fr, st, k, r, hs, h => by
    simp only [eseq] at h
    obtain ⟨e, fr', st', h1, h2⟩ := ecode_ups hU hL c fr st _ r hs h
    cases e with
    | normal => exact eseq_ups hU hL cs fr' st' k r h1 h2
    | exit i => exact ⟨_, _, _, h1, h2⟩
    | ret => exact ⟨_, _, _, h1, h2⟩

theorem edbody_up {C : Callee} (hU : CUp C) {nd : FuncId → Bool} {L : Loops} (hL : LSound L) {T : Tab} {fn : Func} {c : Code} {fr : List Value} {H : List Blk} {v : Value} {H' : List Blk} {e : Option Nat} (h : edbody P T nd C L fn c fr H = some (v, H', e)) : Up H H' e ∧ H.length ≤ H'.length := by
  unfold edbody at h
  obtain ⟨fr1, st1, cl, rest, u1, hk⟩ := edef_ups hU hL (H := H) c _ _ _ _ ⟨fun b k r hb hk hr _ => .inl ⟨k, hk, hr⟩, Nat.le_refl _⟩ h
  cases hcal : cl.callee with
  | builtin b => simp [hcal] at hk
  | invoke x m => simp [hcal] at hk
  | value f =>
    simp only [hcal] at hk
    obtain ⟨⟨g, ga⟩, _, hk⟩ := Option.bind_eq_some_iff.1 hk
    rw [ite_some] at hk
    obtain ⟨_, hk⟩ := hk
    obtain ⟨e2, fr2, st2, u2, hk2⟩ := eseq_ups hU hL (H := st1.H) rest _ (⟨st1.H, none⟩ : AS) _ _ ⟨fun b k r hb hk hr _ => .inl ⟨k, hk, hr⟩, Nat.le_refl _⟩ hk
    have key : ((C g ga st2.H).bind fun r => finish P T.keep H.length fn.results.toList fr2 ⟨r.2.1, joinEsc st1.esc (joinEsc st2.esc r.2.2)⟩) = some (v, H', e) → Up H H' e ∧ H.length ≤ H'.length := by
      intro hk2
      obtain ⟨⟨v3, H3, e3⟩, hcall, hfin⟩ := Option.bind_eq_some_iff.1 hk2
      have hu := call_up hU (st := st2) hcall
      have hu9 : Ups H ⟨H3, joinEsc st1.esc (joinEsc st2.esc e3)⟩ := ⟨up_join u1.1 u1.2 (u2.1.step u2.2 hu.1 hu.2.1) (Nat.le_trans u2.2 hu.2.2), Nat.le_trans u1.2 (Nat.le_trans u2.2 hu.2.2)⟩
      exact finish_up hu9 hfin
    cases e2 with
    | exit i => simp at hk2
    | normal => exact key hk2
    | ret => exact key hk2

theorem eround_up {T : FuncId → Tab} {C : Callee} (hU : CUp C) {L : Loops} (hL : LSound L) {l : Nat} {args : List Value} {H : List Blk} {v : Value} {H' : List Blk} {e : Option Nat} (h : eround P T C L l args H = some (v, H', e)) : Up H H' e ∧ H.length ≤ H'.length := by
  unfold eround at h
  split at h
  case h_2 => simp at h
  rename_i f ps x y fr hl
  rw [ite_some] at h
  obtain ⟨_, h⟩ := h
  obtain ⟨e1, fr1, st1, u1, h1⟩ := ecode_ups hU hL (H := H) x _ _ _ _ ⟨fun b k r hb hk hr _ => .inl ⟨k, hk, hr⟩, Nat.le_refl _⟩ h
  cases e1 with
  | exit i => simp at h1
  | ret => simp at h1
  | normal =>
    simp only at h1
    obtain ⟨st2, hset, h1⟩ := Option.bind_eq_some_iff.1 h1
    obtain ⟨e2, fr2, st3, u2, h2⟩ := ecode_ups hU hL (H := H) y _ _ _ _ (u1.next (setLoop_up hset)) h1
    obtain ⟨st4, hset3, h3⟩ := Option.bind_eq_some_iff.1 h2
    simp only [Option.some.injEq, Prod.mk.injEq] at h3
    obtain ⟨rfl, rfl, rfl⟩ := h3
    have := gc_ups [] (u2.next (setLoop_up hset3))
    refine ⟨fun b k r hb hk hr hlt => ?_, this.2⟩
    rcases this.1 b k r hb hk hr hlt with h8 | ⟨m, h8, h9⟩
    · exact .inl h8
    · refine .inr ⟨m, ?_, h9⟩
      rw [h8]; simp only [escBelow]; rw [if_pos (by omega)]

theorem ebody0_up {T : FuncId → Tab} (hT : TabOk P T) {C : Callee} (hU : CUp C) {L : Loops} (hL : LSound L) : CUp (ebody0 P T C L) := by
  intro f args H v H' e h
  unfold ebody0 at h
  cases hy : Nat.ble yidB f with
  | true =>
    rw [hy, cond_true] at h
    exact eround_up hU hL h
  | false =>
  rw [hy, cond_false] at h
  cases hsm : (T f).sum with
  | some g =>
    simp only [hsm] at h
    exact (hT.sum f g hsm).up args H v H' e h
  | none =>
  simp only [hsm] at h
  cases hlv : (T f).lives with
  | true =>
    simp only [hlv] at h
    cases args with
    | cons _ _ => simp at h
    | nil =>
      simp only [Option.some.injEq, Prod.mk.injEq] at h
      obtain ⟨_, rfl, _⟩ := h
      exact ⟨fun b k r hb hk hr _ => .inl ⟨k, hk, hr⟩, Nat.le_refl _⟩
  | false =>
  simp only [hlv] at h
  cases hf : P.funcs[f]? with
  | none => simp [hf] at h
  | some fn =>
    simp only [hf] at h
    cases hb : fn.body with
    | none => simp [hb] at h
    | some c =>
      simp only [hb] at h
      rw [ite_some] at h
      obtain ⟨_, h⟩ := h
      cases hdf : (T f).dfr with
      | true =>
        simp only [hdf] at h
        rw [ite_some] at h
        exact edbody_up hU hL h.2
      | false =>
      simp only [hdf] at h
      obtain ⟨e2, fr', st', h1, h2⟩ := ecode_ups hU hL (H := H) c _ _ _ _ ⟨fun b k r hb hk hr _ => .inl ⟨k, hk, hr⟩, Nat.le_refl _⟩ h
      cases e2 with
      | normal => exact finish_up h1 h2
      | ret => exact finish_up h1 h2
      | exit i => simp at h2

theorem ebody_up {T : FuncId → Tab} (hT : TabOk P T) {C : Callee} (hU : CUp C) {L : Loops} (hL : LSound L) : CUp (ebody P T C L) := by
  intro f args H v H' e h
  unfold ebody at h
  cases hz : (T f).fza with
  | false => rw [hz] at h; exact ebody0_up hT hU hL f args H v H' e h
  | true =>
    rw [hz] at h
    obtain ⟨h1, h2⟩ := ebody0_up hT hU hL f _ _ v H' e h
    obtain ⟨g1, _, g3⟩ := frz_up (P := P) 0 8 args ⟨H, none⟩
    have g3 : H.length ≤ (frzL (frz P 0 8) args H).2.length := g3
    have h2 : (frzL (frz P 0 8) args H).2.length ≤ H'.length := h2
    exact ⟨Up.step g1 g3 h1 (fun m hm => by simp at hm), by omega⟩

theorem callN_sound (P : Program) (T : FuncId → Tab) (hT : TabOk P T) : ∀ n, (CSound P (callN P T n) ∧ DSound P (callN P T n) (noSum T)) ∧ CUp (callN P T n)
  | 0 => ⟨⟨⟨fun _ _ _ _ _ _ _ _ _ _ h => by simp [callN] at h, fun _ _ _ _ _ _ _ _ _ h => by simp [callN] at h⟩, ⟨fun _ _ _ _ _ _ _ _ _ _ _ _ _ h => by simp [callN] at h⟩⟩, fun _ _ _ _ _ _ h => by simp [callN] at h⟩
  | n + 1 => ⟨ebody_sound hT (callN_sound P T hT n).1.1 (callN_sound P T hT n).1.2 (callN_sound P T hT n).2 loopW_sound, ebody_up hT (callN_sound P T hT n).2 loopW_sound⟩

theorem callF_sound (P : Program) (T : FuncId → Tab) (hT : TabOk P T) : ∀ n, (CSound P (callF P T n) ∧ DSound P (callF P T n) (noSum T)) ∧ CUp (callF P T n)
  | 0 => ⟨⟨⟨fun _ _ _ _ _ _ _ _ _ _ h => by simp [callF] at h, fun _ _ _ _ _ _ _ _ _ h => by simp [callF] at h⟩, ⟨fun _ _ _ _ _ _ _ _ _ _ _ _ _ h => by simp [callF] at h⟩⟩, fun _ _ _ _ _ _ h => by simp [callF] at h⟩
  | n + 1 => ⟨ebody_sound hT (callF_sound P T hT n).1.1 (callF_sound P T hT n).1.2 (callF_sound P T hT n).2 (rounds_sound _), ebody_up hT (callF_sound P T hT n).2 (rounds_sound _)⟩

theorem acall_spec {P : Program} {T : FuncId → Tab} {f : FuncId} {args : List Value} {H : List Blk} {r : Value × List Blk × Option Nat} (h : acall P T f args H = some r) : ∃ n, callN P T n f args H = some r := by
  unfold acall at h
  split at h
  · rename_i hex
    injection h with h
    have := Classical.choose_spec (Classical.choose_spec hex)
    exact ⟨_, this.trans (congrArg some h)⟩
  · simp at h

/-- WHAT THE MACHINE SAYS OF A CALL HOLDS OF THE MODEL. -/
theorem acall_sound (P : Program) (T : FuncId → Tab) (hT : TabOk P T) : CSound P (acall P T) :=
  ⟨fun f args H v H' e ρ w cargs hlt h =>
    let ⟨n, hn⟩ := acall_spec h
    (callN_sound P T hT n).1.1.fn f args H v H' e ρ w cargs hlt hn,
   fun l args H v H' e ρ w cargs h =>
    let ⟨n, hn⟩ := acall_spec h
    (callN_sound P T hT n).1.1.yd l args H v H' e ρ w cargs hn⟩

/-- where there is no block there is no yield -/
theorem acall_lt {P : Program} {T : FuncId → Tab} {f : FuncId} {args : List Value} {r : Value × List Blk × Option Nat} (h : acall P T f args [] = some r) : f < yidB := by
  obtain ⟨n, hn⟩ := acall_spec h
  cases n with
  | zero => simp [callN] at hn
  | succ n =>
    by_cases hlt : f < yidB
    · exact hlt
    · exfalso
      have hb : Nat.ble yidB f = true := is_any hlt
      have hz : ∀ on, (jFrz P 0 args ⟨[], none⟩ on).2.H = [] := by
        intro on
        cases on with
        | false => rfl
        | true =>
          have := (frz_up (P := P) 0 8 args ⟨[], none⟩)
          have hl : (frzL (frz P 0 8) args []).2.length = 0 := (frzL_kill (frz_kill (P := P) 0 8) args []).1
          exact List.eq_nil_of_length_eq_zero hl
      simp only [callN, ebody, ebody0, hb, hz, cond_true, eround] at hn
      simp at hn

end
end Go.Am

end
section
namespace Go.Am

section
variable {P : Program} {R : Type}

theorem eopsLate_factor {C : Callee} {ops : Array Oper} : ∀ (l : List Nat) (fr : List Value) (st : AS) (k : List Value → AS → Option R) (r : R), eopsLate P C ops l fr st k = some r →
    ∃ fr' st', k fr' st' = some r ∧ ∃ q : List Fact, (∀ x ∈ q, x.of C) ∧ ∀ (R' : Type) (C' : Callee) (k' : List Value → AS → Option R'), (∀ x ∈ q, x.of C') → eopsLate P C' ops l fr st k' = k' fr' st'
  | [], fr, st, k, r, h => ⟨fr, st, h, [], fun _ h => by simp at h, fun _ _ _ _ => rfl⟩
  | i :: is, fr, st, k, r, h => by
    simp only [eopsLate] at h
    cases ho : ops[i]? with
    | none => simp [ho] at h
    | some o =>
      simp only [ho] at h
      rw [ite_some] at h
      obtain ⟨v, s, hv, q, hq, hall⟩ := eop_factor h.2
      obtain ⟨fr', st', hk, q', hq', hall'⟩ := eopsLate_factor is _ s k r hv
      refine ⟨fr', st', hk, q ++ q', fun x hx => (List.mem_append.1 hx).elim (hq x) (hq' x), fun R' C' k' hx => ?_⟩
      simp only [eopsLate, ho]
      rw [if_pos h.1, hall R' C' _ (fun x h => hx x (List.mem_append_left _ h)), hall' R' C' k' (fun x h => hx x (List.mem_append_right _ h))]

theorem eops_factor {C : Callee} {ops : Array Oper} {chk : Nat → List Value → AS → Bool} : ∀ (is sk : List Nat) (fr : List Value) (st : AS) (k : List Value → AS → Option R) (r : R), eops P C ops chk is sk fr st k = some r →
    ∃ fr' st', k fr' st' = some r ∧ ∃ q : List Fact, (∀ x ∈ q, x.of C) ∧ ∀ (R' : Type) (C' : Callee) (k' : List Value → AS → Option R'), (∀ x ∈ q, x.of C') → eops P C' ops chk is sk fr st k' = k' fr' st'
  | [], sk, fr, st, k, r, h => ⟨fr, st, by simpa [eops] using h, [], fun _ h => by simp at h, fun _ _ _ _ => by simp [eops]⟩
  | i :: is, sk, fr, st, k, r, h => by
    simp only [eops] at h
    have run : ∀ (fr1 : List Value) (o : Oper), eop P C fr1 st o (fun v s => if chk i (setD fr1 o.dst v) s = true then eops P C ops chk is sk (setD fr1 o.dst v) s k else none) = some r →
        (∀ (R' : Type) (C' : Callee) (k' : List Value → AS → Option R'), eops P C' ops chk (i :: is) sk fr st k' = eop P C' fr1 st o (fun v s => if chk i (setD fr1 o.dst v) s = true then eops P C' ops chk is sk (setD fr1 o.dst v) s k' else none)) →
        ∃ fr' st', k fr' st' = some r ∧ ∃ q : List Fact, (∀ x ∈ q, x.of C) ∧ ∀ (R' : Type) (C' : Callee) (k' : List Value → AS → Option R'), (∀ x ∈ q, x.of C') → eops P C' ops chk (i :: is) sk fr st k' = k' fr' st' := by
      intro fr1 o h1 he
      obtain ⟨v, s, hv, q, hq, hall⟩ := eop_factor h1
      rw [ite_some] at hv
      obtain ⟨hchk, hv⟩ := hv
      obtain ⟨fr', st', hk, q', hq', hall'⟩ := eops_factor is sk _ s k r hv
      refine ⟨fr', st', hk, q ++ q', fun x hx => (List.mem_append.1 hx).elim (hq x) (hq' x), fun R' C' k' hx => ?_⟩
      rw [he, hall R' C' _ (fun x h => hx x (List.mem_append_left _ h)), if_pos hchk, hall' R' C' k' (fun x h => hx x (List.mem_append_right _ h))]
    have skip : ∀ (fr1 : List Value) (sk1 : List Nat), (if chk i fr1 st = true then eops P C ops chk is sk1 fr1 st k else none) = some r → (∀ (R' : Type) (C' : Callee) (k' : List Value → AS → Option R'), eops P C' ops chk (i :: is) sk fr st k' = if chk i fr1 st = true then eops P C' ops chk is sk1 fr1 st k' else none) →
        ∃ fr' st', k fr' st' = some r ∧ ∃ q : List Fact, (∀ x ∈ q, x.of C) ∧ ∀ (R' : Type) (C' : Callee) (k' : List Value → AS → Option R'), (∀ x ∈ q, x.of C') → eops P C' ops chk (i :: is) sk fr st k' = k' fr' st' := by
      intro fr1 sk1 h1 he
      rw [ite_some] at h1
      obtain ⟨hchk, h1⟩ := h1
      obtain ⟨fr', st', hk, q', hq', hall'⟩ := eops_factor is sk1 fr1 st k r h1
      exact ⟨fr', st', hk, q', hq', fun R' C' k' hx => by rw [he, if_pos hchk, hall' R' C' k' hx]⟩
    cases ho : ops[i]? with
    | none => simp [ho] at h
    | some o =>
      simp only [ho] at h
      cases hg : o.guard with
      | none => simp only [hg] at h; exact run fr o h (fun R' C' k' => by simp only [eops, ho, hg])
      | some g =>
        obtain ⟨j, want⟩ := g
        simp only [hg] at h
        cases hd : (ops[j]?).bind (·.dst) with
        | none => simp [hd] at h
        | some d =>
          simp only [hd] at h
          by_cases hsk : sk.contains j = true
          · rw [if_pos hsk] at h
            split at h
            · rename_i vs hv
              exact skip _ _ h (fun R' C' k' => by simp only [eops, ho, hg, hd]; rw [if_pos hsk]; simp only [hv])
            · simp at h
          · rw [if_neg hsk] at h
            rcases bcase_some h with ⟨hb, h⟩ | ⟨hb, h⟩ <;> cases want <;> simp at h
            · exact skip _ _ (ite_some.2 h) (fun R' C' k' => by simp only [eops, ho, hg, hd]; rw [if_neg hsk]; simp only [hb, bcase]; simp)
            · exact run _ o h (fun R' C' k' => by simp only [eops, ho, hg, hd]; rw [if_neg hsk]; simp only [hb, bcase]; simp)
            · exact run _ o h (fun R' C' k' => by simp only [eops, ho, hg, hd]; rw [if_neg hsk]; simp only [hb, bcase]; simp)
            · exact skip _ _ (ite_some.2 h) (fun R' C' k' => by simp only [eops, ho, hg, hd]; rw [if_neg hsk]; simp only [hb, bcase]; simp)

theorem rounds_le {σ ρ : Type} {step : σ → Option (σ ⊕ ρ)} : ∀ {n m : Nat} {s : σ} {r : ρ}, rounds step n s = some r → n ≤ m → rounds step m s = some r
  | 0, m, s, r, h, _ => by simp [rounds] at h
  | n + 1, 0, s, r, h, hm => by omega
  | n + 1, m + 1, s, r, h, hm => by
    simp only [rounds] at h ⊢
    split at h
    · simp at h
    · exact h
    · exact rounds_le h (by omega)

theorem loopW_all {σ ρ : Type} (step : σ → Option (σ ⊕ ρ)) (n : Nat) (s : σ) (r : ρ) (h : rounds step n s = some r) : loopW step s = some r := by
  unfold loopW
  have hex : ∃ n r, rounds step n s = some r := ⟨n, r, h⟩
  rw [dif_pos hex]
  have := Classical.choose_spec (Classical.choose_spec hex)
  have h1 := rounds_le h (Nat.le_max_left n (Classical.choose hex))
  have h2 := rounds_le this (Nat.le_max_right n (Classical.choose hex))
  rw [h1] at h2
  exact h2.symm

theorem allW_full {R : Type} {n : Nat} {f : Nat → Option R} {r : R} (h0 : 0 < n) (h : ∀ i, i < n → f i = some r) : allW n f = some r := by
  unfold allW
  have hx : 0 < n ∧ ∃ r, ∀ i, i < n → f i = some r := ⟨h0, r, h⟩
  rw [dif_pos hx]
  have h1 := Classical.choose_spec hx.2 0 h0
  rw [h 0 h0] at h1
  exact h1.symm

theorem anyW_full {R : Type} {n0 : Nat} {step : ((List Value × AS) ⊕ (AEx × List Value × AS) → Option R) → List Value × AS → Option R} {s : List Value × AS} {k : AEx × List Value × AS → Option R} {r : R} {n : Nat}
    (h : ∀ m, n ≤ m → roundsK n0 step k m s = some r) : anyW n0 step s k = some r := by
  unfold anyW
  have hx : ∃ r n, ∀ m, n ≤ m → roundsK n0 step k m s = some r := ⟨r, n, h⟩
  rw [dif_pos hx]
  obtain ⟨n', h'⟩ := Classical.choose_spec hx
  have h1 := h (max n n') (Nat.le_max_left _ _)
  have h2 := h' (max n n') (Nat.le_max_right _ _)
  rw [h1] at h2
  exact h2.symm

/-- a run's ends, and the calls on which it hangs -/
def Fac (C : Callee) (k : AEx → List Value → AS → Option R) (r : R) (F : (R' : Type) → Callee → (AEx → List Value → AS → Option R') → R' → Prop) : Prop :=
  ∃ ends : List (AEx × List Value × AS), ends ≠ [] ∧ (∀ x ∈ ends, k x.1 x.2.1 x.2.2 = some r) ∧ ∃ q : List Fact, (∀ x ∈ q, x.of C) ∧
    ∀ (R' : Type) (C' : Callee) (k' : AEx → List Value → AS → Option R') (r' : R'), (∀ x ∈ q, x.of C') → (∀ x ∈ ends, k' x.1 x.2.1 x.2.2 = some r') → F R' C' k' r'

section
variable {C : Callee} {k k1 : AEx → List Value → AS → Option R} {r : R} {F F1 : (R' : Type) → Callee → (AEx → List Value → AS → Option R') → R' → Prop}

theorem Fac.one {e : AEx} {fr : List Value} {st : AS} {q : List Fact} (h : k e fr st = some r) (hq : ∀ x ∈ q, x.of C)
    (hall : ∀ (R' : Type) (C' : Callee) (k' : AEx → List Value → AS → Option R') (r' : R'), (∀ x ∈ q, x.of C') → k' e fr st = some r' → F R' C' k' r') : Fac C k r F :=
  ⟨[(e, fr, st)], by simp, fun x hx => by rw [List.mem_singleton.1 hx]; exact h, q, hq, fun R' C' k' r' hx he => hall R' C' k' r' hx (he _ (List.mem_singleton.2 rfl))⟩

theorem Fac.many {X : Type} {G : X → (R' : Type) → Callee → (AEx → List Value → AS → Option R') → R' → Prop} : ∀ (xs : List X), (∀ x ∈ xs, Fac C k r (G x)) →
    ∃ ends : List (AEx × List Value × AS), (xs ≠ [] → ends ≠ []) ∧ (∀ x ∈ ends, k x.1 x.2.1 x.2.2 = some r) ∧ ∃ q : List Fact, (∀ x ∈ q, x.of C) ∧
      ∀ x ∈ xs, ∀ (R' : Type) (C' : Callee) (k' : AEx → List Value → AS → Option R') (r' : R'), (∀ x ∈ q, x.of C') → (∀ x ∈ ends, k' x.1 x.2.1 x.2.2 = some r') → G x R' C' k' r'
  | [], _ => ⟨[], fun h => absurd rfl h, fun x h => by simp at h, [], fun x h => by simp at h, fun x h => by simp at h⟩
  | x :: xs, h => by
    obtain ⟨e1, h1, h2, q1, h3, h4⟩ := h x (List.mem_cons_self ..)
    obtain ⟨e2, g1, g2, q2, g3, g4⟩ := Fac.many xs (fun y hy => h y (List.mem_cons_of_mem _ hy))
    refine ⟨e1 ++ e2, fun _ hn => h1 (List.append_eq_nil_iff.1 hn).1, fun y hy => (List.mem_append.1 hy).elim (h2 y) (g2 y), q1 ++ q2, fun y hy => (List.mem_append.1 hy).elim (h3 y) (g3 y), fun y hy R' C' k' r' hq he => ?_⟩
    rcases List.mem_cons.1 hy with rfl | hy
    · exact h4 R' C' k' r' (fun y hy => hq y (List.mem_append_left _ hy)) (fun y hy => he y (List.mem_append_left _ hy))
    · exact g4 y hy R' C' k' r' (fun y hy => hq y (List.mem_append_right _ hy)) (fun y hy => he y (List.mem_append_right _ hy))

theorem Fac.all {X : Type} {G : X → (R' : Type) → Callee → (AEx → List Value → AS → Option R') → R' → Prop} {xs : List X} (hne : xs ≠ []) (h : ∀ x ∈ xs, Fac C k r (G x))
    (hF : ∀ (R' : Type) (C' : Callee) (k' : AEx → List Value → AS → Option R') (r' : R'), (∀ x ∈ xs, G x R' C' k' r') → F R' C' k' r') : Fac C k r F := by
  obtain ⟨e, h1, h2, q, h3, h4⟩ := Fac.many xs h
  exact ⟨e, h1 hne, h2, q, h3, fun R' C' k' r' hq he => hF R' C' k' r' (fun x hx => h4 x hx R' C' k' r' hq he)⟩

theorem Fac.bind {G : AEx → List Value → AS → (R' : Type) → Callee → (AEx → List Value → AS → Option R') → Option R'} (h1 : Fac C k1 r F1) (h2 : ∀ e fr st, k1 e fr st = some r → Fac C k r (fun R' C' k' r' => G e fr st R' C' k' = some r'))
    (hF : ∀ (R' : Type) (C' : Callee) (k' : AEx → List Value → AS → Option R') (r' : R'), F1 R' C' (fun e fr st => G e fr st R' C' k') r' → F R' C' k' r') : Fac C k r F := by
  obtain ⟨e1, a1, a2, q1, a3, a4⟩ := h1
  obtain ⟨e2, b1, b2, q2, b3, b4⟩ := Fac.many (G := fun x R' C' k' r' => G x.1 x.2.1 x.2.2 R' C' k' = some r') e1 (fun x hx => h2 _ _ _ (a2 x hx))
  refine ⟨e2, b1 a1, b2, q1 ++ q2, fun y hy => (List.mem_append.1 hy).elim (a3 y) (b3 y), fun R' C' k' r' hq he => hF R' C' k' r' ?_⟩
  exact a4 R' C' _ r' (fun y hy => hq y (List.mem_append_left _ hy)) (fun x hx => b4 x hx R' C' k' r' (fun y hy => hq y (List.mem_append_right _ hy)) he)

theorem Fac.same (h : Fac C k r F) : ∃ q : List Fact, (∀ x ∈ q, x.of C) ∧ ∀ C', (∀ x ∈ q, x.of C') → F R C' k r := by
  obtain ⟨e, _, a2, q, a3, a4⟩ := h
  exact ⟨q, a3, fun C' hq => a4 R C' k r hq a2⟩

theorem Fac.more {q : List Fact} (hq : ∀ x ∈ q, x.of C) (h : Fac C k r F1) (hF : ∀ (R' : Type) (C' : Callee) (k' : AEx → List Value → AS → Option R') (r' : R'), (∀ x ∈ q, x.of C') → F1 R' C' k' r' → F R' C' k' r') : Fac C k r F := by
  obtain ⟨e, a1, a2, q1, a3, a4⟩ := h
  exact ⟨e, a1, a2, q ++ q1, fun y hy => (List.mem_append.1 hy).elim (hq y) (a3 y), fun R' C' k' r' hx he => hF R' C' k' r' (fun y hy => hx y (List.mem_append_left _ hy)) (a4 R' C' k' r' (fun y hy => hx y (List.mem_append_right _ hy)) he)⟩

theorem Fac.imp (h : Fac C k r F1) (hF : ∀ (R' : Type) (C' : Callee) (k' : AEx → List Value → AS → Option R') (r' : R'), F1 R' C' k' r' → F R' C' k' r') : Fac C k r F :=
  Fac.more (q := []) (fun x hx => by simp at hx) h (fun R' C' k' r' _ hx => hF R' C' k' r' hx)
end

theorem ecode_factor {C : Callee} {L : Loops} (hL : LSound L) {n0 : Nat} {T : Tab} {nt : Nat} : ∀ (c : Code) {R : Type} (fr : List Value) (st : AS) (k : AEx → List Value → AS → Option R) (r : R), ecode P T nt n0 C L c fr st k = some r →
    Fac C k r (fun R' C' k' r' => ecode P T nt n0 C' loopG c fr st k' = some r')
  | .skip, R, fr, st, k, r, h => .one (e := .normal) (fr := fr) (st := st) (q := []) (by simpa [ecode] using h) (fun _ h => by simp at h) (fun _ _ _ _ _ he => by simpa [ecode] using he)
  | .label _, R, fr, st, k, r, h => .one (e := .normal) (fr := fr) (st := st) (q := []) (by simpa [ecode] using h) (fun _ h => by simp at h) (fun _ _ _ _ _ he => by simpa [ecode] using he)
  | .exit id, R, fr, st, k, r, h => .one (e := .exit id) (fr := fr) (st := st) (q := []) (by simpa [ecode] using h) (fun _ h => by simp at h) (fun _ _ _ _ _ he => by simpa [ecode] using he)
  | .ret, R, fr, st, k, r, h => .one (e := .ret) (fr := fr) (st := st) (q := []) (by simpa [ecode] using h) (fun _ h => by simp at h) (fun _ _ _ _ _ he => by simpa [ecode] using he)
  | .region id ops draw, R, fr, st, k, r, h => by
    simp only [ecode] at h
    cases draw with
    | true =>
      simp only [if_true] at h
      split at h
      · rename_i hplan0
        split at h
        · simp at h
        · rename_i opsL ord1 l ord2 hplan
          obtain ⟨fr1, st1, h1, q1, hq1, hall1⟩ := eops_factor _ _ _ _ _ _ h
          obtain ⟨fr2, st2, h2, q2, hq2, hall2⟩ := eopsLate_factor _ _ _ _ _ h1
          obtain ⟨fr', st', h3, q3, hq3, hall3⟩ := eops_factor _ _ _ _ _ _ h2
          refine .one (e := .normal) (q := q1 ++ q2 ++ q3) h3 (fun x hx => ?_) (fun R' C' k' r' hx he => ?_)
          · simp only [List.mem_append] at hx
            rcases hx with (hx | hx) | hx
            · exact hq1 x hx
            · exact hq2 x hx
            · exact hq3 x hx
          · simp only [ecode, if_true, hplan0, hplan]
            rw [hall1 R' C' _ (fun x h => hx x (by simp [h])), hall2 R' C' _ (fun x h => hx x (by simp [h])), hall3 R' C' _ (fun x h => hx x (by simp [h]))]
            exact he
      · rename_i ord chk hplan
        obtain ⟨fr', st', h1, q, hq, hall⟩ := eops_factor _ _ _ _ _ _ h
        exact .one (e := .normal) h1 hq (fun R' C' k' r' hx he => by simp only [ecode, if_true, hplan]; rw [hall R' C' _ hx]; exact he)
    | false =>
      simp only [Bool.false_eq_true, if_false] at h
      split at h
      · rename_i hn
        obtain ⟨fr', st', h1, q, hq, hall⟩ := eops_factor _ _ _ _ _ _ h
        exact .one (e := .normal) h1 hq (fun R' C' k' r' hx he => by simp only [ecode, Bool.false_eq_true, if_false, hn]; rw [hall R' C' _ hx]; exact he)
      · rename_i x d hn
        obtain ⟨q, hq, h⟩ := Option.bind_eq_some_iff.1 h
        obtain ⟨h0, hall⟩ := hL.all _ _ _ h
        refine Fac.all (X := Nat) (xs := List.range q.1) (G := fun i R' C' k' r' => eops P C' ops noChk (List.range ops.size).tail [] (setD (keep nt (T.at_ id) fr) d (q.2 i).1) (q.2 i).2 (fun fr st => k' .normal fr st) = some r')
          (by intro hx; have := congrArg List.length hx; simp at this; omega) (fun i hi => ?_) (fun R' C' k' r' hG => ?_)
        · obtain ⟨fr', st', h1, q', hq', hall'⟩ := eops_factor _ _ _ _ _ _ (hall i (List.mem_range.1 hi))
          exact .one (e := .normal) h1 hq' (fun R' C' k' r' hx he => by rw [hall' R' C' _ hx]; exact he)
        · simp only [ecode, Bool.false_eq_true, if_false, hn, hq, Option.bind_some]
          exact allW_full h0 (fun i hi => hG i (List.mem_range.2 hi))
  | .seq x y, R, fr, st, k, r, h => by
    simp only [ecode] at h
    cases hj : (firstRegion y).bind T.jn with
    | none =>
      simp only [hj] at h
      refine Fac.bind (ecode_factor hL x fr st _ r h) (G := fun e fr st R' C' k' => match e with
        | .normal => ecode P T nt n0 C' loopG y fr st k'
        | .exit i => k' (.exit i) fr st
        | .ret => k' .ret fr st) (fun e fr' st' he => ?_) (fun R' C' k' r' hF => ?_)
      · cases e with
        | normal => exact ecode_factor hL y fr' st' k r he
        | exit i => exact .one (q := []) he (fun _ h => by simp at h) (fun _ _ _ _ _ he => he)
        | ret => exact .one (q := []) he (fun _ h => by simp at h) (fun _ _ _ _ _ he => he)
      · simp only [ecode, hj]
        exact hF
    | some l =>
      simp only [hj] at h
      obtain ⟨⟨e0, fr0, st0⟩, h0, h1⟩ := Option.bind_eq_some_iff.1 h
      obtain ⟨q, hq, hall⟩ := (ecode_factor hL x fr st _ _ h0).same
      cases e0 with
      | normal =>
        exact Fac.more hq (ecode_factor hL y _ _ k r h1) (fun R' C' k' r' hx hy => by simp only [ecode, hj, hall C' hx, Option.bind_some]; exact hy)
      | exit i => exact .one h1 hq (fun R' C' k' r' hx hy => by simp only [ecode, hj, hall C' hx, Option.bind_some]; exact hy)
      | ret => exact .one h1 hq (fun R' C' k' r' hx hy => by simp only [ecode, hj, hall C' hx, Option.bind_some]; exact hy)
  | .cond c x y, R, fr, st, k, r, h => by
    simp only [ecode] at h
    rcases bcase_some h with ⟨hb, h⟩ | ⟨hb, h⟩
    · exact (ecode_factor hL x fr st k r h).imp (fun R' C' k' r' hx => by simp only [ecode, hb, bcase]; exact hx)
    · exact (ecode_factor hL y fr st k r h).imp (fun R' C' k' r' hx => by simp only [ecode, hb, bcase]; exact hx)
  | .block id x, R, fr, st, k, r, h => by
    simp only [ecode] at h
    refine Fac.bind (ecode_factor hL x fr st _ r h) (G := fun e fr st R' C' k' => match e with
      | .normal => k' .normal fr st
      | .exit i => if i = id then k' .normal fr st else k' (.exit i) fr st
      | .ret => k' .ret fr st) (fun e fr' st' he => ?_) (fun R' C' k' r' hF => ?_)
    · cases e with
      | normal => exact .one (q := []) he (fun _ h => by simp at h) (fun _ _ _ _ _ he => he)
      | exit i =>
        by_cases hi : i = id
        · simp only [hi, if_true] at he ⊢; exact .one (q := []) he (fun _ h => by simp at h) (fun _ _ _ _ _ he => he)
        · simp only [hi, if_false] at he ⊢; exact .one (q := []) he (fun _ h => by simp at h) (fun _ _ _ _ _ he => he)
      | ret => exact .one (q := []) he (fun _ h => by simp at h) (fun _ _ _ _ _ he => he)
    · simp only [ecode]
      exact hF
  | .loop x, R, fr, st, k, r, h => by
    simp only [ecode] at h
    by_cases hni : nextIn x = true
    · rw [if_pos hni] at h
      obtain ⟨n, hn⟩ := hL.any _ _ _ _ _ h
      clear h
      suffices hs : Fac C k r (fun R' C' k' r' => ∀ m, n ≤ m → roundsK n0 (fun k2 s => ecode P T nt n0 C' loopG x (unpackF nt ((firstRegion x).bind T.at_) s.1) s.2 fun e fr st => (loopEnd ((firstRegion x).bind T.at_) ((firstRegion x).bind T.out) e fr st).bind k2)
          (fun r => k' r.1 (unpackF nt ((firstRegion x).bind T.out) (gc n0 r.2.1 r.2.2).1) (gc n0 r.2.1 r.2.2).2) m (packF ((firstRegion x).bind T.at_) fr, st) = some r') by
        refine hs.imp (fun R' C' k' r' hx => ?_)
        simp only [ecode]
        rw [if_pos hni]
        exact anyW_full hx
      generalize packF ((firstRegion x).bind T.at_) fr = vs at hn ⊢
      revert vs st
      induction n with
      | zero => intro st vs hn; simp [roundsK] at hn
      | succ n ih =>
        intro st vs hn
        simp only [roundsK] at hn
        have hb := ecode_factor hL x _ _ _ r hn
        obtain ⟨e1, a1, a2, q1, a3, a4⟩ := hb
        have hG : ∀ y ∈ e1, Fac C k r (fun R' C' k' r' => ∀ m, n ≤ m → (loopEnd ((firstRegion x).bind T.at_) ((firstRegion x).bind T.out) y.1 y.2.1 y.2.2).bind (fun z => match z with
            | .inl s' => roundsK n0 (fun k2 s => ecode P T nt n0 C' loopG x (unpackF nt ((firstRegion x).bind T.at_) s.1) s.2 fun e fr st => (loopEnd ((firstRegion x).bind T.at_) ((firstRegion x).bind T.out) e fr st).bind k2)
              (fun r => k' r.1 (unpackF nt ((firstRegion x).bind T.out) (gc n0 r.2.1 r.2.2).1) (gc n0 r.2.1 r.2.2).2) m s'
            | .inr r => k' r.1 (unpackF nt ((firstRegion x).bind T.out) (gc n0 r.2.1 r.2.2).1) (gc n0 r.2.1 r.2.2).2) = some r') := by
          intro y hy
          have h2 := a2 y hy
          obtain ⟨e2, fr2, st2⟩ := y
          cases e2 with
          | normal => exact ih _ _ h2
          | exit i => exact .one (q := []) h2 (fun _ h => by simp at h) (fun _ _ _ _ _ he _ _ => he)
          | ret => exact .one (q := []) h2 (fun _ h => by simp at h) (fun _ _ _ _ _ he _ _ => he)
        obtain ⟨e2, b1, b2, q2, b3, b4⟩ := Fac.many e1 hG
        refine ⟨e2, b1 a1, b2, q1 ++ q2, fun y hy => (List.mem_append.1 hy).elim (a3 y) (b3 y), fun R' C' k' r' hq he m hm => ?_⟩
        obtain ⟨m, rfl⟩ : ∃ m', m = m' + 1 := ⟨m - 1, by omega⟩
        simp only [roundsK]
        exact a4 R' C' _ r' (fun y hy => hq y (List.mem_append_left _ hy)) (fun y hy => b4 y hy R' C' k' r' (fun y hy => hq y (List.mem_append_right _ hy)) he m (by omega))
    rw [if_neg hni] at h
    obtain ⟨⟨e, fr', st'⟩, hloop, hk'⟩ := Option.bind_eq_some_iff.1 h
    obtain ⟨n, hn⟩ := hL.run _ _ _ _ hloop
    clear hloop h
    suffices hs : ∃ q : List Fact, (∀ x ∈ q, x.of C) ∧ ∀ (C' : Callee), (∀ x ∈ q, x.of C') → rounds (headed n0 (fun s =>
        ecode P T nt n0 C' loopG x (unpackF nt ((firstRegion x).bind T.at_) s.1) s.2 (loopEnd ((firstRegion x).bind T.at_) ((firstRegion x).bind T.out)))) n (packF ((firstRegion x).bind T.at_) fr, st) = some (e, fr', st') by
      obtain ⟨q, hq, hall⟩ := hs
      refine .one hk' hq (fun R' C' k' r' hx he => ?_)
      simp only [ecode]
      rw [if_neg hni]
      have : loopG.run n0 _ _ = _ := loopW_all _ n _ _ (hall C' hx)
      rw [this]; exact he
    clear hk'
    generalize packF ((firstRegion x).bind T.at_) fr = vs at hn ⊢
    revert vs st
    induction n with
    | zero => intro st vs hn; simp [rounds] at hn
    | succ n ih =>
      intro st vs hn
      simp only [rounds, headed] at hn
      split at hn
      · simp at hn
      · rename_i res hstep
        simp at hn; subst hn
        obtain ⟨q, hq, hall⟩ := (ecode_factor hL x _ _ _ (Sum.inr (e, fr', st')) hstep).same
        refine ⟨q, hq, fun C' hx => ?_⟩
        simp only [rounds, headed]
        rw [hall C' hx]
      · rename_i s' hstep
        obtain ⟨q, hq, hall⟩ := (ecode_factor hL x _ _ _ (Sum.inl s') hstep).same
        obtain ⟨q2, hq2, hall2⟩ := ih _ _ hn
        refine ⟨q ++ q2, fun x hx => (List.mem_append.1 hx).elim (hq x) (hq2 x), fun C' hx => ?_⟩
        simp only [rounds, headed]
        rw [hall C' (fun x h => hx x (List.mem_append_left _ h))]
        exact hall2 C' (fun x h => hx x (List.mem_append_right _ h))
  | .rangeFunc g ps x y, R, fr, st, k, r, h => by
    simp only [ecode] at h
    obtain ⟨⟨q1, q2⟩, hfn, h⟩ := Option.bind_eq_some_iff.1 h
    rw [ite_some] at h
    obtain ⟨hlt, h⟩ := h
    obtain ⟨⟨v, H', e'⟩, hcall, h⟩ := Option.bind_eq_some_iff.1 h
    obtain ⟨e, hpend, hkk⟩ := Option.bind_eq_some_iff.1 h
    simp only at hlt hcall hpend hkk
    refine .one (e := e) (q := [⟨q1, q2, st.H ++ [.loop T.me ps.toList x y fr .ready], (v, H', e')⟩]) hkk (fun z hz => by rw [List.mem_singleton.1 hz]; exact hcall) (fun R' C' k' r' hx he => ?_)
    have hc : C' q1 q2 (st.H ++ [.loop T.me ps.toList x y fr .ready]) = some (v, H', e') := hx _ (List.mem_singleton.2 rfl)
    simp only [ecode, hfn, Option.bind_some, if_pos hlt, hc, hpend]
    exact he
  | .scope x, R, fr, st, k, r, h => by
    simp only [ecode] at h
    exact (ecode_factor hL x fr st k r h).imp (fun R' C' k' r' hx => by simp only [ecode]; exact hx)
  | .goto .., R, fr, st, k, r, h => by simp [ecode] at h
  | .refuse .., R, fr, st, k, r, h => by simp [ecode] at h

theorem facts_many {X : Type} {C : Callee} {G : X → Callee → Prop} : ∀ (xs : List X), (∀ x ∈ xs, ∃ q : List Fact, (∀ y ∈ q, y.of C) ∧ ∀ C', (∀ y ∈ q, y.of C') → G x C') → ∃ q : List Fact, (∀ y ∈ q, y.of C) ∧ ∀ x ∈ xs, ∀ C', (∀ y ∈ q, y.of C') → G x C'
  | [], _ => ⟨[], fun y h => by simp at h, fun x h => by simp at h⟩
  | x :: xs, h => by
    obtain ⟨q1, h1, h2⟩ := h x (List.mem_cons_self ..)
    obtain ⟨q2, h3, h4⟩ := facts_many xs (fun y hy => h y (List.mem_cons_of_mem _ hy))
    refine ⟨q1 ++ q2, fun y hy => (List.mem_append.1 hy).elim (h1 y) (h3 y), fun z hz C' hq => ?_⟩
    rcases List.mem_cons.1 hz with rfl | hz
    · exact h2 C' (fun y hy => hq y (List.mem_append_left _ hy))
    · exact h4 z hz C' (fun y hy => hq y (List.mem_append_right _ hy))

theorem eround_factor {T : FuncId → Tab} {C : Callee} {L : Loops} (hL : LSound L) {l : Nat} {args : List Value} {H : List Blk} {r : Value × List Blk × Option Nat} (h : eround P T C L l args H = some r) :
    ∃ q : List Fact, (∀ x ∈ q, x.of C) ∧ ∀ (C' : Callee), (∀ x ∈ q, x.of C') → eround P T C' loopG l args H = some r := by
  unfold eround at h
  split at h
  case h_2 => simp at h
  rename_i f ps x y fr hl
  rw [ite_some] at h
  obtain ⟨hlen, h⟩ := h
  obtain ⟨ends, _, a2, q1, a3, a4⟩ := ecode_factor hL x _ _ _ r h
  obtain ⟨q2, b1, b2⟩ := facts_many (C := C) (G := fun z C' => (match z.1 with
        | .normal => (setLoop l z.2.2 LSt.isReady .busy).bind fun st2 => ecode P (T f) fr.length H.length C' loopG y z.2.1 st2 fun e _ st3 =>
          (setLoop l st3 LSt.isBusy (roundSt e)).bind fun st4 => some (Value.bool (roundV e), (gc H.length [] st4).2.H, escBelow H.length (gc H.length [] st4).2.esc)
        | _ => none) = some r) ends (fun z hz => by
    have h2 := a2 z hz
    obtain ⟨e1, fr1, st1⟩ := z
    cases e1 with
    | exit i => simp at h2
    | ret => simp at h2
    | normal =>
      simp only at h2 ⊢
      obtain ⟨st2, hset, h2⟩ := Option.bind_eq_some_iff.1 h2
      obtain ⟨q, c1, c2⟩ := (ecode_factor hL y _ _ _ r h2).same
      exact ⟨q, c1, fun C' hx => by rw [hset, Option.bind_some]; exact c2 C' hx⟩)
  refine ⟨q1 ++ q2, fun z hz => (List.mem_append.1 hz).elim (a3 z) (b1 z), fun C' hx => ?_⟩
  unfold eround
  simp only [hl]
  rw [if_pos hlen]
  exact a4 _ C' _ r (fun z hz => hx z (List.mem_append_left _ hz)) (fun z hz => b2 z hz C' (fun u hu => hx u (List.mem_append_right _ hu)))

theorem edef_factor {C : Callee} {L : Loops} (hL : LSound L) {n0 : Nat} {T : Tab} {nt : Nat} : ∀ (c : Code) {R : Type} (fr : List Value) (st : AS) (k : List Value → AS → Call → List Code → Option R) (r : R), edef P T nt n0 C L c fr st k = some r →
    ∃ ends : List (List Value × AS × Call × List Code), (∀ z ∈ ends, k z.1 z.2.1 z.2.2.1 z.2.2.2 = some r) ∧ ∃ q : List Fact, (∀ y ∈ q, y.of C) ∧
      ∀ (C' : Callee) (k' : List Value → AS → Call → List Code → Option R), (∀ y ∈ q, y.of C') → (∀ z ∈ ends, k' z.1 z.2.1 z.2.2.1 z.2.2.2 = some r) → edef P T nt n0 C' loopG c fr st k' = some r
  | .seq x y, R, fr, st, k, r, h => by
    simp only [edef] at h
    by_cases hd : deferIn x = true
    · rw [if_pos hd] at h
      obtain ⟨ends, h1, q, h2, h3⟩ := edef_factor hL x fr st _ r h
      refine ⟨ends.map fun z => (z.1, z.2.1, z.2.2.1, z.2.2.2 ++ [y]), fun z hz => ?_, q, h2, fun C' k' hq he => ?_⟩
      · obtain ⟨u, hu, rfl⟩ := List.mem_map.1 hz
        exact h1 u hu
      · simp only [edef]
        rw [if_pos hd]
        exact h3 C' _ hq fun z hz => he _ (List.mem_map.2 ⟨z, hz, rfl⟩)
    · rw [if_neg hd] at h
      obtain ⟨ends, _, h1, q, h2, h3⟩ := ecode_factor hL x fr st _ r h
      have hG : ∀ z ∈ ends, ∃ ends2 : List (List Value × AS × Call × List Code), (∀ u ∈ ends2, k u.1 u.2.1 u.2.2.1 u.2.2.2 = some r) ∧ ∃ q : List Fact, (∀ y ∈ q, y.of C) ∧
          ∀ (C' : Callee) (k' : List Value → AS → Call → List Code → Option R), (∀ y ∈ q, y.of C') → (∀ u ∈ ends2, k' u.1 u.2.1 u.2.2.1 u.2.2.2 = some r) → (match z.1 with | .normal => edef P T nt n0 C' loopG y z.2.1 z.2.2 k' | _ => none) = some r := by
        intro z hz
        have h4 := h1 z hz
        obtain ⟨e1, fr1, st1⟩ := z
        cases e1 with
        | exit i => simp at h4
        | ret => simp at h4
        | normal => exact edef_factor hL y fr1 st1 k r h4
      have many : ∀ xs : List (AEx × List Value × AS), (∀ z ∈ xs, ∃ ends2 : List (List Value × AS × Call × List Code), (∀ u ∈ ends2, k u.1 u.2.1 u.2.2.1 u.2.2.2 = some r) ∧ ∃ q : List Fact, (∀ y ∈ q, y.of C) ∧
          ∀ (C' : Callee) (k' : List Value → AS → Call → List Code → Option R), (∀ y ∈ q, y.of C') → (∀ u ∈ ends2, k' u.1 u.2.1 u.2.2.1 u.2.2.2 = some r) → (match z.1 with | .normal => edef P T nt n0 C' loopG y z.2.1 z.2.2 k' | _ => none) = some r) →
          ∃ ends2 : List (List Value × AS × Call × List Code), (∀ u ∈ ends2, k u.1 u.2.1 u.2.2.1 u.2.2.2 = some r) ∧ ∃ q : List Fact, (∀ y ∈ q, y.of C) ∧
          ∀ z ∈ xs, ∀ (C' : Callee) (k' : List Value → AS → Call → List Code → Option R), (∀ y ∈ q, y.of C') → (∀ u ∈ ends2, k' u.1 u.2.1 u.2.2.1 u.2.2.2 = some r) → (match z.1 with | .normal => edef P T nt n0 C' loopG y z.2.1 z.2.2 k' | _ => none) = some r := by
        intro xs
        induction xs with
        | nil => intro _; exact ⟨[], fun u h => by simp at h, [], fun u h => by simp at h, fun z h => by simp at h⟩
        | cons z xs ih =>
          intro hx
          obtain ⟨e1, a1, p1, b1, c1⟩ := hx z (List.mem_cons_self ..)
          obtain ⟨e2, a2, p2, b2, c2⟩ := ih fun u hu => hx u (List.mem_cons_of_mem _ hu)
          refine ⟨e1 ++ e2, fun u hu => (List.mem_append.1 hu).elim (a1 u) (a2 u), p1 ++ p2, fun u hu => (List.mem_append.1 hu).elim (b1 u) (b2 u), fun u hu C' k' hq he => ?_⟩
          rcases List.mem_cons.1 hu with rfl | hu
          · exact c1 C' k' (fun y hy => hq y (List.mem_append_left _ hy)) (fun y hy => he y (List.mem_append_left _ hy))
          · exact c2 u hu C' k' (fun y hy => hq y (List.mem_append_right _ hy)) (fun y hy => he y (List.mem_append_right _ hy))
      obtain ⟨ends2, a2, q2, b2, c2⟩ := many ends hG
      refine ⟨ends2, a2, q ++ q2, fun u hu => (List.mem_append.1 hu).elim (h2 u) (b2 u), fun C' k' hq he => ?_⟩
      simp only [edef]
      rw [if_neg hd]
      exact h3 R C' _ r (fun y hy => hq y (List.mem_append_left _ hy)) fun z hz => c2 z hz C' k' (fun y hy => hq y (List.mem_append_right _ hy)) he
  | .region id ops draw, R, fr, st, k, r, h => by
    simp only [edef] at h
    cases draw with
    | true => simp at h
    | false =>
      simp only [Bool.false_eq_true, if_false] at h
      split at h
      · rename_i cl hcl
        obtain ⟨fr', st', h1, q, hq, hall⟩ := eops_factor _ _ _ _ _ _ h
        refine ⟨[(fr', st', cl, [])], fun z hz => by rw [List.mem_singleton.1 hz]; exact h1, q, hq, fun C' k' hx he => ?_⟩
        simp only [edef, Bool.false_eq_true, if_false, hcl]
        rw [hall R C' _ hx]
        exact he _ (List.mem_singleton.2 rfl)
      · simp at h
  | .skip, R, fr, st, k, r, h => by simp [edef] at h
  | .label _, R, fr, st, k, r, h => by simp [edef] at h
  | .exit _, R, fr, st, k, r, h => by simp [edef] at h
  | .ret, R, fr, st, k, r, h => by simp [edef] at h
  | .cond .., R, fr, st, k, r, h => by simp [edef] at h
  | .block .., R, fr, st, k, r, h => by simp [edef] at h
  | .loop _, R, fr, st, k, r, h => by simp [edef] at h
  | .rangeFunc .., R, fr, st, k, r, h => by simp [edef] at h
  | .scope _, R, fr, st, k, r, h => by simp [edef] at h
  | .goto .., R, fr, st, k, r, h => by simp [edef] at h
  | .refuse .., R, fr, st, k, r, h => by simp [edef] at h

theorem eseq_factor {C : Callee} {L : Loops} (hL : LSound L) {n0 : Nat} {T : Tab} {nt : Nat} {R : Type} : ∀ (cs : List Code) (fr : List Value) (st : AS) (k : AEx → List Value → AS → Option R) (r : R), eseq P T nt n0 C L cs fr st k = some r →
    Fac C k r (fun R' C' k' r' => eseq P T nt n0 C' loopG cs fr st k' = some r')
  | [], fr, st, k, r, h => .one (e := .normal) (fr := fr) (st := st) (q := []) (by simpa [eseq] using h) (fun _ h => by simp at h) (fun _ _ _ _ _ he => by simpa [eseq] using he)
  | c :: cs, fr, st, k, r, h => by
    simp only [eseq] at h
    refine Fac.bind (G := fun e fr st R' C' k' => match e with
        | .normal => eseq P T nt n0 C' loopG cs fr st k'
        | .exit i => k' (.exit i) fr st
        | .ret => k' .ret fr st) (ecode_factor hL c fr st _ r h) (fun e fr' st' h1 => ?_) (fun R' C' k' r' hx => ?_)
    · cases e with
      | normal => exact eseq_factor hL cs fr' st' k r h1
      | exit i => exact .one (e := .exit i) (q := []) h1 (fun _ h => by simp at h) (fun _ _ _ _ _ he => he)
      | ret => exact .one (e := .ret) (q := []) h1 (fun _ h => by simp at h) (fun _ _ _ _ _ he => he)
    · simp only [eseq]
      exact hx

theorem edbody_factor {C : Callee} {nd : FuncId → Bool} {L : Loops} (hL : LSound L) {T : Tab} {fn : Func} {c : Code} {fr : List Value} {H : List Blk} {r : Value × List Blk × Option Nat} (h : edbody P T nd C L fn c fr H = some r) :
    ∃ q : List Fact, (∀ x ∈ q, x.of C) ∧ ∀ (C' : Callee), (∀ x ∈ q, x.of C') → edbody P T nd C' loopG fn c fr H = some r := by
  unfold edbody at h
  obtain ⟨ends, h1, q, h2, h3⟩ := edef_factor hL c _ _ _ r h
  obtain ⟨q2, b1, b2⟩ := facts_many (C := C) (G := fun z C' => (match z.2.2.1.callee with
    | .value f => (aFn P (ev z.1 f) (z.2.2.1.args.toList.map (ev z.1))).bind fun d => if d.1 < yidB ∧ d.2 ≠ [] ∧ plainD P d.1 = true ∧ nd d.1 = true then
        eseq P T fn.ntmps z.2.1.H.length C' loopG z.2.2.2 z.1 ⟨z.2.1.H, none⟩ fun e fr2 st2 => match e with
          | .exit _ => none
          | _ => (C' d.1 d.2 st2.H).bind fun r => finish P T.keep H.length fn.results.toList fr2 ⟨r.2.1, joinEsc z.2.1.esc (joinEsc st2.esc r.2.2)⟩
      else none
    | _ => none) = some r) ends (fun z hz => by
    have hk := h1 z hz
    obtain ⟨fr1, st1, cl, rest⟩ := z
    simp only at hk ⊢
    cases hcal : cl.callee with
    | builtin b => simp [hcal] at hk
    | invoke x m => simp [hcal] at hk
    | value f =>
      simp only [hcal] at hk ⊢
      obtain ⟨⟨g, ga⟩, hfn, hk⟩ := Option.bind_eq_some_iff.1 hk
      rw [ite_some] at hk
      obtain ⟨hc, hk⟩ := hk
      obtain ⟨en, _, c1, p, c2, c3⟩ := eseq_factor hL rest _ _ _ r hk
      obtain ⟨p2, d1, d2⟩ := facts_many (C := C) (G := fun z C' => (match z.1 with
          | .exit _ => none
          | _ => (C' g ga z.2.2.H).bind fun r => finish P T.keep H.length fn.results.toList z.2.1 ⟨r.2.1, joinEsc st1.esc (joinEsc z.2.2.esc r.2.2)⟩) = some r) en (fun z hz => by
        have hk2 := c1 z hz
        obtain ⟨e2, fr2, st2⟩ := z
        have key : ((C g ga st2.H).bind fun r => finish P T.keep H.length fn.results.toList fr2 ⟨r.2.1, joinEsc st1.esc (joinEsc st2.esc r.2.2)⟩) = some r → ∃ q : List Fact, (∀ y ∈ q, y.of C) ∧ ∀ C' : Callee, (∀ y ∈ q, y.of C') → ((C' g ga st2.H).bind fun r => finish P T.keep H.length fn.results.toList fr2 ⟨r.2.1, joinEsc st1.esc (joinEsc st2.esc r.2.2)⟩) = some r := by
          intro hk2
          obtain ⟨r3, hcall, hfin⟩ := Option.bind_eq_some_iff.1 hk2
          exact ⟨[⟨g, ga, st2.H, r3⟩], fun y hy => by rw [List.mem_singleton.1 hy]; exact hcall, fun C' hx => by
            have : C' g ga st2.H = some r3 := hx _ (List.mem_singleton.2 rfl)
            rw [this, Option.bind_some]; exact hfin⟩
        cases e2 with
        | exit i => simp at hk2
        | normal => exact key hk2
        | ret => exact key hk2)
      refine ⟨p ++ p2, fun y hy => (List.mem_append.1 hy).elim (c2 y) (d1 y), fun C' hx => ?_⟩
      rw [hfn, Option.bind_some, if_pos hc]
      exact c3 _ C' _ r (fun y hy => hx y (List.mem_append_left _ hy)) (fun z hz => d2 z hz C' (fun y hy => hx y (List.mem_append_right _ hy))))
  refine ⟨q ++ q2, fun y hy => (List.mem_append.1 hy).elim (h2 y) (b1 y), fun C' hx => ?_⟩
  unfold edbody
  exact h3 C' _ (fun y hy => hx y (List.mem_append_left _ hy)) (fun z hz => b2 z hz C' (fun y hy => hx y (List.mem_append_right _ hy)))

theorem ebody0_factor {T : FuncId → Tab} {C : Callee} {L : Loops} (hL : LSound L) {f : FuncId} {args : List Value} {H : List Blk} {r : Value × List Blk × Option Nat} (h : ebody0 P T C L f args H = some r) :
    ∃ q : List Fact, (∀ x ∈ q, x.of C) ∧ ∀ (C' : Callee), (∀ x ∈ q, x.of C') → ebody0 P T C' loopG f args H = some r := by
  unfold ebody0 at h
  cases hy : Nat.ble yidB f with
  | true =>
    rw [hy, cond_true] at h
    obtain ⟨q, h1, h2⟩ := eround_factor hL h
    exact ⟨q, h1, fun C' hx => by unfold ebody0; rw [hy, cond_true]; exact h2 C' hx⟩
  | false =>
  rw [hy, cond_false] at h
  cases hsm : (T f).sum with
  | some g =>
    simp only [hsm] at h
    exact ⟨[], fun _ h => by simp at h, fun C' _ => by unfold ebody0; rw [hy, cond_false]; simp only [hsm]; exact h⟩
  | none =>
  simp only [hsm] at h
  cases hlv : (T f).lives with
  | true => 
    simp only [hlv] at h
    exact ⟨[], fun _ h => by simp at h, fun C' _ => by unfold ebody0; rw [hy, cond_false]; simp only [hsm, hlv]; exact h⟩
  | false =>
  simp only [hlv] at h
  cases hf : P.funcs[f]? with
  | none => simp [hf] at h
  | some fn =>
    simp only [hf] at h
    cases hb : fn.body with
    | none => simp [hb] at h
    | some c =>
      simp only [hb] at h
      rw [ite_some] at h
      obtain ⟨hle, h⟩ := h
      cases hdf : (T f).dfr with
      | true =>
        simp only [hdf] at h
        rw [ite_some] at h
        obtain ⟨q, hq, hall⟩ := edbody_factor hL h.2
        refine ⟨q, hq, fun C' hx => ?_⟩
        unfold ebody0
        rw [hy, cond_false]
        simp only [hsm, hlv, hf, hb, hdf]
        rw [if_pos hle, if_pos h.1, hall C' hx]
      | false =>
      simp only [hdf] at h
      obtain ⟨q, hq, hall⟩ := (ecode_factor hL c _ _ _ r h).same
      refine ⟨q, hq, fun C' hx => ?_⟩
      unfold ebody0
      rw [hy, cond_false]
      simp only [hsm, hlv, hf, hb, hdf]
      rw [if_pos hle, hall C' hx]

theorem ebody_factor {T : FuncId → Tab} {C : Callee} {L : Loops} (hL : LSound L) {f : FuncId} {args : List Value} {H : List Blk} {r : Value × List Blk × Option Nat} (h : ebody P T C L f args H = some r) :
    ∃ q : List Fact, (∀ x ∈ q, x.of C) ∧ ∀ (C' : Callee), (∀ x ∈ q, x.of C') → ebody P T C' loopG f args H = some r := ebody0_factor hL h

variable {T : FuncId → Tab}

theorem callN_succ (n : Nat) : ∀ (f : FuncId) (args : List Value) (H : List Blk) r, callN P T n f args H = some r → callN P T (n + 1) f args H = some r := by
  induction n with
  | zero => intro f args H r h; simp [callN] at h
  | succ n ih =>
    intro f args H r h
    obtain ⟨q, hq, hall⟩ := ebody_factor loopW_sound h
    exact hall _ (fun x hx => ih _ _ _ _ (hq x hx))

theorem callN_le {n m : Nat} (hm : n ≤ m) {f : FuncId} {args : List Value} {H : List Blk} {r} (h : callN P T n f args H = some r) : callN P T m f args H = some r := by
  induction m with
  | zero => have : n = 0 := by omega
            subst this; exact h
  | succ m ih =>
    by_cases he : n = m + 1
    · subst he; exact h
    · exact callN_succ m _ _ _ _ (ih (by omega))

theorem acall_of {n : Nat} {f : FuncId} {args : List Value} {H : List Blk} {r} (h : callN P T n f args H = some r) : acall P T f args H = some r := by
  unfold acall
  have hex : ∃ n r, callN P T n f args H = some r := ⟨n, r, h⟩
  rw [dif_pos hex]
  have := Classical.choose_spec (Classical.choose_spec hex)
  have h1 := callN_le (Nat.le_max_left n (Classical.choose hex)) h
  have h2 := callN_le (Nat.le_max_right n (Classical.choose hex)) this
  rw [h1] at h2
  exact h2.symm

theorem facts_bound : ∀ (q : List Fact), (∀ x ∈ q, x.of (acall P T)) → ∃ n, ∀ x ∈ q, x.of (callN P T n)
  | [], _ => ⟨0, fun x h => by simp at h⟩
  | y :: q, h => by
    obtain ⟨n, hn⟩ := facts_bound q (fun x hx => h x (List.mem_cons_of_mem _ hx))
    obtain ⟨m, hm⟩ := acall_spec (h y (List.mem_cons_self ..))
    refine ⟨max n m, fun x hx => ?_⟩
    rcases List.mem_cons.1 hx with rfl | hx
    · exact callN_le (Nat.le_max_right n m) hm
    · exact callN_le (Nat.le_max_left n m) (hn x hx)

/-- A CALL IS ITS BODY. -/
theorem acall_eq (f : FuncId) (args : List Value) (H : List Blk) : acall P T f args H = ebody P T (acall P T) loopG f args H := by
  cases h : ebody P T (acall P T) loopG f args H with
  | some r =>
    obtain ⟨q, hq, hall⟩ := ebody_factor loopW_sound h
    obtain ⟨n, hn⟩ := facts_bound q hq
    exact acall_of (n := n + 1) (hall _ hn)
  | none =>
    cases h2 : acall P T f args H with
    | none => rfl
    | some r =>
      exfalso
      obtain ⟨n, hn⟩ := acall_spec h2
      cases n with
      | zero => simp [callN] at hn
      | succ n =>
        obtain ⟨q, hq, hall⟩ := ebody_factor loopW_sound hn
        have := hall (acall P T) (fun x hx => acall_of (hq x hx))
        rw [h] at this; simp at this

/-- what the kernel reckons holds -/
theorem acall_of_callF : ∀ (n : Nat) {f : FuncId} {args : List Value} {H : List Blk} {r}, callF P T n f args H = some r → acall P T f args H = some r
  | 0, f, args, H, r, h => by simp [callF] at h
  | n + 1, f, args, H, r, h => by
    rw [acall_eq]
    obtain ⟨q, hq, hall⟩ := ebody_factor (rounds_sound _) h
    exact hall _ (fun x hx => acall_of_callF n (hq x hx))

end
end Go.Am

end
section
namespace Go.Am
open Go.ChangeShapes Go.WideShapes Go.RowKit

section
variable {P : Program}

theorem Kept.same {w w' : World} (h : Kept w w') {p : MemPlace} (hp : p.block < w.heap.size) : w.sameAt w' p := by
  cases p with
  | cell b o => exact World.cell?_of_block (w := w) (h.block b hp)
  | map b => exact h.block b hp

theorem Kept.but {w w' : World} (h : Kept w w') (may : MemPlace → Prop) : w.keptBut w' may := by
  refine ⟨h.os, h.output, fun i hi => ?_⟩
  rw [h.block i hi]
  split <;> simp_all

/-- what is asked of a parameter's type -/
def fineParam (P : Program) (t : TypeId) : Bool := P.readableRec t && decide (t < P.types.size)

variable {H : Type} {enc : TypeId × Value → H}

theorem trodAll_stays (hl : laidOutB P = true) {w w' : World} {sp : Nat → Bool} : ∀ {ts : List TypeId} {vs : List Value} {ds : List (DataW H)} {ps : List MemPlace}, ts.all (fineParam P) = true →
    DataW.TrodAll enc P w 0 (fun _ => true) true ts vs ds ps → (∀ p ∈ ps, w.sameAt w' p) → (∀ p ∈ ps, sp p.block = true) → DataW.TrodAll enc P w' 0 sp true ts vs ds ps
  | [], vs, ds, ps, _, h, _, _ => by
    obtain ⟨rfl, rfl, rfl⟩ := trodAll_nil h
    exact trodAll_mk0
  | t :: ts, vs, ds, ps, hf, h, hs, hp => by
    obtain ⟨v, vs1, d, ds1, a, b, rfl, rfl, rfl, h1, h2⟩ := trodAll_cons h
    simp only [List.all_cons, Bool.and_eq_true, fineParam, decide_eq_true_eq] at hf
    exact ⟨a, b, WideElems.Trod_stays hl hf.1.1 hf.1.2 h1 (fun p h => hs p (by simp [h])) (fun p h => hp p (by simp [h])),
      trodAll_stays hl hf.2 h2 (fun p h => hs p (by simp [h])) (fun p h => hp p (by simp [h])), rfl⟩

/-- A LAW'S ROW: it answers true, and what was there stands as it stood. -/
theorem kept_post (hl : laidOutB P = true) {f : Func} {s : ChangeSpec} {apart fresh handsOn again : Bool} {w w' : World} {args : Array Value} {ds gs : List (DataW H)} {before : List MemPlace} {tb : TypeId}
    (hf : f.params.toList.all (fineParam P) = true) (hr : f.resultTypes = #[tb]) (hb : P.underlying tb = some .bool) (hv : s.vars = [])
    (hs : ∀ ds : List (DataW H), ds.length = f.params.size → (s.fn H ds).results = [.lit (.bool true)] ∧ (s.fn H ds).args = ds ∧ (s.fn H ds).vars = [])
    (hw : DataW.Whole enc P f.params.toList s.vars apart w args.toList ds gs before) (hk : Kept w w') : s.post enc P f apart fresh handsOn again w args (.bool true) w' := by
  have hw' := hw
  obtain ⟨p, q, hA, hV, rfl, hz, hn⟩ := hw
  rw [hv] at hV
  obtain ⟨rfl, rfl⟩ := trodVars_none hV
  have hlen : ∀ {ts : List TypeId} {vs : List Value} {ds : List (DataW H)} {ps : List MemPlace}, DataW.TrodAll enc P w 0 (fun _ => true) true ts vs ds ps → ds.length = ts.length := by
    intro ts
    induction ts with
    | nil => intro vs ds ps h; obtain ⟨_, rfl, _⟩ := trodAll_nil h; rfl
    | cons t ts ih => intro vs ds ps h; obtain ⟨v, vs1, d, ds1, a, b, rfl, rfl, rfl, h1, h2⟩ := trodAll_cons h; simp [ih h2]
  have hd := hlen hA
  obtain ⟨h1, h2, h3⟩ := hs ds (by simpa using hd)
  have hold : ∀ x ∈ p, x.block < w.heap.size := fun x hx => by simpa using hw'.lt x (by simpa using hx)
  have hres : ∀ (b : Nat) (sp : Nat → Bool) (hd : Bool), DataW.TrodAll enc P w' b sp hd f.resultTypes.toList ((Value.bool true).resultList f.resultTypes.size) (s.fn H (ds ++ [])).results [] := by
    intro b sp hd
    rw [List.append_nil, h1, hr]
    exact trodAll_cons_mk (shut_bool hb _) trodAll_mk0
  have hargs : ∀ sp : Nat → Bool, (∀ x ∈ p, sp x.block = true) → DataW.TrodAll enc P w' 0 sp true f.params.toList args.toList (s.fn H (ds ++ [])).args p := by
    intro sp hsp
    rw [List.append_nil, h2]
    exact trodAll_stays hl hf hA (fun x hx => hk.same (hold x hx)) hsp
  have hvars : ∀ sp : Nat → Bool, DataW.TrodVars enc P w' sp s.vars (s.fn H (ds ++ [])).vars [] := by
    intro sp
    rw [List.append_nil, h3, hv]; exact rfl
  refine ⟨ds, [], p ++ [], [], p, [], hw', hres _ _ _, hargs _ (fun x hx => by simpa using hold x hx), hvars _, World.keptBut_mono (fun x hx => ⟨hx, ?_⟩) (hk.but (· ∈ p ++ [])), fun _ => ?_⟩
  · exact .inr (.inl (by simpa using hx))
  · refine ⟨ok_one hr rfl (okWide_bool_mk hb _), _, _, ([] ++ p) ++ [], ⟨[] ++ p, [], trodAll_append (hargs _ (fun _ _ => rfl)) (hres _ _ _), hvars _, rfl, ?_, ?_⟩, ?_⟩
    · intro b off hp
      have hp : MemPlace.cell b off ∈ p := by simpa using hp
      have hlt := hold _ hp
      rw [World.frozen?_of_block (w := w) (hk.block b hlt)]
      exact hz b off (by simpa using hp)
    · intro ha; simpa using hn ha
    · intro x hx _; simpa using hx

/-! ### Arguments of which nothing is asked -/

/-- a value of a type, of which nothing is known -/
def blur (P : Program) (t : TypeId) : Value :=
  match P.underlying t with
  | some (.struct _) | some (.array _ _) => .agg (List.replicate (P.cellsOf t) unk).toArray
  | _ => unk

theorem blur_rel {ρ : Ren} {sh : Sh} {w : World} {base : Nat} {t : TypeId} {v : Value} (h : Value.okWide P w .any base t v) : VRel P ρ sh (blur P t) v := by
  have agg : ∀ cs : Array Value, cs.size = P.cellsOf t → VRel P ρ sh (.agg (List.replicate (P.cellsOf t) unk).toArray) (.agg cs) := fun cs hc =>
    .agg (by simp [hc]) (fun i h1 h2 => by simp; exact .any _)
  unfold blur
  unfold Value.okWide at h
  split
  · rename_i h1; rw [h1] at h; obtain ⟨cs, rfl, hc, _⟩ := h; exact agg cs hc
  · rename_i h1; rw [h1] at h; obtain ⟨cs, rfl, hc, _⟩ := h; exact agg cs hc
  · exact .any _

theorem trodAll_args {w : World} : ∀ {ts : List TypeId} {vs : List Value} {ds : List (DataW H)} {ps : List MemPlace}, DataW.TrodAll enc P w 0 (fun _ => true) true ts vs ds ps → vs.length = ts.length := by
  intro ts
  induction ts with
  | nil => intro vs ds ps h; obtain ⟨rfl, _, _⟩ := trodAll_nil h; rfl
  | cons t ts ih => intro vs ds ps h; obtain ⟨v, vs1, d, ds1, a, b, rfl, rfl, rfl, h1, h2⟩ := trodAll_cons h; simp [ih h2]

/-- ahead of a call all rows that are there are as they will ever be: the machine owns none of them -/
def rho0 (w : World) : Ren := ⟨fun _ => none, fun cb => match w.heap[cb]? with | some (.cells c _ _) => some c | _ => none⟩

theorem rho0_fz {w : World} {cb : Nat} {c : Array Value} (h : (rho0 w).fz cb = some c) : ∃ e fz, w.heap[cb]? = some (.cells c e fz) := by
  simp only [rho0] at h
  split at h
  · rename_i c' e fz hc; simp at h; subst h; exact ⟨e, fz, hc⟩
  · simp at h

theorem rel_nil (w : World) : Rel P (rho0 w) [] w := ⟨fun b k h => by simp at h, fun b b' k k' h => by simp at h, fun _ _ => rfl, fun cb c hc => ⟨rho0_fz hc, fun ⟨b, k, x, hb, _⟩ => by simp at hb⟩⟩

theorem kept_of_step {n : Nat} {ρ ρ' : Ren} {H H' : List Blk} {w w' : World} (h : Step n ρ H w ρ' H' w') (hro : ∀ (b : Nat) (k : Blk), H[b]? = some k → k.owns = false) : Kept w w' :=
  ⟨h.os, h.output, fun k hk => h.keep k hk (fun ⟨b, x, y, h1, h2, _⟩ => by rw [hro b x h1] at h2; simp at h2)⟩

def saysTrue : Option (Value × List Blk × Option Nat) → Bool
  | some (.bool true, _, _) => true
  | _ => false

/-- a call whose arguments nobody looks at -/
theorem calls_blur {T : FuncId → Tab} (hT : TabOk P T) {f : FuncId} {ts : List TypeId} {n : Nat} (h : saysTrue (callF P T n f (ts.map (blur P)) []) = true) {w : World} {base : Nat} {args : Array Value}
    (hlen : args.toList.length = ts.length) (hval : ∀ (j : Nat) t v, ts[j]? = some t → args[j]? = some v → Value.okWide P w .any base t v) :
    Calls P f args w fun e w' => e = .returned (.bool true) ∧ Kept w w' := by
  unfold saysTrue at h
  split at h
  · rename_i H' e hc
    have hL : LRel P (rho0 w) w.shape? (ts.map (blur P)) args.toList := by
      refine ⟨by simpa using hlen.symm, fun i v hv => ?_⟩
      simp only [List.getElem?_map, Option.map_eq_some_iff] at hv
      obtain ⟨t, ht, rfl⟩ := hv
      have hi : i < args.toList.length := by rw [hlen]; exact lt_of_get ht
      refine ⟨args.toList[i], by simp [List.getElem?_eq_getElem hi], blur_rel (hval i t _ ht (by simp at hi; simp [Array.getElem?_eq_getElem hi]))⟩
    refine ((acall_sound P T hT).fn f _ [] _ _ _ (rho0 w) w args (acall_lt (acall_of_callF n hc)) (acall_of_callF n hc) (rel_nil w) hL).mono fun e w' ⟨cv, he, ho⟩ => ?_
    obtain ⟨⟨ρ', _, h2, h3⟩, _⟩ := ho
    exact ⟨by rw [he, h3.bool_inv], kept_of_step h2 (fun b k hb => by simp at hb)⟩
  · simp at h

/-- what the machine says of a function without arguments, none of it leaning on the like -/
theorem lives_of {T : FuncId → Tab} (hT : ∀ f, (T f).lives = false) (hS : ∀ f, (T f).sum = none) {f : FuncId} {n : Nat} (h : saysTrue (callF P T n f [] []) = true) : Lives P f := fun w =>
  calls_blur (.of (fun f h => by rw [hT] at h; simp at h) hS) (ts := []) h (base := 0) rfl (fun j t v h => by simp at h)

/-- no live slots are told -/
def T0 : FuncId → Tab := fun _ => ⟨fun _ => none, fun _ => none, false, fun _ => none, fun _ => false, false, false, fun _ => false, 0, false, none⟩

theorem T0_sum (f : FuncId) : (T0 f).sum = none := rfl
theorem T0_lives (f : FuncId) : (T0 f).lives = true → Lives P f := fun h => by simp [T0] at h

end
end Go.Am

end
section
namespace Go.Am
open Go.ChangeShapes Go.WideShapes Go.RowKit Go.Deep

/-- cells that fit a type -/
inductive TOk (P : Program) : TypeId → List Value → Prop
  | bool {t : TypeId} (b : Bool) (ht : P.underlying t = some .bool) : TOk P t [.bool b]
  | int {t : TypeId} {k : IntKind} (n : Int) (ht : P.underlying t = some (.int k)) (hw : k.min ≤ n ∧ n ≤ k.max) : TOk P t [.int k n]
  | str {t : TypeId} (s : ByteArray) (ht : P.underlying t = some .string) (hs : s.size ≤ maxLen) : TOk P t [.string s]
  | slice {t e : TypeId} (rows : List (List Value)) (ht : P.underlying t = some (.slice e)) (hm : rows.length ≤ maxLen) (h : ∀ r ∈ rows, TOk P e r) : TOk P t [tSl rows.length rows.flatten]
  | struct {t : TypeId} {fs : Array Field} (ps : List (List Value)) (ht : P.underlying t = some (.struct fs)) (hl : ps.length = fs.size) (h : ∀ (i : Nat) (f : Field) (p : List Value), fs[i]? = some f → ps[i]? = some p → TOk P f.type p) : TOk P t ps.flatten
  | array {t n e : Nat} (ps : List (List Value)) (ht : P.underlying t = some (.array n e)) (hl : ps.length = n) (h : ∀ p ∈ ps, TOk P e p) : TOk P t ps.flatten

/-- do a struct's fields lie side by side? -/
def contig (P : Program) : List Field → Nat → Option Nat
  | [], n => some n
  | f :: fs, n => if f.offset = n then contig P fs (n + P.cellsOf f.type) else none

/-- is a type one that is opened here? -/
def fineT (P : Program) : Nat → TypeId → Bool
  | 0, _ => false
  | n + 1, t => match P.underlying t with
    | some .bool | some (.int _) | some .string => true
    | some (.slice e) => decide (0 < P.cellsOf e) && fineT P n e
    | some (.struct fs) => contig P fs.toList 0 == some (P.cellsOf t) && fs.toList.all fun f => fineT P n f.type
    | some (.array k e) => decide (P.cellsOf t = k * P.cellsOf e) && fineT P n e
    | _ => false

section
variable {P : Program} {w : World}

/-- cells that the model has stand as the machine's -/
def Opens (P : Program) (w : World) (t : TypeId) (cs : List Value) : Prop := ∃ l, TOk P t l ∧ LRel P (rho0 w) w.shape? l cs

theorem open_list : ∀ (items : List (TypeId × List Value)), (∀ x ∈ items, Opens P w x.1 x.2) →
    ∃ ps : List (List Value), ps.length = items.length ∧ (∀ (i : Nat) (x : TypeId × List Value) (p : List Value), items[i]? = some x → ps[i]? = some p → TOk P x.1 p) ∧
      LRel P (rho0 w) w.shape? ps.flatten (items.flatMap (·.2))
  | [], _ => ⟨[], rfl, fun i x d h => by simp at h, by simpa using LRel.nil⟩
  | x :: items, h => by
    obtain ⟨p, hp, h1⟩ := h x (by simp)
    obtain ⟨ps, hl, hok, h2⟩ := open_list items (fun y hy => h y (by simp [hy]))
    refine ⟨p :: ps, by simp [hl], fun i y e hi he => ?_, ?_⟩
    · cases i with
      | zero => simp at hi he; subst hi; subst he; exact hp
      | succ i => simp at hi he; exact hok i y e hi he
    · simp only [List.flatten_cons, List.flatMap_cons]
      exact h1.append h2

theorem contig_cells : ∀ (fs : List Field) (n m : Nat) (cs : List Value), contig P fs n = some m → cs.length = m → (fs.map fun f => (f.type, (cs.drop f.offset).take (P.cellsOf f.type))).flatMap (·.2) = cs.drop n
  | [], n, m, cs, h, hl => by simp [contig] at h; subst h; simp [← hl]
  | f :: fs, n, m, cs, h, hl => by
    simp only [contig] at h
    split at h
    · rename_i ho
      simp only [List.map_cons, List.flatMap_cons]
      rw [contig_cells fs _ m cs h hl, ho, ← List.drop_drop]
      exact List.take_append_drop _ _
    · simp at h

theorem array_cells (c : Nat) (e : TypeId) : ∀ (n : Nat) (cs : List Value), cs.length = n * c → ((List.range n).map fun i => (e, (cs.drop (i * c)).take c)).flatMap (·.2) = cs
  | 0, cs, h => by simp at h; simp [h]
  | n + 1, cs, h => by
    have h1 : (cs.drop c).length = n * c := by simp [h, Nat.succ_mul]
    have := array_cells c e n (cs.drop c) h1
    rw [List.range_succ_eq_map]
    simp only [List.map_cons, List.flatMap_cons, List.map_map, Nat.zero_mul, List.drop_zero]
    have e1 : (List.range n).map ((fun i => (e, (cs.drop (i * c)).take c)) ∘ Nat.succ) = (List.range n).map fun i => (e, ((cs.drop c).drop (i * c)).take c) := by
      refine List.map_congr_left fun i _ => ?_
      simp only [Function.comp, List.drop_drop]
      rw [Nat.succ_mul, Nat.add_comm]
    rw [e1, this]
    exact List.take_append_drop _ _

variable {H : Type} {enc : TypeId × Value → H}

theorem opens : ∀ (n : Nat) (fuel : Nat) (t : TypeId) (cs : List Value) (x : DataW H × List MemPlace), fineT P n t = true → DataW.trod enc P w 0 (fun _ => true) true fuel t cs = some x → Opens P w t cs
  | 0, _, _, _, _, h, _ => by simp [fineT] at h
  | n + 1, fuel, t, cs, x, hf, h => by
    simp only [fineT] at hf
    split at hf
    · rename_i ht
      obtain ⟨b, rfl, _⟩ := DataW.trod_bool ht h
      exact ⟨_, .bool b ht, .refl_plain rfl⟩
    · rename_i k ht
      obtain ⟨m, rfl, _, hw⟩ := DataW.trod_int ht h
      simp only [Lit.wf, Bool.and_eq_true, decide_eq_true_eq] at hw
      exact ⟨_, .int m ht hw, .refl_plain rfl⟩
    · rename_i ht
      obtain ⟨s, rfl, _, hs⟩ := DataW.trod_string ht h
      exact ⟨_, .str s ht hs, .refl_plain rfl⟩
    · rename_i e ht
      simp only [Bool.and_eq_true, decide_eq_true_eq] at hf
      rcases open_slice ht h with ⟨rfl, _⟩ | ⟨a, len, cap, m, k, Dd, Pl, rfl, _, hl, hm, hmm, _, hx⟩
      · exact ⟨_, .slice [] ht (by simp) (by simp), .cons (.tree0 (fun _ => rfl)) .nil⟩
      · simp only [if_true] at hmm
        subst hmm
        obtain ⟨cf, hcf⟩ := choose_lt (α := List Value) hx
        have hopen : ∀ y ∈ (List.range len).map fun i => (e, cf i), Opens P w y.1 y.2 := by
          intro y hy
          obtain ⟨i, hi, rfl⟩ := List.mem_map.1 hy
          exact opens n k e (cf i) _ hf.2 (hcf i (by have := List.mem_range.1 hi; omega)).2
        obtain ⟨ps, hdl, hdok, hL⟩ := open_list _ hopen
        simp only [List.length_map, List.length_range] at hdl
        subst hdl
        have hok : ∀ r ∈ ps, TOk P e r := by
          intro r hr
          obtain ⟨i, hi⟩ := List.getElem?_of_mem hr
          exact hdok i (e, cf i) r (by simp [lt_of_get hi]) hi
        by_cases h0 : ps.length = 0
        · have hps0 : ps = [] := List.eq_nil_of_length_eq_zero h0
          subst hps0
          exact ⟨_, .slice [] ht (by simp) (by simp), .cons (.tree0 (fun h => by simp at h)) .nil⟩
        · have hc0 : 0 < ps.length := Nat.pos_of_ne_zero h0
          -- the row's block
          obtain ⟨_, hlen0, hcell0⟩ := World.cells?_some (hcf 0 (by omega)).1
          have hsp : a.spot = none ∧ ∃ carr row fz, w.heap[a.block]? = some (.cells carr row fz) := by
            have := hcell0 0 hf.1
            have hadd : (a.add (0 * P.cellsOf e)).add 0 = a := by simp [Addr.add]
            rw [hadd] at this
            obtain ⟨v, hv⟩ : ∃ v, (cf 0)[0]? = some v := ⟨_, List.getElem?_eq_getElem (by rw [hlen0]; exact hf.1)⟩
            rw [hv] at this
            unfold World.cell? at this
            split at this
            · rename_i c row fz hb
              split at this
              · simp at this
              · rename_i hn
                exact ⟨by cases hs : a.spot <;> simp_all, c, row, fz, hb⟩
            · simp at this
          obtain ⟨hsp, carr, row, fz, hblk⟩ := hsp
          have hcells : ∀ i, i < ps.length → ∀ j, j < P.cellsOf e → carr.toList[a.off + i * P.cellsOf e + j]? = (cf i)[j]? := by
            intro i hi j hj
            obtain ⟨_, hlen, hcell⟩ := World.cells?_some (hcf i (by omega)).1
            rw [← hcell j hj, add_add]
            unfold World.cell? Addr.add
            by_cases hz : i * P.cellsOf e + j = 0
            · rw [if_pos hz, hblk]
              have : a.off + i * P.cellsOf e + j = a.off := by omega
              simp [hsp, this]
            · rw [if_neg hz]
              simp [hblk, Nat.add_assoc]
          have hflat : ((List.range ps.length).map fun i => (e, cf i)).flatMap (·.2) = (carr.toList.drop a.off).take (ps.length * P.cellsOf e) := by
            have key : ∀ m, m ≤ ps.length → ((List.range m).map fun i => (e, cf i)).flatMap (·.2) = (carr.toList.drop a.off).take (m * P.cellsOf e) := by
              intro m
              induction m with
              | zero => intro _; simp
              | succ m ih =>
                intro hm
                rw [List.range_succ, List.map_append, List.flatMap_append, ih (by omega)]
                simp only [List.map_cons, List.map_nil, List.flatMap_cons, List.flatMap_nil, List.append_nil]
                rw [Nat.succ_mul, List.take_add]
                congr 1
                obtain ⟨_, hlen, _⟩ := World.cells?_some (hcf m (by omega)).1
                apply List.ext_getElem?
                intro j
                by_cases hj : j < P.cellsOf e
                · rw [List.getElem?_take_of_lt hj, List.drop_drop, List.getElem?_drop, ← hcells m (by omega) j hj]
                · rw [List.getElem?_eq_none (by omega), List.getElem?_eq_none (by simp; omega)]
            exact key _ (Nat.le_refl _)
          have hflen : (((List.range ps.length).map fun i => (e, cf i)).flatMap (·.2)).length = ps.length * P.cellsOf e := by
            have key : ∀ m, m ≤ ps.length → (((List.range m).map fun i => (e, cf i)).flatMap (·.2)).length = m * P.cellsOf e := by
              intro m
              induction m with
              | zero => intro _; simp
              | succ m ih =>
                intro hm
                rw [List.range_succ, List.map_append, List.flatMap_append, List.length_append, ih (by omega)]
                obtain ⟨_, hlen, _⟩ := World.cells?_some (hcf m (by omega)).1
                simp [hlen, Nat.succ_mul]
            exact key _ (Nat.le_refl _)
          refine ⟨_, .slice ps ht (by omega) hok, LRel.cons ?_ .nil⟩
          have ha : a = ⟨a.block, a.off, none⟩ := by cases a; simp_all
          rw [ha]
          have hz : (rho0 w).fz a.block = some carr := by simp [rho0, hblk]
          exact VRel.tree_list hz (by rw [hflen, ← hflat]) (by omega) hL
    · rename_i fs ht
      simp only [Bool.and_eq_true, beq_iff_eq, List.all_eq_true] at hf
      obtain ⟨xs, m, rfl, _, hlen, hxl, hx⟩ := DataW.trod_struct ht h
      have hopen : ∀ y ∈ fs.toList.map fun f => (f.type, (cs.drop f.offset).take (P.cellsOf f.type)), Opens P w y.1 y.2 := by
        intro y hy
        obtain ⟨f, hfm, rfl⟩ := List.mem_map.1 hy
        obtain ⟨i, hi⟩ := List.getElem?_of_mem hfm
        have := hx i f (by simpa using hi)
        have hil : i < xs.length := by rw [hxl]; have := lt_of_get hi; simpa using this
        rw [List.getElem?_eq_getElem hil] at this
        exact opens n m _ _ _ (hf.2 f hfm) this
      obtain ⟨ps, hdl, hdok, hds⟩ := open_list _ hopen
      rw [contig_cells fs.toList 0 _ cs hf.1 hlen, List.drop_zero] at hds
      exact ⟨_, .struct ps ht (by simpa using hdl) (fun i f d hi hd => hdok i (f.type, (cs.drop f.offset).take (P.cellsOf f.type)) d (by simp [hi]) hd), hds⟩
    · rename_i k e ht
      simp only [Bool.and_eq_true, decide_eq_true_eq] at hf
      obtain ⟨xs, m, rfl, _, hlen, hxl, hx⟩ := DataW.trod_array ht h
      have hopen : ∀ y ∈ (List.range k).map fun i => (e, (cs.drop (i * P.cellsOf e)).take (P.cellsOf e)), Opens P w y.1 y.2 := by
        intro y hy
        obtain ⟨i, hi, rfl⟩ := List.mem_map.1 hy
        have hi := List.mem_range.1 hi
        have := hx i hi
        rw [List.getElem?_eq_getElem (by omega)] at this
        exact opens n m _ _ _ hf.2 this
      obtain ⟨ps, hdl, hdok, hds⟩ := open_list _ hopen
      rw [array_cells (P.cellsOf e) e k cs (by rw [hlen, hf.1])] at hds
      refine ⟨_, .array ps ht (by simpa using hdl) (fun d hd => ?_), hds⟩
      obtain ⟨i, hi⟩ := List.getElem?_of_mem hd
      have hlt := lt_of_get hi
      simp only [List.length_map, List.length_range] at hdl
      exact hdok i (e, _) d (by simp [hdl ▸ hlt]; rfl) hi
    · simp at hf

/-! ### A law's arguments -/

/-- an argument's value -/
def argV (P : Program) (t : TypeId) (l : List Value) : Value :=
  match P.underlying t with
  | some (.struct _) | some (.array _ _) => .agg l.toArray
  | _ => l.headD unk

/-- the arguments' values -/
def argVs (P : Program) : List TypeId → List (List Value) → List Value
  | t :: ts, d :: ds => argV P t d :: argVs P ts ds
  | _, _ => []

/-- all fit their types -/
def TOks (P : Program) : List TypeId → List (List Value) → Prop
  | [], [] => True
  | t :: ts, d :: ds => TOk P t d ∧ TOks P ts ds
  | _, _ => False

theorem arg_rel {ρ : Ren} {sh : Sh} {t : TypeId} {l : List Value} {v : Value} {base : Nat} (hv : Value.okWide P w .any base t v) (hl : LRel P ρ sh l v.cells.toList) : VRel P ρ sh (argV P t l) v := by
  have agg : ∀ cs : Array Value, v = .agg cs → VRel P ρ sh (.agg l.toArray) v := by
    intro cs he; subst he
    have : LRel P ρ sh l.toArray.toList cs.toList := by simpa [Value.cells] using hl
    exact .agg this.arr.1 this.arr.2
  unfold argV
  unfold Value.okWide at hv
  split
  · rename_i h1; rw [h1] at hv; obtain ⟨cs, he, _⟩ := hv; exact agg cs he
  · rename_i h1; rw [h1] at hv; obtain ⟨cs, he, _⟩ := hv; exact agg cs he
  · have one : v.cells.toList = [v] ∨ ∃ cs, v = .agg cs := by cases v <;> simp [Value.cells]
    rcases one with h1 | ⟨cs, rfl⟩
    · rw [h1] at hl
      match l, hl with
      | [x], hl => exact hl.head.1
      | [], hl => have := hl.1; simp at this
      | x :: y :: r, hl => have := hl.1; simp at this
    · rename_i h2 h3
      exfalso
      split at hv
      · exact h2 _ ‹_›
      · exact h3 _ _ ‹_›
      · unfold Cell.okWide at hv
        split at hv <;> simp_all [Cell.ok]

/-- A LAW'S ARGUMENTS, OPENED -/
theorem open_args {base : Nat} : ∀ (ts : List TypeId) (vs : List Value) (ds : List (DataW H)) (ps : List MemPlace), ts.all (fineT P 12) = true → DataW.TrodAll enc P w 0 (fun _ => true) true ts vs ds ps →
    (∀ (j : Nat) t v, ts[j]? = some t → vs[j]? = some v → Value.okWide P w .any base t v) →
    ∃ xs, TOks P ts xs ∧ LRel P (rho0 w) w.shape? (argVs P ts xs) vs
  | [], vs, ds, ps, _, h, _ => by
    obtain ⟨rfl, _, _⟩ := trodAll_nil h
    exact ⟨[], trivial, LRel.nil⟩
  | t :: ts, vs, ds, ps, hf, h, hv => by
    obtain ⟨v, vs1, d1, ds1, a, b, rfl, rfl, rfl, ⟨fuel, h1⟩, h2⟩ := trodAll_cons h
    simp only [List.all_cons, Bool.and_eq_true] at hf
    obtain ⟨d, hd, ho⟩ := opens 12 fuel t _ _ hf.1 h1
    obtain ⟨xs, hxs, hos⟩ := open_args ts vs1 ds1 b hf.2 h2 (fun j t v ht hj => hv (j + 1) t v (by simpa using ht) (by simpa using hj))
    exact ⟨d :: xs, ⟨hd, hxs⟩, LRel.cons (arg_rel (hv 0 t v (by simp) (by simp)) ho) hos⟩

/-- A LAW'S CALL, from what the machine says of it whatever the arguments are -/
theorem calls_open {T : FuncId → Tab} (hT : TabOk P T) {f : FuncId} {ts : List TypeId} (hf : ts.all (fineT P 12) = true) (h : ∀ xs, TOks P ts xs → saysTrue (acall P T f (argVs P ts xs) []) = true)
    {base : Nat} {args : Array Value} {ds : List (DataW H)} {ps : List MemPlace} (hA : DataW.TrodAll enc P w 0 (fun _ => true) true ts args.toList ds ps)
    (hval : ∀ (j : Nat) t v, ts[j]? = some t → args[j]? = some v → Value.okWide P w .any base t v) :
    Calls P f args w fun e w' => e = .returned (.bool true) ∧ Kept w w' := by
  obtain ⟨xs, hxs, l⟩ := open_args (base := base) ts args.toList ds ps hf hA (fun j t v ht hj => hval j t v ht (by simpa using hj))
  have h := h xs hxs
  unfold saysTrue at h
  split at h
  · rename_i H' e hc
    refine ((acall_sound P T hT).fn f _ _ _ _ _ (rho0 w) w args (acall_lt hc) hc (rel_nil w) l).mono fun e w' ⟨cv, he, ho⟩ => ?_
    obtain ⟨⟨ρ2, _, h2, h3⟩, _⟩ := ho
    exact ⟨by rw [he, h3.bool_inv], kept_of_step h2 (fun b k hb => by simp at hb)⟩
  · simp at h

/-! ### What fits a type, by its type -/

theorem TOk.bool_inv {t : TypeId} {l : List Value} (h : TOk P t l) (ht : P.underlying t = some .bool) : ∃ b, l = [.bool b] := by
  cases h with
  | bool b _ => exact ⟨b, rfl⟩
  | _ => simp_all

theorem TOk.int_inv {t : TypeId} {l : List Value} {k : IntKind} (h : TOk P t l) (ht : P.underlying t = some (.int k)) : ∃ n, l = [.int k n] ∧ k.min ≤ n ∧ n ≤ k.max := by
  cases h with
  | int n h hw => rw [ht] at h; simp at h; subst h; exact ⟨n, rfl, hw⟩
  | _ => simp_all

theorem TOk.str_inv {t : TypeId} {l : List Value} (h : TOk P t l) (ht : P.underlying t = some .string) : ∃ s, l = [.string s] ∧ s.size ≤ maxLen := by
  cases h with
  | str s _ hs => exact ⟨s, rfl, hs⟩
  | _ => simp_all

theorem TOk.slice_inv {t e : TypeId} {l : List Value} (h : TOk P t l) (ht : P.underlying t = some (.slice e)) : ∃ rows : List (List Value), l = [tSl rows.length rows.flatten] ∧ rows.length ≤ maxLen ∧ ∀ r ∈ rows, TOk P e r := by
  cases h with
  | slice rows h hm ho => rw [ht] at h; simp at h; subst h; exact ⟨rows, rfl, hm, ho⟩
  | _ => simp_all

theorem TOks.of_index : ∀ (ts : List TypeId) (ds : List (List Value)), ds.length = ts.length → (∀ (i : Nat) (t : TypeId) (d : List Value), ts[i]? = some t → ds[i]? = some d → TOk P t d) → TOks P ts ds
  | [], [], _, _ => trivial
  | t :: ts, d :: ds, hl, h => ⟨h 0 t d (by simp) (by simp), TOks.of_index ts ds (by simpa using hl) (fun i t d ht hd => h (i + 1) t d (by simpa using ht) (by simpa using hd))⟩
  | [], _ :: _, hl, _ => by simp at hl
  | _ :: _, [], hl, _ => by simp at hl

theorem TOk.struct_inv {t : TypeId} {l : List Value} {fs : Array Field} (h : TOk P t l) (ht : P.underlying t = some (.struct fs)) : ∃ ps : List (List Value), l = ps.flatten ∧ TOks P (fs.toList.map (·.type)) ps := by
  cases h with
  | struct ps h hl ho =>
    rw [ht] at h; simp at h; subst h
    refine ⟨ps, rfl, .of_index _ _ (by simpa using hl) (fun i t d hi hd => ?_)⟩
    simp only [List.getElem?_map, Option.map_eq_some_iff] at hi
    obtain ⟨f, hf, rfl⟩ := hi
    exact ho i f d (by simpa using hf) hd
  | _ => simp_all

theorem TOk.array_inv {t n e : TypeId} {l : List Value} (h : TOk P t l) (ht : P.underlying t = some (.array n e)) : ∃ ps : List (List Value), l = ps.flatten ∧ ps.length = n ∧ ∀ x ∈ ps, TOk P e x := by
  cases h with
  | array ps h hl ho => rw [ht] at h; simp at h; obtain ⟨rfl, rfl⟩ := h; exact ⟨ps, rfl, hl, ho⟩
  | _ => simp_all

end
end Go.Am

end
section
namespace Go.Am

/-- the end of a call, its results at hand -/
def fin (P : Program) (keep : Bool) (n0 : Nat) (vs : List Value) (st : AS) : Option (Value × List Blk × Option Nat) :=
  let q := endFrz P keep n0 vs st.H
  let g := if keep = true then (q.1, ⟨q.2, st.esc⟩) else gc n0 q.1 ⟨q.2, st.esc⟩
  some (oneOf g.1, g.2.H, escBelow n0 g.2.esc)

/-- a slice of parts -/
def bsl (P : Program) (t : TypeId) (len : Nat) (ix : List Nat) (vs : List Value) (st : AS) : Option (Value × AS) :=
  let q := frzL (frz P 0 8) vs st.H
  aBuildSlice P t len (ix.zip q.1) ⟨q.2, st.esc⟩

end Go.Am

end
