/- Code: what the machine says holds of the model. -/
import Derived.Test.YtfinilnkempofaaAm13f
import Derived.Scope
set_option linter.all false
set_option linter.unusedVariables false
set_option linter.unusedSimpArgs false
set_option linter.unnecessarySimpa false
namespace Go.Am

section
variable {P : Program} {R : Type}

theorem keepGo_rel {ρ : Ren} {sh : Sh} {l : List Nat} {fr tm : List Value} (h : LRel P ρ sh fr tm) : ∀ (n i : Nat), i + n = tm.length → LRel P ρ sh (keepGo l fr n i) (tm.drop i)
  | 0, i, hi => by
    have : tm.drop i = [] := List.drop_eq_nil_of_le (by omega)
    rw [this]; exact .nil
  | n + 1, i, hi => by
    have hlt : i < tm.length := by omega
    rw [List.drop_eq_getElem_cons hlt]
    simp only [keepGo]
    refine .cons ?_ (keepGo_rel h n (i + 1) (by omega))
    split
    · have := h.getD i undef
      simpa [List.getD, List.getElem?_eq_getElem hlt] using this
    · exact .any _

theorem keepGo_length (l : List Nat) (fr : List Value) : ∀ n i, (keepGo l fr n i).length = n
  | 0, _ => rfl
  | n + 1, i => by simp [keepGo, keepGo_length l fr n (i + 1)]

theorem Stt.keep {B : Base P} {nt : Nat} {fr : List Value} {st : AS} {a : Act} {w : World} (h : Stt B nt fr st a w) (l : Option (List Nat)) : Stt B nt (keep nt l fr) st a w := by
  cases l with
  | none => exact h
  | some l =>
    obtain ⟨ρ, h1, h2, h3, h4, h5, h6, h7⟩ := h
    refine ⟨ρ, h1, ?_, h3, h4, h5, h6, by simp [Am.keep, keepGo_length]⟩
    have := keepGo_rel (l := l) h2 nt 0 (by have := h2.1; omega)
    simpa [Am.keep] using this

theorem gc_hold {B : Base P} {st : AS} (hup : Up B.H st.H st.esc) : (∀ m, st.esc = some m → B.H.length ≤ m) → ∀ (b : Nat) (k : Blk) (r : Nat), b < B.H.length → st.H[b]? = some k → r ∈ blkRefs k → r < B.H.length := by
  intro he b k r hb hk hr
  by_cases hlt : b < r
  · rcases hup b k r hb hk hr hlt with ⟨k0, h1, h2⟩ | ⟨m, h1, h2⟩
    · exact refs_lt B.rel h1 h2
    · have := he m h1; omega
  · omega

theorem Stt.gc {B : Base P} {nt : Nat} {fr : List Value} {st : AS} {a : Act} {w : World} (h : Stt B nt fr st a w) : Stt B nt (gc B.H.length fr st).1 (gc B.H.length fr st).2 a w := by
  obtain ⟨ρ, h1, h2, h3, h4, h5, h6, h7⟩ := h
  obtain ⟨H, e⟩ := st
  obtain ⟨ρ', g1, g2, g3, g4, g5, g6, g7⟩ := gc_sound h1 (n := B.H.length) (e := e) h2 h5 (gc_hold h4)
  refine ⟨ρ', g1, g2, h3.trans g3, fun b k r hb hk hr hlt => ?_, g4, h6, by rw [g7]; exact h7⟩
  rw [g5 b hb] at hk
  rcases h4 b k r hb hk hr hlt with h8 | ⟨m, h8, h9⟩
  · exact .inl h8
  · rcases g6 with g6 | ⟨g6, g8⟩
    · exact .inr ⟨m, by rw [g6]; exact h8, h9⟩
    · have := g8 m h8; omega

theorem LRel.pack {ρ : Ren} {sh : Sh} {fr tm : List Value} (h : LRel P ρ sh fr tm) (l : Option (List Nat)) : LRel P ρ sh (packF l fr) (packF l tm) := by
  cases l with
  | none => exact h
  | some l =>
    refine ⟨by simp [packF], fun i v hv => ?_⟩
    simp only [packF, List.getElem?_map, Option.map_eq_some_iff] at hv ⊢
    obtain ⟨j, hj, rfl⟩ := hv
    exact ⟨_, ⟨j, hj, rfl⟩, h.getD j unk⟩

theorem findIx_get : ∀ (l : List Nat) (r k j : Nat), findIx r l k = some j → k ≤ j ∧ l[j - k]? = some r
  | [], r, k, j, h => by simp [findIx] at h
  | x :: xs, r, k, j, h => by
    simp only [findIx] at h
    split at h
    · rename_i hx; simp at h; subst h; subst hx; simp
    · obtain ⟨h1, h2⟩ := findIx_get xs r (k + 1) j h
      refine ⟨by omega, ?_⟩
      rw [show j - k = (j - (k + 1)) + 1 by omega]
      simpa using h2

theorem unpackGo_rel {ρ : Ren} {sh : Sh} {l : List Nat} {vs tm : List Value} (h : LRel P ρ sh vs (packF (some l) tm)) : ∀ (n i : Nat), i + n = tm.length → LRel P ρ sh (unpackGo l vs n i) (tm.drop i)
  | 0, i, hi => by
    have : tm.drop i = [] := List.drop_eq_nil_of_le (by omega)
    rw [this]; exact .nil
  | n + 1, i, hi => by
    have hlt : i < tm.length := by omega
    rw [List.drop_eq_getElem_cons hlt]
    simp only [unpackGo]
    refine .cons ?_ (unpackGo_rel h n (i + 1) (by omega))
    split
    · rename_i j hj
      have hg := (findIx_get l i 0 j hj).2
      have := h.getD j undef
      have e : (packF (some l) tm).getD j undef = tm[i] := by
        simp only [packF, List.getD, List.getElem?_map]
        rw [show l[j]? = some i by simpa using hg]
        simp [List.getElem?_eq_getElem hlt]
      rwa [e] at this
    · exact .any _

theorem unpackGo_length (l : List Nat) (vs : List Value) : ∀ n i, (unpackGo l vs n i).length = n
  | 0, _ => rfl
  | n + 1, i => by simp [unpackGo, unpackGo_length l vs n (i + 1)]

/-- a loop's head: the slots that are live there -/
def SttP (B : Base P) (nt : Nat) (l : Option (List Nat)) (vs : List Value) (st : AS) (a : Act) (w : World) : Prop :=
  ∃ ρ, Rel P ρ st.H w ∧ LRel P ρ w.shape? vs (packF l a.tmps.toList) ∧ Step B.H.length B.ρ B.H B.w ρ st.H w ∧ Up B.H st.H st.esc ∧ B.H.length ≤ st.H.length ∧ a.defers = [] ∧ a.tmps.toList.length = nt

theorem Stt.pack {B : Base P} {nt : Nat} {fr : List Value} {st : AS} {a : Act} {w : World} (h : Stt B nt fr st a w) (l : Option (List Nat)) : SttP B nt l (packF l fr) st a w := by
  obtain ⟨ρ, h1, h2, h3, h4, h5, h6, h7⟩ := h
  exact ⟨ρ, h1, h2.pack l, h3, h4, h5, h6, by rw [← h2.1]; exact h7⟩

theorem SttP.unpack {B : Base P} {nt : Nat} {l : Option (List Nat)} {vs : List Value} {st : AS} {a : Act} {w : World} (h : SttP B nt l vs st a w) : Stt B nt (unpackF nt l vs) st a w := by
  obtain ⟨ρ, h1, h2, h3, h4, h5, h6, h7⟩ := h
  cases l with
  | none => exact ⟨ρ, h1, h2, h3, h4, h5, h6, by have := h2.1; simp only [packF] at this; simp only [unpackF]; omega⟩
  | some l =>
    refine ⟨ρ, h1, ?_, h3, h4, h5, h6, by simp [unpackF, unpackGo_length]⟩
    have := unpackGo_rel h2 nt 0 (by omega)
    simpa [unpackF] using this

theorem SttP.gc {B : Base P} {nt : Nat} {l : Option (List Nat)} {vs : List Value} {st : AS} {a : Act} {w : World} (h : SttP B nt l vs st a w) : SttP B nt l (gc B.H.length vs st).1 (gc B.H.length vs st).2 a w := by
  obtain ⟨ρ, h1, h2, h3, h4, h5, h6, h7⟩ := h
  obtain ⟨H, e⟩ := st
  obtain ⟨ρ', g1, g2, g3, g4, g5, g6, _⟩ := gc_sound h1 (n := B.H.length) (e := e) h2 h5 (gc_hold h4)
  refine ⟨ρ', g1, g2, h3.trans g3, fun b k r hb hk hr hlt => ?_, g4, h6, h7⟩
  rw [g5 b hb] at hk
  rcases h4 b k r hb hk hr hlt with h8 | ⟨m, h8, h9⟩
  · exact .inl h8
  · rcases g6 with g6 | ⟨g6, g8⟩
    · exact .inr ⟨m, by rw [g6]; exact h8, h9⟩
    · have := g8 m h8; omega

theorem SttP.jFrz {B : Base P} {nt : Nat} {l : Option (List Nat)} {vs : List Value} {st : AS} {a : Act} {w : World} (h : SttP B nt l vs st a w) (on : Bool) : SttP B nt l (jFrz P B.H.length vs st on).1 (Am.jFrz P B.H.length vs st on).2 a w := by
  cases on with
  | false => exact h
  | true =>
    obtain ⟨ρ, h1, h2, h3, h4, h5, h6, h7⟩ := h
    obtain ⟨ρ1, _, f1, f2, f3, f4⟩ := frzL_sound (frz_sound B.H.length 8) vs _ ρ st.H h1 h2
    have fu := frz_up (P := P) B.H.length 8 vs st
    have h5' : B.H.length ≤ (frzL (frz P B.H.length 8) vs st.H).2.length := by rw [f4]; exact h5
    exact ⟨ρ1, f1, f3, h3.trans (f2.less (by simpa [f4] using h5)), h4.step h5 fu.1 fu.2.1, h5', h6, h7⟩

def AEx.toExit : AEx → Exit
  | .normal => .normal
  | .exit i => .exit i
  | .ret => .ret

theorem loopW_spec {σ ρ : Type} {step : σ → Option (σ ⊕ ρ)} {s : σ} {r : ρ} (h : loopW step s = some r) : ∃ n, rounds step n s = some r := by
  unfold loopW at h
  split at h
  · rename_i hex
    simp at h
    have := Classical.choose_spec (Classical.choose_spec hex)
    rw [h] at this
    exact ⟨_, this⟩
  · simp at h

/-- a way to do rounds that bears a number of them -/
structure LSound (L : Loops) : Prop where
  run : ∀ n0 step s r, L.run n0 step s = some r → ∃ n, rounds (headed n0 step) n s = some r
  any : ∀ {R : Type} n0 step s k (r : R), L.any n0 step s k = some r → ∃ n, roundsK n0 step k n s = some r
  all : ∀ {R : Type} n (f : Nat → Option R) r, L.all n f = some r → 0 < n ∧ ∀ i, i < n → f i = some r

theorem nextAt_some {ops : Array Oper} {x : Operand} {d : Option Tmp} (h : nextAt ops = some (x, d)) : ∃ o, ops[0]? = some o ∧ o.op = .next x false ∧ o.guard = none ∧ o.dst = d ∧ List.range ops.size = 0 :: (List.range ops.size).tail := by
  unfold nextAt at h
  split at h
  · simp at h
  · rename_i o l hl
    have h0 : ops[0]? = some o := by rw [← Array.getElem?_toList, hl]; rfl
    split at h
    · rename_i x' h1 h2
      simp at h; obtain ⟨rfl, rfl⟩ := h
      refine ⟨o, h0, h1, h2, rfl, ?_⟩
      have : 0 < ops.size := lt_of_getA h0
      obtain ⟨n, hn⟩ : ∃ n, ops.size = n + 1 := ⟨ops.size - 1, by omega⟩
      rw [hn, List.range_succ_eq_map]; rfl
    · simp at h

theorem nextR_sound {C : Callee} (hC : CSound P C) (hU : CUp C) {L : Loops} (hL : LSound L) {B : Base P} {nt : Nat} {ops : Array Oper} {x : Operand} {d : Option Tmp} {fr : List Value} {st : AS} {a : Act} {w : World} {k : List Value → AS → Option R} {r : R} {Q : Exit → Act → World → Prop}
    (hn : nextAt ops = some (x, d)) (hs : Stt B nt fr st a w)
    (h : ((aNext (ev fr x) st).bind fun q => L.all q.1 fun i => eops P C ops noChk (List.range ops.size).tail [] (setD fr d (q.2 i).1) (q.2 i).2 k) = some r)
    (hk : ∀ fr' st' a' w', Stt B nt fr' st' a' w' → k fr' st' = some r → Q .normal a' w') : wpOps P ops Q (List.range ops.size) a w := by
  obtain ⟨o, h0, hop, hg, hd, hr⟩ := nextAt_some hn
  obtain ⟨q, hq, h⟩ := Option.bind_eq_some_iff.1 h
  obtain ⟨_, hall⟩ := hL.all _ _ _ h
  rw [hr]
  simp only [wpOps, h0]
  have hw : Region.wanted o (yielded ops a.tmps) = true := by simp [Region.wanted, hg]
  rw [if_pos hw]
  obtain ⟨ρ, h1, h2, h3, h4, h5, h6, h7⟩ := hs
  obtain ⟨i, hi, cv, w', hrun, ho⟩ := next_sound (e := st.esc) h1 o.type hq (ev_rel h2 x)
  refine .inl (wp_of_value (cv := cv) (w' := w') (by simp [execOp, hop, hrun]) ?_)
  have hs' : Stt B nt (setD fr d (q.2 i).1) (q.2 i).2 (a.put o.dst cv) w' := by
    rw [hd]
    exact .step h1 h2 h3 h4 h5 h6 h7 ho ((next_up hq).2 i)
  exact eops_sound hC hU _ _ _ _ _ _ _ _ hs' (hall i hi) hk

theorem ecode_sound {C : Callee} (hC : CSound P C) (hU : CUp C) {L : Loops} (hL : LSound L) {B : Base P} {T : Tab} {nt : Nat} : ∀ (c : Code) {R : Type} (fr : List Value) (st : AS) (k : AEx → List Value → AS → Option R) (r : R) (a : Act) (w : World) (Q : Exit → Act → World → Prop),
    Stt B nt fr st a w → ecode P T nt B.H.length C L c fr st k = some r → (∀ e fr' st' a' w', Stt B nt fr' st' a' w' → k e fr' st' = some r → Q e.toExit a' w') → c.wp P Q a w
  | .skip, R, fr, st, k, r, a, w, Q, hs, h, hk => wp_skip (hk .normal _ _ _ _ hs (by simpa [ecode] using h))
  | .label _, R, fr, st, k, r, a, w, Q, hs, h, hk => wp_label (hk .normal _ _ _ _ hs (by simpa [ecode] using h))
  | .exit id, R, fr, st, k, r, a, w, Q, hs, h, hk => wp_exit (hk (.exit id) _ _ _ _ hs (by simpa [ecode] using h))
  | .ret, R, fr, st, k, r, a, w, Q, hs, h, hk => wp_ret (hk .ret _ _ _ _ hs (by simpa [ecode] using h))
  | .region id ops draw, R, fr, st, k, r, a, w, Q, hs, h, hk => by
    simp only [ecode] at h
    cases draw with
    | true =>
      simp only [if_true] at h
      split at h
      · split at h
        · simp at h
        · rename_i opsL ord1 l ord2 hp
          exact late_sound hC hU hp (hs.keep _) h (fun fr' st' a' w' hs' hk' => hk .normal _ _ _ _ hs' hk')
      · rename_i ord chk hp
        exact draw_sound hC hU hp (hs.keep _) h (fun fr' st' a' w' hs' hk' => hk .normal _ _ _ _ hs' hk')
    | false =>
      simp only [Bool.false_eq_true, if_false] at h
      split at h
      case h_2 hn => exact wp_region (nextR_sound hC hU hL hn (hs.keep _) h (fun fr' st' a' w' hs' hk' => hk .normal _ _ _ _ hs' hk'))
      exact wp_region (eops_sound hC hU _ _ _ _ _ _ _ _ (hs.keep _) h (fun fr' st' a' w' hs' hk' => hk .normal _ _ _ _ hs' hk'))
  | .seq x y, R, fr, st, k, r, a, w, Q, hs, h, hk => by
    simp only [ecode] at h
    cases hj : (firstRegion y).bind T.jn with
    | none =>
      simp only [hj] at h
      refine wp_seq (ecode_sound hC hU hL x fr st _ r a w _ hs h (fun e fr' st' a' w' hs' hk' => ?_))
      cases e with
      | normal => exact ecode_sound hC hU hL y fr' st' k r a' w' Q hs' hk' hk
      | exit i => exact hk (.exit i) _ _ _ _ hs' hk'
      | ret => exact hk .ret _ _ _ _ hs' hk'
    | some l =>
      simp only [hj] at h
      obtain ⟨⟨e0, fr0, st0⟩, h1, h2⟩ := Option.bind_eq_some_iff.1 h
      refine wp_seq (ecode_sound hC hU hL x fr st _ _ a w _ hs h1 (fun e fr' st' a' w' hs' hk' => ?_))
      simp only [Option.some.injEq, Prod.mk.injEq] at hk'
      obtain ⟨rfl, rfl, rfl⟩ := hk'
      have hs2 := (hs'.pack (some l)).unpack
      cases e with
      | normal => exact ecode_sound hC hU hL y _ _ k r a' w' Q ((hs'.pack (some l)).jFrz _).unpack h2 hk
      | exit i => exact hk (.exit i) _ _ _ _ hs2 h2
      | ret => exact hk .ret _ _ _ _ hs2 h2
  | .cond c x y, R, fr, st, k, r, a, w, Q, hs, h, hk => by
    simp only [ecode] at h
    obtain ⟨ρ, h1, h2, _⟩ := id hs
    have hc := ev_rel h2 c
    rcases bcase_some h with ⟨hb, h⟩ | ⟨hb, h⟩
    · rw [hb] at hc
      exact wp_cond_true hc.bool_inv (ecode_sound hC hU hL x fr st k r a w Q hs h hk)
    · rw [hb] at hc
      exact wp_cond_false hc.bool_inv (ecode_sound hC hU hL y fr st k r a w Q hs h hk)
  | .block id x, R, fr, st, k, r, a, w, Q, hs, h, hk => by
    simp only [ecode] at h
    refine wp_block (ecode_sound hC hU hL x fr st _ r a w _ hs h (fun e fr' st' a' w' hs' hk' => ?_))
    cases e with
    | normal => exact hk .normal _ _ _ _ hs' hk'
    | exit i =>
      simp only [AEx.toExit, Exit.inBlock]
      by_cases hi : i = id
      · rw [if_pos hi]; simp only [hi, if_true] at hk'; exact hk .normal _ _ _ _ hs' hk'
      · rw [if_neg hi]; simp only [hi, if_false] at hk'; exact hk (.exit i) _ _ _ _ hs' hk'
    | ret => exact hk .ret _ _ _ _ hs' hk'
  | .loop x, R, fr, st, k, r, a, w, Q, hs, h, hk => by
    simp only [ecode] at h
    by_cases hni : nextIn x = true
    · rw [if_pos hni] at h
      obtain ⟨n, hn⟩ := hL.any _ _ _ _ _ h
      refine wp_loop_rounds n ?_
      clear h
      have hp := hs.pack ((firstRegion x).bind T.at_)
      clear hs
      generalize packF ((firstRegion x).bind T.at_) fr = vs at hp hn
      induction n generalizing vs st a w with
      | zero => simp [roundsK] at hn
      | succ n ih =>
        have hs := hp
        rw [rounds_succ]
        simp only [roundsK] at hn
        refine ecode_sound hC hU hL x _ _ _ r a w _ hs.gc.unpack hn (fun e2 fr2 st2 a2 w2 hs2 hk2 => ?_)
        cases e2 with
        | normal =>
          exact ih _ _ _ _ (hs2.pack _) hk2
        | exit i =>
          exact hk (.exit i) _ _ _ _ (hs2.pack _).gc.unpack hk2
        | ret =>
          exact hk .ret _ _ _ _ (hs2.pack _).gc.unpack hk2
    rw [if_neg hni] at h
    obtain ⟨⟨e, fr', st'⟩, hloop, hk'⟩ := Option.bind_eq_some_iff.1 h
    obtain ⟨n, hn⟩ := hL.run _ _ _ _ hloop
    refine wp_loop_rounds n ?_
    clear hloop h
    have hp := hs.pack ((firstRegion x).bind T.at_)
    clear hs
    generalize packF ((firstRegion x).bind T.at_) fr = vs at hp hn
    induction n generalizing vs st a w with
    | zero => simp [rounds] at hn
    | succ n ih =>
      have hs := hp
      rw [rounds_succ]
      simp only [rounds] at hn
      split at hn
      · simp at hn
      · rename_i res hstep
        simp at hn; subst hn
        refine ecode_sound hC hU hL x _ _ _ (Sum.inr (e, fr', st')) a w _ hs.gc.unpack hstep (fun e2 fr2 st2 a2 w2 hs2 hk2 => ?_)
        cases e2 with
        | normal => simp [loopEnd] at hk2
        | exit i =>
          simp [loopEnd] at hk2
          obtain ⟨rfl, rfl, rfl⟩ := hk2
          exact hk (.exit i) _ _ _ _ (hs2.pack _).unpack hk'
        | ret =>
          simp [loopEnd] at hk2
          obtain ⟨rfl, rfl, rfl⟩ := hk2
          exact hk .ret _ _ _ _ (hs2.pack _).unpack hk'
      · rename_i s' hstep
        refine ecode_sound hC hU hL x _ _ _ (Sum.inl s') a w _ hs.gc.unpack hstep (fun e2 fr2 st2 a2 w2 hs2 hk2 => ?_)
        cases e2 with
        | normal =>
          simp [loopEnd] at hk2
          subst hk2
          exact ih _ _ _ _ (hs2.pack _) hn
        | exit i => simp [loopEnd] at hk2
        | ret => simp [loopEnd] at hk2
  | .rangeFunc .., R, fr, st, k, r, a, w, Q, hs, h, hk => by simp [ecode] at h
  | .scope c, R, fr, st, k, r, a, w, Q, hs, h, hk => by
    simp only [ecode] at h
    exact wp_scope_straight (ecode_sound hC hU hL c fr st k r a w _ hs h (fun e fr' st' a' w' hs' hk' => by
      have := hk e fr' st' a' w' hs' hk'
      cases e <;> exact this))
  | .goto .., R, fr, st, k, r, a, w, Q, hs, h, hk => by simp [ecode] at h
  | .refuse .., R, fr, st, k, r, a, w, Q, hs, h, hk => by simp [ecode] at h

end
end Go.Am
