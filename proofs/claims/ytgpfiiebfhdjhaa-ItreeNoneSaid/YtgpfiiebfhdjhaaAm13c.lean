/- Code: what the machine says holds of the model. -/
import Derived.Test.YtgpfiiebfhdjhaaAm13d
import Derived.Scope
namespace Go.Am

section
variable {P : Program} {R : Type}

theorem keepGo_rel {ρ : Ren} {sh : Sh} {l : List Nat} {fr tm : List Value} (h : LRel P ρ sh fr tm) : ∀ (n i : Nat), i + n = tm.length → LRel P ρ sh (keepGo l fr n i) (tm.drop i)
  | 0, i, hi => by
    have : tm.drop i = [] := List.drop_eq_nil_of_le (by omega)
    rw [this]; exact .nil
  | n + 1, i, hi => by
    have hlt : i < tm.length := by omega
    rw [List.drop_eq_getElem_cons hlt]
    simp only [keepGo]
    refine .cons ?_ (keepGo_rel h n (i + 1) (by omega))
    split
    · have := h.getD i undef
      simpa [List.getD, List.getElem?_eq_getElem hlt] using this
    · exact .any _

theorem keepGo_length (l : List Nat) (fr : List Value) : ∀ n i, (keepGo l fr n i).length = n
  | 0, _ => rfl
  | n + 1, i => by simp [keepGo, keepGo_length l fr n (i + 1)]

theorem Stt.keep {B : Base P} {nt : Nat} {fr : List Value} {st : AS} {a : Act} {w : World} (h : Stt B nt fr st a w) (l : Option (List Nat)) : Stt B nt (keep nt l fr) st a w := by
  cases l with
  | none => exact h
  | some l =>
    obtain ⟨ρ, h1, h2, h3, h4, h5, h6, h7⟩ := h
    refine ⟨ρ, h1, ?_, h3, h4, h5, h6, by simp [Am.keep, keepGo_length]⟩
    have := keepGo_rel (l := l) h2 nt 0 (by have := h2.1; omega)
    simpa [Am.keep] using this

theorem gc_hold {B : Base P} {st : AS} (hup : Up B.H st.H st.esc) : (∀ m, st.esc = some m → B.H.length ≤ m) → ∀ (b : Nat) (k : Blk) (r : Nat), b < B.H.length → st.H[b]? = some k → r ∈ blkRefs k → r < B.H.length := by
  intro he b k r hb hk hr
  by_cases hlt : b < r
  · rcases hup b k r hb hk hr hlt with ⟨k0, h1, h2⟩ | ⟨m, h1, h2⟩
    · exact refs_lt B.rel h1 h2
    · have := he m h1; omega
  · omega

theorem Stt.gc {B : Base P} {nt : Nat} {fr : List Value} {st : AS} {a : Act} {w : World} (h : Stt B nt fr st a w) : Stt B nt (gc B.H.length fr st).1 (gc B.H.length fr st).2 a w := by
  obtain ⟨ρ, h1, h2, h3, h4, h5, h6, h7⟩ := h
  obtain ⟨H, e⟩ := st
  obtain ⟨ρ', g1, g2, g3, g4, g5, g6, g7⟩ := gc_sound h1 (n := B.H.length) (e := e) h2 h5 (gc_hold h4)
  refine ⟨ρ', g1, g2, h3.trans g3, fun b k r hb hk hr hlt => ?_, g4, h6, by rw [g7]; exact h7⟩
  rw [g5 b hb] at hk
  rcases h4 b k r hb hk hr hlt with h8 | ⟨m, h8, h9⟩
  · exact .inl h8
  · rcases g6 with g6 | ⟨g6, g8⟩
    · exact .inr ⟨m, by rw [g6]; exact h8, h9⟩
    · have := g8 m h8; omega

def AEx.toExit : AEx → Exit
  | .normal => .normal
  | .exit i => .exit i
  | .ret => .ret

theorem loopW_spec {σ ρ : Type} {step : σ → Option (σ ⊕ ρ)} {s : σ} {r : ρ} (h : loopW step s = some r) : ∃ n, rounds step n s = some r := by
  unfold loopW at h
  split at h
  · rename_i hex
    simp at h
    have := Classical.choose_spec (Classical.choose_spec hex)
    rw [h] at this
    exact ⟨_, this⟩
  · simp at h

/-- a way to do rounds that bears a number of them -/
def LSound (L : Loops) : Prop := ∀ step s r, L step s = some r → ∃ n, rounds step n s = some r

theorem ecode_sound {C : Callee} (hC : CSound P C) (hU : CUp C) {L : Loops} (hL : LSound L) {B : Base P} {T : Tab} {nt : Nat} : ∀ (c : Code) {R : Type} (fr : List Value) (st : AS) (k : AEx → List Value → AS → Option R) (r : R) (a : Act) (w : World) (Q : Exit → Act → World → Prop),
    Stt B nt fr st a w → ecode P T nt B.H.length C L c fr st k = some r → (∀ e fr' st' a' w', Stt B nt fr' st' a' w' → k e fr' st' = some r → Q e.toExit a' w') → c.wp P Q a w
  | .skip, R, fr, st, k, r, a, w, Q, hs, h, hk => wp_skip (hk .normal _ _ _ _ hs (by simpa [ecode] using h))
  | .label _, R, fr, st, k, r, a, w, Q, hs, h, hk => wp_label (hk .normal _ _ _ _ hs (by simpa [ecode] using h))
  | .exit id, R, fr, st, k, r, a, w, Q, hs, h, hk => wp_exit (hk (.exit id) _ _ _ _ hs (by simpa [ecode] using h))
  | .ret, R, fr, st, k, r, a, w, Q, hs, h, hk => wp_ret (hk .ret _ _ _ _ hs (by simpa [ecode] using h))
  | .region id ops draw, R, fr, st, k, r, a, w, Q, hs, h, hk => by
    simp only [ecode] at h
    cases draw with
    | true =>
      simp only [if_true] at h
      split at h
      · simp at h
      · rename_i ord chk hp
        exact draw_sound hC hU hp (hs.keep _) h (fun fr' st' a' w' hs' hk' => hk .normal _ _ _ _ hs' hk')
    | false =>
      simp only [Bool.false_eq_true, if_false] at h
      exact wp_region (eops_sound hC hU _ _ _ _ _ _ _ _ (hs.keep _) h (fun fr' st' a' w' hs' hk' => hk .normal _ _ _ _ hs' hk'))
  | .seq x y, R, fr, st, k, r, a, w, Q, hs, h, hk => by
    simp only [ecode] at h
    refine wp_seq (ecode_sound hC hU hL x fr st _ r a w _ hs h (fun e fr' st' a' w' hs' hk' => ?_))
    cases e with
    | normal => exact ecode_sound hC hU hL y fr' st' k r a' w' Q hs' hk' hk
    | exit i => exact hk (.exit i) _ _ _ _ hs' hk'
    | ret => exact hk .ret _ _ _ _ hs' hk'
  | .cond c x y, R, fr, st, k, r, a, w, Q, hs, h, hk => by
    simp only [ecode] at h
    obtain ⟨ρ, h1, h2, _⟩ := id hs
    have hc := ev_rel h2 c
    rcases bcase_some h with ⟨hb, h⟩ | ⟨hb, h⟩
    · rw [hb] at hc
      exact wp_cond_true hc.bool_inv (ecode_sound hC hU hL x fr st k r a w Q hs h hk)
    · rw [hb] at hc
      exact wp_cond_false hc.bool_inv (ecode_sound hC hU hL y fr st k r a w Q hs h hk)
  | .block id x, R, fr, st, k, r, a, w, Q, hs, h, hk => by
    simp only [ecode] at h
    refine wp_block (ecode_sound hC hU hL x fr st _ r a w _ hs h (fun e fr' st' a' w' hs' hk' => ?_))
    cases e with
    | normal => exact hk .normal _ _ _ _ hs' hk'
    | exit i =>
      simp only [AEx.toExit, Exit.inBlock]
      by_cases hi : i = id
      · rw [if_pos hi]; simp only [hi, if_true] at hk'; exact hk .normal _ _ _ _ hs' hk'
      · rw [if_neg hi]; simp only [hi, if_false] at hk'; exact hk (.exit i) _ _ _ _ hs' hk'
    | ret => exact hk .ret _ _ _ _ hs' hk'
  | .loop x, R, fr, st, k, r, a, w, Q, hs, h, hk => by
    simp only [ecode] at h
    obtain ⟨⟨e, fr', st'⟩, hloop, hk'⟩ := Option.bind_eq_some_iff.1 h
    obtain ⟨n, hn⟩ := hL _ _ _ hloop
    refine wp_loop_rounds n ?_
    clear hloop h
    revert fr st a w
    induction n with
    | zero => intro fr st a w hs hn; simp [rounds] at hn
    | succ n ih =>
      intro fr st a w hs hn
      rw [rounds_succ]
      simp only [rounds] at hn
      split at hn
      · simp at hn
      · rename_i res hstep
        simp at hn; subst hn
        refine ecode_sound hC hU hL x _ _ _ (Sum.inr (e, fr', st')) a w _ (hs.keep _).gc hstep (fun e2 fr2 st2 a2 w2 hs2 hk2 => ?_)
        cases e2 with
        | normal => simp [loopEnd] at hk2
        | exit i =>
          simp [loopEnd] at hk2
          obtain ⟨rfl, rfl, rfl⟩ := hk2
          exact hk (.exit i) _ _ _ _ (hs2.keep _) hk'
        | ret =>
          simp [loopEnd] at hk2
          obtain ⟨rfl, rfl, rfl⟩ := hk2
          exact hk .ret _ _ _ _ (hs2.keep _) hk'
      · rename_i s' hstep
        refine ecode_sound hC hU hL x _ _ _ (Sum.inl s') a w _ (hs.keep _).gc hstep (fun e2 fr2 st2 a2 w2 hs2 hk2 => ?_)
        cases e2 with
        | normal =>
          simp [loopEnd] at hk2
          subst hk2
          exact ih _ _ _ _ hs2 hn
        | exit i => simp [loopEnd] at hk2
        | ret => simp [loopEnd] at hk2
  | .rangeFunc .., R, fr, st, k, r, a, w, Q, hs, h, hk => by simp [ecode] at h
  | .scope c, R, fr, st, k, r, a, w, Q, hs, h, hk => by
    simp only [ecode] at h
    exact wp_scope_straight (ecode_sound hC hU hL c fr st k r a w _ hs h (fun e fr' st' a' w' hs' hk' => by
      have := hk e fr' st' a' w' hs' hk'
      cases e <;> exact this))
  | .goto .., R, fr, st, k, r, a, w, Q, hs, h, hk => by simp [ecode] at h
  | .refuse .., R, fr, st, k, r, a, w, Q, hs, h, hk => by simp [ecode] at h

end
end Go.Am
