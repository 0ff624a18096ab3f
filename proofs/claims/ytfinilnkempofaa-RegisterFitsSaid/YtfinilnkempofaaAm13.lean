/- Regions, code, calls: what the machine says holds of the model. -/
import Derived.Test.YtfinilnkempofaaAm12
import Derived.LoopN
set_option linter.all false
set_option linter.unusedVariables false
set_option linter.unusedSimpArgs false
set_option linter.unnecessarySimpa false
namespace Go.Am

section
variable {P : Program}

/-- an activation: what it began with -/
structure Base (P : Program) where
  ρ : Ren
  H : List Blk
  w : World
  rel : Rel P ρ H w

/-- the machine's frame and blocks, and the model's -/
def Stt (B : Base P) (nt : Nat) (fr : List Value) (st : AS) (a : Act) (w : World) : Prop :=
  ∃ ρ, Rel P ρ st.H w ∧ LRel P ρ w.shape? fr a.tmps.toList ∧ Step B.H.length B.ρ B.H B.w ρ st.H w ∧ Up B.H st.H st.esc ∧ B.H.length ≤ st.H.length ∧ a.defers = [] ∧ fr.length = nt

theorem rho_mono {ρ ρ' : Ren} {H H' : List Blk} {w w' : World} (h : Rel P ρ H w) (hs : Step H.length ρ H w ρ' H' w') : ∀ b x, ρ b = some x → ρ' b = some x := by
  intro b x hb
  by_cases hlt : b < H.length
  · rw [hs.ext b hlt]; exact hb
  · rw [h.dom b (Nat.le_of_not_lt hlt)] at hb; simp at hb

theorem put_tmps (a : Act) (d : Option Tmp) (v : Value) : (a.put d v).tmps.toList = setD a.tmps.toList d v := by
  cases d <;> simp [Act.put, setD]
theorem put_defers (a : Act) (d : Option Tmp) (v : Value) : (a.put d v).defers = a.defers := by cases d <;> rfl

theorem setD_rel {ρ : Ren} {sh : Sh} {fr fr' : List Value} {d : Option Tmp} {v v' : Value} (h : LRel P ρ sh fr fr') (hv : VRel P ρ sh v v') : LRel P ρ sh (setD fr d v) (setD fr' d v') := by
  cases d with
  | none => exact h
  | some d => exact h.set d hv

theorem setD_length (fr : List Value) (d : Option Tmp) (v : Value) : (setD fr d v).length = fr.length := by cases d <;> simp [setD]

/-- a step taken -/
theorem Stt.step {B : Base P} {nt : Nat} {fr : List Value} {st s : AS} {a : Act} {w w' : World} {ρ : Ren} {v cv : Value} {d : Option Tmp} (hrel : Rel P ρ st.H w) (hfr : LRel P ρ w.shape? fr a.tmps.toList)
    (hst : Step B.H.length B.ρ B.H B.w ρ st.H w) (hup : Up B.H st.H st.esc) (hn : B.H.length ≤ st.H.length) (hd : a.defers = []) (hl : fr.length = nt) (ho : Out P st.H.length ρ st.H w s.H v cv w') (hu : UpC st s) :
    Stt B nt (setD fr d v) s (a.put d cv) w' := by
  obtain ⟨⟨ρ', h1, h2, h3⟩, h4⟩ := ho
  refine ⟨ρ', h1, ?_, hst.trans (h2.less hn), hup.step hn hu.1 hu.2.1, Nat.le_trans hn h4, by rw [put_defers]; exact hd, by rw [setD_length]; exact hl⟩
  rw [put_tmps]
  exact setD_rel (hfr.mono h2.fz (rho_mono hrel h2) h2.shape) h3

theorem Stt.same {B : Base P} {nt : Nat} {fr : List Value} {st : AS} {a : Act} {w : World} {v cv : Value} {d : Option Tmp} (h : Stt B nt fr st a w) (hv : plain v = true) (hcv : cv = v) : Stt B nt (setD fr d v) st (a.put d cv) w := by
  obtain ⟨ρ, h1, h2, h3, h4, h5, h6, h7⟩ := h
  subst hcv
  exact ⟨ρ, h1, by rw [put_tmps]; exact setD_rel h2 (.same _ hv), h3, h4, h5, by rw [put_defers]; exact h6, by rw [setD_length]; exact h7⟩

/-- a bool that is known is written where it stands -/
theorem Stt.known {B : Base P} {nt : Nat} {fr : List Value} {st : AS} {a : Act} {w : World} {d : Nat} {b : Bool} (h : Stt B nt fr st a w) (hb : fr.getD d unk = .bool b) : Stt B nt (fr.set d (.bool b)) st a w ∧ a.tmps[d]? = some (.bool b) := by
  obtain ⟨ρ, h1, h2, h3, h4, h5, h6, h7⟩ := h
  have hd : fr[d]? = some (.bool b) := by
    simp only [List.getD] at hb
    cases hx : fr[d]? with
    | none => simp [hx, unk] at hb
    | some v => simp [hx] at hb; rw [hb]
  have e : fr.set d (.bool b) = fr := by
    apply List.ext_getElem?; intro i
    by_cases hi : d = i
    · subst hi; rw [List.getElem?_set_self (lt_of_get hd), hd]
    · rw [List.getElem?_set_ne hi]
  rw [e]
  refine ⟨⟨ρ, h1, h2, h3, h4, h5, h6, h7⟩, ?_⟩
  obtain ⟨y, hy, hr⟩ := h2.2 d _ hd
  rw [hr.bool_inv] at hy
  simpa using hy

variable {R : Type}

/-- one operation, in the midst of others -/
theorem eop_stt {C : Callee} (hC : CSound P C) (hU : CUp C) {B : Base P} {nt : Nat} {o : Oper} {fr : List Value} {st : AS} {a : Act} {w : World} {k : Value → AS → Option R} {r : R} {next : Act → World → Prop} {Q : Exit → Act → World → Prop}
    (hs : Stt B nt fr st a w) (h : eop P C fr st o k = some r) (hk : ∀ v s a' w', k v s = some r → Stt B nt (setD fr o.dst v) s a' w' → next a' w') : o.wp P a w next Q := by
  obtain ⟨ρ, h1, h2, h3, h4, h5, h6, h7⟩ := hs
  refine eop_sound hC h2 h1 (eop_guard hU h) (fun v s cv w' hv ho => ?_)
  have hu : UpC st s := by
    by_cases hu : UpC st s
    · exact hu
    · rw [if_neg hu] at hv; simp at hv
  rw [if_pos hu] at hv
  exact hk v s _ w' hv (.step h1 h2 h3 h4 h5 h6 h7 ho hu)

theorem bcase_some {v : Value} {x y : Option R} {r : R} (h : bcase v x y = some r) : (v = .bool true ∧ x = some r) ∨ (v = .bool false ∧ y = some r) := by
  unfold bcase at h
  split at h
  · exact .inl ⟨rfl, h⟩
  · exact .inr ⟨rfl, h⟩
  · simp at h

theorem eops_sound {C : Callee} (hC : CSound P C) (hU : CUp C) {B : Base P} {nt : Nat} {ops : Array Oper} {chk : Nat → List Value → AS → Bool} {Q : Exit → Act → World → Prop} : ∀ (is sk : List Nat) (fr : List Value) (st : AS) (a : Act) (w : World) (k : List Value → AS → Option R) (r : R),
    Stt B nt fr st a w → eops P C ops chk is sk fr st k = some r → (∀ fr' st' a' w', Stt B nt fr' st' a' w' → k fr' st' = some r → Q .normal a' w') → wpOps P ops Q is a w
  | [], sk, fr, st, a, w, k, r, hs, h, hk => by simp only [eops] at h; exact hk _ _ _ _ hs h
  | i :: is, sk, fr, st, a, w, k, r, hs, h, hk => by
    simp only [eops] at h
    simp only [wpOps]
    cases ho : ops[i]? with
    | none => simp [ho] at h
    | some o =>
      simp only [ho] at h ⊢
      cases hg : o.guard with
      | none =>
        simp only [hg] at h
        have hw : Region.wanted o (yielded ops a.tmps) = true := by simp [Region.wanted, hg]
        rw [if_pos hw]
        exact .inl (eop_stt hC hU hs h (fun v s a' w' hv hs' => by
          rw [ite_some] at hv
          exact eops_sound hC hU is sk _ s a' w' k r hs' hv.2 hk))
      | some g =>
        obtain ⟨j, want⟩ := g
        simp only [hg] at h
        cases hd : (ops[j]?).bind (·.dst) with
        | none => simp [hd] at h
        | some d =>
          simp only [hd] at h
          have skip : ∀ (fr1 : List Value) (sk1 : List Nat), Stt B nt fr1 st a w → Region.wanted o (yielded ops a.tmps) = false → eops P C ops chk is sk1 (setD fr1 o.dst undef) st k = some r →
              (if Region.wanted o (yielded ops a.tmps) then o.wp P a w (wpOps P ops Q is) Q ∨ (o.asks P a w ∧ LetsOut Q) else wpOps P ops Q is (a.put o.dst undef) w) := by
            intro fr1 sk1 hs1 hw h1
            rw [hw]
            simp only [Bool.false_eq_true, if_false]
            exact eops_sound hC hU is sk1 _ st _ w k r (hs1.same rfl rfl) h1 hk
          have run : ∀ (fr1 : List Value), Stt B nt fr1 st a w → Region.wanted o (yielded ops a.tmps) = true → eop P C fr1 st o (fun v s => if chk i (setD fr1 o.dst v) s = true then eops P C ops chk is sk (setD fr1 o.dst v) s k else none) = some r →
              (if Region.wanted o (yielded ops a.tmps) then o.wp P a w (wpOps P ops Q is) Q ∨ (o.asks P a w ∧ LetsOut Q) else wpOps P ops Q is (a.put o.dst undef) w) := by
            intro fr1 hs1 hw h1
            rw [if_pos hw]
            exact .inl (eop_stt hC hU hs1 h1 (fun v s a' w' hv hs' => by
              rw [ite_some] at hv
              exact eops_sound hC hU is sk _ s a' w' k r hs' hv.2 hk))
          by_cases hsk : sk.contains j = true
          · rw [if_pos hsk] at h
            split at h
            · rename_i vs hv
              refine skip fr _ hs ?_ h
              obtain ⟨ρ, h1, h2, _⟩ := hs
              have hx := h2.getD d undef
              rw [hv] at hx
              obtain ⟨vs', hv', _⟩ := hx.tuple_inv
              have : yielded ops a.tmps j = none := by
                unfold yielded
                rw [hd]
                simp only [Option.bind_some]
                cases hq : a.tmps[d]? with
                | none => rfl
                | some u =>
                  have : a.tmps.toList.getD d undef = u := by simp [List.getD, hq]
                  rw [this] at hv'; subst hv'; rfl
              simp [Region.wanted, hg, this]
            · simp at h
          · rw [if_neg hsk] at h
            have yb : ∀ b, fr.getD d unk = .bool b → yielded ops a.tmps j = some b := by
              intro b hb
              have := (hs.known hb).2
              unfold yielded; rw [hd]; simp [this]
            rcases bcase_some h with ⟨hb, h⟩ | ⟨hb, h⟩
            · have hy := yb _ hb
              cases want with
              | true => exact run _ (hs.known hb).1 (by simp [Region.wanted, hg, hy]) (by simpa using h)
              | false => exact skip _ _ (hs.known hb).1 (by simp [Region.wanted, hg, hy]) (by simpa using h)
            · have hy := yb _ hb
              cases want with
              | true => exact skip _ _ (hs.known hb).1 (by simp [Region.wanted, hg, hy]) (by simpa using h)
              | false => exact run _ (hs.known hb).1 (by simp [Region.wanted, hg, hy]) (by simpa using h)

end
end Go.Am
