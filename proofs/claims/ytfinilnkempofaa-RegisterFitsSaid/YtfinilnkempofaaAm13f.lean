/- Regions with blocks that are made in no order with a call: what the machine says holds of every order. -/
import Derived.Test.YtfinilnkempofaaAm13e
set_option linter.all false
set_option linter.unusedVariables false
set_option linter.unusedSimpArgs false
set_option linter.unnecessarySimpa false
namespace Go.Am

section
variable {P : Program}

theorem lateK_congr {o : Oper} {fr fr' : List Value} (h : ∀ x ∈ o.op.operands, ev fr x = ev fr' x) : lateK P fr o = lateK P fr' o := by
  cases hop : o.op <;> simp only [hop, Op.operands] at h <;> simp only [lateK, hop]
  case makeMap t r => cases r <;> rfl
  case buildSlice t n ps =>
    have e : (ps.toList.map fun p => ev fr p.2) = (ps.toList.map fun p => ev fr' p.2) := List.map_congr_left fun p hm => by
      have : p.2 ∈ (ps.toList.map (·.2)).toArray := by simp only [List.mem_toArray, List.mem_map]; exact ⟨p, hm, rfl⟩
      exact h p.2 this
    rw [e]

theorem lateK_setD {ops : Array Oper} {o : Oper} {fr : List Value} {d : Option Tmp} {v : Value} (h : ∀ e, d = some e → e ∉ o.looksAt ops) : lateK P (setD fr d v) o = lateK P fr o := by
  cases d with
  | none => rfl
  | some e =>
    refine lateK_congr fun x hx => ev_setD fun he => h e rfl ?_
    subst he
    exact List.mem_append_left _ (List.mem_filterMap.2 ⟨.tmp e, by simpa using hx, rfl⟩)

theorem lateK_same {ops : Array Oper} {o : Oper} {fr fr' : List Value} (h : ∀ e ∈ o.looksAt ops, fr[e]? = fr'[e]?) : lateK P fr o = lateK P fr' o := by
  refine lateK_congr fun x hx => ?_
  cases x with
  | tmp e =>
    have := h e (List.mem_append_left _ (List.mem_filterMap.2 ⟨.tmp e, by simpa using hx, rfl⟩))
    simp [ev, List.getD, this]
  | _ => rfl

/-! ### What is made already, and not yet told -/

/-- a block that the model has made: the operation's number, and the block's -/
def Pend (P : Program) (B : Base P) (ops : Array Oper) (ρ : Ren) (fr : List Value) (H : List Blk) (a : Act) (w : World) (p : Nat × Nat) : Prop :=
  ∃ o kb mk d, ops[p.1]? = some o ∧ lateK P fr o = some (kb, mk) ∧ o.dst = some d ∧ d < a.tmps.size ∧ a.tmps[d]? = some (mk p.2) ∧ w.heap[p.2]? = some (objOf kb) ∧ B.w.heap.size ≤ p.2 ∧ ¬ Mapped ρ H p.2

structure SttL (P : Program) (B : Base P) (nt : Nat) (ops : Array Oper) (fr : List Value) (st : AS) (a : Act) (w : World) (pend : List (Nat × Nat)) : Prop where
  ex : ∃ ρ, (Rel P ρ st.H w ∧ LRel P ρ w.shape? fr a.tmps.toList ∧ Step B.H.length B.ρ B.H B.w ρ st.H w ∧ Up B.H st.H st.esc ∧ B.H.length ≤ st.H.length ∧ a.defers = [] ∧ fr.length = nt) ∧ ∀ p ∈ pend, Pend P B ops ρ fr st.H a w p
  nodup : (pend.map (·.2)).Nodup

theorem SttL.stt {B : Base P} {nt : Nat} {ops : Array Oper} {fr : List Value} {st : AS} {a : Act} {w : World} {pend : List (Nat × Nat)} (h : SttL P B nt ops fr st a w pend) : Stt B nt fr st a w := by
  obtain ⟨⟨ρ, h1, _⟩, _⟩ := h
  exact ⟨ρ, h1⟩

theorem SttL.of {B : Base P} {nt : Nat} {ops : Array Oper} {fr : List Value} {st : AS} {a : Act} {w : World} (h : Stt B nt fr st a w) : SttL P B nt ops fr st a w [] := by
  obtain ⟨ρ, h1⟩ := h
  exact ⟨⟨ρ, h1, fun p hp => by simp at hp⟩, by simp⟩

theorem tmps_put_ne {a : Act} {x : Option Tmp} {v : Value} {d : Nat} (h : x ≠ some d) : (a.put x v).tmps[d]? = a.tmps[d]? ∧ (a.put x v).tmps.size = a.tmps.size := by
  cases x with
  | none => exact ⟨rfl, rfl⟩
  | some e =>
    have hne : e ≠ d := fun he => h (he ▸ rfl)
    simp [Act.put, Array.getElem?_setIfInBounds_ne hne]

/-- what is pending stays so beside another operation -/
theorem Pend.step {B : Base P} {ops : Array Oper} {ρ ρ' : Ren} {fr : List Value} {H H' : List Blk} {a : Act} {w w' : World} {p : Nat × Nat} {o : Oper} {v cv : Value} {n : Nat} (h : Pend P B ops ρ fr H a w p)
    (hap : ∀ u, ops[p.1]? = some u → o.dst ≠ u.dst ∧ ∀ e, o.dst = some e → e ∉ u.looksAt ops) (hs : Step n ρ H w ρ' H' w') : Pend P B ops ρ' (setD fr o.dst v) H' (a.put o.dst cv) w' p := by
  obtain ⟨u, kb, mk, d, h1, h2, h3, h4, h5, h6, h7, h8⟩ := h
  obtain ⟨q1, q2⟩ := hap u h1
  have hne : o.dst ≠ some d := by rw [← h3]; exact q1
  obtain ⟨t1, t2⟩ := tmps_put_ne (a := a) (v := cv) hne
  have hlt := lt_of_getA h6
  refine ⟨u, kb, mk, d, h1, by rw [lateK_setD q2]; exact h2, h3, by rw [t2]; exact h4, by rw [t1]; exact h5, ?_, h7, fun hm => h8 (hs.old _ hlt hm)⟩
  rw [hs.keep _ hlt (fun ho => h8 (.inl ?_))]
  · exact h6
  · obtain ⟨b, k, x, g1, g2, g3⟩ := ho
    exact ⟨b, k, x, g1, by cases k <;> simp_all [Blk.owns, Blk.live], g3⟩

/-- an operation that is not late, in the midst of others -/
theorem ADo.wpOpL {C : Callee} (hC : CSound P C) (hU : CUp C) {B : Base P} {nt : Nat} {ops : Array Oper} {Q : Exit → Act → World → Prop} {i : Nat} {o : Oper} {fr : List Value} {st s : AS} {v : Value} {a : Act} {w : World} {K : Act → World → Prop} {pend : List (Nat × Nat)}
    (hi : ops[i]? = some o) (hs : SttL P B nt ops fr st a w pend) (h : ADo P C ops fr st o v s) (hap : ∀ p ∈ pend, ∀ u, ops[p.1]? = some u → o.dst ≠ u.dst ∧ ∀ e, o.dst = some e → e ∉ u.looksAt ops)
    (hk : ∀ a' w', SttL P B nt ops (setD fr o.dst v) s a' w' pend → K a' w') : Go.wpOp P ops Q i K a w := by
  obtain ⟨⟨ρ, hst, hp⟩, hnd⟩ := hs
  unfold Go.wpOp
  simp only [hi]
  rcases h with ⟨hw, hr⟩ | ⟨hw, rfl, rfl⟩
  · have := wantedA_spec ⟨ρ, hst⟩ hw
    rw [if_pos this]
    obtain ⟨h1, h2, h3, h4, h5, h6, h7⟩ := hst
    classical
    have he : eop P C fr st o (fun v' s' => if v' = v ∧ s' = s then some () else none) = some () := by rw [hr]; simp
    refine .inl (eop_sound hC h2 h1 (eop_guard hU he) (fun v' s' cv w' hv ho => ?_))
    have hu : UpC st s' := by
      by_cases hu : UpC st s'
      · exact hu
      · rw [if_neg hu] at hv; simp at hv
    rw [if_pos hu] at hv
    have : v' = v ∧ s' = s := by
      by_cases hx : v' = v ∧ s' = s
      · exact hx
      · rw [if_neg hx] at hv; simp at hv
    obtain ⟨rfl, rfl⟩ := this
    obtain ⟨⟨ρ', g1, g2, g3⟩, g4⟩ := ho
    refine hk _ _ ⟨⟨ρ', ⟨g1, ?_, h3.trans (g2.less h5), h4.step h5 hu.1 hu.2.1, Nat.le_trans h5 g4, by rw [put_defers]; exact h6, by rw [setD_length]; exact h7⟩, fun p hm => (hp p hm).step (hap p hm) g2⟩, hnd⟩
    rw [put_tmps]
    exact setD_rel (h2.mono g2.fz (rho_mono h1 g2) g2.shape) g3
  · have := wantedA_spec ⟨ρ, hst⟩ hw
    rw [this]
    simp only [Bool.false_eq_true, if_false]
    obtain ⟨h1, h2, h3, h4, h5, h6, h7⟩ := hst
    refine hk _ _ ⟨⟨ρ, ⟨h1, by rw [put_tmps]; exact setD_rel h2 (.same _ rfl), h3, h4, h5, by rw [put_defers]; exact h6, by rw [setD_length]; exact h7⟩, fun p hm => (hp p hm).step (hap p hm) (.refl 0)⟩, hnd⟩

theorem Rel.alloc_bare {ρ : Ren} {H : List Blk} {w : World} (h : Rel P ρ H w) (o : Obj) : Rel P ρ H (w.alloc o) ∧ Step H.length ρ H w ρ H (w.alloc o) :=
  ⟨⟨fun b k hb hl => by
      obtain ⟨cb, base, o', h1, h2, h3⟩ := h.blk b k hb hl
      exact ⟨cb, base, o', h1, by rw [heap_alloc_old _ _ (lt_of_getA h2)]; exact h2, h3.mono (fun _ _ h => h) (fun _ _ h => h) (shape_alloc w o)⟩,
    h.uniq, h.dom, fun cb c hc => by
      obtain ⟨⟨e, fz, h1⟩, h2⟩ := h.frozen cb c hc
      exact ⟨⟨e, fz, by rw [heap_alloc_old _ _ (lt_of_getA h1)]; exact h1⟩, h2⟩⟩,
   ⟨fun _ _ => rfl, shape_alloc w o, by rw [World.size_alloc]; omega, fun cb hc _ => heap_alloc_old w o hc, fun _ _ h => h, rfl, rfl, fun _ _ h => h, fun _ _ h => h⟩⟩

/-- one more is pending -/
theorem late_wpOp {B : Base P} {nt : Nat} {ops : Array Oper} {Q : Exit → Act → World → Prop} {i d : Nat} {o : Oper} {fr : List Value} {st : AS} {kb : Blk} {mk : Nat → Value} {a : Act} {w : World} {K : Act → World → Prop} {pend : List (Nat × Nat)}
    (hi : ops[i]? = some o) (hg : o.guard = none) (hd : o.dst = some d) (hself : d ∉ o.looksAt ops) (hs : SttL P B nt ops fr st a w pend) (hl : lateK P fr o = some (kb, mk)) (hdl : d < nt)
    (hap : ∀ p ∈ pend, ∀ u, ops[p.1]? = some u → o.dst ≠ u.dst ∧ ∀ e, o.dst = some e → e ∉ u.looksAt ops)
    (hk : ∀ a' w', SttL P B nt ops (setD fr o.dst unk) st a' w' ((i, w.heap.size) :: pend) → K a' w') : Go.wpOp P ops Q i K a w := by
  obtain ⟨⟨ρ, ⟨h1, h2, h3, h4, h5, h6, h7⟩, hp⟩, hnd⟩ := hs
  unfold Go.wpOp
  simp only [hi]
  have hw : Region.wanted o (yielded ops a.tmps) = true := by simp [Region.wanted, hg]
  rw [if_pos hw]
  have hF := lateK_fine hl
  obtain ⟨r1, r2⟩ := h1.alloc_bare (objOf kb)
  have hsz : d < a.tmps.size := by have := h2.1; simp at this; omega
  refine .inl (wp_of_value (lateK_run hl h2) (hk _ _ ⟨⟨ρ, ⟨r1, ?_, h3.trans (r2.less h5), h4, h5, by rw [put_defers]; exact h6, by rw [setD_length]; exact h7⟩, fun p hm => ?_⟩, ?_⟩))
  · rw [put_tmps]
    exact setD_rel (h2.mono r2.fz (fun _ _ h => h) r2.shape) (.any _)
  · rcases List.mem_cons.1 hm with rfl | hm
    · refine ⟨o, kb, mk, d, hi, ?_, hd, ?_, ?_, heap_alloc_new _ _, h3.size, fun hmap => ?_⟩
      · rw [lateK_setD (ops := ops) (fun e he => by rw [hd] at he; simp at he; subst he; exact hself)]; exact hl
      · simp [Act.put, hd, hsz]
      · simp [Act.put, hd, hsz]
      · rcases hmap with ⟨b, k, x, g1, g2, g3⟩ | ⟨c, hc⟩
        · obtain ⟨cb, base, o', e1, e2, _⟩ := h1.blk b k g1 g2
          rw [g3] at e1
          simp at e1
          have := lt_of_getA e2
          omega
        · obtain ⟨⟨e, fz, e1⟩, _⟩ := h1.frozen _ c hc
          have := lt_of_getA e1
          omega
    · exact (hp p hm).step (hap p hm) r2
  · simp only [List.map_cons, List.nodup_cons]
    refine ⟨fun hm => ?_, hnd⟩
    obtain ⟨p, hpm, hpe⟩ := List.mem_map.1 hm
    obtain ⟨_, _, _, _, _, _, _, _, _, g6, _, _⟩ := hp p hpm
    have := lt_of_getA g6
    omega

/-! ### They are told -/

/-- what stands of late operations, one to another -/
def LApart (ops : Array Oper) (l : List Nat) : Prop := ∀ i ∈ l, ∀ j ∈ l, ∀ u o, ops[i]? = some u → ops[j]? = some o → (i ≠ j → o.dst ≠ u.dst) ∧ ∀ e, o.dst = some e → e ∉ u.looksAt ops

theorem tell_one {B : Base P} {nt : Nat} {ops : Array Oper} {fr : List Value} {st : AS} {a : Act} {w : World} {pend : List (Nat × Nat)} {i cb : Nat} {o : Oper} {kb : Blk} {mk : Nat → Value}
    (hs : SttL P B nt ops fr st a w ((i, cb) :: pend)) (ho : ops[i]? = some o) (hl : lateK P fr o = some (kb, mk))
    (hap : ∀ p ∈ pend, ∀ u, ops[p.1]? = some u → o.dst ≠ u.dst ∧ ∀ e, o.dst = some e → e ∉ u.looksAt ops) (hu : UpC st (newBlk st kb)) :
    SttL P B nt ops (setD fr o.dst (mk st.H.length)) (newBlk st kb) a w pend := by
  obtain ⟨⟨ρ, ⟨h1, h2, h3, h4, h5, h6, h7⟩, hp⟩, hnd⟩ := hs
  obtain ⟨o', kb', mk', d, g1, g2, g3, g4, g5, g6, g7, g8⟩ := hp (i, cb) (by simp)
  rw [ho] at g1; simp at g1; subst g1
  rw [hl] at g2; simp at g2; obtain ⟨rfl, rfl⟩ := g2
  have hF := lateK_fine hl
  have hd0 : ρ st.H.length = none := h1.dom _ (Nat.le_refl _)
  have hlive : kb.live = true := by have := hF.owns; cases kb <;> simp_all [Blk.owns, Blk.live]
  have hold : ∀ {b : Nat} {k' : Blk}, (st.H ++ [kb])[b]? = some k' → b ≠ st.H.length → st.H[b]? = some k' ∧ upd ρ st.H.length (cb, 0) b = ρ b := by
    intro b k' hk hne
    have hlt : b < st.H.length := by have := lt_of_get hk; simp at this; omega
    rw [List.getElem?_append_left hlt] at hk
    exact ⟨hk, by simp [upd, hne]⟩
  have hnew : ∀ {k' : Blk}, (st.H ++ [kb])[st.H.length]? = some k' → k' = kb := by
    intro k' hk; rw [List.getElem?_append_right (Nat.le_refl _)] at hk; simp at hk; exact hk.symm
  have hol : ∀ {k : Blk}, k.owns = true → k.live = true := by intro k; cases k <;> simp [Blk.owns, Blk.live]
  have hr1 : Rel P (upd ρ st.H.length (cb, 0)) (st.H ++ [kb]) w := by
    refine ⟨fun b k hb hlv => ?_, fun b b' k k' hk hk' ho1 hlv hne x y z hx hy => ?_, fun b hb => ?_, fun x c hc => ?_⟩
    · by_cases hbe : b = st.H.length
      · subst hbe
        have := hnew hb; subst this
        exact ⟨cb, 0, objOf k, upd_self _ _ _, g6, hF.brel _ _⟩
      · obtain ⟨e1, e2⟩ := hold hb hbe
        obtain ⟨x, base, o', q1, q2, q3⟩ := h1.blk b k e1 hlv
        exact ⟨x, base, o', by rw [e2]; exact q1, q2, q3.mono (fun _ _ h => h) (upd_mono hd0) (fun _ _ h => h)⟩
    · by_cases hbe : b = st.H.length
      · subst hbe
        by_cases hbe' : b' = st.H.length
        · exact hne hbe'.symm
        · obtain ⟨e1, e2⟩ := hold hk' hbe'
          rw [upd_self] at hx; simp at hx
          rw [e2] at hy
          obtain ⟨hx1, _⟩ := hx
          subst hx1
          exact g8 (.inl ⟨b', k', _, e1, hlv, hy⟩)
      · obtain ⟨e1, e2⟩ := hold hk hbe
        rw [e2] at hx
        by_cases hbe' : b' = st.H.length
        · subst hbe'
          rw [upd_self] at hy; simp at hy
          obtain ⟨hy1, _⟩ := hy
          subst hy1
          exact g8 (.inl ⟨b, k, _, e1, hol ho1, hx⟩)
        · obtain ⟨e3, e4⟩ := hold hk' hbe'
          rw [e4] at hy
          exact h1.uniq b b' k k' e1 e3 ho1 hlv hne x y z hx hy
    · have hbe : b ≠ st.H.length := by simp at hb; omega
      simp [upd, hbe]; exact h1.dom b (by simp at hb; omega)
    · obtain ⟨e1, e2⟩ := h1.frozen x c hc
      refine ⟨e1, fun hown => ?_⟩
      obtain ⟨b, k, y, q1, q2, q3⟩ := hown
      by_cases hbe : b = st.H.length
      · subst hbe
        rw [upd_self] at q3; simp at q3
        obtain ⟨rfl, _⟩ := q3
        exact g8 (.inr ⟨c, hc⟩)
      · obtain ⟨q4, q5⟩ := hold q1 hbe
        exact e2 ⟨b, k, y, q4, q2, by rw [← q5]; exact q3⟩
  have hmap : ∀ x, Mapped (upd ρ st.H.length (cb, 0)) (st.H ++ [kb]) x → x = cb ∨ Mapped ρ st.H x := by
    intro x hx
    rcases hx with ⟨b, k, y, q1, q2, q3⟩ | ⟨c, hc⟩
    · by_cases hbe : b = st.H.length
      · subst hbe
        rw [upd_self] at q3; simp at q3
        exact .inl q3.1.symm
      · obtain ⟨q4, q5⟩ := hold q1 hbe
        exact .inr (.inl ⟨b, k, y, q4, q2, by rw [← q5]; exact q3⟩)
    · exact .inr (.inr ⟨c, hc⟩)
  have hs1 : Step B.H.length B.ρ B.H B.w (upd ρ st.H.length (cb, 0)) (st.H ++ [kb]) w := by
    refine ⟨fun b hb => ?_, h3.shape, h3.size, h3.keep, fun x hx ho => ?_, h3.os, h3.output, h3.fz, fun x hx hm => ?_⟩
    · have : b ≠ st.H.length := by omega
      simp [upd, this]; exact h3.ext b hb
    · refine h3.own x hx ?_
      obtain ⟨b, k, y, q1, q2, q3⟩ := ho
      by_cases hbe : b = st.H.length
      · subst hbe
        rw [upd_self] at q3; simp at q3
        omega
      · obtain ⟨q4, q5⟩ := hold q1 hbe
        exact ⟨b, k, y, q4, q2, by rw [← q5]; exact q3⟩
    · rcases hmap x hm with rfl | hm
      · omega
      · exact h3.old x hx hm
  have hmono : LRel P (upd ρ st.H.length (cb, 0)) w.shape? fr a.tmps.toList := h2.mono (fun _ _ h => h) (upd_mono hd0) (fun _ _ h => h)
  refine ⟨⟨upd ρ st.H.length (cb, 0), ⟨hr1, ?_, hs1, h4.step h5 hu.1 hu.2.1, Nat.le_trans h5 hu.2.2, h6, by rw [setD_length]; exact h7⟩, fun p hm => ?_⟩, ?_⟩
  · rw [g3]
    refine ⟨by simpa [setD] using hmono.1, fun j v hv => ?_⟩
    by_cases hj : d = j
    · subst hj
      simp only [setD] at hv
      have hlt := lt_of_get hv
      rw [List.getElem?_set_self (by simpa using hlt)] at hv
      simp at hv; subst hv
      exact ⟨mk cb, by simpa using g5, hF.vrel _ _ _ _ (upd_self _ _ _)⟩
    · simp only [setD, List.getElem?_set_ne hj] at hv
      exact hmono.2 j v hv
  · obtain ⟨u, kb', mk', d', q1, q2, q3, q4, q5, q6, q7, q8⟩ := hp p (by simp [hm])
    obtain ⟨_, x2⟩ := hap p hm u q1
    refine ⟨u, kb', mk', d', q1, by rw [lateK_setD x2]; exact q2, q3, q4, q5, q6, q7, fun hmm => ?_⟩
    rcases hmap _ hmm with he | hmm
    · simp only [List.map_cons, List.nodup_cons] at hnd
      exact hnd.1 (List.mem_map.2 ⟨p, hm, he⟩)
    · exact q8 hmm
  · simp only [List.map_cons, List.nodup_cons] at hnd
    exact hnd.2

theorem SttL.perm {B : Base P} {nt : Nat} {ops : Array Oper} {fr : List Value} {st : AS} {a : Act} {w : World} {p q : List (Nat × Nat)} (h : SttL P B nt ops fr st a w p) (hp : p.Perm q) : SttL P B nt ops fr st a w q := by
  obtain ⟨⟨ρ, h1, h2⟩, h3⟩ := h
  exact ⟨⟨ρ, h1, fun x hx => h2 x (hp.mem_iff.2 hx)⟩, (hp.map _).nodup_iff.1 h3⟩

/-- all that is pending is told -/
theorem tell_all {R : Type} {C : Callee} (hU : CUp C) {B : Base P} {nt : Nat} {ops : Array Oper} : ∀ (l : List Nat) (fr : List Value) (st : AS) (a : Act) (w : World) (pend : List (Nat × Nat)) (k : List Value → AS → Option R) (r : R),
    LApart ops l → l.Nodup → (pend.map (·.1)).Perm l → SttL P B nt ops fr st a w pend → eopsLate P C ops l fr st k = some r → ∃ fr' st', Stt B nt fr' st' a w ∧ k fr' st' = some r
  | [], fr, st, a, w, pend, k, r, _, _, hp, hs, h => ⟨fr, st, hs.stt, h⟩
  | i :: is, fr, st, a, w, pend, k, r, ha, hnd, hp, hs, h => by
    simp only [eopsLate] at h
    cases ho : ops[i]? with
    | none => simp [ho] at h
    | some o =>
      simp only [ho] at h
      rw [ite_some] at h
      obtain ⟨hok, h⟩ := h
      obtain ⟨kb, mk, hl, h9⟩ := lateOk_eop hok h
      have hu : UpC st (newBlk st kb) := by
        have := eop_guard hU h
        obtain ⟨kb', mk', hl', h'⟩ := lateOk_eop hok this
        rw [hl] at hl'; simp at hl'; obtain ⟨rfl, rfl⟩ := hl'
        by_cases hu : UpC st (newBlk st kb)
        · exact hu
        · rw [if_neg hu] at h'; simp at h'
      have hm : i ∈ pend.map (·.1) := hp.mem_iff.2 (by simp)
      obtain ⟨⟨j, cb⟩, hpm, hpe⟩ := List.mem_map.1 hm
      simp only at hpe; subst hpe
      have hperm := List.perm_cons_erase hpm
      have hpp : ((pend.erase (j, cb)).map (·.1)).Perm is := by
        have h1 := (hperm.map (·.1)).symm.trans hp
        simpa using h1
      have hs' := hs.perm hperm
      have hin : ∀ p ∈ pend.erase (j, cb), p.1 ∈ is := fun p hp => hpp.mem_iff.1 (List.mem_map.2 ⟨p, hp, rfl⟩)
      simp only [List.nodup_cons] at hnd
      have := tell_one hs' ho hl (fun p hp u hu => by
        have h1 := hin p hp
        obtain ⟨x1, x2⟩ := ha p.1 (by simp [h1]) j (by simp) u o hu ho
        exact ⟨x1 (fun he => hnd.1 (he ▸ h1)), x2⟩) hu
      exact tell_all hU is _ _ a w _ k r (fun i' hi' j' hj' => ha i' (by simp [hi']) j' (by simp [hj'])) hnd.2 hpp this h9

/-! ### All orders -/

theorem listedBy_get {n : Nat} {p : Nat → Bool} {i : Nat} (d : Bool) : (listedBy n p).getD i d = if i < n then p i else d := by
  unfold listedBy
  by_cases h : i < n
  · simp [Array.getD, h]
  · simp [Array.getD, h]

theorem holdOps_size (ops : Array Oper) (l : List Nat) : (holdOps ops l).size = ops.size := by simp [holdOps]

theorem holdOps_get {ops : Array Oper} {l : List Nat} {i : Nat} {o : Oper} (h : ops[i]? = some o) : (holdOps ops l)[i]? = some (if l.contains i = true then { o with op := .move (.global 0) } else if restB ops l i = true then { o with op := .move (.global 0), dst := none, after := #[], guard := none } else o) := by
  have hlt := lt_of_getA h
  have ho : ops[i] = o := by rw [Array.getElem?_eq_getElem hlt] at h; simpa using h
  subst ho
  unfold holdOps
  simp [hlt]

theorem holdOps_none {ops : Array Oper} {l : List Nat} {i : Nat} (h : ops[i]? = none) : (holdOps ops l)[i]? = none := by
  rw [Array.getElem?_eq_none_iff] at h ⊢
  rw [holdOps_size]; exact h

/-- what an order lists is all listed when nothing is ready -/
theorem ready_nil_all {ops : Array Oper} : ∀ (ord : List Nat) (l0 listed : Array Bool), drawOk P ops ord l0 = true → l0.size = ops.size → listed.size = ops.size → (∀ k, l0.getD k false = true → listed.getD k false = true) → Region.ready .any ops listed = [] → ∀ i, i < ops.size → listed.getD i true = true
  | [], l0, listed, h, hz0, hsz, hle, hr, i, hi => by
    simp only [drawOk, List.all_eq_true] at h
    have h1 := h i (by simpa using hi)
    by_cases hl : listed.getD i true = true
    · exact hl
    · have : listed.getD i true = false := by simpa using hl
      have h2 := getD_tf this
      have h3 : l0.getD i false = true := by
        have h4 : i < l0.size := by omega
        simpa [Array.getD, h4] using h1
      rw [hle i h3] at h2; simp at h2
  | j :: js, l0, listed, h, hz0, hsz, hle, hr, i, hi => by
    simp only [drawOk, Bool.and_eq_true] at h
    obtain ⟨h1, h2⟩ := h
    cases ho : ops[j]? with
    | none => simp [ho] at h1
    | some o =>
      simp only [ho, Bool.and_eq_true] at h1
      have hrd := ready_of_B.1 h1.1
      obtain ⟨q1, o', q2, q3⟩ := mem_ready.1 hrd
      have hjl : listed.getD j true = true := by
        by_cases hl : listed.getD j true = true
        · exact hl
        · have hx : j ∈ Region.ready .any ops listed := mem_ready.2 ⟨by simpa using hl, o', q2, fun e he hb => hle _ (q3 e he hb)⟩
          rw [hr] at hx; simp at hx
      refine ready_nil_all js (l0.setIfInBounds j true) listed h2 (by simpa using hz0) hsz (fun k hk => ?_) hr i hi
      by_cases hkj : k = j
      · subst hkj
        have hlt := lt_of_getA ho
        have : k < listed.size := by omega
        simpa [Array.getD, this] using hjl
      · exact hle k (listed_ne hk hkj)

/-- from anywhere some way leads to the end, and leaves the slots that nothing writes any more -/
theorem AG.path {C : Callee} {ops : Array Oper} {K : List Value → AS → Prop} : ∀ (n : Nat) (listed : Array Bool) (fr : List Value) (st : AS), AG P C ops K n listed fr st →
    ∃ fr' st', K fr' st' ∧ ∀ d, (∀ j o, ops[j]? = some o → listed.getD j true = false → o.dst ≠ some d) → fr'[d]? = fr[d]?
  | 0, listed, fr, st, h => ⟨fr, st, h.2, fun _ _ => rfl⟩
  | n + 1, listed, fr, st, h => by
    cases hr : Region.ready .any ops listed with
    | nil => exact ⟨fr, st, h.1 hr, fun _ _ => rfl⟩
    | cons i is =>
      have hi : i ∈ Region.ready .any ops listed := by rw [hr]; simp
      obtain ⟨o, v, s, ho, _, _, _, hn⟩ := h.2 i hi
      obtain ⟨fr', st', h1, h2⟩ := AG.path n _ _ _ hn
      refine ⟨fr', st', h1, fun d hd => ?_⟩
      rw [h2 d (fun j u hu hl => hd j u hu ?_), getQ_setD_ne (hd i o ho (mem_ready.1 hi).1)]
      by_cases hji : i = j
      · subst hji
        exact (mem_ready.1 hi).1
      · rwa [getD_set_ne true hji] at hl

/-- what a late plan has been asked for -/
structure LateOkP (P : Program) (ops : Array Oper) (l : List Nat) : Prop where
  late : ∀ i ∈ l, ∃ o d, ops[i]? = some o ∧ o.guard = none ∧ o.dst = some d ∧ ∀ j, j < ops.size → restB ops l j = false → ∀ u, ops[j]? = some u → (j ≠ i → u.dst ≠ some d) ∧ (anc ops ops.size i j = true ∨ ∀ e, u.dst = some e → e ∉ o.looksAt ops)
  rest : ∀ j i, j < ops.size → i < ops.size → restB ops l j = true → restB ops l i = false → anc ops ops.size j i = true
  apart : ∀ i ∈ l, ∀ j ∈ l, anc ops ops.size i j = false
  down : ∀ j o, restB ops l j = false → ops[j]? = some o → ∀ e ∈ o.after, Region.binds .any e = true → e.on < ops.size ∧ restB ops l e.on = false

theorem lateFine_spec {ops : Array Oper} {l : List Nat} (h : lateFine P ops l = true) : LateOkP P ops l := by
  unfold lateFine at h
  simp only [Bool.and_eq_true, List.all_eq_true, List.mem_range] at h
  obtain ⟨⟨⟨h1, h2⟩, h0⟩, h3⟩ := h
  refine ⟨fun i hi => ?_, fun j i hj hi hr hn => ?_, fun i hi j hj => by simpa using h0 i hi j hj, fun j o hn ho e he hb => ?_⟩
  · have := h1 i hi
    split at this
    · rename_i o ho
      simp only [Bool.and_eq_true, Option.isNone_iff_eq_none] at this
      obtain ⟨hg, this⟩ := this
      split at this
      · rename_i d hd
        refine ⟨o, d, ho, hg, hd, fun j hj hn u hu => ?_⟩
        rw [List.all_eq_true] at this
        have := this j (by simpa using hj)
        simp only [hn, hu, Bool.false_or, Bool.and_eq_true, Bool.or_eq_true, bne_iff_ne, ne_eq, beq_iff_eq] at this
        refine ⟨fun hne => this.1.resolve_right hne, ?_⟩
        rcases this.2 with h5 | h5
        · exact .inl h5
        · refine .inr fun e he => ?_
          rw [he] at h5
          simpa using h5
      · simp at this
    · simp at this
  · have := h2 j hj i hi
    simpa [hr, hn] using this
  · have := h3 j (lt_of_getA ho)
    simp only [hn, ho, Bool.false_or] at this
    have := Array.all_eq_true'.1 this e he
    simpa [hb] using this

/-- the abstract play and the model's, till all has come that waits for no late one -/
theorem late_link {C : Callee} (hC : CSound P C) (hU : CUp C) {B : Base P} {nt : Nat} {ops : Array Oper} {l : List Nat} (hL : LateOkP P ops l) (hnd : l.Nodup) (hnr : ∀ i ∈ l, restB ops l i = false) {ord1 : List Nat} {Q : Exit → Act → World → Prop} {K1 : List Value → AS → Prop} {m : Nat}
    (hord : drawOk P (holdOps ops l) ord1 (listedBy ops.size (restB ops l)) = true)
    (hdst : ∀ i ∈ l, ∀ o d, ops[i]? = some o → o.dst = some d → d < nt)
    (hKl : ∀ fr st, K1 fr st → ∀ i ∈ l, ∀ o, ops[i]? = some o → ∃ kb mk, lateK P fr o = some (kb, mk))
    (hK : ∀ n fr st a w pend, SttL P B nt ops fr st a w pend → (pend.map (·.1)).Perm l → K1 fr st → m ≤ n → wpAny P .any ops Q n (listedBy ops.size fun i => !restB ops l i) a w) :
    ∀ (n : Nat) (listedA listedC : Array Bool) (fr : List Value) (st : AS) (a : Act) (w : World) (pend : List (Nat × Nat)),
      listedA.size = ops.size → listedC.size = ops.size → (∀ i, i < ops.size → listedA.getD i false = (listedC.getD i false || restB ops l i)) → (∀ i, restB ops l i = true → listedC.getD i false = false) → Down ops listedC →
      SttL P B nt ops fr st a w pend → (pend.map (·.1)).Nodup → (∀ i, i ∈ pend.map (·.1) ↔ i ∈ l ∧ listedC.getD i false = true) → AG P C (holdOps ops l) K1 n listedA fr st → wpAny P .any ops Q (n + m) listedC a w := by
  have hCs := hC
  have hlt : ∀ {i : Nat}, i ∈ l → i < ops.size := fun hi => by
    obtain ⟨o, d, ho, _⟩ := hL.late _ hi
    exact lt_of_getA ho
  -- when nothing more is ready
  have switch : ∀ (listedA listedC : Array Bool) (fr : List Value) (st : AS) (a : Act) (w : World) (pend : List (Nat × Nat)) (n : Nat), listedA.size = ops.size → listedC.size = ops.size → (∀ i, i < ops.size → listedA.getD i false = (listedC.getD i false || restB ops l i)) → (∀ i, restB ops l i = true → listedC.getD i false = false) →
      SttL P B nt ops fr st a w pend → (pend.map (·.1)).Nodup → (∀ i, i ∈ pend.map (·.1) ↔ i ∈ l ∧ listedC.getD i false = true) → Region.ready .any (holdOps ops l) listedA = [] → K1 fr st → m ≤ n → wpAny P .any ops Q n listedC a w := by
    intro listedA listedC fr st a w pend n hA hC hAC hR hs hpn hpm hr hk hmn
    have hall := ready_nil_all ord1 _ listedA hord (by simp [listedBy, holdOps_size]) (by rw [holdOps_size]; exact hA) (fun k hk => by
      rw [listedBy_get] at hk
      split at hk
      · rename_i hlt; rw [hAC k hlt, hk]; simp
      · simp at hk) hr
    rw [holdOps_size] at hall
    have hCt : ∀ i, i < ops.size → restB ops l i = false → listedC.getD i false = true := by
      intro i hi hn
      have h1 := hall i hi
      have h2 : listedA.getD i false = true := by
        have : i < listedA.size := by omega
        simpa [Array.getD, this] using h1
      rw [hAC i hi, hn] at h2
      simpa using h2
    have he : listedC = listedBy ops.size fun i => !restB ops l i := by
      apply Array.ext_getElem?
      intro i
      by_cases hi : i < ops.size
      · have h1 : listedC[i]? = some (listedC.getD i false) := by
          have : i < listedC.size := by omega
          simp [Array.getD, this]
        have h2 : (listedBy ops.size fun i => !restB ops l i)[i]? = some (!restB ops l i) := by simp [listedBy, hi]
        rw [h1, h2]
        cases hn : restB ops l i with
        | false => rw [hCt i hi hn]; rfl
        | true => rw [hR i hn]; rfl
      · rw [Array.getElem?_eq_none (by omega), Array.getElem?_eq_none (by simp [listedBy]; omega)]
    rw [he]
    refine hK n fr st a w pend hs ?_ hk hmn
    rw [List.perm_ext_iff_of_nodup hpn hnd]
    intro i
    rw [hpm i]
    exact ⟨fun h => h.1, fun h => ⟨h, hCt i (hlt h) (hnr i h)⟩⟩
  intro n
  induction n with
  | zero =>
    intro listedA listedC fr st a w pend hA hC hAC hR hD hs hpn hpm h
    exact switch listedA listedC fr st a w pend (0 + m) hA hC hAC hR hs hpn hpm h.1 h.2 (by omega)
  | succ n ih =>
    intro listedA listedC fr st a w pend hA hC hAC hR hD hs hpn hpm h
    by_cases hr : Region.ready .any (holdOps ops l) listedA = []
    · exact switch listedA listedC fr st a w pend (n + 1 + m) hA hC hAC hR hs hpn hpm hr (h.1 hr) (by omega)
    -- what the abstract play says of those that can come
    have unA : ∀ {i : Nat}, listedA.getD i true = false → i < ops.size ∧ listedC.getD i false = false ∧ restB ops l i = false := by
      intro i hi
      have hlt : i < ops.size := by
        by_cases hx : i < ops.size
        · exact hx
        · have : ¬ i < listedA.size := by omega
          simp [Array.getD, this] at hi
      have h2 := getD_tf hi
      rw [hAC i hlt] at h2
      simp only [Bool.or_eq_false_iff] at h2
      exact ⟨hlt, h2.1, h2.2⟩
    have tfC : ∀ {i : Nat}, i < ops.size → listedC.getD i false = false → listedC.getD i true = false := by
      intro i hi h
      have : i < listedC.size := by omega
      simpa [Array.getD, this] using h
    have aft : ∀ {i : Nat} {o : Oper}, ops[i]? = some o → restB ops l i = false → ∃ o', (holdOps ops l)[i]? = some o' ∧ o'.after = o.after := by
      intro i o ho hn
      refine ⟨_, holdOps_get ho, ?_⟩
      rw [hn]
      by_cases hc : l.contains i = true
      · rw [if_pos hc]
      · rw [if_neg hc]; rfl
    have toC : ∀ {i : Nat}, i ∈ Region.ready .any (holdOps ops l) listedA → i ∈ Region.ready .any ops listedC := by
      intro i hi
      obtain ⟨h1, o', h2, h3⟩ := mem_ready.1 hi
      obtain ⟨q1, q2, q3⟩ := unA h1
      obtain ⟨o, ho⟩ : ∃ o, ops[i]? = some o := ⟨ops[i], Array.getElem?_eq_getElem q1⟩
      obtain ⟨o2, ho2, ha⟩ := aft ho q3
      rw [h2] at ho2; simp at ho2; subst ho2
      refine mem_ready.2 ⟨tfC q1 q2, o, ho, fun e he hb => ?_⟩
      obtain ⟨x1, x2⟩ := hL.down i o q3 ho e he hb
      have := h3 e (by rw [ha]; exact he) hb
      rw [hAC _ x1, x2] at this
      simpa using this
    obtain ⟨i0, hi0⟩ := List.exists_mem_of_ne_nil _ hr
    have toA : ∀ {i : Nat}, i ∈ Region.ready .any ops listedC → i ∈ Region.ready .any (holdOps ops l) listedA := by
      intro i hi
      obtain ⟨h1, o, ho, h3⟩ := mem_ready.1 hi
      have hil := lt_of_getA ho
      have hn : restB ops l i = false := by
        cases hn : restB ops l i with
        | false => rfl
        | true =>
          obtain ⟨q1, q2, q3⟩ := unA (mem_ready.1 hi0).1
          have h4 := not_anc (n := ops.size) hD (tfC q1 q2) hi
          rw [hL.rest i i0 hil q1 hn q3] at h4; simp at h4
      obtain ⟨o', ho', ha⟩ := aft ho hn
      refine mem_ready.2 ⟨?_, o', ho', fun e he hb => ?_⟩
      · have h4 := getD_tf h1
        have : listedA.getD i false = false := by rw [hAC i hil, hn, h4]; rfl
        have hx : i < listedA.size := by omega
        simpa [Array.getD, hx] using this
      · rw [ha] at he
        have h4 := h3 e he hb
        obtain ⟨x1, x2⟩ := hL.down i o hn ho e he hb
        rw [hAC _ x1, h4]; rfl
    rw [show n + 1 + m = (n + m) + 1 by omega]
    refine ⟨fun h0 => ?_, fun i hi => ?_⟩
    · have := toC hi0
      rw [h0] at this; simp at this
    have hiA := toA hi
    obtain ⟨hu1, o, ho, hu3⟩ := mem_ready.1 hi
    obtain ⟨q1, q2, q3⟩ := unA (mem_ready.1 hiA).1
    obtain ⟨o', v, s, ho', hdo, _, _, hag⟩ := h.2 i hiA
    -- nothing that is pending is touched
    have hap : ∀ p ∈ pend, ∀ u, ops[p.1]? = some u → o.dst ≠ u.dst ∧ ∀ e, o.dst = some e → e ∉ u.looksAt ops := by
      intro p hp u hu
      obtain ⟨hpl, hpc⟩ := (hpm p.1).1 (List.mem_map.2 ⟨p, hp, rfl⟩)
      obtain ⟨u', d, g1, g2, g3, g4⟩ := hL.late p.1 hpl
      rw [hu] at g1; simp at g1; subst g1
      obtain ⟨g5, g6⟩ := g4 i q1 q3 o ho
      have hne : i ≠ p.1 := fun he => by rw [he, hpc] at q2; simp at q2
      refine ⟨by rw [g3]; exact g5 hne, ?_⟩
      rcases g6 with g6 | g6
      · have := anc_listed hD ops.size p.1 g6 (fun o2 ho2 e he hb => hD p.1 o2 ho2 hpc e he hb)
        rw [this] at q2; simp at q2
      · exact g6
    -- behind it
    have next : ∀ (fr' : List Value) (st' : AS) (a' : Act) (w' : World) (pend' : List (Nat × Nat)), SttL P B nt ops fr' st' a' w' pend' → (pend'.map (·.1)).Nodup → (∀ j, j ∈ pend'.map (·.1) ↔ j ∈ l ∧ (listedC.setIfInBounds i true).getD j false = true) → AG P C (holdOps ops l) K1 n (listedA.setIfInBounds i true) fr' st' →
        wpAny P .any ops Q (n + m) (listedC.setIfInBounds i true) a' w' := by
      intro fr' st' a' w' pend' hs' hn' hm' hag'
      refine ih _ _ fr' st' a' w' pend' (by simpa using hA) (by simpa using hC) (fun j hj => ?_) (fun j hj => ?_) (hD.set hi) hs' hn' hm' hag'
      · by_cases hji : j = i
        · subst hji
          have h1 : j < listedA.size := by omega
          have h2 : j < listedC.size := by omega
          simp [Array.getD, h1, h2]
        · rw [getD_set_ne false (Ne.symm hji), getD_set_ne false (Ne.symm hji)]
          exact hAC j hj
      · have hji : i ≠ j := fun he => by subst he; rw [q3] at hj; simp at hj
        rw [getD_set_ne false hji]; exact hR j hj
    have hset : (listedC.setIfInBounds i true).getD i false = true := by
      have : i < listedC.size := by omega
      simp [Array.getD, this]
    by_cases hil : i ∈ l
    · -- a late one
      obtain ⟨o2, d, g1, g2, g3, g4⟩ := hL.late i hil
      rw [ho] at g1; simp at g1; subst g1
      have ho2 := holdOps_get (l := l) ho
      rw [if_pos (by simpa using hil)] at ho2
      rw [ho'] at ho2; simp at ho2
      have hself : d ∉ o.looksAt ops := by
        rcases (g4 i q1 q3 o ho).2 with h5 | h5
        · have := not_anc (n := ops.size) hD hu1 hi
          rw [h5] at this; simp at this
        · exact h5 d g3
      obtain ⟨frE, stE, hkE, hsame⟩ := AG.path (n + 1) listedA fr st h
      obtain ⟨kb, mk, hlk⟩ := hKl frE stE hkE i hil o ho
      rw [lateK_same (ops := ops) (fr' := fr) (fun e he => hsame e (fun j u hu hl hue => by
        obtain ⟨z1, z2, z3⟩ := unA hl
        obtain ⟨u0, hu0⟩ : ∃ u0, ops[j]? = some u0 := ⟨ops[j], Array.getElem?_eq_getElem z1⟩
        have hx := holdOps_get (l := l) hu0
        rw [hu] at hx
        have hud : u0.dst = some e := by
          rw [z3] at hx
          by_cases hc : l.contains j = true
          · rw [if_pos hc] at hx; simp at hx; rw [hx] at hue; exact hue
          · rw [if_neg hc] at hx; simp at hx; rw [← hx]; exact hue
        rcases (g4 j z1 z3 u0 hu0).2 with h5 | h5
        · have := not_anc (n := ops.size) hD (tfC z1 z2) hi
          rw [h5] at this; simp at this
        · exact h5 e hud he))] at hlk
      have hvs : v = unk ∧ s = st := by
        rcases hdo with ⟨_, hr1⟩ | ⟨hw, _⟩
        · have := hr1 (Value × AS) (fun v s => some (v, s))
          rw [ho2] at this
          simp only [eop, ev, Option.some.injEq, Prod.mk.injEq] at this
          exact ⟨this.1.symm, this.2.symm⟩
        · rw [ho2] at hw
          simp [wantedA, g2] at hw
      obtain ⟨rfl, rfl⟩ := hvs
      have hdd : o'.dst = o.dst := by rw [ho2]
      rw [hdd] at hag
      refine late_wpOp ho g2 g3 hself hs hlk (hdst i hil o d ho g3) hap (fun a' w' hs' => next _ _ _ _ _ hs' ?_ ?_ hag)
      · simp only [List.map_cons, List.nodup_cons]
        refine ⟨fun hm => ?_, hpn⟩
        have := ((hpm i).1 hm).2
        rw [this] at q2; simp at q2
      · intro j
        simp only [List.map_cons, List.mem_cons, hpm j]
        by_cases hji : j = i
        · subst hji
          simp [hil, hset]
        · rw [getD_set_ne false (Ne.symm hji)]
          simp [hji]
    · -- any other
      have ho2 := holdOps_get (l := l) ho
      rw [if_neg (by simpa using hil), q3] at ho2
      simp at ho2
      rw [ho'] at ho2; simp at ho2; subst ho2
      have hdo' : ADo P C ops fr st o' v s := by
        have hw : ∀ b, wantedA (holdOps ops l) fr o' = some b → wantedA ops fr o' = some b := by
          intro b hb
          unfold wantedA at hb ⊢
          cases hg : o'.guard with
          | none => simpa [hg] using hb
          | some g =>
            obtain ⟨j, want⟩ := g
            simp only [hg] at hb ⊢
            cases hoj : ops[j]? with
            | none => rw [holdOps_none hoj] at hb; simp at hb
            | some u =>
              rw [holdOps_get hoj] at hb
              by_cases hc : l.contains j = true
              · rw [if_pos hc] at hb; simpa using hb
              · rw [if_neg hc] at hb
                cases hrj : restB ops l j with
                | true => rw [hrj] at hb; simp at hb
                | false => rw [hrj] at hb; simpa using hb
        rcases hdo with ⟨h1, h2⟩ | ⟨h1, h2⟩
        · exact .inl ⟨hw _ h1, h2⟩
        · exact .inr ⟨hw _ h1, h2⟩
      refine hdo'.wpOpL hCs hU ho hs hap (fun a' w' hs' => next _ _ _ _ _ hs' hpn ?_ hag)
      intro j
      rw [hpm j]
      by_cases hji : j = i
      · subst hji
        simp [hil]
      · rw [getD_set_ne false (Ne.symm hji)]

theorem eopsLate_ok {R : Type} {C : Callee} {ops : Array Oper} : ∀ (l : List Nat) (fr : List Value) (st : AS) (k : List Value → AS → Option R) (r : R), LApart ops l → l.Nodup → eopsLate P C ops l fr st k = some r →
    ∀ i ∈ l, ∀ o, ops[i]? = some o → ∃ kb mk, lateK P fr o = some (kb, mk)
  | [], fr, st, k, r, _, _, h, i, hi, _, _ => by simp at hi
  | j :: js, fr, st, k, r, ha, hnd, h, i, hi, o, ho => by
    simp only [eopsLate] at h
    cases hoj : ops[j]? with
    | none => simp [hoj] at h
    | some u =>
      simp only [hoj] at h
      rw [ite_some] at h
      obtain ⟨hok, h⟩ := h
      obtain ⟨kb, mk, hl, h9⟩ := lateOk_eop hok h
      rcases List.mem_cons.1 hi with rfl | hi
      · rw [ho] at hoj; simp at hoj; subst hoj
        exact ⟨kb, mk, hl⟩
      · have := eopsLate_ok js _ _ k r (fun i' hi' j' hj' => ha i' (by simp [hi']) j' (by simp [hj'])) (List.nodup_cons.1 hnd).2 h9 i hi o ho
        rw [lateK_setD (ops := ops)] at this
        · exact this
        · exact (ha i (by simp [hi]) j (by simp) o u ho hoj).2

theorem late_sound {R : Type} {C : Callee} (hC : CSound P C) (hU : CUp C) {B : Base P} {nt id : Nat} {ops opsL : Array Oper} {ord1 l ord2 : List Nat} {fr : List Value} {st : AS} {a : Act} {w : World} {k : List Value → AS → Option R} {r : R} {Q : Exit → Act → World → Prop}
    (hp : latePlan P nt ops = some (opsL, ord1, l, ord2)) (hs : Stt B nt fr st a w) (h : eops P C opsL (stillSo P opsL) ord1 [] fr st (fun fr st => eopsLate P C ops l fr st fun fr st => eops P C ops (stillSo P ops) ord2 [] fr st k) = some r)
    (hk : ∀ fr' st' a' w', Stt B nt fr' st' a' w' → k fr' st' = some r → Q .normal a' w') :
    (Code.region id ops true).wp P Q a w := by
  unfold latePlan at hp
  dsimp only at hp
  split at hp
  case isFalse => simp at hp
  rename_i hc
  obtain ⟨hm, hra1, hok1, hra2, hok2, hfine, hlen, hnt⟩ := hc
  simp only [Option.some.injEq, Prod.mk.injEq] at hp
  obtain ⟨rfl, rfl, rfl, rfl⟩ := hp
  have hL := lateFine_spec (P := P) hfine
  have hnd : (lates P ops).Nodup := by unfold lates; exact List.Pairwise.filter _ List.nodup_range
  have hnr : ∀ i ∈ lates P ops, restB ops (lates P ops) i = false := fun i hi => by simp [restB, hi]
  have hlt : ∀ i ∈ lates P ops, i < ops.size := fun i hi => by
    obtain ⟨o, d, ho, _⟩ := hL.late i hi
    exact lt_of_getA ho
  have hD0 : Down (holdOps ops (lates P ops)) (listedBy ops.size (restB ops (lates P ops))) := by
    intro k o ho hk e he hb
    rw [listedBy_get] at hk
    split at hk
    · rename_i hkl
      obtain ⟨u, hu⟩ : ∃ u, ops[k]? = some u := ⟨ops[k], Array.getElem?_eq_getElem hkl⟩
      have := holdOps_get (l := lates P ops) hu
      have hnl : ¬ (lates P ops).contains k = true := by
        intro hc
        have := hnr k (by simpa using hc)
        rw [this] at hk; simp at hk
      rw [if_neg hnl, if_pos hk, ho] at this
      simp at this; subst this
      simp at he
    · simp at hk
  have hD1 : Down ops (listedBy ops.size fun i => !restB ops (lates P ops) i) := by
    intro k o ho hk e he hb
    rw [listedBy_get] at hk ⊢
    split at hk
    · obtain ⟨x1, x2⟩ := hL.down k o (by simpa using hk) ho e he hb
      rw [if_pos x1, x2]; rfl
    · simp at hk
  have hapart : LApart ops (lates P ops) := by
    intro i hi j hj u o hu ho
    obtain ⟨u', d, g1, g2, g3, g4⟩ := hL.late i hi
    rw [hu] at g1; simp at g1; subst g1
    obtain ⟨g5, g6⟩ := g4 j (hlt j hj) (hnr j hj) o ho
    refine ⟨fun hne => by rw [g3]; exact g5 (Ne.symm hne), ?_⟩
    rcases g6 with g6 | g6
    · rw [hL.apart i hi j hj] at g6; simp at g6
    · exact g6
  refine wp_region_any hm ?_
  have hAG := eops_AG hra1 _ _ _ _ _ hD0 hok1 h
  have := late_link (C := C) hC hU (B := B) (nt := nt) hL hnd hnr (Q := Q) (K1 := fun fr st => eopsLate P C ops (lates P ops) fr st (fun fr st => eops P C ops (stillSo P ops) (drawOrder P ops ops.size (listedBy ops.size fun i => !restB ops (lates P ops) i)) [] fr st k) = some r) (m := ops.size - (drawOrder P (holdOps ops (lates P ops)) ops.size (listedBy ops.size (restB ops (lates P ops)))).length) hok1
    (fun i hi o d ho hd => by
      rw [List.all_eq_true] at hnt
      have := hnt i hi
      rw [ho] at this
      simpa [hd] using this)
    (fun fr st hk1 i hi o ho => eopsLate_ok _ _ _ _ _ hapart hnd hk1 i hi o ho)
    (fun n fr st a w pend hs hpm hk1 hmn => by
      obtain ⟨fr', st', hs', hk'⟩ := tell_all hU _ _ _ _ _ _ _ _ hapart hnd hpm hs hk1
      have hAG2 := eops_AG hra2 _ _ _ _ _ hD1 hok2 hk'
      exact AG.sound hC hU (fun fr st a w hs hK => hk fr st a w hs hK) _ _ _ _ _ _ hs' (AG.more _ _ _ _ _ hAG2 (by omega)))
    _ _ (Array.replicate ops.size false) fr st a { w with drawn := w.drawn + 1 } [] (by simp [listedBy]) (by simp) (fun i hi => by rw [listedBy_get, if_pos hi]; simp [Array.getD, hi]) (fun i hi => by
      simp only [Array.getD]
      split <;> simp) (fun k o ho hl => by
      rw [show (Array.replicate ops.size false).getD k false = false by simp [Array.getD]] at hl
      simp at hl) (.of (hs.drew _)) (by simp) (fun i => by
      have : (Array.replicate ops.size false).getD i false = false := by simp [Array.getD]
      simp [this]) hAG
  rw [Nat.add_sub_cancel' (by omega)] at this
  exact this

end
end Go.Am