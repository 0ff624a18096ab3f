/- A part of the proof: It14, It15, It16, It17. Its conditions: none. -/
import Derived.Test.YtgpfiiebfhdjhaaIt8
set_option linter.all false
set_option linter.unusedVariables false
set_option linter.unusedSimpArgs false
set_option linter.unnecessarySimpa false
section
namespace Go.Proofs.Ytgpfiiebfhdjhaa
open Go Go.Am
set_option linter.unusedVariables false
namespace IT
open Go.It

theorem esc_join {k : Nat} : ∀ {a b : Option Nat}, escOk k a = true → escOk k b = true → escOk k (joinEsc a b) = true
  | a, none, h, _ => h
  | none, some b, _, h => h
  | some a, some b, h1, h2 => by
    simp only [escOk, decide_eq_true_eq] at h1 h2
    simp only [joinEsc, minO, escOk, decide_eq_true_eq]
    omega
theorem esc_below {k n : Nat} {a : Option Nat} (h : escOk k a = true) : escOk k (escBelow n a) = true := by
  cases a with
  | none => rfl
  | some b =>
    simp only [escBelow]
    split
    · exact h
    · rfl

/-- what a walk tells to -/
structure Teller (cl : Value) (more : Bool) (kb : Nat) (R : List Blk → List Int → (Nat → Prop) → Prop) : Prop where
  app : ∀ H L Q l, R H L Q → R (H ++ l) L Q
  mono : ∀ H L Q Q', R H L Q → (∀ x, Q x → Q' x) → R H L Q'
  tight : ∀ H L Q, R H L Q → R H L (fun x => Q x ∧ x < H.length)
  call : ∀ H L Q id, R H L Q → L.length < 65535 → ∃ fn args H' e', aFn PP cl [.int .i64 id] = some (fn, args) ∧ acall PP TT fn args H = some (.bool more, H', e') ∧ R H' (L ++ [id]) (nw H Q) ∧ Fr H H' Q ∧ escOk kb e' = true

theorem ovl_meet {e : En} {o n : Int} (he : plainB e.off e.len = true) (hp : plainB o n = true) : meetB e.off e.len o n = ovl e o n := by
  unfold meetB
  rw [he, hp]
  rfl

theorem told_len (o n : Int) : ∀ t : Tr, (told o n t).length ≤ (toL t).length
  | .nil => by simp [told]
  | .nd c e f l r => by
    have := told_len o n l
    have := told_len o n r
    simp only [told, toL, List.length_append, List.length_cons]
    split
    · simp
    · split
      · simp; omega
      · split <;> simp <;> omega

section
variable {cl : Value} {more : Bool} {kb : Nat} {R : List Blk → List Int → (Nat → Prop) → Prop} (hT : Teller cl more kb R) {o n : Int} (hp : plainB o n = true)
include hT hp

/-- what a walk comes to -/
def WR (R : List Blk → List Int → (Nat → Prop) → Prop) (more : Bool) (kb : Nat) (r : Option (Value × List Blk × Option Nat)) (H : List Blk) (L T : List Int) (Q : Nat → Prop) : Prop :=
  ∃ v H' e', r = some (.bool v, H', e') ∧ Fr H H' Q ∧ escOk kb e' = true ∧ v = (more || T.isEmpty) ∧ (v = true → R H' (L ++ T) (nw H Q))

theorem walk_ok : ∀ {t : Tr} {p : Value} {S : Nat → Prop} {H : List Blk} {L : List Int} {Q : Nat → Prop}, TA H p t S → (∀ x, S x → ¬ Q x) → (∀ x, Q x → x < H.length) → R H L Q → L.length + (toL t).length < 65535 →
    WR R more kb (acall PP TT n_itree_walk [p, spn o n, cl] H) H L (told o n t) Q
  | .nil, p, S, H, L, Q, h, hd, hq, hR, hl => by
    have hpn : p = nilp := h
    subst hpn
    have : ∃ e', acall PP TT n_itree_walk [nilp, spn o n, cl] H = some (.bool true, H ++ [.cells [.int .i64 o, .int .i64 n] t_api_Span true], e') ∧ escOk kb e' = true := by
      rw [acall_eq, itree_walk.eq]
      simp only [itree_walk.sh, itree_walk.j0, mach, Nat.reduceAdd, Nat.reduceLeDiff, Int.reduceEq, Int.reduceLT, Int.reduceLE, eql_nil, finK]
      exact ⟨_, rfl, rfl⟩
    obtain ⟨e', h1, h2⟩ := this
    refine ⟨_, _, _, h1, Fr.app _ _ _, h2, by simp [told], fun _ => ?_⟩
    rw [told, List.append_nil]
    exact hT.mono _ _ _ _ (hT.app _ _ _ _ hR) fun x hx => .inl hx
  | .nd c e f l r, p, S, H, L, Q, h, hd, hq, hR, hl => by
    obtain ⟨q, pl, pr, Sl, Sr, rfl, hqn, he, hll, hrr, hSq, hSl, hSr⟩ := h
    have hql := get_lt hqn
    have hq1 : (H ++ [.cells [.int .i64 o, .int .i64 n] t_api_Span true])[q]? = some (nd e c f pl pr) := by rw [List.getElem?_append_left hql]; exact hqn
    have hvi : ∀ x : Int, veq (.int .i64 x) (.int .i64 x) = true := fun x => by simp [veq]
    have hen : acall PP TT n_span_End [spn o n] = fun H => some (.int .i64 (o + n), H, none) := by
      funext H
      rw [end_ok]
      simp [endI, hp]
    have hen : ∀ H, acall PP TT n_span_End [spn o n] H = some (.int .i64 (o + n), H, none) := fun H => by rw [hen]
    have hl1 : (toL l).length + (toL r).length + 1 = (toL (.nd c e f l r)).length := by simp [toL]; omega
    by_cases hf : f ≤ o
    · have : ∃ e', acall PP TT n_itree_walk [ptr q, spn o n, cl] H = some (.bool true, H ++ [.cells [.int .i64 o, .int .i64 n] t_api_Span true], e') ∧ escOk kb e' = true := by
        rw [acall_eq, itree_walk.eq]
        simp only [itree_walk.sh, itree_walk.j0, mach, Nat.reduceAdd, Nat.reduceLeDiff, Int.reduceEq, Int.reduceLT, Int.reduceLE, eql_ptr, nil_ptr, fa_itree_node_2, fa_api_Span_0, cellAt_of hq1, nb_4, hf, finK]
        exact ⟨_, rfl, rfl⟩
      obtain ⟨e', h1, h2⟩ := this
      refine ⟨_, _, _, h1, Fr.app _ _ _, h2, by simp [told, hf], fun _ => ?_⟩
      simp only [told, hf, if_true, List.append_nil]
      exact hT.mono _ _ _ _ (hT.app _ _ _ _ hR) fun x hx => .inl hx
    · -- the left
      have ihl := walk_ok (L := L) (hll.app [.cells [.int .i64 o, .int .i64 n] t_api_Span true]) (fun x hx => hd x (hSl x hx).1) (fun x hx => by have := hq x hx; simp; omega) (hT.app _ _ _ _ hR) (by omega)
      obtain ⟨v1, H1, e1, a1, a2, a3, a4, a5⟩ := ihl
      have hq2 : H1[q]? = some (nd e c f pl pr) := by rw [a2.2 q (get_lt hq1) (hd q hSq)]; exact hq1
      have hkb : (H ++ [.cells [.int .i64 o, .int .i64 n] t_api_Span true])[H.length]? = some (.cells [.int .i64 o, .int .i64 n] t_api_Span true) := by simp
      have hk2 : H1[H.length]? = some (.cells [.int .i64 o, .int .i64 n] t_api_Span true) := by
        rw [a2.2 H.length (get_lt hkb) (fun hc => by have := hq _ hc; omega)]; exact hkb
      have f1 : Fr H H1 Q := (Fr.app H _ Q).trans a2 fun x hx => .inl hx
      -- up to the place behind the left
      have start : acall PP TT n_itree_walk [ptr q, spn o n, cl] H = itree_walk.j1 (acall PP TT) loopG H.length (ptr q) cl (ptr H.length) ⟨H ++ [.cells [.int .i64 o, .int .i64 n] t_api_Span true], none⟩ := by
        rw [acall_eq, itree_walk.eq]
        simp only [itree_walk.sh, itree_walk.j0, mach, Nat.reduceAdd, Nat.reduceLeDiff, Int.reduceEq, Int.reduceLT, Int.reduceLE, eql_ptr, nil_ptr, fa_itree_node_2, fa_api_Span_0, cellAt_of hq1, nb_4, hf]
      rw [start]
      cases v1 with
      | false =>
        have hm : more = false ∧ (told o n l).isEmpty = false := by
          exact Bool.or_eq_false_iff.1 a4.symm
        have : ∃ e', itree_walk.j1 (acall PP TT) loopG H.length (ptr q) cl (ptr H.length) ⟨H ++ [.cells [.int .i64 o, .int .i64 n] t_api_Span true], none⟩ = some (.bool false, H1, e') ∧ escOk kb e' = true := by
          simp only [itree_walk.j1, mach, Nat.reduceAdd, Nat.reduceLeDiff, Int.reduceEq, Int.reduceLT, Int.reduceLE, nil_ptr, fa_itree_node_3, ix0, cellAt_of hq1, nb_5, a1, finK]
          exact ⟨_, rfl, esc_below (esc_join rfl a3)⟩
        obtain ⟨e', h1, h2⟩ := this
        refine ⟨_, _, _, h1, f1, h2, ?_, fun hc => by simp at hc⟩
        have : (told o n (.nd c e f l r)).isEmpty = false := by
          simp only [told, hf, if_false]
          cases hh : told o n l with
          | nil => rw [hh] at hm; simp at hm
          | cons y ys => rfl
        rw [hm.1, this]
        rfl
      | true =>
        have R1 := a5 rfl
        by_cases hge : o + n ≤ e.off
        · have : ∃ e', itree_walk.j1 (acall PP TT) loopG H.length (ptr q) cl (ptr H.length) ⟨H ++ [.cells [.int .i64 o, .int .i64 n] t_api_Span true], none⟩ = some (.bool true, H1, e') ∧ escOk kb e' = true := by
            simp only [itree_walk.j1, mach, Nat.reduceAdd, Nat.reduceLeDiff, Int.reduceEq, Int.reduceLT, Int.reduceLE, nil_ptr, fa_itree_node_0, fa_itree_node_3, fa_itree_entry_0, fa_api_Span_0, ix0, cellAt_of hq1, nb_5, a1, cellAt_of hq2, cellsAt_of hk2, nb_0, hen, hvi, beq_st, hge, Nat.reduceLeDiff, finK]
            exact ⟨_, rfl, esc_below (esc_join rfl a3)⟩
          obtain ⟨e', h1, h2⟩ := this
          have htold : told o n (.nd c e f l r) = told o n l := by simp [told, hf, hge]
          refine ⟨_, _, _, h1, f1, h2, by rw [htold]; exact a4, fun _ => ?_⟩
          rw [htold]
          refine hT.mono _ _ _ _ R1 ?_
          rintro x (hx | hx)
          · exact .inl hx
          · exact .inr (by simp at hx; omega)
        · -- the right one, once it is reached
          have right : ∀ (H2 : List Blk) (e2 : Option Nat) (L2 : List Int), Fr H H2 Q → escOk kb e2 = true → H2[q]? = some (nd e c f pl pr) → H2[H.length]? = some (.cells [.int .i64 o, .int .i64 n] t_api_Span true) → R H2 L2 (nw H Q) → L2.length + (toL r).length < 65535 →
              WR R more kb (itree_walk.j3 (acall PP TT) loopG H.length (ptr q) cl (ptr H.length) ⟨H2, e2⟩) H L2 (told o n r) Q := by
            intro H2 e2 L2 c1 c2 c3 c4 c5 c6
            have hr2 : TA H2 pr r (fun x => Sr x ∧ x < H.length) := hrr.tight.frame fun x hx => c1.2 x hx.2 (hd x (hSr x hx.1).1)
            have ihr := walk_ok (L := L2) (Q := fun x => (nw H Q x ∧ x < H2.length)) hr2 (fun x hx hc => by
              rcases hc.1 with h | h
              · exact hd x (hSr x hx.1).1 h
              · have := hx.2; omega) (fun x hx => hx.2) (hT.tight _ _ _ c5) c6
            obtain ⟨v2, H3, e3, b1, b2, b3, b4, b5⟩ := ihr
            have : ∃ e', itree_walk.j3 (acall PP TT) loopG H.length (ptr q) cl (ptr H.length) ⟨H2, e2⟩ = some (.bool v2, H3, e') ∧ escOk kb e' = true := by
              simp only [itree_walk.j3, mach, Nat.reduceAdd, Nat.reduceLeDiff, Int.reduceEq, Int.reduceLT, Int.reduceLE, nil_ptr, fa_itree_node_3, ix1, cellAt_of c3, cellsAt_of c4, nb_6, Nat.reduceLeDiff, b1, finK]
              exact ⟨_, rfl, esc_below (esc_join c2 b3)⟩
            obtain ⟨e', h1, h2⟩ := this
            refine ⟨_, _, _, h1, c1.trans b2 fun x hx => hx.1, h2, b4, fun hv => hT.mono _ _ _ _ (b5 hv) ?_⟩
            rintro x (hx | hx)
            · exact hx.1
            · exact .inr (Nat.le_trans c1.1 hx)
          have R1' : R H1 (L ++ told o n l) (nw H Q) := hT.mono _ _ _ _ R1 (by
            rintro x (hx | hx)
            · exact .inl hx
            · exact .inr (by simp at hx; omega))
          have hlen := told_len o n l
          cases hov : ovl e o n with
          | false =>
            have hme := ovl_meet he hp
            rw [hov] at hme
            have : ∃ e2, itree_walk.j1 (acall PP TT) loopG H.length (ptr q) cl (ptr H.length) ⟨H ++ [.cells [.int .i64 o, .int .i64 n] t_api_Span true], none⟩ = itree_walk.j3 (acall PP TT) loopG H.length (ptr q) cl (ptr H.length) ⟨H1, e2⟩ ∧ escOk kb e2 = true := by
              simp only [itree_walk.j1, itree_walk.j2, mach, Nat.reduceAdd, Nat.reduceLeDiff, Int.reduceEq, Int.reduceLT, Int.reduceLE, nil_ptr, fa_itree_node_0, fa_itree_node_3, fa_itree_entry_0, fa_api_Span_0, ix0, cellAt_of hq1, nb_5, a1, cellAt_of hq2, cellsAt_of hq2, cellsAt_of hk2, nb_0, nb_len, nb_s, hen, hvi, beq_st, hge, overlap_ok, hme, Nat.reduceLeDiff]
              exact ⟨_, rfl, esc_join rfl a3⟩
            obtain ⟨e2, h1, h2⟩ := this
            rw [h1]
            have w := right H1 e2 (L ++ told o n l) f1 h2 hq2 hk2 R1' (by rw [List.length_append]; omega)
            obtain ⟨v2, H3, e3, b1, b2, b3, b4, b5⟩ := w
            have htold : told o n (.nd c e f l r) = told o n l ++ told o n r := by simp [told, hf, hge, hov]
            refine ⟨v2, H3, e3, b1, b2, b3, ?_, fun hv => ?_⟩
            · rw [b4, htold]
              cases more with
              | true => rfl
              | false =>
                have hn : told o n l = [] := by simpa using a4.symm
                rw [hn]; simp
            · rw [htold, ← List.append_assoc]
              exact b5 hv
          | true =>
            have hme := ovl_meet he hp
            rw [hov] at hme
            obtain ⟨fn, args, H2, e2, t1, t2, t3, t4, t5⟩ := hT.call H1 (L ++ told o n l) (fun x => nw (H ++ [.cells [.int .i64 o, .int .i64 n] t_api_Span true]) Q x ∧ x < H1.length) e.id (hT.tight _ _ _ R1) (by rw [List.length_append]; omega)
            have hk3 : H.length < H1.length := get_lt hk2
            have hq3 : H2[q]? = some (nd e c f pl pr) := by
              rw [t4.2 q (get_lt hq2) (fun hc => by
                rcases hc.1 with h | h
                · exact hd q hSq h
                · simp at h; omega)]
              exact hq2
            have hk4 : H2[H.length]? = some (.cells [.int .i64 o, .int .i64 n] t_api_Span true) := by
              rw [t4.2 H.length hk3 (fun hc => by
                rcases hc.1 with h | h
                · have := hq _ h; omega
                · simp at h; omega)]
              exact hk2
            have f2 : Fr H H2 Q := f1.trans t4 fun x hx => by
              rcases hx.1 with h | h
              · exact .inl h
              · exact .inr (by simp at h; omega)
            cases hmo : more with
            | false =>
              have : ∃ e', itree_walk.j1 (acall PP TT) loopG H.length (ptr q) cl (ptr H.length) ⟨H ++ [.cells [.int .i64 o, .int .i64 n] t_api_Span true], none⟩ = some (.bool false, H2, e') ∧ escOk kb e' = true := by
                rw [hmo] at t2
                simp only [itree_walk.j1, itree_walk.j2, mach, Nat.reduceAdd, Nat.reduceLeDiff, Int.reduceEq, Int.reduceLT, Int.reduceLE, nil_ptr, fa_itree_node_0, fa_itree_node_3, fa_itree_entry_0, fa_itree_entry_1, fa_api_Span_0, ix0, cellAt_of hq1, nb_5, a1, cellAt_of hq2, cellsAt_of hq2, cellsAt_of hk2, nb_0, nb_2, nb_len, nb_s, hen, hvi, beq_st, hge, overlap_ok, hme, t1, t2, Nat.reduceLeDiff, finK]
                exact ⟨_, rfl, esc_below (esc_join (esc_join rfl a3) t5)⟩
              obtain ⟨e', h1, h2⟩ := this
              refine ⟨_, _, _, h1, f2, h2, ?_, fun hc => by simp at hc⟩
              simp [told, hf, hge, hov]
            | true =>
              rw [hmo] at t2 right
              have : ∃ e2', itree_walk.j1 (acall PP TT) loopG H.length (ptr q) cl (ptr H.length) ⟨H ++ [.cells [.int .i64 o, .int .i64 n] t_api_Span true], none⟩ = itree_walk.j3 (acall PP TT) loopG H.length (ptr q) cl (ptr H.length) ⟨H2, e2'⟩ ∧ escOk kb e2' = true := by
                simp only [itree_walk.j1, itree_walk.j2, mach, Nat.reduceAdd, Nat.reduceLeDiff, Int.reduceEq, Int.reduceLT, Int.reduceLE, nil_ptr, fa_itree_node_0, fa_itree_node_3, fa_itree_entry_0, fa_itree_entry_1, fa_api_Span_0, ix0, cellAt_of hq1, nb_5, a1, cellAt_of hq2, cellsAt_of hq2, cellsAt_of hk2, nb_0, nb_2, nb_len, nb_s, hen, hvi, beq_st, hge, overlap_ok, hme, t1, t2, Nat.reduceLeDiff]
                exact ⟨_, rfl, esc_join (esc_join rfl a3) t5⟩
              obtain ⟨e2', h1, h2⟩ := this
              rw [h1]
              have R2 : R H2 (L ++ told o n l ++ [e.id]) (nw H Q) := hT.mono _ _ _ _ t3 (by
                rintro x (hx | hx)
                · rcases hx.1 with h | h
                  · exact .inl h
                  · exact .inr (by simp at h; omega)
                · exact .inr (by have := f1.1; omega))
              have w := right H2 e2' (L ++ told o n l ++ [e.id]) f2 h2 hq3 hk4 R2 (by simp only [List.length_append, List.length_cons, List.length_nil]; omega)
              obtain ⟨v2, H3, e3, b1, b2, b3, b4, b5⟩ := w
              have htold : told o n (.nd c e f l r) = told o n l ++ (e.id :: told o n r) := by simp [told, hf, hge, hov]
              refine ⟨v2, H3, e3, b1, b2, b3, by rw [b4]; rfl, fun hv => ?_⟩
              have := b5 hv
              rw [htold]
              simpa using this
end
end IT
end Go.Proofs.Ytgpfiiebfhdjhaa

end
section
namespace Go.Proofs.Ytgpfiiebfhdjhaa
open Go Go.Am
set_option linter.unusedVariables false
namespace IT
open Go.It

theorem Fr.split {H H' : List Blk} (h : Fr H H' (fun _ => False)) : ∃ l, H' = H ++ l := by
  refine ⟨H'.drop H.length, ?_⟩
  apply List.ext_getElem?
  intro i
  by_cases hi : i < H.length
  · rw [h.2 i hi (fun h => h), List.getElem?_append_left hi]
  · rw [List.getElem?_append_right (by omega), List.getElem?_drop]
    congr 1
    omega

theorem anyT (k : Nat) : Teller (.func (.func n_P_itree_Tree_Any_1) #[] #[]) false k (fun _ _ _ => True) :=
  ⟨fun _ _ _ _ _ => trivial, fun _ _ _ _ _ _ => trivial, fun _ _ _ _ => trivial, fun H L Q id _ _ => by
    refine ⟨n_P_itree_Tree_Any_1, [.int .i64 id], H, none, by kernel_rfl, ?_, trivial, Fr.refl _ _, rfl⟩
    rw [acall_eq, P_itree_Tree_Any_1.eq]
    simp only [P_itree_Tree_Any_1.sh]
    exact fin_lit0 rfl rfl⟩

theorem any_ok {H : List Blk} {b : Nat} {t : Tr} {S : Nat → Prop} (h : TD H b t S) (hs : (toL t).length < 65000) {o n : Int} (hp : plainB o n = true) :
    acall PP TT n_P_itree_Tree_Any [ptr b, spn o n] H = some (.bool (!(told o n t).isEmpty), H, none) := by
  obtain ⟨root, h1, h2, h3⟩ := h
  have h1' : (H ++ [.cells [.int .i64 o, .int .i64 n] t_api_Span true])[b]? = some (tb root ((toL t).length : Nat)) := by rw [List.getElem?_append_left (get_lt h1)]; exact h1
  obtain ⟨v, H', e', a1, a2, a3, a4, _⟩ := walk_ok (anyT H.length) hp (L := []) (Q := fun _ => False) (h2.app [.cells [.int .i64 o, .int .i64 n] t_api_Span true]) (fun _ _ h => h) (fun _ h => h.elim) trivial (by simp; omega)
  obtain ⟨l, rfl⟩ := ((Fr.app H [.cells [.int .i64 o, .int .i64 n] t_api_Span true] _).trans a2 fun x hx => .inl hx).split
  rw [acall_eq, P_itree_Tree_Any.eq]
  simp only [P_itree_Tree_Any.sh, mach, Nat.reduceAdd, Nat.reduceLeDiff, Int.reduceEq, Int.reduceLT, Int.reduceLE, is_ok h1', plain_ok, hp, nil_ptr, fa_itree_Tree_1, cellAt_of h1', a1]
  rw [fin_lit rfl rfl (esc_join rfl a3), a4]
  rfl

theorem any_not {H : List Blk} {b : Nat} {t : Tr} {S : Nat → Prop} (h : TD H b t S) {o n : Int} (hp : plainB o n = false) :
    acall PP TT n_P_itree_Tree_Any [ptr b, spn o n] H = some (.bool false, H, none) := by
  obtain ⟨root, h1, h2, h3⟩ := h
  have h1' : (H ++ [.cells [.int .i64 o, .int .i64 n] t_api_Span true])[b]? = some (tb root ((toL t).length : Nat)) := by rw [List.getElem?_append_left (get_lt h1)]; exact h1
  rw [acall_eq, P_itree_Tree_Any.eq]
  simp only [P_itree_Tree_Any.sh, mach, Nat.reduceAdd, Nat.reduceLeDiff, Int.reduceEq, Int.reduceLT, Int.reduceLE, is_ok h1', plain_ok, hp]
  exact fin_lit rfl rfl rfl

/-! ### The ids -/
def intsV (l : List Int) : List Value := l.map (Value.int .i64)
abbrev intB (l : List Int) : Blk := .cells (intsV l) t_int true
/-- ids in a row that grows -/
def RO (kb : Nat) (H : List Blk) (L : List Int) (Q : Nat → Prop) : Prop :=
  ∃ sl, H[kb]? = some (.cells [sl] t_L_int true) ∧ Q kb ∧ ((L = [] ∧ sl = .slice none 0 0) ∨ ∃ kr, sl = .slice (some ⟨kr, 0, none⟩) L.length UNK ∧ H[kr]? = some (intB L) ∧ Q kr ∧ kr ≠ kb)

theorem bsl1 (x : Int) (H : List Blk) (e : Option Nat) : bsl PP t_L_int 1 [0] [.int .i64 x] ⟨H, e⟩ = some (.slice (some ⟨H.length, 0, none⟩) 1 1, ⟨H ++ [.cells [.int .i64 x] t_int true], e⟩) := by kernel_rfl
theorem push0 {R : Type} {F : Value → AS → Option R} (x : Int) (H : List Blk) (e : Option Nat) :
    ((bsl PP t_L_int 1 [0] [.int .i64 x] ⟨H, e⟩).bind fun q => eBuiltin PP .append #[t_L_int, t_L_int] [.slice none 0 0, q.1] q.2 F) = F (.slice (some ⟨H.length + 1, 0, none⟩) 1 UNK) ⟨H ++ [intB [x], intB [x]], e⟩ := by
  have := push_nil (P := PP) (H0 := H) (l := []) (e := e) (r := [.int .i64 x]) (F := F) el_L_int rfl (bsl1 x)
  simp at this
  exact this
theorem push1 {R : Type} {F : Value → AS → Option R} (x : Int) (H : List Blk) (e : Option Nat) {kr : Nat} {L : List Int} (hk : H[kr]? = some (intB L)) (hl : L.length ≤ 65535) :
    ((bsl PP t_L_int 1 [0] [.int .i64 x] ⟨H, e⟩).bind fun q => eBuiltin PP .append #[t_L_int, t_L_int] [.slice (some ⟨kr, 0, none⟩) L.length UNK, q.1] q.2 F) = F (.slice (some ⟨H.length + 1, 0, none⟩) (L.length + 1) UNK) ⟨H.set kr .dead ++ [intB [x], intB (L ++ [x])], e⟩ := by
  have := push_more (P := PP) (H0 := []) (l := H) (e := e) (m := L.length) (r := [.int .i64 x]) (F := F) el_L_int rfl (bsl1 x) hk (by simp [intsV]) hl
  simp only [List.length_nil, Nat.zero_add, List.nil_append] at this
  rw [this, show intB (L ++ [x]) = .cells (intsV L ++ [Value.int .i64 x]) t_int true by simp [intsV]]
  rfl

theorem esc_of (k : Nat) : ∀ (l : List Nat), escOk k (escOf none k l) = true
  | [] => rfl
  | r :: rs => by
    simp only [escOf]
    split
    · simp [minO, escOk]
    · exact esc_of k rs

theorem ovlT (kb : Nat) : Teller (.func (.func n_P_itree_Tree_Overlaps_1) (#[]) (#[ptr kb])) true kb (RO kb) := by
  refine ⟨?_, ?_, ?_, ?_⟩
  · rintro H L Q l ⟨sl, h1, h2, h3⟩
    refine ⟨sl, by rw [List.getElem?_append_left (get_lt h1)]; exact h1, h2, h3.imp id ?_⟩
    rintro ⟨kr, a1, a2, a3, a4⟩
    exact ⟨kr, a1, by rw [List.getElem?_append_left (get_lt a2)]; exact a2, a3, a4⟩
  · rintro H L Q Q' ⟨sl, h1, h2, h3⟩ hq
    refine ⟨sl, h1, hq _ h2, h3.imp id ?_⟩
    rintro ⟨kr, a1, a2, a3, a4⟩
    exact ⟨kr, a1, a2, hq _ a3, a4⟩
  · rintro H L Q ⟨sl, h1, h2, h3⟩
    refine ⟨sl, h1, ⟨h2, get_lt h1⟩, h3.imp id ?_⟩
    rintro ⟨kr, a1, a2, a3, a4⟩
    exact ⟨kr, a1, a2, ⟨a3, get_lt a2⟩, a4⟩
  · rintro H L Q id ⟨sl, h1, h2, h3⟩ hl
    have hlt := get_lt h1
    rcases h3 with ⟨rfl, rfl⟩ | ⟨kr, rfl, a2, a3, a4⟩
    · have hk2 : (H ++ [intB [id], intB [id]])[kb]? = some (.cells [.slice none 0 0] t_L_int true) := by rw [List.getElem?_append_left hlt]; exact h1
      refine ⟨n_P_itree_Tree_Overlaps_1, [.int .i64 id, ptr kb], (H ++ [intB [id], intB [id]]).set kb (.cells [.slice (some ⟨H.length + 1, 0, none⟩) 1 UNK] t_L_int true), escBelow H.length (escOf none kb [H.length + 1]), by kernel_rfl, ?_, ⟨_, set_at (get_lt hk2), .inl h2, .inr ⟨H.length + 1, rfl, ?_, .inr (by omega), by omega⟩⟩, ?_, esc_below (esc_of _ _)⟩
      · rw [acall_eq, P_itree_Tree_Overlaps_1.eq]
        simp only [P_itree_Tree_Overlaps_1.sh, load_one, cellAt_of h1, List.getElem?_cons_zero, Option.bind_some, push0, store_slice, storeL_of hk2]
        simp only [mach, Nat.reduceAdd, Nat.reduceLeDiff, Int.reduceEq, Int.reduceLT, Int.reduceLE, finK]
      · rw [set_off (by omega)]
        simp
      · exact (Fr.app H _ Q).set h2
    · have hlk := get_lt a2
      have hk2 : (H.set kr .dead ++ [intB [id], intB (L ++ [id])])[kb]? = some (.cells [.slice (some ⟨kr, 0, none⟩) L.length UNK] t_L_int true) := by rw [List.getElem?_append_left (by simpa using hlt), set_off a4]; exact h1
      refine ⟨n_P_itree_Tree_Overlaps_1, [.int .i64 id, ptr kb], (H.set kr .dead ++ [intB [id], intB (L ++ [id])]).set kb (.cells [.slice (some ⟨H.length + 1, 0, none⟩) (L.length + 1) UNK] t_L_int true), escBelow H.length (escOf none kb [H.length + 1]), by kernel_rfl, ?_, ⟨_, set_at (get_lt hk2), .inl h2, .inr ⟨H.length + 1, by simp, ?_, .inr (by omega), by omega⟩⟩, ?_, esc_below (esc_of _ _)⟩
      · rw [acall_eq, P_itree_Tree_Overlaps_1.eq]
        simp only [P_itree_Tree_Overlaps_1.sh, load_one, cellAt_of h1, List.getElem?_cons_zero, Option.bind_some, push1 id H none a2 (by omega), store_slice, storeL_of hk2]
        simp only [mach, Nat.reduceAdd, Nat.reduceLeDiff, Int.reduceEq, Int.reduceLT, Int.reduceLE, finK]
      · rw [set_off (by omega), List.getElem?_append_right (by simp)]
        simp
      · refine Fr.set ⟨by simp, fun y hy hn => ?_⟩ h2
        rw [List.getElem?_append_left (by simpa using hy), set_off (fun hc => hn (by rw [← hc]; exact a3))]

theorem ints_refs (l : List Int) : lrefs (intsV l) = [] := by
  induction l with
  | nil => rfl
  | cons x xs ih => simpa [intsV] using ih
theorem ints_noSl (l : List Int) : (intsV l).all noSl = true := by
  induction l with
  | nil => rfl
  | cons x xs ih => simpa [intsV, noSl] using ih

theorem overlaps_ok {H : List Blk} {b : Nat} {t : Tr} {S : Nat → Prop} (h : TD H b t S) (hs : (toL t).length < 65000) {o n : Int} (hp : plainB o n = true) :
    acall PP TT n_P_itree_Tree_Overlaps [ptr b, spn o n] H = some (tSl (told o n t).length (intsV (told o n t)), H, none) := by
  obtain ⟨root, h1, h2, h3⟩ := h
  have h1' : (H ++ [.cells [.int .i64 o, .int .i64 n] t_api_Span true, .cells [.slice none 0 0] t_L_int true])[b]? = some (tb root ((toL t).length : Nat)) := by rw [List.getElem?_append_left (get_lt h1)]; exact h1
  have hk : (H ++ [.cells [.int .i64 o, .int .i64 n] t_api_Span true, .cells [.slice none 0 0] t_L_int true])[H.length + 1]? = some (.cells [.slice none 0 0] t_L_int true) := by simp
  have h2' := h2.tight.app [.cells [.int .i64 o, .int .i64 n] t_api_Span true, .cells [.slice none 0 0] t_L_int true]
  obtain ⟨v, H', e', a1, a2, a3, a4, a5⟩ := walk_ok (ovlT (H.length + 1)) hp (L := []) (Q := fun x => x = H.length + 1) h2' (fun x hx hc => by have := hx.2; omega) (fun x hx => by simp [hx]) ⟨_, hk, rfl, .inl ⟨rfl, rfl⟩⟩ (by simp; omega)
  have hv : v = true := by rw [a4]; rfl
  subst hv
  obtain ⟨sl, c1, _, c2⟩ := a5 rfl
  rw [List.nil_append] at c2
  have he : escOk H.length e' = true := by
    cases e' with
    | none => rfl
    | some x => simp only [escOk, decide_eq_true_eq] at a3 ⊢; omega
  have hfr : Fr H H' (fun _ => False) := by
    have := (Fr.app H [.cells [.int .i64 o, .int .i64 n] t_api_Span true, .cells [.slice none 0 0] t_L_int true] (fun x => x = H.length + 1)).trans a2 fun x hx => .inl hx
    exact ⟨this.1, fun x hx _ => this.2 x hx (by omega)⟩
  obtain ⟨l, rfl⟩ := hfr.split
  have hx := load_one (H := H ++ l) (e := joinEsc none e') (b := H.length + 1) (o := 0)
  rw [acall_eq, P_itree_Tree_Overlaps.eq]
  simp only [P_itree_Tree_Overlaps.sh, P_itree_Tree_Overlaps.j0, P_itree_Tree_Overlaps.j1, mach, Nat.reduceAdd, Nat.reduceLeDiff, Int.reduceEq, Int.reduceLT, Int.reduceLE, zg_L_int, is_ok h1', plain_ok, hp, nil_ptr, fa_itree_Tree_1, cellAt_of h1', a1]
  have hc := cellAt_of c1 0
  rw [cellAt_app] at hc
  simp only [hc, List.getElem?_cons_zero, Option.bind_some]
  rcases c2 with ⟨c3, rfl⟩ | ⟨kr, rfl, c3, c4, c5⟩
  · rw [fin_nil (esc_join rfl he), c3]
    rfl
  · have hge : H.length ≤ kr := by
      rcases c4 with c4 | c4
      · omega
      · simp at c4; omega
    have hlr : l[kr - H.length]? = some (intB (told o n t)) := by
      rw [List.getElem?_append_right hge] at c3
      exact c3
    have := fin_row (P := PP) (H0 := H) (l := l) (e := joinEsc none e') (t := t_int) (k := kr - H.length) (n := (told o n t).length) (c := UNK) hlr sz_int (by simp [intsV]) (ints_noSl _) (ints_refs _) (esc_join rfl he)
    rw [show H.length + (kr - H.length) = kr by omega] at this
    exact this
end IT
end Go.Proofs.Ytgpfiiebfhdjhaa

end
section
namespace Go.Proofs.Ytgpfiiebfhdjhaa
open Go Go.Am
set_option linter.unusedVariables false
namespace IT
open Go.It

theorem overlaps_not {H : List Blk} {b : Nat} {t : Tr} {S : Nat → Prop} (h : TD H b t S) {o n : Int} (hp : plainB o n = false) :
    acall PP TT n_P_itree_Tree_Overlaps [ptr b, spn o n] H = some (tSl 0 [], H, none) := by
  obtain ⟨root, h1, h2, h3⟩ := h
  have h1' : (H ++ [.cells [.int .i64 o, .int .i64 n] t_api_Span true, .cells [.slice none 0 0] t_L_int true])[b]? = some (tb root ((toL t).length : Nat)) := by rw [List.getElem?_append_left (get_lt h1)]; exact h1
  rw [acall_eq, P_itree_Tree_Overlaps.eq]
  simp only [P_itree_Tree_Overlaps.sh, P_itree_Tree_Overlaps.j0, mach, Nat.reduceAdd, Nat.reduceLeDiff, Int.reduceEq, Int.reduceLT, Int.reduceLE, zg_L_int, is_ok h1', plain_ok, hp]
  exact fin_nil rfl

/-! ### Is a number among some? -/
theorem int_rows (L : List Int) : RowsOf 1 (L.map fun x => [Value.int .i64 x]) := by
  refine ⟨fun r hr => ?_, fun r hr => ?_, fun r hr => ?_, fun r hr => ?_⟩ <;> (obtain ⟨a, _, rfl⟩ := List.mem_map.1 hr; rfl)
theorem int_flat (L : List Int) : (L.map fun x => [Value.int .i64 x]).flatten = intsV L := by
  induction L with
  | nil => rfl
  | cons x xs ih => simp only [List.map_cons, List.flatten_cons, ih]; rfl
theorem ix_ints {L : List Int} {k : Nat} (hk : k < L.length) : aIndexAddr PP t_L_int (tSl L.length (intsV L)) (.int .i64 (k : Int)) = some (tPtr k (intsV L).toArray) := by
  have := tsl_index (n := L.length) (row := intsV L) (j := .i64) u_L_int sz_int hk
  rw [Nat.mul_one] at this
  exact this
theorem ld_ints {L : List Int} {k : Nat} {x : Int} (hk : L[k]? = some x) (st : AS) : aLoad false 1 st (tPtr k (intsV L).toArray) = some (.int .i64 x) := by
  have := tptr_get (n := 1) (st := st) (off := 0) (v := .int .i64 x) (int_rows L) (r := [.int .i64 x]) (k := k) (by simp [hk]) rfl
  rw [int_flat, Nat.mul_one] at this
  exact this
theorem ln_ints (L : List Int) (st : AS) : aLen PP t_L_int (tSl L.length (intsV L)) st = some (.int .i64 L.length) := tsl_len u_L_int
theorem tsl_refs (L : List Int) : vrefs (tSl L.length (intsV L)) = [] := by
  simp [ints_refs]

theorem lhas_ok (L : List Int) (hl : L.length < 1000000) (y : Int) (H : List Blk) : acall PP TT n_twainlaw14_has [tSl L.length (intsV L), .int .i64 y] H = some (.bool (decide (y ∈ L)), H, none) := by
  obtain ⟨q, hlp, hq⟩ := loop_r (n0 := H.length) (step := twainlaw14_has.loop2s (acall PP TT) loopG H.length) (len := L.length) (σ := Unit)
    (fun k _ => ([.int .i64 y, tSl L.length (intsV L), .int .i64 L.length, .int .i64 k], ⟨H, none⟩))
    (fun k _ => ¬ y ∈ L.take k) (fun q => (q = (.ret, [.bool true], ⟨H, none⟩) ∧ y ∈ L) ∨ (q = (.exit 0, [unk], ⟨H, none⟩) ∧ ¬ y ∈ L))
    (fun k _ hk hno => by
      have hg : L[k]? = some L[k] := List.getElem?_eq_getElem hk
      have hlt : (k : Int) < (L.length : Int) := by omega
      by_cases hy : L[k] = y
      · left
        refine ⟨_, ?_, .inl ⟨rfl, by rw [← hy]; exact List.getElem_mem hk⟩⟩
        simp only [twainlaw14_has.loop2s, twainlaw14_has.loop2, mach, Nat.reduceAdd, Nat.reduceLeDiff, Int.reduceEq, Int.reduceLT, Int.reduceLE, hlt, ix_ints hk, ld_ints hg, hy]
      · right
        have hw : IntKind.i64.wrap ((k : Int) + 1) = ((k + 1 : Nat) : Int) := wrap_succ (by omega)
        refine ⟨_, _, (), ?_, gc_same (by simp [tsl_refs, ints_refs]), ?_⟩
        · simp only [twainlaw14_has.loop2s, twainlaw14_has.loop2, mach, Nat.reduceAdd, Nat.reduceLeDiff, Int.reduceEq, Int.reduceLT, Int.reduceLE, hlt, ix_ints hk, ld_ints hg, hy, hw]
        · rw [List.take_succ, hg]
          simp only [Option.toList_some, List.mem_append, List.mem_singleton, not_or]
          exact ⟨hno, fun h => hy h.symm⟩)
    (fun _ hno => by
      refine ⟨_, ?_, .inr ⟨rfl, by rw [List.take_length] at hno; exact hno⟩⟩
      simp only [twainlaw14_has.loop2s, twainlaw14_has.loop2, mach, Nat.reduceAdd, Nat.reduceLeDiff, Int.reduceEq, Int.reduceLT, Int.reduceLE, Int.lt_irrefl]) L.length 0 () [.int .i64 y, tSl L.length (intsV L), .int .i64 L.length, .int .i64 0] ⟨H, none⟩ (by omega) (by simp) (gc_same (by simp [tsl_refs, ints_refs]))
  rw [acall_eq, twainlaw14_has.eq]
  rcases hq with ⟨rfl, hm⟩ | ⟨rfl, hm⟩
  · simp only [twainlaw14_has.sh, mach, Nat.reduceAdd, Nat.reduceLeDiff, Int.reduceEq, Int.reduceLT, Int.reduceLE, ln_ints, hlp, hm]
    exact fin_lit0 rfl rfl
  · simp only [twainlaw14_has.sh, twainlaw14_has.j2, mach, Nat.reduceAdd, Nat.reduceLeDiff, Int.reduceEq, Int.reduceLT, Int.reduceLE, ln_ints, hlp, hm]
    exact fin_lit0 rfl rfl

/-! ### A tree and a span's box -/
abbrev sb (o n : Int) : Blk := .cells [.int .i64 o, .int .i64 n] t_api_Span true
def Hold (H : List Blk) (b1 : Nat) (o n : Int) (b : Nat) (t : Tr) : Prop := ∃ S, H[b1]? = some (sb o n) ∧ TD H b t S ∧ ¬ S b1 ∧ b1 ≠ b ∧ Inv t

section
variable {H : List Blk} {b1 b : Nat} {o n : Int} {t : Tr}
theorem Hold.app (h : Hold H b1 o n b t) (l : List Blk) : Hold (H ++ l) b1 o n b t := by
  obtain ⟨S, h1, h2, h3, h4, h5⟩ := h
  exact ⟨S, by rw [List.getElem?_append_left (get_lt h1)]; exact h1, h2.app l, h3, h4, h5⟩
theorem Hold.moved {H' : List Blk} {t' : Tr} {S : Nat → Prop} (h1 : H[b1]? = some (sb o n)) (h3 : ¬ S b1) (h4 : b1 ≠ b) (hd : TD H' b t' (nw H S)) (hf : Fr H H' (fun y => y = b ∨ S y)) (hi : Inv t') : Hold H' b1 o n b t' := by
  have hlt := get_lt h1
  refine ⟨_, ?_, hd, ?_, h4, hi⟩
  · rw [hf.2 b1 hlt (fun hc => hc.elim h4 h3)]; exact h1
  · rintro (hc | hc)
    · exact h3 hc
    · omega
theorem hold_insert (h : Hold H b1 o n b t) (hs : (toL t).length < 1000000) (x : En) : ∃ H' e' t', acall PP TT n_P_itree_Tree_Insert [ptr b, spn x.off x.len, .int .i64 x.id] H = some (.bool (insOk x t), H', e') ∧ Hold H' b1 o n b t' ∧ toL t' = if insOk x t = true then putIn x (toL t) else toL t := by
  obtain ⟨S, h1, h2, h3, h4, h5⟩ := id h
  cases hy : insOk x t with
  | true =>
    obtain ⟨H', e', a1, a2, a3⟩ := insert_yes h2 h5 hs hy
    obtain ⟨c1, c2⟩ := insT_len h5 hy
    exact ⟨H', e', _, a1, Hold.moved h1 h3 h4 a2 a3 c2, by simpa using c1⟩
  | false =>
    obtain ⟨l, a1⟩ := insert_no h2 hy
    exact ⟨_, _, t, a1, h.app l, by simp⟩
theorem hold_delete (h : Hold H b1 o n b t) (hs : (toL t).length < 1000000) (x : En) : ∃ H' e' t', acall PP TT n_P_itree_Tree_Delete [ptr b, spn x.off x.len, .int .i64 x.id] H = some (.bool (hasE x t), H', e') ∧ Hold H' b1 o n b t' ∧ toL t' = if hasE x t = true then (toL t).erase x else toL t := by
  obtain ⟨S, h1, h2, h3, h4, h5⟩ := id h
  cases hy : hasE x t with
  | true =>
    obtain ⟨t', c1, c2, H', e', a1, a2, a3⟩ := delete_yes h2 h5 hs hy
    exact ⟨H', e', _, a1, Hold.moved h1 h3 h4 a2 a3 c1, by simpa using c2⟩
  | false => exact ⟨_, _, t, delete_no h2 hy, h.app (bx x), by simp⟩

theorem Hold.gc {vs : List Value} {st : AS} (h : Hold st.H b1 o n b t) (hb1 : b1 ∈ lrefs vs) (hb : b ∈ lrefs vs) : ∃ σ, (gc 0 vs st).1 = lren σ vs ∧ Hold (gc 0 vs st).2.H (σ b1) o n (σ b) t := by
  obtain ⟨σ, g1, g2, g3⟩ := gc0_spec vs st
  obtain ⟨S, h1, h2, h3, h4, h5⟩ := h
  refine ⟨σ, g1, _, g2 b1 (.here hb1) _ h1, h2.ren g2 g3 hb, ?_, fun hc => h4 (g3 _ _ (.here hb1) (.here hb) hc), h5⟩
  rintro ⟨r, c1, c2, c3⟩
  have := g3 _ _ c2 (.here hb1) c3
  subst this
  exact h3 c1
end

section
variable {l : List Act} {o n at_ id : Int}
def I6 (l : List Act) (o n at_ id : Int) (i : Nat) (X : List Value × AS) : Prop := ∃ b1 b t st, X = ([ptr b1, .int .i64 at_, .int .i64 id, ptr b, tSl l.length (actR l), .int .i64 l.length, .int .i64 i], st) ∧ Hold st.H b1 o n b t ∧ (toL t).length ≤ i
theorem I6_gc (i : Nat) (X : List Value × AS) (h : I6 l o n at_ id i X) : I6 l o n at_ id i (gc 0 X.1 X.2) := by
  obtain ⟨b1, b, t, st, rfl, h1, h2⟩ := h
  obtain ⟨σ, g1, g2⟩ := h1.gc (vs := [ptr b1, .int .i64 at_, .int .i64 id, ptr b, tSl l.length (actR l), .int .i64 l.length, .int .i64 i]) (by simp) (by simp)
  refine ⟨σ b1, σ b, t, _, Prod.ext ?_ rfl, g2, h2⟩
  rw [g1]
  simp [lren, vren_none (act_refs l), vren]

theorem loop6_ok (hl : l.length ≤ 100) {b1 b : Nat} {t : Tr} {st : AS} (hf : Hold st.H b1 o n b t) (ht : (toL t).length ≤ 0) :
    ∃ r, loopG 0 (twainlaw14_ItreeFinds.loop6s (acall PP TT) loopG 0) ([ptr b1, .int .i64 at_, .int .i64 id, ptr b, tSl l.length (actR l), .int .i64 l.length, .int .i64 0], st) = some r ∧ ∃ b1' b' t' st', r = (.exit 0, [ptr b1', .int .i64 at_, .int .i64 id, ptr b'], st') ∧ Hold st'.H b1' o n b' t' ∧ (toL t').length ≤ l.length := by
  refine loop_inv (len := l.length) (I6 l o n at_ id) _ I6_gc ?_ ?_ l.length 0 _ (by omega) ⟨b1, b, t, st, rfl, hf, ht⟩
  · rintro i X hi ⟨b1, b, t, ⟨H, e⟩, rfl, h1, h2⟩
    right
    have hlt : (i : Int) < (l.length : Int) := by omega
    have hg : l[i]? = some l[i] := List.getElem?_eq_getElem hi
    generalize l[i] = a at hg
    have w4 : IntKind.i64.wrap ((i : Int) + 1) = ((i + 1 : Nat) : Int) := wrap_succ (by omega)
    obtain ⟨H', e', t', k1, k2, k3⟩ := hold_insert (h1.app [.cells (actc a) t_twainlaw14_Act true]) (by omega) a.e
    have hac : (actc a).length = z_twainlaw14_Act.length := rfl
    have hlen : (toL t').length ≤ i + 1 := by
      rw [k3]
      split
      · rw [putIn_len]; omega
      · omega
    have : ∃ e2, twainlaw14_ItreeFinds.loop6s (acall PP TT) loopG 0 ([ptr b1, .int .i64 at_, .int .i64 id, ptr b, tSl l.length (actR l), .int .i64 l.length, .int .i64 i], ⟨H, e⟩) = some (.inl ([ptr b1, .int .i64 at_, .int .i64 id, ptr b, tSl l.length (actR l), .int .i64 l.length, .int .i64 ((i + 1 : Nat) : Int)], ⟨H', e2⟩)) := by
      unfold actc at k1 hac
      simp only [twainlaw14_ItreeFinds.loop6s, twainlaw14_ItreeFinds.loop6, mach, Nat.reduceAdd, Nat.reduceLeDiff, Int.reduceEq, Int.reduceLT, Int.reduceLE, hlt, act_ix hg, act_load hg, zg_twainlaw14_Act, zl_twainlaw14_Act, za_twainlaw14_Act, z_twainlaw14_Act, actc, putCells_all, hac, fa_twainlaw14_Act_1, fa_twainlaw14_Act_2, k1, w4]
      exact ⟨_, rfl⟩
    obtain ⟨e2, this⟩ := this
    exact ⟨_, this, b1, b, t', _, rfl, k2, hlen⟩
  · rintro X ⟨b1, b, t, ⟨H, e⟩, rfl, h1, h2⟩
    refine ⟨_, ?_, b1, b, t, ⟨H, e⟩, rfl, h1, h2⟩
    simp only [twainlaw14_ItreeFinds.loop6s, twainlaw14_ItreeFinds.loop6, mach, Nat.reduceAdd, Nat.reduceLeDiff, Int.reduceEq, Int.reduceLT, Int.reduceLE, Int.lt_irrefl]
end
end IT
end Go.Proofs.Ytgpfiiebfhdjhaa

end
section
namespace Go.Proofs.Ytgpfiiebfhdjhaa
open Go Go.Am
set_option linter.unusedVariables false
namespace IT
open Go.It

theorem ovl_of {e : En} {o n : Int} (h1 : o < endE e) (h2 : e.off < o + n) (h3 : 0 < n) (h4 : e.off < endE e) : ovl e o n = true := by
  unfold ovl
  rw [decide_eq_true_eq]
  by_cases a : o > e.off
  · by_cases b : o + n < endE e
    · rw [if_pos a, if_pos b]; omega
    · rw [if_pos a, if_neg b]; omega
  · by_cases b : o + n < endE e
    · rw [if_neg a, if_pos b]; omega
    · rw [if_neg a, if_neg b]; omega
theorem told_mem {e : En} {t : Tr} (hi : Inv t) (he : e ∈ toL t) {o n : Int} (h : ovl e o n = true) : e.id ∈ told o n t := by
  rw [told_ok hi.far hi.sorted]
  exact List.mem_map.2 ⟨e, List.mem_filter.2 ⟨he, h⟩, rfl⟩
theorem sorted_nodup : ∀ {L : List En}, Sorted L → L.Nodup
  | [], _ => List.nodup_nil
  | a :: L, h => by
    obtain ⟨h1, h2⟩ := List.pairwise_cons.1 h
    refine List.nodup_cons.2 ⟨fun hm => ?_, sorted_nodup h2⟩
    have := h1 a hm
    rw [ltE_irrefl] at this
    simp at this

section
variable {H : List Blk} {b1 b : Nat} {o n id at_ : Int} {t : Tr} {n0 : Nat} {e : Option Nat}

theorem Hold.inv (h : Hold H b1 o n b t) : Inv t := by obtain ⟨_, _, _, _, _, h⟩ := h; exact h
theorem Hold.box (h : Hold H b1 o n b t) : H[b1]? = some (sb o n) := by obtain ⟨_, h, _⟩ := h; exact h
theorem Hold.td (h : Hold H b1 o n b t) : ∃ S, TD H b t S := by obtain ⟨S, _, h, _⟩ := h; exact ⟨S, h⟩

theorem finds_j5 (h : Hold H b1 o n b t) (hx : (⟨o, n, id⟩ : En) ∈ toL t) (hl : (toL t).length ≤ 1000) (hp : plainB o n = true) (hn : 1 ≤ n) : saysTrue (twainlaw14_ItreeFinds.j5 (acall PP TT) loopG n0 (ptr b1) (.int .i64 id) (ptr b) ⟨H, e⟩) = true := by
  obtain ⟨S, hd⟩ := h.td
  have hov : ovl ⟨o, n, id⟩ o n = true := ovl_of (by simp only [endE]; omega) (by simp only; omega) (by omega) (by simp only [endE]; omega)
  have hm : id ∈ told o n t := told_mem h.inv hx hov
  have hlen := told_len o n t
  have k1 := overlaps_ok hd (by omega) hp
  have k2 := fun H => lhas_ok (told o n t) (by omega) id H
  have k3 := any_ok hd (by omega) hp
  have hne : (told o n t).isEmpty = false := by
    cases hh : told o n t with
    | nil => rw [hh] at hm; simp at hm
    | cons y ys => rfl
  have hpe : plainE ⟨o, n, id⟩ = true := by
    have : ¬ n < 1 := by omega
    simp [plainE, hp, this]
  have hh1 : hasE ⟨o, n, id⟩ t = true := (hasE_ok h.inv.sorted).2 hx
  have ho1 : insOk ⟨o, n, id⟩ t = false := by simp [insOk, hh1]
  obtain ⟨H2, e2, t2, i1, i2, i3⟩ := hold_insert h (by omega) ⟨o, n, id⟩
  rw [ho1] at i1 i3
  simp only [Bool.false_eq_true, if_false] at i1 i3
  have hh2 : hasE ⟨o, n, id⟩ t2 = true := (hasE_ok i2.inv.sorted).2 (by rw [i3]; exact hx)
  obtain ⟨H3, e3, t3, d1, d2, d3⟩ := hold_delete i2 (by rw [i3]; omega) ⟨o, n, id⟩
  rw [hh2] at d1 d3
  simp only [if_true] at d1 d3
  have hl3 : (toL t3).length ≤ 1000 := by
    rw [d3]
    have := List.length_erase_le (a := (⟨o, n, id⟩ : En)) (l := toL t2)
    rw [i3] at this ⊢
    omega
  have hn3 : ¬ (⟨o, n, id⟩ : En) ∈ toL t3 := by
    rw [d3]
    exact List.Nodup.not_mem_erase (sorted_nodup i2.inv.sorted)
  have hh3 : hasE ⟨o, n, id⟩ t3 = false := by
    cases hc : hasE ⟨o, n, id⟩ t3 with
    | false => rfl
    | true => exact absurd ((hasE_ok d2.inv.sorted).1 hc) hn3
  obtain ⟨H4, e4, t4, f1, f2, f3⟩ := hold_delete d2 (by omega) ⟨o, n, id⟩
  rw [hh3] at f1 f3
  simp only [Bool.false_eq_true, if_false] at f1 f3
  have hh4 : hasE ⟨o, n, id⟩ t4 = false := by
    cases hc : hasE ⟨o, n, id⟩ t4 with
    | false => rfl
    | true => exact absurd (by have := (hasE_ok f2.inv.sorted).1 hc; rw [f3] at this; exact this) hn3
  obtain ⟨S4, hd4⟩ := f2.td
  have hlen4 := len_ok hd4
  have ho4 : insOk ⟨o, n, id⟩ t4 = true := by simp [insOk, hh4, hpe]
  obtain ⟨H5, e5, t5, g1, g2, g3⟩ := hold_insert f2 (by rw [f3]; omega) ⟨o, n, id⟩
  rw [ho4] at g1 g3
  simp only [if_true] at g1 g3
  obtain ⟨S5, hd5⟩ := g2.td
  have hlen5 := len_ok hd5
  have hsz : (toL t5).length = (toL t4).length + 1 := by rw [g3, putIn_len]
  rw [hsz] at hlen5
  have hw : IntKind.i64.wrap ((((toL t4).length + 1 : Nat) : Int) - (((toL t4).length : Nat) : Int)) = 1 := by
    rw [wrap_in ⟨by omega, by omega⟩]; omega
  simp only [twainlaw14_ItreeFinds.j5, twainlaw14_ItreeFinds.j6, twainlaw14_ItreeFinds.j7, mach, Nat.reduceAdd, Nat.reduceLeDiff, Int.reduceEq, Int.reduceLT, Int.reduceLE, cellsAt_of h.box, Nat.reduceLeDiff, k1, k2, hm, k3, hne, i1, cellsAt_of i2.box, d1, cellsAt_of d2.box, f1, cellsAt_of f2.box, hlen4, g1, hlen5, hw, twainlaw14_lives.eq]
  exact says_fin

theorem finds_j2 (h : Hold H b1 o n b t) (hl : (toL t).length ≤ 100) (ho : isI o) (hn : isI n) (ha : isI at_) : saysTrue (twainlaw14_ItreeFinds.j2 (acall PP TT) loopG n0 (ptr b1) (.int .i64 at_) (.int .i64 id) (ptr b) ⟨H, e⟩) = true := by
  obtain ⟨H1, e1, t1, i1, i2, i3⟩ := hold_insert h (by omega) ⟨o, n, id⟩
  simp only at i1
  generalize hv : insOk ⟨o, n, id⟩ t = v at i1 i3
  by_cases c1 : 0 ≤ o
  · by_cases c2 : o ≤ 1073741824
    · by_cases c3 : 1 ≤ n
      · by_cases c4 : n ≤ 1073741824
        · have hp : plainB o n = true := by simp [plainB, withinB, c1, c2, c4]; omega
          have hx : (⟨o, n, id⟩ : En) ∈ toL t1 := by
            rw [i3]
            cases v with
            | true => simpa using mem_putIn.2 (.inl rfl)
            | false =>
              have hlt : ¬ n < 1 := by omega
              have : hasE ⟨o, n, id⟩ t = true := by simpa [insOk, plainE, hp, hlt] using hv
              simpa using (hasE_ok h.inv.sorted).1 this
          have hl1 : (toL t1).length ≤ 101 := by
            rw [i3]
            split
            · rw [putIn_len]; omega
            · omega
          have last : ∀ e2, saysTrue (twainlaw14_ItreeFinds.j5 (acall PP TT) loopG n0 (ptr b1) (.int .i64 id) (ptr b) ⟨H1, e2⟩) = true := fun e2 => finds_j5 i2 hx (by omega) hp c3
          obtain ⟨S1, hd1⟩ := i2.td
          by_cases a1 : 0 ≤ at_
          · by_cases a2 : at_ < n
            · have hw : IntKind.i64.wrap (o + at_) = o + at_ := wrap_in ⟨by omega, by omega⟩
              by_cases a3 : o + at_ ≤ 1073741824
              · have hp1 : plainB (o + at_) 1 = true := by
                  simp only [plainB, withinB, Bool.and_eq_true, decide_eq_true_eq]
                  omega
                have hov : ovl ⟨o, n, id⟩ (o + at_) 1 = true := ovl_of (by simp only [endE]; omega) (by simp only; omega) (by omega) (by simp only [endE]; omega)
                have hm : id ∈ told (o + at_) 1 t1 := told_mem i2.inv hx hov
                have hlen := told_len (o + at_) 1 t1
                have k1 := overlaps_ok hd1 (by omega) hp1
                have k2 := fun H => lhas_ok (told (o + at_) 1 t1) (by omega) id H
                simp only [twainlaw14_ItreeFinds.j2, twainlaw14_ItreeFinds.j3, twainlaw14_ItreeFinds.j4, mach, Nat.reduceAdd, Nat.reduceLeDiff, Int.reduceEq, Int.reduceLT, Int.reduceLE, cellsAt_of h.box, Nat.reduceLeDiff, i1, fa_api_Span_0, fa_api_Span_1, cellAt_of i2.box, c1, c2, c3, c4, a1, a2, hw, bd_span2, k1, k2, hm]
                exact last _
              · have hp1 : plainB (o + at_) 1 = false := by
                  simp [plainB, withinB, a3]
                have k1 := overlaps_not hd1 hp1
                have k2 : ∀ H, acall PP TT n_twainlaw14_has [tSl 0 [], .int .i64 id] H = some (.bool false, H, none) := fun H => by
                  have := lhas_ok [] (by simp) id H
                  simpa [intsV] using this
                simp only [twainlaw14_ItreeFinds.j2, twainlaw14_ItreeFinds.j3, twainlaw14_ItreeFinds.j4, mach, Nat.reduceAdd, Nat.reduceLeDiff, Int.reduceEq, Int.reduceLT, Int.reduceLE, cellsAt_of h.box, Nat.reduceLeDiff, i1, fa_api_Span_0, fa_api_Span_1, cellAt_of i2.box, c1, c2, c3, c4, a1, a2, a3, hw, bd_span2, k1, k2]
                exact last _
            · simp only [twainlaw14_ItreeFinds.j2, twainlaw14_ItreeFinds.j3, twainlaw14_ItreeFinds.j4, mach, Nat.reduceAdd, Nat.reduceLeDiff, Int.reduceEq, Int.reduceLT, Int.reduceLE, cellsAt_of h.box, Nat.reduceLeDiff, i1, fa_api_Span_0, fa_api_Span_1, cellAt_of i2.box, c1, c2, c3, c4, a1, a2]
              exact last _
          · simp only [twainlaw14_ItreeFinds.j2, twainlaw14_ItreeFinds.j3, twainlaw14_ItreeFinds.j4, mach, Nat.reduceAdd, Nat.reduceLeDiff, Int.reduceEq, Int.reduceLT, Int.reduceLE, cellsAt_of h.box, Nat.reduceLeDiff, i1, fa_api_Span_0, fa_api_Span_1, cellAt_of i2.box, c1, c2, c3, c4, a1]
            exact last _
        · simp only [twainlaw14_ItreeFinds.j2, twainlaw14_ItreeFinds.j3, mach, Nat.reduceAdd, Nat.reduceLeDiff, Int.reduceEq, Int.reduceLT, Int.reduceLE, cellsAt_of h.box, Nat.reduceLeDiff, i1, fa_api_Span_0, fa_api_Span_1, cellAt_of i2.box, c1, c2, c3, c4, twainlaw14_lives.eq]
          exact says_fin
      · simp only [twainlaw14_ItreeFinds.j2, twainlaw14_ItreeFinds.j3, mach, Nat.reduceAdd, Nat.reduceLeDiff, Int.reduceEq, Int.reduceLT, Int.reduceLE, cellsAt_of h.box, Nat.reduceLeDiff, i1, fa_api_Span_0, fa_api_Span_1, cellAt_of i2.box, c1, c2, c3, twainlaw14_lives.eq]
        exact says_fin
    · simp only [twainlaw14_ItreeFinds.j2, twainlaw14_ItreeFinds.j3, mach, Nat.reduceAdd, Nat.reduceLeDiff, Int.reduceEq, Int.reduceLT, Int.reduceLE, cellsAt_of h.box, Nat.reduceLeDiff, i1, fa_api_Span_0, fa_api_Span_1, cellAt_of i2.box, c1, c2, twainlaw14_lives.eq]
      exact says_fin
  · simp only [twainlaw14_ItreeFinds.j2, twainlaw14_ItreeFinds.j3, mach, Nat.reduceAdd, Nat.reduceLeDiff, Int.reduceEq, Int.reduceLT, Int.reduceLE, cellsAt_of h.box, Nat.reduceLeDiff, i1, fa_api_Span_0, fa_api_Span_1, cellAt_of i2.box, c1, twainlaw14_lives.eq]
    exact says_fin
end

theorem finds_sh {l : List Act} {o n at_ id : Int} (ho : isI o) (hn : isI n) (ha : isI at_) (H : List Blk) : saysTrue (twainlaw14_ItreeFinds.sh (acall PP TT) loopG 0 (tSl l.length (actR l)) (.agg [Value.int .i64 o, Value.int .i64 n, Value.int .i64 at_, Value.int .i64 id].toArray) ⟨H, none⟩) = true := by
  have hvi : ∀ x : Int, veq (.int .i64 x) (.int .i64 x) = true := fun x => by simp [veq]
  by_cases c1 : (100 : Int) < (l.length : Int)
  · simp only [twainlaw14_ItreeFinds.sh, mach, Nat.reduceAdd, Nat.reduceLeDiff, Int.reduceEq, Int.reduceLT, Int.reduceLE, fa_twainlaw14_One_0, fa_twainlaw14_One_1, fa_twainlaw14_One_2, zg_api_Span, zl_api_Span, za_api_Span, z_api_Span, hvi, veq_spn, beq_st, putCells_all, act_len, c1, twainlaw14_lives.eq]
    exact says_fin
  · have hnew := new_ok (H ++ [.cells [Value.int .i64 o, Value.int .i64 n, Value.int .i64 at_, Value.int .i64 id] t_twainlaw14_One true, sb o n])
    have htd := new_TD (H ++ [.cells [Value.int .i64 o, Value.int .i64 n, Value.int .i64 at_, Value.int .i64 id] t_twainlaw14_One true, sb o n])
    have hold : Hold (H ++ [.cells [Value.int .i64 o, Value.int .i64 n, Value.int .i64 at_, Value.int .i64 id] t_twainlaw14_One true, sb o n] ++ [tb nilp 0]) (H.length + 1) o n (H ++ [.cells [Value.int .i64 o, Value.int .i64 n, Value.int .i64 at_, Value.int .i64 id] t_twainlaw14_One true, sb o n]).length .nil :=
      ⟨_, by simp, htd, fun h => h, by simp, inv_nil⟩
    obtain ⟨r, p1, b1', b', t', st', rfl, q1, q2⟩ := loop6_ok (l := l) (o := o) (n := n) (at_ := at_) (id := id) (by omega) (st := ⟨_, none⟩) hold (by simp [toL])
    simp only [List.append_assoc, List.cons_append, List.nil_append, List.length_append, List.length_cons, List.length_nil, Nat.zero_add, Nat.reduceAdd] at hnew p1
    simp only [twainlaw14_ItreeFinds.sh, mach, Nat.reduceAdd, Nat.reduceLeDiff, Int.reduceEq, Int.reduceLT, Int.reduceLE, fa_twainlaw14_One_0, fa_twainlaw14_One_1, fa_twainlaw14_One_2, zg_api_Span, zl_api_Span, za_api_Span, z_api_Span, hvi, veq_spn, beq_st, putCells_all, act_len, c1, hnew]
    rw [p1]
    simp only [mach, Nat.reduceAdd, Nat.reduceLeDiff, Int.reduceEq, Int.reduceLT, Int.reduceLE]
    exact finds_j2 q1 (by omega) ho hn ha
theorem finds_law {l : List Act} {o n at_ id : Int} (ho : isI o) (hn : isI n) (ha : isI at_) : saysTrue (acall PP TT n_twainlaw14_ItreeFinds [tSl l.length (actR l), .agg [Value.int .i64 o, Value.int .i64 n, Value.int .i64 at_, Value.int .i64 id].toArray] []) = true := by
  rw [acall_eq, twainlaw14_ItreeFinds.eq]
  exact finds_sh ho hn ha []

theorem one_of {r : List Value} (h : TOk PP t_twainlaw14_One r) : ∃ o n a i, isI o ∧ isI n ∧ isI a ∧ isI i ∧ r = [Value.int .i64 o, Value.int .i64 n, Value.int .i64 a, Value.int .i64 i] := by
  obtain ⟨ps, rfl, hp⟩ := h.struct_inv us_twainlaw14_One
  rw [ty_twainlaw14_One] at hp
  match ps, hp with
  | [a, b, c], ⟨ha, hb, hc, _⟩ =>
    obtain ⟨o, n, h1, h2, rfl⟩ := span_of ha
    obtain ⟨x, h3, rfl⟩ := tokInt_inv hb
    obtain ⟨i, h4, rfl⟩ := tokInt_inv hc
    exact ⟨o, n, x, i, h1, h2, h3, h4, rfl⟩
theorem one_arg (o n a i : Int) : argV PP t_twainlaw14_One [Value.int .i64 o, Value.int .i64 n, Value.int .i64 a, Value.int .i64 i] = .agg [Value.int .i64 o, Value.int .i64 n, Value.int .i64 a, Value.int .i64 i].toArray := by
  unfold argV
  rw [us_twainlaw14_One]
end IT
end Go.Proofs.Ytgpfiiebfhdjhaa

end
