/- A part of the proof: It1, It2, It3, It4, It5, It6, It7. Its conditions: none. -/
import Derived.Test.YtgpfiiebfhdjhaaItOps
import Derived.Test.YtgpfiiebfhdjhaaItPure
set_option linter.all false
set_option linter.unusedVariables false
set_option linter.unusedSimpArgs false
set_option linter.unnecessarySimpa false
section
namespace Go.Proofs.Ytgpfiiebfhdjhaa
open Go Go.Am
namespace IT
open Go.It

/-- a pointer to a block -/
abbrev ptr (b : Nat) : Value := .pointer (some ⟨b, 0, none⟩)
abbrev nilp : Value := .pointer none
/-- a node's cells -/
def nb (e : En) (c : Bool) (f : Int) (l r : Value) : List Value := [.int .i64 e.off, .int .i64 e.len, .int .i64 e.id, .bool c, .int .i64 f, l, r]
abbrev nd (e : En) (c : Bool) (f : Int) (l r : Value) : Blk := .cells (nb e c f l r) t_itree_node true

theorem eql_ptr (a : Nat) (ox oy : Operand) : aBin PP .eql t_P_itree_node ox oy (ptr a) (.pointer none) = some (.bool false) := by kernel_rfl
theorem eql_nil (x : Nat) : aBin PP .eql t_P_itree_node (.tmp x) (.const (.pointer none)) (.pointer none) (.pointer none) = some (.bool true) := by kernel_rfl
theorem neq_ptr (a : Nat) (ox oy : Operand) : aBin PP .neq t_P_itree_node ox oy (ptr a) (.pointer none) = some (.bool true) := by kernel_rfl
theorem neq_nil (x : Nat) : aBin PP .neq t_P_itree_node (.tmp x) (.const (.pointer none)) (.pointer none) (.pointer none) = some (.bool false) := by kernel_rfl
theorem nil_ptr (a o : Nat) : aNil (.pointer (some ⟨a, o, none⟩)) = some (.pointer (some ⟨a, o, none⟩)) := rfl
theorem ix0 (b o : Nat) : aIndexAddr PP t_A2_P_itree_node (.pointer (some ⟨b, o, none⟩)) (.int .i64 0) = some (.pointer (some ⟨b, o, none⟩)) := by kernel_rfl
theorem ix1 (b o : Nat) : aIndexAddr PP t_A2_P_itree_node (.pointer (some ⟨b, o, none⟩)) (.int .i64 1) = some (.pointer (some ⟨b, o + 1, none⟩)) := by kernel_rfl

section
variable {H : List Blk} {b k : Nat} {cs : List Value} {t : TypeId} {o : Bool}
theorem cellAt_of (h : H[b]? = some (.cells cs t o)) (k : Nat) : cellAt H b k = cs[k]? := by simp [cellAt, h]
theorem cellsAt_of (h : H[b]? = some (.cells cs t o)) (k n : Nat) : cellsAt H b k n = if k + n ≤ cs.length then some ((cs.drop k).take n) else none := by simp [cellsAt, h]
theorem storeL_of (h : H[b]? = some (.cells cs t true)) {e : Option Nat} {vs : List Value} : storeL ⟨H, e⟩ b k vs = if k + vs.length ≤ cs.length ∧ allCells vs = true then some ⟨H.set b (.cells (putCells cs k vs) t true), escOf e b (lrefs vs)⟩ else none := by simp [storeL, h]
theorem get_lt {x : Blk} (h : H[b]? = some x) : b < H.length := (List.getElem?_eq_some_iff.1 h).1
theorem set_at {x : Blk} (h : b < H.length) : (H.set b x)[b]? = some x := by simp [h]
theorem set_off {x : Blk} {q : Nat} (h : b ≠ q) : (H.set b x)[q]? = H[q]? := by simp [h]
end

section
variable {e : En} {c : Bool} {f : Int} {l r : Value}
theorem nb_len : (nb e c f l r).length = 7 := rfl
theorem nb_s : (nb e c f l r).take 2 = [.int .i64 e.off, .int .i64 e.len] := rfl
theorem nb_e : (nb e c f l r).take 3 = [.int .i64 e.off, .int .i64 e.len, .int .i64 e.id] := rfl
theorem nb_0 : (nb e c f l r)[0]? = some (.int .i64 e.off) := rfl
theorem nb_2 : (nb e c f l r)[2]? = some (.int .i64 e.id) := rfl
theorem nb_3 : (nb e c f l r)[3]? = some (.bool c) := rfl
theorem nb_4 : (nb e c f l r)[4]? = some (.int .i64 f) := rfl
theorem nb_5 : (nb e c f l r)[5]? = some l := rfl
theorem nb_6 : (nb e c f l r)[6]? = some r := rfl
theorem nb_put3 {c' : Bool} : putCells (nb e c f l r) 3 [.bool c'] = nb e c' f l r := rfl
theorem nb_put4 {f' : Int} : putCells (nb e c f l r) 4 [.int .i64 f'] = nb e c f' l r := rfl
theorem nb_put5 {x : Value} : putCells (nb e c f l r) 5 [x] = nb e c f x r := rfl
theorem nb_put6 {x : Value} : putCells (nb e c f l r) 6 [x] = nb e c f l x := rfl
theorem nb_put0 {e' : En} : putCells (nb e c f l r) 0 [.int .i64 e'.off, .int .i64 e'.len, .int .i64 e'.id] = nb e' c f l r := rfl
end

/-- a tree stands in a heap, its nodes within a set -/
def TA (H : List Blk) : Value → Tr → (Nat → Prop) → Prop
  | p, .nil, S => p = nilp
  | p, .nd c e f l r, S => ∃ (b : Nat) (pl pr : Value) (Sl Sr : Nat → Prop), p = ptr b ∧ H[b]? = some (nd e c f pl pr) ∧ plainB e.off e.len = true ∧ TA H pl l Sl ∧ TA H pr r Sr ∧
    S b ∧ (∀ x, Sl x → S x ∧ x ≠ b) ∧ (∀ x, Sr x → S x ∧ x ≠ b ∧ ¬ Sl x)

theorem TA.more {H : List Blk} {p : Value} {t : Tr} {S S' : Nat → Prop} (h : TA H p t S) (hs : ∀ x, S x → S' x) : TA H p t S' := by
  cases t with
  | nil => exact h
  | nd c e f l r =>
    obtain ⟨b, pl, pr, Sl, Sr, h1, h2, h3, h4, h5, h6, h7, h8⟩ := h
    exact ⟨b, pl, pr, Sl, Sr, h1, h2, h3, h4, h5, hs _ h6, fun x hx => ⟨hs _ (h7 x hx).1, (h7 x hx).2⟩, fun x hx => ⟨hs _ (h8 x hx).1, (h8 x hx).2⟩⟩
theorem TA.frame {H H' : List Blk} : ∀ {t : Tr} {p : Value} {S : Nat → Prop}, TA H p t S → (∀ x, S x → H'[x]? = H[x]?) → TA H' p t S
  | .nil, p, S, h, _ => h
  | .nd c e f l r, p, S, h, hf => by
    obtain ⟨b, pl, pr, Sl, Sr, h1, h2, h3, h4, h5, h6, h7, h8⟩ := h
    exact ⟨b, pl, pr, Sl, Sr, h1, by rw [hf b h6]; exact h2, h3, h4.frame (fun x hx => hf x (h7 x hx).1), h5.frame (fun x hx => hf x (h8 x hx).1), h6, h7, h8⟩
/-- set a block outside -/
theorem TA.set {H : List Blk} {t : Tr} {p : Value} {S : Nat → Prop} (h : TA H p t S) {b : Nat} {x : Blk} (hb : ∀ y, S y → y ≠ b) : TA (H.set b x) p t S :=
  h.frame fun y hy => set_off (hb y hy).symm

theorem TA.ptr {H : List Blk} {t : Tr} {p : Value} {S : Nat → Prop} (h : TA H p t S) : (p = nilp ∧ t = .nil) ∨ (∃ b, p = IT.ptr b ∧ isNil t = false) := by
  cases t with
  | nil => exact .inl ⟨h, rfl⟩
  | nd c e f l r => obtain ⟨b, _, _, _, _, h1, _⟩ := h; exact .inr ⟨b, h1, rfl⟩

theorem isRed_ok {H : List Blk} {p : Value} {t : Tr} {S : Nat → Prop} (h : TA H p t S) : acall PP TT n_itree_isRed [p] H = some (.bool (isRed t), H, none) := by
  rw [acall_eq, itree_isRed.eq]
  cases t with
  | nil =>
    rw [show p = nilp from h]
    simp only [itree_isRed.sh, mach, Nat.reduceAdd, Nat.reduceLeDiff, Int.reduceEq, Int.reduceLT, Int.reduceLE, neq_nil]
    exact fin_lit0 rfl rfl
  | nd c e f l r =>
    obtain ⟨b, pl, pr, Sl, Sr, rfl, h2, _⟩ := h
    simp only [itree_isRed.sh, mach, Nat.reduceAdd, Nat.reduceLeDiff, Int.reduceEq, Int.reduceLT, Int.reduceLE, neq_ptr, nil_ptr, fa_itree_node_1, cellAt_of h2, nb_3]
    exact fin_lit0 rfl rfl

theorem reach_ok {H : List Blk} {p : Value} {t : Tr} {S : Nat → Prop} (h : TA H p t S) : acall PP TT n_itree_reach [p] H = some (.int .i64 (reach t), H, none) := by
  rw [acall_eq, itree_reach.eq]
  cases t with
  | nil =>
    rw [show p = nilp from h]
    simp only [itree_reach.sh, mach, Nat.reduceAdd, Nat.reduceLeDiff, Int.reduceEq, Int.reduceLT, Int.reduceLE, eql_nil]
    exact fin_lit0 rfl rfl
  | nd c e f l r =>
    obtain ⟨b, pl, pr, Sl, Sr, rfl, h2, _⟩ := h
    simp only [itree_reach.sh, mach, Nat.reduceAdd, Nat.reduceLeDiff, Int.reduceEq, Int.reduceLT, Int.reduceLE, eql_ptr, nil_ptr, fa_itree_node_2, cellAt_of h2, nb_4]
    exact fin_lit0 rfl rfl

theorem veq_p {H : List Blk} {p : Value} {t : Tr} {S : Nat → Prop} (h : TA H p t S) : veq p p = true := by
  rcases h.ptr with ⟨rfl, _⟩ | ⟨b, rfl, _⟩
  · rfl
  · simp [veq]
theorem cell_p {H : List Blk} {p : Value} {t : Tr} {S : Nat → Prop} (h : TA H p t S) : cellV p = true := by
  rcases h.ptr with ⟨rfl, _⟩ | ⟨b, rfl, _⟩
  · rfl
  · rfl

theorem max_far {R : Type} {k : Value → AS → Option R} {x y z : Int} {ts : Array TypeId} {st : AS} : eBuiltin PP .max ts [.int .i64 x, .int .i64 y, .int .i64 z] st k = k (.int .i64 (max3 x y z)) st := by
  simp [eBuiltin, aMinMax, max3]
theorem endI_e {e : En} (h : plainB e.off e.len = true) : endI e.off e.len = endE e := by simp [endI, h, endE]
theorem finK {vs : List Value} {H : List Blk} {n : Nat} {e : Option Nat} : fin PP true n vs ⟨H, e⟩ = some (oneOf vs, H, escBelow n e) := by
  simp [fin, endFrz]
theorem beq_st : ((some true : Option Bool) == some true) = true := rfl

theorem mend_ok {H : List Blk} {b : Nat} {e : En} {c : Bool} {f : Int} {pl pr : Value} {l r : Tr} {Sl Sr : Nat → Prop} (h : H[b]? = some (nd e c f pl pr)) (he : plainB e.off e.len = true) (hl : TA H pl l Sl) (hr : TA H pr r Sr) :
    acall PP TT n_P_itree_node_mend [ptr b] H = some (oneOf [], H.set b (nd e c (farOf e l r) pl pr), none) := by
  rw [acall_eq, P_itree_node_mend.eq]
  have h1 := end_ok e.off e.len H
  rw [endI_e he] at h1
  simp only [P_itree_node_mend.sh, mach, Nat.reduceAdd, Nat.reduceLeDiff, Int.reduceEq, Int.reduceLT, Int.reduceLE, nil_ptr, fa_itree_node_0, fa_itree_entry_0, fa_itree_node_2, fa_itree_node_3, ix0, ix1, cellAt_of h, cellsAt_of h, nb_len, Nat.reduceLeDiff, nb_s, nb_5, nb_6, h1, veq_p hl, veq_p hr, beq_st, reach_ok hl, reach_ok hr, max_far, storeL_of h, nb_put4, finK]
  rfl
end IT
end Go.Proofs.Ytgpfiiebfhdjhaa

end
section
namespace Go.Proofs.Ytgpfiiebfhdjhaa
open Go Go.Am
set_option linter.unusedVariables false
namespace IT
open Go.It

/-- what was outside a set stands as it was -/
def Fr (H H' : List Blk) (S : Nat → Prop) : Prop := H.length ≤ H'.length ∧ ∀ x, x < H.length → ¬ S x → H'[x]? = H[x]?
theorem Fr.refl (H : List Blk) (S : Nat → Prop) : Fr H H S := ⟨Nat.le_refl _, fun _ _ _ => rfl⟩
theorem Fr.set {H H' : List Blk} {S : Nat → Prop} (h : Fr H H' S) {b : Nat} {x : Blk} (hb : S b) : Fr H (H'.set b x) S :=
  ⟨by rw [List.length_set]; exact h.1, fun y hy hn => by rw [set_off (fun hc => hn (by rw [← hc]; exact hb))]; exact h.2 y hy hn⟩
/-- also what is new may be used -/
def nw (H : List Blk) (S : Nat → Prop) : Nat → Prop := fun x => S x ∨ H.length ≤ x
theorem Fr.trans {H H' H'' : List Blk} {S T : Nat → Prop} (h : Fr H H' S) (h' : Fr H' H'' T) (ht : ∀ x, T x → S x ∨ H.length ≤ x) : Fr H H'' S :=
  ⟨Nat.le_trans h.1 h'.1, fun x hx hn => by
    rw [h'.2 x (Nat.lt_of_lt_of_le hx h.1) (fun hc => ?_), h.2 x hx hn]
    rcases ht x hc with hc | hc
    · exact hn hc
    · omega⟩
theorem Fr.more {H H' : List Blk} {S T : Nat → Prop} (h : Fr H H' S) (ht : ∀ x, S x → T x) : Fr H H' T := ⟨h.1, fun x hx hn => h.2 x hx (fun hc => hn (ht x hc))⟩

/-- what a call of a function that changes a tree comes to -/
def Res (r : Option (Value × List Blk × Option Nat)) (H : List Blk) (t : Tr) (S : Nat → Prop) : Prop := ∃ p' H' e', r = some (p', H', e') ∧ TA H' p' t S ∧ Fr H H' S

theorem w10 : IntKind.i64.wrap (1 - 0) = 1 := by rw [IntKind.wrap_i64]; omega
theorem w11 : IntKind.i64.wrap (1 - 1) = 0 := by rw [IntKind.wrap_i64]; omega
theorem len_set {H : List Blk} {b : Nat} {x : Blk} {q : Nat} (h : q < H.length) : q < (H.set b x).length := by rw [List.length_set]; exact h

theorem turnL_ok {H : List Blk} {p : Value} {t t' : Tr} {S : Nat → Prop} (h : TA H p t S) (ht : turnL t = some t') : Res (acall PP TT n_itree_turn [p, .int .i64 0] H) H t' S := by
  obtain ⟨c, e, f, l, c2, e2, f2, a, b, rfl⟩ : ∃ c e f l c2 e2 f2 a b, t = .nd c e f l (.nd c2 e2 f2 a b) := by
    unfold turnL at ht
    split at ht
    · exact ⟨_, _, _, _, _, _, _, _, _, rfl⟩
    · simp at ht
  simp only [turnL, Option.some.injEq] at ht
  subst ht
  obtain ⟨q, pl, pu, Sl, Su, rfl, hq, he, hl, hu, hSq, hSl, hSu⟩ := h
  obtain ⟨u, pa, pb, Sa, Sb, rfl, huu, he2, ha, hb, hSuu, hSa, hSb⟩ := hu
  have nuq : u ≠ q := (hSu u hSuu).2.1
  have nqu : q ≠ u := fun hc => nuq hc.symm
  have dlu : ∀ y, Sl y → y ≠ u := fun y hy hc => (hSu u hSuu).2.2 (hc ▸ hy)
  have dab : ∀ y, Sb y → ¬ Sa y := fun y hy => (hSb y hy).2.2
  have dbl : ∀ y, Sb y → ¬ Sl y := fun y hy => (hSu y (hSb y hy).1).2.2
  have dal : ∀ y, Sa y → ¬ Sl y := fun y hy => (hSu y (hSa y hy).1).2.2
  have dau : ∀ y, Sa y → y ≠ u := fun y hy => (hSa y hy).2
  have dbu : ∀ y, Sb y → y ≠ u := fun y hy => (hSb y hy).2.1
  have dlq : ∀ y, Sl y → y ≠ q := fun y hy => (hSl y hy).2
  have daq : ∀ y, Sa y → y ≠ q := fun y hy => (hSu y (hSa y hy).1).2.1
  have dbq : ∀ y, Sb y → y ≠ q := fun y hy => (hSu y (hSb y hy).1).2.1
  have hql := get_lt hq
  have hul := get_lt huu
  have k1 := (set_off (x := nd e c f pl pa) nqu).trans huu
  have k2 := (set_off (x := nd e2 c2 f2 (ptr q) pb) nuq).trans (set_at (x := nd e c f pl pa) hql)
  have k3 := set_at (x := nd e2 c2 f2 (ptr q) pb) (len_set (b := q) (x := nd e c f pl pa) hul)
  have k4 := (set_off (x := nd e2 c f2 (ptr q) pb) nuq).trans k2
  have k5 := set_at (x := nd e true f pl pa) (len_set (b := u) (x := nd e2 c f2 (ptr q) pb) (len_set (b := u) (x := nd e2 c2 f2 (ptr q) pb) (len_set (b := q) (x := nd e c f pl pa) hql)))
  have tl4 := (((hl.set (x := nd e c f pl pa) dlq).set (x := nd e2 c2 f2 (ptr q) pb) dlu).set (x := nd e2 c f2 (ptr q) pb) dlu).set (x := nd e true f pl pa) dlq
  have ta4 := (((ha.set (x := nd e c f pl pa) daq).set (x := nd e2 c2 f2 (ptr q) pb) dau).set (x := nd e2 c f2 (ptr q) pb) dau).set (x := nd e true f pl pa) daq
  have k6 := mend_ok k5 he tl4 ta4
  have k7 := (set_off (x := nd e true (farOf e l a) pl pa) nqu).trans ((set_off (x := nd e true f pl pa) nqu).trans (set_at (x := nd e2 c f2 (ptr q) pb) (len_set (b := u) (x := nd e2 c2 f2 (ptr q) pb) (len_set (b := q) (x := nd e c f pl pa) hul))))
  have tb5 := ((((hb.set (x := nd e c f pl pa) dbq).set (x := nd e2 c2 f2 (ptr q) pb) dbu).set (x := nd e2 c f2 (ptr q) pb) dbu).set (x := nd e true f pl pa) dbq).set (x := nd e true (farOf e l a) pl pa) dbq
  have tq5 : TA (((((H.set q (nd e c f pl pa)).set u (nd e2 c2 f2 (ptr q) pb)).set u (nd e2 c f2 (ptr q) pb)).set q (nd e true f pl pa)).set q (nd e true (farOf e l a) pl pa)) (ptr q) (mk true e l a) (fun x => x = q ∨ Sl x ∨ Sa x) := ⟨q, pl, pa, Sl, Sa, rfl, set_at (len_set (len_set (len_set (len_set hql)))), he, tl4.set dlq, ta4.set daq, Or.inl rfl, fun x hx => ⟨Or.inr (Or.inl hx), dlq x hx⟩, fun x hx => ⟨Or.inr (Or.inr hx), daq x hx, dal x hx⟩⟩
  have k8 := mend_ok k7 he2 tq5 tb5
  have hcall : ∃ e', acall PP TT n_itree_turn [ptr q, .int .i64 0] H = some (ptr u, (((((H.set q (nd e c f pl pa)).set u (nd e2 c2 f2 (ptr q) pb)).set u (nd e2 c f2 (ptr q) pb)).set q (nd e true f pl pa)).set q (nd e true (farOf e l a) pl pa)).set u (nd e2 c (farOf e2 (mk true e l a) b) (ptr q) pb), e') := by
    rw [acall_eq, itree_turn.eq]
    simp only [itree_turn.sh, mach, Nat.reduceAdd, Nat.reduceLeDiff, Int.reduceEq, Int.reduceLT, Int.reduceLE, w10, w11, nil_ptr, fa_itree_node_1, fa_itree_node_3, ix0, ix1, cellAt_of hq, cellAt_of huu, nb_len, Nat.reduceLeDiff, nb_3, nb_5, nb_6, store_one (cell_p ha), cell_p ha, storeL_of hq, nb_put3, nb_put5, nb_put6, storeL_of k1, cellAt_of k2, storeL_of k3, storeL_of k4, k6, k8, finK]
    exact ⟨_, rfl⟩
  obtain ⟨e', hcall⟩ := hcall
  refine ⟨_, _, _, hcall, ?_, ?_⟩
  · refine ⟨u, ptr q, pb, fun x => x = q ∨ Sl x ∨ Sa x, Sb, rfl, set_at (by simp only [List.length_set]; exact hul), he2, tq5.set ?_, tb5.set dbu, (hSu u hSuu).1, ?_, ?_⟩
    · rintro x (rfl | hx | hx)
      · exact nqu
      · exact dlu x hx
      · exact dau x hx
    · rintro x (rfl | hx | hx)
      · exact ⟨hSq, nqu⟩
      · exact ⟨(hSl x hx).1, dlu x hx⟩
      · exact ⟨(hSu x (hSa x hx).1).1, dau x hx⟩
    · intro x hx
      refine ⟨(hSu x (hSb x hx).1).1, dbu x hx, ?_⟩
      rintro (rfl | hc | hc)
      · exact dbq x hx rfl
      · exact dbl x hx hc
      · exact dab x hx hc
  · have hSu' := (hSu u hSuu).1
    exact ((((((Fr.refl H S).set hSq).set hSu').set hSu').set hSq).set hSq).set hSu'

theorem turnR_ok {H : List Blk} {p : Value} {t t' : Tr} {S : Nat → Prop} (h : TA H p t S) (ht : turnR t = some t') : Res (acall PP TT n_itree_turn [p, .int .i64 1] H) H t' S := by
  obtain ⟨c, e, f, l, c2, e2, f2, a, b, rfl⟩ : ∃ c e f l c2 e2 f2 a b, t = .nd c e f (.nd c2 e2 f2 b a) l := by
    unfold turnR at ht
    split at ht
    · exact ⟨_, _, _, _, _, _, _, _, _, rfl⟩
    · simp at ht
  simp only [turnR, Option.some.injEq] at ht
  subst ht
  obtain ⟨q, pu, pl, Su, Sl, rfl, hq, he, hu, hl, hSq, hSu, hSl⟩ := h
  obtain ⟨u, pb, pa, Sb, Sa, rfl, huu, he2, hb, ha, hSuu, hSb, hSa⟩ := hu
  have nuq : u ≠ q := (hSu u hSuu).2
  have nqu : q ≠ u := fun hc => nuq hc.symm
  have dlu : ∀ y, Sl y → y ≠ u := fun y hy hc => (hSl y hy).2.2 (hc ▸ hSuu)
  have dab : ∀ y, Sb y → ¬ Sa y := fun y hy hc => (hSa y hc).2.2 hy
  have dbl : ∀ y, Sb y → ¬ Sl y := fun y hy hc => (hSl y hc).2.2 (hSb y hy).1
  have dal : ∀ y, Sa y → ¬ Sl y := fun y hy hc => (hSl y hc).2.2 (hSa y hy).1
  have dau : ∀ y, Sa y → y ≠ u := fun y hy => (hSa y hy).2.1
  have dbu : ∀ y, Sb y → y ≠ u := fun y hy => (hSb y hy).2
  have dlq : ∀ y, Sl y → y ≠ q := fun y hy => (hSl y hy).2.1
  have daq : ∀ y, Sa y → y ≠ q := fun y hy => (hSu y (hSa y hy).1).2
  have dbq : ∀ y, Sb y → y ≠ q := fun y hy => (hSu y (hSb y hy).1).2
  have hql := get_lt hq
  have hul := get_lt huu
  have k1 := (set_off (x := nd e c f pa pl) nqu).trans huu
  have k2 := (set_off (x := nd e2 c2 f2 pb (ptr q)) nuq).trans (set_at (x := nd e c f pa pl) hql)
  have k3 := set_at (x := nd e2 c2 f2 pb (ptr q)) (len_set (b := q) (x := nd e c f pa pl) hul)
  have k4 := (set_off (x := nd e2 c f2 pb (ptr q)) nuq).trans k2
  have k5 := set_at (x := nd e true f pa pl) (len_set (b := u) (x := nd e2 c f2 pb (ptr q)) (len_set (b := u) (x := nd e2 c2 f2 pb (ptr q)) (len_set (b := q) (x := nd e c f pa pl) hql)))
  have tl4 := (((hl.set (x := nd e c f pa pl) dlq).set (x := nd e2 c2 f2 pb (ptr q)) dlu).set (x := nd e2 c f2 pb (ptr q)) dlu).set (x := nd e true f pa pl) dlq
  have ta4 := (((ha.set (x := nd e c f pa pl) daq).set (x := nd e2 c2 f2 pb (ptr q)) dau).set (x := nd e2 c f2 pb (ptr q)) dau).set (x := nd e true f pa pl) daq
  have k6 := mend_ok k5 he ta4 tl4
  have k7 := (set_off (x := nd e true (farOf e a l) pa pl) nqu).trans ((set_off (x := nd e true f pa pl) nqu).trans (set_at (x := nd e2 c f2 pb (ptr q)) (len_set (b := u) (x := nd e2 c2 f2 pb (ptr q)) (len_set (b := q) (x := nd e c f pa pl) hul))))
  have tb5 := ((((hb.set (x := nd e c f pa pl) dbq).set (x := nd e2 c2 f2 pb (ptr q)) dbu).set (x := nd e2 c f2 pb (ptr q)) dbu).set (x := nd e true f pa pl) dbq).set (x := nd e true (farOf e a l) pa pl) dbq
  have tq5 : TA (((((H.set q (nd e c f pa pl)).set u (nd e2 c2 f2 pb (ptr q))).set u (nd e2 c f2 pb (ptr q))).set q (nd e true f pa pl)).set q (nd e true (farOf e a l) pa pl)) (ptr q) (mk true e a l) (fun x => x = q ∨ Sl x ∨ Sa x) := ⟨q, pa, pl, Sa, Sl, rfl, set_at (len_set (len_set (len_set (len_set hql)))), he, ta4.set daq, tl4.set dlq, Or.inl rfl, fun x hx => ⟨Or.inr (Or.inr hx), daq x hx⟩, fun x hx => ⟨Or.inr (Or.inl hx), dlq x hx, fun hc => dal x hc hx⟩⟩
  have k8 := mend_ok k7 he2 tb5 tq5
  have hcall : ∃ e', acall PP TT n_itree_turn [ptr q, .int .i64 1] H = some (ptr u, (((((H.set q (nd e c f pa pl)).set u (nd e2 c2 f2 pb (ptr q))).set u (nd e2 c f2 pb (ptr q))).set q (nd e true f pa pl)).set q (nd e true (farOf e a l) pa pl)).set u (nd e2 c (farOf e2 b (mk true e a l)) pb (ptr q)), e') := by
    rw [acall_eq, itree_turn.eq]
    simp only [itree_turn.sh, mach, Nat.reduceAdd, Nat.reduceLeDiff, Int.reduceEq, Int.reduceLT, Int.reduceLE, w10, w11, nil_ptr, fa_itree_node_1, fa_itree_node_3, ix0, ix1, cellAt_of hq, cellAt_of huu, nb_len, Nat.reduceLeDiff, nb_3, nb_5, nb_6, store_one (cell_p ha), cell_p ha, storeL_of hq, nb_put3, nb_put5, nb_put6, storeL_of k1, cellAt_of k2, storeL_of k3, storeL_of k4, k6, k8, finK]
    exact ⟨_, rfl⟩
  obtain ⟨e', hcall⟩ := hcall
  refine ⟨_, _, _, hcall, ?_, ?_⟩
  · refine ⟨u, pb, ptr q, Sb, fun x => x = q ∨ Sl x ∨ Sa x, rfl, set_at (by simp only [List.length_set]; exact hul), he2, tb5.set dbu, tq5.set ?_, (hSu u hSuu).1, ?_, ?_⟩
    · rintro x (rfl | hx | hx)
      · exact nqu
      · exact dlu x hx
      · exact dau x hx
    · intro x hx
      exact ⟨(hSu x (hSb x hx).1).1, dbu x hx⟩
    · rintro x (rfl | hx | hx)
      · exact ⟨hSq, nqu, fun hc => dbq x hc rfl⟩
      · exact ⟨(hSl x hx).1, dlu x hx, fun hc => dbl x hc hx⟩
      · exact ⟨(hSu x (hSa x hx).1).1, dau x hx, fun hc => dab x hc hx⟩
  · have hSu' := (hSu u hSuu).1
    exact ((((((Fr.refl H S).set hSq).set hSu').set hSu').set hSq).set hSq).set hSu'
end IT
end Go.Proofs.Ytgpfiiebfhdjhaa

end
section
namespace Go.Proofs.Ytgpfiiebfhdjhaa
open Go Go.Am
set_option linter.unusedVariables false
namespace IT
open Go.It

theorem Res.after {r : Option (Value × List Blk × Option Nat)} {H H' : List Blk} {t : Tr} {S : Nat → Prop} (h : Res r H' t S) (hf : Fr H H' S) : Res r H t S := by
  obtain ⟨p, H2, e, h1, h2, h3⟩ := h
  exact ⟨p, H2, e, h1, h2, hf.trans h3 (fun x hx => .inl hx)⟩

theorem flip_ok {H : List Blk} {p : Value} {t t' : Tr} {S : Nat → Prop} (h : TA H p t S) (ht : It.flip t = some t') : ∃ H', acall PP TT n_itree_flip [p] H = some (oneOf [], H', none) ∧ TA H' p t' S ∧ Fr H H' S := by
  obtain ⟨c, e, f, c1, e1, f1, a, b, c2, e2, f2, a2, b2, rfl⟩ : ∃ c e f c1 e1 f1 a b c2 e2 f2 a2 b2, t = .nd c e f (.nd c1 e1 f1 a b) (.nd c2 e2 f2 a2 b2) := by
    unfold It.flip at ht
    split at ht
    · exact ⟨_, _, _, _, _, _, _, _, _, _, _, _, _, rfl⟩
    · simp at ht
  simp only [It.flip, Option.some.injEq] at ht
  subst ht
  obtain ⟨q, pl, pr, Sl, Sr, rfl, hq, he, hl, hr, hSq, hSl, hSr⟩ := h
  obtain ⟨u, pa, pb, Sa, Sb, rfl, hu, he1, ha, hb, hSu, hSa, hSb⟩ := hl
  obtain ⟨v, pa2, pb2, Sa2, Sb2, rfl, hv, he2, ha2, hb2, hSv, hSa2, hSb2⟩ := hr
  have nuq : u ≠ q := (hSl u hSu).2
  have nqu : q ≠ u := fun hc => nuq hc.symm
  have nvq : v ≠ q := (hSr v hSv).2.1
  have nqv : q ≠ v := fun hc => nvq hc.symm
  have nuv : u ≠ v := fun hc => (hSr v hSv).2.2 (hc ▸ hSu)
  have nvu : v ≠ u := fun hc => nuv hc.symm
  have hql := get_lt hq
  have hul := get_lt hu
  have hvl := get_lt hv
  have k1 := set_at (x := nd e (!c) f (ptr u) (ptr v)) hql
  have k2 := (set_off (x := nd e (!c) f (ptr u) (ptr v)) nqu).trans hu
  have k3 := (set_off (x := nd e1 (!c1) f1 pa pb) nuq).trans k1
  have k4 := (set_off (x := nd e1 (!c1) f1 pa pb) nuv).trans ((set_off (x := nd e (!c) f (ptr u) (ptr v)) nqv).trans hv)
  have hcall : acall PP TT n_itree_flip [ptr q] H = some (oneOf [], ((H.set q (nd e (!c) f (ptr u) (ptr v))).set u (nd e1 (!c1) f1 pa pb)).set v (nd e2 (!c2) f2 pa2 pb2), none) := by
    rw [acall_eq, itree_flip.eq]
    simp only [itree_flip.sh, mach, Nat.reduceAdd, Nat.reduceLeDiff, Int.reduceEq, Int.reduceLT, Int.reduceLE, nil_ptr, fa_itree_node_1, fa_itree_node_3, ix0, ix1, cellAt_of hq, storeL_of hq, nb_len, Nat.reduceLeDiff, nb_3, nb_5, nb_6, nb_put3, cellAt_of k1, cellAt_of k2, storeL_of k2, cellAt_of k3, cellAt_of k4, storeL_of k4, finK]
    rfl
  refine ⟨_, hcall, ?_, ?_⟩
  · refine ⟨q, ptr u, ptr v, Sl, Sr, rfl, (set_off nvq).trans k3, he, ⟨u, pa, pb, Sa, Sb, rfl, (set_off nvu).trans (set_at (len_set hul)), he1, ?_, ?_, hSu, hSa, hSb⟩, ⟨v, pa2, pb2, Sa2, Sb2, rfl, set_at (len_set (len_set hvl)), he2, ?_, ?_, hSv, hSa2, hSb2⟩, hSq, hSl, hSr⟩
    · exact ((ha.set fun y hy => (hSl y (hSa y hy).1).2).set fun y hy => (hSa y hy).2).set fun y hy hc => (hSr v hSv).2.2 (hc ▸ (hSa y hy).1)
    · exact ((hb.set fun y hy => (hSl y (hSb y hy).1).2).set fun y hy => (hSb y hy).2.1).set fun y hy hc => (hSr v hSv).2.2 (hc ▸ (hSb y hy).1)
    · exact ((ha2.set fun y hy => (hSr y (hSa2 y hy).1).2.1).set fun y hy hc => (hSr y (hSa2 y hy).1).2.2 (hc ▸ hSu)).set fun y hy => (hSa2 y hy).2
    · exact ((hb2.set fun y hy => (hSr y (hSb2 y hy).1).2.1).set fun y hy hc => (hSr y (hSb2 y hy).1).2.2 (hc ▸ hSu)).set fun y hy => (hSb2 y hy).2.1
  · exact (((Fr.refl H S).set hSq).set (hSl u hSu).1).set (hSr v hSv).1

theorem mends_ok {H : List Blk} {p : Value} {t : Tr} {S : Nat → Prop} (h : TA H p t S) (hn : isNil t = false) : ∃ H', acall PP TT n_P_itree_node_mend [p] H = some (oneOf [], H', none) ∧ TA H' p (mend t) S ∧ Fr H H' S := by
  cases t with
  | nil => simp at hn
  | nd c e f l r =>
    obtain ⟨q, pl, pr, Sl, Sr, rfl, hq, he, hl, hr, hSq, hSl, hSr⟩ := h
    exact ⟨_, mend_ok hq he hl hr, ⟨q, pl, pr, Sl, Sr, rfl, set_at (get_lt hq), he, hl.set fun y hy => (hSl y hy).2, hr.set fun y hy => (hSr y hy).2.1, hSq, hSl, hSr⟩, (Fr.refl H S).set hSq⟩

section
variable {n0 : Nat} {eo : Option Nat}
theorem j5_ok {H : List Blk} {p : Value} {t : Tr} {S : Nat → Prop} (h : TA H p t S) (hn : isNil t = false) : Res (itree_settle.j5 (acall PP TT) loopG n0 p ⟨H, eo⟩) H (mend t) S := by
  obtain ⟨H', h1, h2, h3⟩ := mends_ok h hn
  have : ∃ e', itree_settle.j5 (acall PP TT) loopG n0 p ⟨H, eo⟩ = some (p, H', e') := by
    simp only [itree_settle.j5, mach, Nat.reduceAdd, Nat.reduceLeDiff, Int.reduceEq, Int.reduceLT, Int.reduceLE, h1, finK]
    exact ⟨_, rfl⟩
  obtain ⟨e', this⟩ := this
  exact ⟨_, _, _, this, h2, h3⟩

theorem j3_ok {H : List Blk} {p : Value} {t t' : Tr} {S : Nat → Prop} (h : TA H p t S) (hn : isNil t = false) (ht : (settle3 t).map mend = some t') : Res (itree_settle.j3 (acall PP TT) loopG n0 p ⟨H, eo⟩) H t' S := by
  have h0 := h
  cases t with
  | nil => simp at hn
  | nd c e f l r =>
    obtain ⟨q, pl, pr, Sl, Sr, rfl, hq, he, hl, hr, hSq, hSl, hSr⟩ := h
    cases c1 : isRed l with
    | false =>
      have : mend (.nd c e f l r) = t' := by simpa [settle3, c1] using ht
      subst this
      have : itree_settle.j3 (acall PP TT) loopG n0 (ptr q) ⟨H, eo⟩ = itree_settle.j5 (acall PP TT) loopG n0 (ptr q) ⟨H, eo⟩ := by
        simp only [itree_settle.j3, itree_settle.j4, mach, Nat.reduceAdd, Nat.reduceLeDiff, Int.reduceEq, Int.reduceLT, Int.reduceLE, nil_ptr, fa_itree_node_3, ix0, cellAt_of hq, nb_5, isRed_ok hl, c1]
      rw [this]
      exact j5_ok h0 rfl
    | true =>
      cases c2 : isRed r with
      | false =>
        have : mend (.nd c e f l r) = t' := by simpa [settle3, c2] using ht
        subst this
        have : itree_settle.j3 (acall PP TT) loopG n0 (ptr q) ⟨H, eo⟩ = itree_settle.j5 (acall PP TT) loopG n0 (ptr q) ⟨H, eo⟩ := by
          simp only [itree_settle.j3, itree_settle.j4, mach, Nat.reduceAdd, Nat.reduceLeDiff, Int.reduceEq, Int.reduceLT, Int.reduceLE, nil_ptr, fa_itree_node_3, ix0, ix1, cellAt_of hq, nb_5, nb_6, isRed_ok hl, isRed_ok hr, c1, c2]
        rw [this]
        exact j5_ok h0 rfl
      | true =>
        simp only [settle3, lf_nd, rt_nd, c1, c2, and_self, if_true] at ht
        cases hfl : It.flip (.nd c e f l r) with
        | none => rw [hfl] at ht; simp at ht
        | some t2 =>
          rw [hfl] at ht
          simp only [Option.map_some, Option.some.injEq] at ht
          subst ht
          obtain ⟨H', g1, g2, g3⟩ := flip_ok h0 hfl
          have hn2 : isNil t2 = false := by
            cases t2 with
            | nil => unfold It.flip at hfl; split at hfl <;> simp at hfl
            | nd _ _ _ _ _ => rfl
          have : itree_settle.j3 (acall PP TT) loopG n0 (ptr q) ⟨H, eo⟩ = itree_settle.j5 (acall PP TT) loopG n0 (ptr q) ⟨H', eo⟩ := by
            simp only [itree_settle.j3, itree_settle.j4, mach, Nat.reduceAdd, Nat.reduceLeDiff, Int.reduceEq, Int.reduceLT, Int.reduceLE, nil_ptr, fa_itree_node_3, ix0, ix1, cellAt_of hq, nb_5, nb_6, isRed_ok hl, isRed_ok hr, c1, c2, g1]
          rw [this]
          exact (j5_ok g2 hn2).after g3

theorem nn_turnL {t t' : Tr} (h : turnL t = some t') : isNil t' = false := by
  unfold turnL at h; split at h <;> simp at h; subst h; rfl
theorem nn_turnR {t t' : Tr} (h : turnR t = some t') : isNil t' = false := by
  unfold turnR at h; split at h <;> simp at h; subst h; rfl
theorem nn_flip {t t' : Tr} (h : It.flip t = some t') : isNil t' = false := by
  unfold It.flip at h; split at h <;> simp at h; subst h; rfl

theorem j1_ok {H : List Blk} {p : Value} {t t' : Tr} {S : Nat → Prop} (h : TA H p t S) (hn : isNil t = false) (ht : ((settle2 t).bind fun t => (settle3 t).map mend) = some t') : Res (itree_settle.j1 (acall PP TT) loopG n0 p ⟨H, eo⟩) H t' S := by
  have h0 := h
  cases t with
  | nil => simp at hn
  | nd c e f l r =>
    obtain ⟨q, pl, pr, Sl, Sr, rfl, hq, he, hl, hr, hSq, hSl, hSr⟩ := h
    cases c1 : isRed l with
    | false =>
      have ht : (settle3 (.nd c e f l r)).map mend = some t' := by simpa [settle2, c1] using ht
      have : itree_settle.j1 (acall PP TT) loopG n0 (ptr q) ⟨H, eo⟩ = itree_settle.j3 (acall PP TT) loopG n0 (ptr q) ⟨H, eo⟩ := by
        simp only [itree_settle.j1, itree_settle.j2, mach, Nat.reduceAdd, Nat.reduceLeDiff, Int.reduceEq, Int.reduceLT, Int.reduceLE, nil_ptr, fa_itree_node_3, ix0, cellAt_of hq, nb_5, isRed_ok hl, c1]
      rw [this]
      exact j3_ok h0 rfl ht
    | true =>
      cases l with
      | nil => simp at c1
      | nd cl el fl a b =>
        have hl0 := hl
        obtain ⟨u, pa, pb, Sa, Sb, rfl, hu, he1, ha, hb, hSu, hSa, hSb⟩ := hl
        cases c2 : isRed a with
        | false =>
          have ht : (settle3 (.nd c e f (.nd cl el fl a b) r)).map mend = some t' := by simpa [settle2, c2] using ht
          have : itree_settle.j1 (acall PP TT) loopG n0 (ptr q) ⟨H, eo⟩ = itree_settle.j3 (acall PP TT) loopG n0 (ptr q) ⟨H, eo⟩ := by
            simp only [itree_settle.j1, itree_settle.j2, mach, Nat.reduceAdd, Nat.reduceLeDiff, Int.reduceEq, Int.reduceLT, Int.reduceLE, nil_ptr, fa_itree_node_3, ix0, cellAt_of hq, cellAt_of hu, nb_5, isRed_ok hl0, isRed_ok ha, c1, c2]
          rw [this]
          exact j3_ok h0 rfl ht
        | true =>
          have hs : settle2 (.nd c e f (.nd cl el fl a b) r) = turnR (.nd c e f (.nd cl el fl a b) r) := by
            simp only [settle2, lf_nd, c1, c2, and_self, if_true]
          rw [hs] at ht
          cases htu : turnR (.nd c e f (.nd cl el fl a b) r) with
          | none => rw [htu] at ht; simp at ht
          | some t2 =>
            rw [htu, Option.bind_some] at ht
            obtain ⟨p', H', e', g1, g2, g3⟩ := turnR_ok h0 htu
            have : ∃ e2, itree_settle.j1 (acall PP TT) loopG n0 (ptr q) ⟨H, eo⟩ = itree_settle.j3 (acall PP TT) loopG n0 p' ⟨H', e2⟩ := by
              simp only [itree_settle.j1, itree_settle.j2, mach, Nat.reduceAdd, Nat.reduceLeDiff, Int.reduceEq, Int.reduceLT, Int.reduceLE, nil_ptr, fa_itree_node_3, ix0, cellAt_of hq, cellAt_of hu, nb_5, isRed_ok hl0, isRed_ok ha, c1, c2, g1]
              exact ⟨_, rfl⟩
            obtain ⟨e2, this⟩ := this
            rw [this]
            exact (j3_ok g2 (nn_turnR htu) ht).after g3

theorem settle_ok {H : List Blk} {p : Value} {t t' : Tr} {S : Nat → Prop} (h : TA H p t S) (hn : isNil t = false) (ht : It.settle t = some t') : Res (acall PP TT n_itree_settle [p] H) H t' S := by
  have h0 := h
  rw [acall_eq, itree_settle.eq]
  cases t with
  | nil => simp at hn
  | nd c e f l r =>
    obtain ⟨q, pl, pr, Sl, Sr, rfl, hq, he, hl, hr, hSq, hSl, hSr⟩ := h
    cases c1 : isRed r with
    | false =>
      have ht : ((settle2 (.nd c e f l r)).bind fun t => (settle3 t).map mend) = some t' := by simpa [It.settle, settle1, c1] using ht
      have : itree_settle.sh (acall PP TT) loopG H.length (ptr q) ⟨H, none⟩ = itree_settle.j1 (acall PP TT) loopG H.length (ptr q) ⟨H, none⟩ := by
        simp only [itree_settle.sh, itree_settle.j0, mach, Nat.reduceAdd, Nat.reduceLeDiff, Int.reduceEq, Int.reduceLT, Int.reduceLE, nil_ptr, fa_itree_node_3, ix1, cellAt_of hq, nb_6, isRed_ok hr, c1]
      rw [this]
      exact j1_ok h0 rfl ht
    | true =>
      cases c2 : isRed l with
      | true =>
        have ht : ((settle2 (.nd c e f l r)).bind fun t => (settle3 t).map mend) = some t' := by simpa [It.settle, settle1, c2] using ht
        have : itree_settle.sh (acall PP TT) loopG H.length (ptr q) ⟨H, none⟩ = itree_settle.j1 (acall PP TT) loopG H.length (ptr q) ⟨H, none⟩ := by
          simp only [itree_settle.sh, itree_settle.j0, mach, Nat.reduceAdd, Nat.reduceLeDiff, Int.reduceEq, Int.reduceLT, Int.reduceLE, nil_ptr, fa_itree_node_3, ix0, ix1, cellAt_of hq, nb_5, nb_6, isRed_ok hr, isRed_ok hl, c1, c2]
        rw [this]
        exact j1_ok h0 rfl ht
      | false =>
        have hs : settle1 (.nd c e f l r) = turnL (.nd c e f l r) := by
          simp only [settle1, lf_nd, rt_nd, c1, c2, and_self, if_true]
        rw [It.settle, hs] at ht
        cases htu : turnL (.nd c e f l r) with
        | none => rw [htu] at ht; simp at ht
        | some t2 =>
          rw [htu, Option.bind_some] at ht
          obtain ⟨p', H', e', g1, g2, g3⟩ := turnL_ok h0 htu
          have : ∃ e2, itree_settle.sh (acall PP TT) loopG H.length (ptr q) ⟨H, none⟩ = itree_settle.j1 (acall PP TT) loopG H.length p' ⟨H', e2⟩ := by
            simp only [itree_settle.sh, itree_settle.j0, mach, Nat.reduceAdd, Nat.reduceLeDiff, Int.reduceEq, Int.reduceLT, Int.reduceLE, nil_ptr, fa_itree_node_3, ix0, ix1, cellAt_of hq, nb_5, nb_6, isRed_ok hr, isRed_ok hl, c1, c2, g1]
            exact ⟨_, rfl⟩
          obtain ⟨e2, this⟩ := this
          rw [this]
          exact (j1_ok g2 (nn_turnL htu) ht).after g3
end
end IT
end Go.Proofs.Ytgpfiiebfhdjhaa

end
section
namespace Go.Proofs.Ytgpfiiebfhdjhaa
open Go Go.Am
set_option linter.unusedVariables false
namespace IT
open Go.It

/-- what a call of a function that changes a tree comes to, where blocks may be new -/
def Rn (r : Option (Value × List Blk × Option Nat)) (H : List Blk) (t : Tr) (S : Nat → Prop) : Prop := ∃ p' H' e', r = some (p', H', e') ∧ TA H' p' t (nw H S) ∧ Fr H H' S
theorem Res.rn {r : Option (Value × List Blk × Option Nat)} {H : List Blk} {t : Tr} {S : Nat → Prop} (h : Res r H t S) : Rn r H t S := by
  obtain ⟨p', H', e', h1, h2, h3⟩ := h
  exact ⟨p', H', e', h1, h2.more fun x hx => .inl hx, h3⟩
theorem nw_nw {H H' : List Blk} {S : Nat → Prop} (h : H.length ≤ H'.length) {x : Nat} (hx : nw H' (nw H S) x) : nw H S x := by
  rcases hx with hx | hx
  · exact hx
  · exact .inr (Nat.le_trans h hx)
theorem Rn.after {r : Option (Value × List Blk × Option Nat)} {H H' : List Blk} {t : Tr} {S : Nat → Prop} (h : Rn r H' t (nw H S)) (hf : Fr H H' S) : Rn r H t S := by
  obtain ⟨p, H2, e, h1, h2, h3⟩ := h
  exact ⟨p, H2, e, h1, h2.more fun x hx => nw_nw hf.1 hx, hf.trans h3 (fun x hx => hx)⟩
theorem Res.after' {r : Option (Value × List Blk × Option Nat)} {H H' : List Blk} {t : Tr} {S : Nat → Prop} (h : Res r H' t (nw H S)) (hf : Fr H H' S) : Rn r H t S := h.rn.after hf

theorem TA.tight {H : List Blk} : ∀ {t : Tr} {p : Value} {S : Nat → Prop}, TA H p t S → TA H p t (fun x => S x ∧ x < H.length)
  | .nil, p, S, h => h
  | .nd c e f l r, p, S, h => by
    obtain ⟨b, pl, pr, Sl, Sr, h1, h2, h3, h4, h5, h6, h7, h8⟩ := h
    exact ⟨b, pl, pr, _, _, h1, h2, h3, h4.tight, h5.tight, ⟨h6, get_lt h2⟩, fun x hx => ⟨⟨(h7 x hx.1).1, hx.2⟩, (h7 x hx.1).2⟩, fun x hx => ⟨⟨(h8 x hx.1).1, hx.2⟩, (h8 x hx.1).2.1, fun hc => (h8 x hx.1).2.2 hc.1⟩⟩
theorem TA.app {H : List Blk} {t : Tr} {p : Value} {S : Nat → Prop} (h : TA H p t S) (l : List Blk) : TA (H ++ l) p t S :=
  (h.tight.frame fun x hx => List.getElem?_append_left hx.2).more fun x hx => hx.1
theorem Fr.app (H l : List Blk) (S : Nat → Prop) : Fr H (H ++ l) S := ⟨by simp, fun x hx _ => List.getElem?_append_left hx⟩

section
variable {H H' : List Blk} {q : Nat} {e : En} {c : Bool} {f : Int} {pl pr p' : Value} {l r t' : Tr} {S Sl Sr : Nat → Prop}

theorem rep_r (hq : H[q]? = some (nd e c f pl pr)) (he : plainB e.off e.len = true) (hl : TA H pl l Sl) (hSq : S q) (hSl : ∀ x, Sl x → S x ∧ x ≠ q) (hSr : ∀ x, Sr x → S x ∧ x ≠ q ∧ ¬ Sl x)
    (h' : TA H' p' t' (nw H Sr)) (hf : Fr H H' Sr) : H'[q]? = some (nd e c f pl pr) ∧ TA (H'.set q (nd e c f pl p')) (ptr q) (.nd c e f l t') (nw H S) ∧ Fr H (H'.set q (nd e c f pl p')) S := by
  have hql := get_lt hq
  have hq' : H'[q]? = some (nd e c f pl pr) := by rw [hf.2 q hql (fun hc => (hSr q hc).2.1 rfl)]; exact hq
  refine ⟨hq', ⟨q, pl, p', fun x => Sl x ∧ x < H.length, nw H Sr, rfl, set_at (get_lt hq'), he, ?_, h'.set ?_, .inl hSq, ?_, ?_⟩, ?_⟩
  · refine (hl.tight.frame fun x hx => ?_).set fun y hy => (hSl y hy.1).2
    exact hf.2 x hx.2 fun hc => (hSr x hc).2.2 hx.1
  · rintro y (hy | hy)
    · exact (hSr y hy).2.1
    · omega
  · exact fun x hx => ⟨.inl (hSl x hx.1).1, (hSl x hx.1).2⟩
  · rintro x (hx | hx)
    · exact ⟨.inl (hSr x hx).1, (hSr x hx).2.1, fun hc => (hSr x hx).2.2 hc.1⟩
    · exact ⟨.inr hx, by omega, fun hc => by have := hc.2; omega⟩
  · exact (hf.more fun x hx => (hSr x hx).1).set hSq

theorem rep_l (hq : H[q]? = some (nd e c f pl pr)) (he : plainB e.off e.len = true) (hr : TA H pr r Sr) (hSq : S q) (hSl : ∀ x, Sl x → S x ∧ x ≠ q) (hSr : ∀ x, Sr x → S x ∧ x ≠ q ∧ ¬ Sl x)
    (h' : TA H' p' t' (nw H Sl)) (hf : Fr H H' Sl) : H'[q]? = some (nd e c f pl pr) ∧ TA (H'.set q (nd e c f p' pr)) (ptr q) (.nd c e f t' r) (nw H S) ∧ Fr H (H'.set q (nd e c f p' pr)) S := by
  have hql := get_lt hq
  have hq' : H'[q]? = some (nd e c f pl pr) := by rw [hf.2 q hql (fun hc => (hSl q hc).2 rfl)]; exact hq
  refine ⟨hq', ⟨q, p', pr, nw H Sl, fun x => Sr x ∧ x < H.length, rfl, set_at (get_lt hq'), he, h'.set ?_, ?_, .inl hSq, ?_, ?_⟩, ?_⟩
  · rintro y (hy | hy)
    · exact (hSl y hy).2
    · omega
  · refine (hr.tight.frame fun x hx => ?_).set fun y hy => (hSr y hy.1).2.1
    exact hf.2 x hx.2 fun hc => (hSr x hx.1).2.2 hc
  · rintro x (hx | hx)
    · exact ⟨.inl (hSl x hx).1, (hSl x hx).2⟩
    · exact ⟨.inr hx, by omega⟩
  · rintro x ⟨hx, hx2⟩
    refine ⟨.inl (hSr x hx).1, (hSr x hx).2.1, ?_⟩
    rintro (hc | hc)
    · exact (hSr x hx).2.2 hc
    · omega
  · exact (hf.more fun x hx => (hSl x hx).1).set hSq
end

theorem flip_shape {t t' : Tr} (h : It.flip t = some t') : ∃ c e f c1 e1 f1 a b c2 e2 f2 a2 b2, t' = .nd c e f (.nd c1 e1 f1 a b) (.nd c2 e2 f2 a2 b2) := by
  unfold It.flip at h
  split at h
  · simp only [Option.some.injEq] at h; subst h; exact ⟨_, _, _, _, _, _, _, _, _, _, _, _, _, rfl⟩
  · simp at h

theorem redLeft_ok {H : List Blk} {p : Value} {t t' : Tr} {S : Nat → Prop} (h : TA H p t S) (ht : redLeft t = some t') : Rn (acall PP TT n_itree_redLeft [p] H) H t' S := by
  unfold redLeft at ht
  cases hfl : It.flip t with
  | none => rw [hfl] at ht; simp at ht
  | some t1 =>
    rw [hfl, Option.bind_some] at ht
    obtain ⟨H1, g1, g2, g3⟩ := flip_ok h hfl
    obtain ⟨c, e, f, c1, e1, f1, a, b, c2, e2, f2, a2, b2, rfl⟩ := flip_shape hfl
    have g20 := g2
    obtain ⟨q, pl, pr, Sl, Sr, rfl, hq, he, hl, hr, hSq, hSl, hSr⟩ := g2
    have hr0 := hr
    obtain ⟨v, pa2, pb2, Sa2, Sb2, rfl, hv, he2, ha2, hb2, hSv, hSa2, hSb2⟩ := hr
    cases hc : isRed a2 with
    | false =>
      have : .nd c e f (.nd c1 e1 f1 a b) (.nd c2 e2 f2 a2 b2) = t' := by simpa [hc] using ht
      subst this
      have : ∃ e', acall PP TT n_itree_redLeft [ptr q] H = some (ptr q, H1, e') := by
        rw [acall_eq, itree_redLeft.eq]
        simp only [itree_redLeft.sh, itree_redLeft.j0, mach, Nat.reduceAdd, Nat.reduceLeDiff, Int.reduceEq, Int.reduceLT, Int.reduceLE, g1, nil_ptr, fa_itree_node_3, ix0, ix1, cellAt_of hq, cellAt_of hv, nb_5, nb_6, isRed_ok ha2, hc, finK]
        exact ⟨_, rfl⟩
      obtain ⟨e', this⟩ := this
      exact Res.rn ⟨_, _, _, this, g20, g3⟩
    | true =>
      simp only [rt_nd, lf_nd, hc, if_true] at ht
      cases hr1 : turnR (.nd c2 e2 f2 a2 b2) with
      | none => rw [hr1] at ht; simp at ht
      | some r' =>
        rw [hr1, Option.bind_some] at ht
        obtain ⟨p', H2, e2', k1, k2, k3⟩ := turnR_ok hr0 hr1
        obtain ⟨m1, m2, m3⟩ := rep_r hq he hl hSq hSl hSr (k2.more fun x hx => .inl hx) k3
        cases hr2 : turnL (.nd c e f (.nd c1 e1 f1 a b) r') with
        | none => rw [hr2] at ht; simp at ht
        | some t2 =>
          rw [hr2, Option.bind_some] at ht
          obtain ⟨p3, H3, e3, n1, n2, n3⟩ := turnL_ok m2 hr2
          obtain ⟨H4, s1, s2, s3⟩ := flip_ok n2 ht
          have : ∃ e', acall PP TT n_itree_redLeft [ptr q] H = some (p3, H4, e') := by
            rw [acall_eq, itree_redLeft.eq]
            simp only [itree_redLeft.sh, itree_redLeft.j0, mach, Nat.reduceAdd, Nat.reduceLeDiff, Int.reduceEq, Int.reduceLT, Int.reduceLE, g1, nil_ptr, fa_itree_node_3, ix0, ix1, cellAt_of hq, cellAt_of hv, nb_len, Nat.reduceLeDiff, nb_5, nb_6, isRed_ok ha2, hc, k1, store_one (cell_p k2), cell_p k2, storeL_of m1, nb_put6, n1, s1, finK]
            exact ⟨_, rfl⟩
          obtain ⟨e', this⟩ := this
          have hfr : Fr H H4 S := by
            refine g3.trans (T := nw H1 S) ((m3.more fun x hx => .inl hx).trans (T := nw H1 S) (n3.trans s3 fun x hx => .inl hx) fun x hx => .inl hx) ?_
            rintro x (hx | hx)
            · exact .inl hx
            · exact .inr (Nat.le_trans g3.1 hx)
          refine ⟨_, _, _, this, s2.more ?_, hfr⟩
          rintro x (hx | hx)
          · exact .inl hx
          · exact .inr (Nat.le_trans g3.1 hx)

theorem redRight_ok {H : List Blk} {p : Value} {t t' : Tr} {S : Nat → Prop} (h : TA H p t S) (ht : redRight t = some t') : Rn (acall PP TT n_itree_redRight [p] H) H t' S := by
  unfold redRight at ht
  cases hfl : It.flip t with
  | none => rw [hfl] at ht; simp at ht
  | some t1 =>
    rw [hfl, Option.bind_some] at ht
    obtain ⟨H1, g1, g2, g3⟩ := flip_ok h hfl
    obtain ⟨c, e, f, c1, e1, f1, a, b, c2, e2, f2, a2, b2, rfl⟩ := flip_shape hfl
    have g20 := g2
    obtain ⟨q, pl, pr, Sl, Sr, rfl, hq, he, hl, hr, hSq, hSl, hSr⟩ := g2
    obtain ⟨v, pa2, pb2, Sa2, Sb2, rfl, hv, he2, ha2, hb2, hSv, hSa2, hSb2⟩ := hl
    cases hc : isRed a with
    | false =>
      have : .nd c e f (.nd c1 e1 f1 a b) (.nd c2 e2 f2 a2 b2) = t' := by simpa [hc] using ht
      subst this
      have : ∃ e', acall PP TT n_itree_redRight [ptr q] H = some (ptr q, H1, e') := by
        rw [acall_eq, itree_redRight.eq]
        simp only [itree_redRight.sh, itree_redRight.j0, mach, Nat.reduceAdd, Nat.reduceLeDiff, Int.reduceEq, Int.reduceLT, Int.reduceLE, g1, nil_ptr, fa_itree_node_3, ix0, ix1, cellAt_of hq, cellAt_of hv, nb_5, nb_6, isRed_ok ha2, hc, finK]
        exact ⟨_, rfl⟩
      obtain ⟨e', this⟩ := this
      exact Res.rn ⟨_, _, _, this, g20, g3⟩
    | true =>
      simp only [rt_nd, lf_nd, hc, if_true] at ht
      cases hr2 : turnR (.nd c e f (.nd c1 e1 f1 a b) (.nd c2 e2 f2 a2 b2)) with
      | none => rw [hr2] at ht; simp at ht
      | some t2 =>
        rw [hr2, Option.bind_some] at ht
        obtain ⟨p3, H3, e3, n1, n2, n3⟩ := turnR_ok g20 hr2
        obtain ⟨H4, s1, s2, s3⟩ := flip_ok n2 ht
        have : ∃ e', acall PP TT n_itree_redRight [ptr q] H = some (p3, H4, e') := by
          rw [acall_eq, itree_redRight.eq]
          simp only [itree_redRight.sh, itree_redRight.j0, mach, Nat.reduceAdd, Nat.reduceLeDiff, Int.reduceEq, Int.reduceLT, Int.reduceLE, g1, nil_ptr, fa_itree_node_3, ix0, ix1, cellAt_of hq, cellAt_of hv, nb_5, nb_6, isRed_ok ha2, hc, n1, s1, finK]
          exact ⟨_, rfl⟩
        obtain ⟨e', this⟩ := this
        exact Res.rn ⟨_, _, _, this, s2, (g3.trans n3 fun x hx => .inl hx).trans s3 fun x hx => .inl hx⟩
end IT
end Go.Proofs.Ytgpfiiebfhdjhaa

end
section
namespace Go.Proofs.Ytgpfiiebfhdjhaa
open Go Go.Am
set_option linter.unusedVariables false
namespace IT
open Go.It

def cmpI (x y : Int) : Int := if x < y then -1 else if y < x then 1 else 0
def or3 (a b c : Int) : Int := if a = 0 then (if b = 0 then c else b) else a
def cmpE (a b : En) : Int := or3 (cmpI a.off b.off) (cmpI a.len b.len) (cmpI a.id b.id)

theorem nan_ok (x : Int) (H : List Blk) : acall PP TT n_cmp_isNaN_int [.int .i64 x] H = some (.bool false, H, none) := by
  rw [acall_eq, cmp_isNaN_int.eq]
  simp only [cmp_isNaN_int.sh, mach, Nat.reduceAdd, Nat.reduceLeDiff, Int.reduceEq, Int.reduceLT, Int.reduceLE, decide_true]
  exact fin_lit0 rfl rfl

theorem cmpI_ok (x y : Int) (H : List Blk) : acall PP TT n_cmp_Compare_int [.int .i64 x, .int .i64 y] H = some (.int .i64 (cmpI x y), H, none) := by
  rw [acall_eq, cmp_Compare_int.eq]
  by_cases h1 : x < y
  · simp only [cmp_Compare_int.sh, mach, Nat.reduceAdd, Nat.reduceLeDiff, Int.reduceEq, Int.reduceLT, Int.reduceLE, nan_ok, h1, cmpI]
    exact fin_lit0 rfl rfl
  · by_cases h2 : y < x
    · simp only [cmp_Compare_int.sh, mach, Nat.reduceAdd, Nat.reduceLeDiff, Int.reduceEq, Int.reduceLT, Int.reduceLE, nan_ok, h1, h2, cmpI]
      exact fin_lit0 rfl rfl
    · simp only [cmp_Compare_int.sh, mach, Nat.reduceAdd, Nat.reduceLeDiff, Int.reduceEq, Int.reduceLT, Int.reduceLE, nan_ok, h1, h2, cmpI]
      exact fin_lit0 rfl rfl

theorem ix_L (k i : Nat) (h : i < 3) : aIndexAddr PP t_L_int (.slice (some ⟨k, 0, none⟩) 3 3) (.int .i64 i) = some (.pointer (some ⟨k, i, none⟩)) := by
  match i, h with
  | 0, _ => rfl
  | 1, _ => rfl
  | 2, _ => rfl

theorem or_ok {H : List Blk} {k : Nat} {a b c : Int} (hk : H[k]? = some (.cells [.int .i64 a, .int .i64 b, .int .i64 c] t_int true)) :
    acall PP TT n_cmp_Or_int [.slice (some ⟨k, 0, none⟩) 3 3] H = some (.int .i64 (or3 a b c), H, none) := by
  have hl := get_lt hk
  have gs : ∀ x y z : Int, gc H.length [.int .i64 x, .slice (some ⟨k, 0, none⟩) 3 3, .int .i64 y, .int .i64 z] ⟨H, none⟩ = ([.int .i64 x, .slice (some ⟨k, 0, none⟩) 3 3, .int .i64 y, .int .i64 z], ⟨H, none⟩) := fun x y z => gc_same (by simp [hl])
  have i0 : aIndexAddr PP t_L_int (.slice (some ⟨k, 0, none⟩) 3 3) (.int .i64 0) = some (.pointer (some ⟨k, 0, none⟩)) := ix_L k 0 (by decide)
  have i1 : aIndexAddr PP t_L_int (.slice (some ⟨k, 0, none⟩) 3 3) (.int .i64 1) = some (.pointer (some ⟨k, 1, none⟩)) := ix_L k 1 (by decide)
  have i2 : aIndexAddr PP t_L_int (.slice (some ⟨k, 0, none⟩) 3 3) (.int .i64 2) = some (.pointer (some ⟨k, 2, none⟩)) := ix_L k 2 (by decide)
  have w1 : IntKind.i64.wrap (0 + 1) = 1 := by rw [IntKind.wrap_i64]; omega
  have w2 : IntKind.i64.wrap (1 + 1) = 2 := by rw [IntKind.wrap_i64]; omega
  have w3 : IntKind.i64.wrap (2 + 1) = 3 := by rw [IntKind.wrap_i64]; omega
  have hln : ∀ st, aLen PP t_L_int (.slice (some ⟨k, 0, none⟩) 3 3) st = some (.int .i64 3) := fun st => sl_len (n := 3) u_L_int
  rw [acall_eq, cmp_Or_int.eq]
  by_cases h1 : a = 0
  · subst h1
    by_cases h2 : b = 0
    · subst h2
      by_cases h3 : c = 0
      · subst h3
        simp only [cmp_Or_int.sh, cmp_Or_int.j2, cmp_Or_int.loop3s, cmp_Or_int.loop3, mach, Nat.reduceAdd, Nat.reduceLeDiff, Int.reduceEq, Int.reduceLT, Int.reduceLE, hln, loopG_eq, gs, i0, i1, i2, cellAt_of hk, w1, w2, w3, or3]
        exact fin_lit0 rfl rfl
      · simp only [cmp_Or_int.sh, cmp_Or_int.j2, cmp_Or_int.loop3s, cmp_Or_int.loop3, mach, Nat.reduceAdd, Nat.reduceLeDiff, Int.reduceEq, Int.reduceLT, Int.reduceLE, hln, loopG_eq, gs, i0, i1, i2, cellAt_of hk, w1, w2, w3, or3, h3]
        exact fin_lit0 rfl rfl
    · simp only [cmp_Or_int.sh, cmp_Or_int.j2, cmp_Or_int.loop3s, cmp_Or_int.loop3, mach, Nat.reduceAdd, Nat.reduceLeDiff, Int.reduceEq, Int.reduceLT, Int.reduceLE, hln, loopG_eq, gs, i0, i1, i2, cellAt_of hk, w1, w2, w3, or3, h2]
      exact fin_lit0 rfl rfl
  · simp only [cmp_Or_int.sh, cmp_Or_int.j2, cmp_Or_int.loop3s, cmp_Or_int.loop3, mach, Nat.reduceAdd, Nat.reduceLeDiff, Int.reduceEq, Int.reduceLT, Int.reduceLE, hln, loopG_eq, gs, i0, i1, i2, cellAt_of hk, w1, w2, w3, or3, h1]
    exact fin_lit0 rfl rfl

theorem bsl3 (a b c : Int) (st : AS) : bsl PP t_L_int 3 [0, 1, 2] [.int .i64 a, .int .i64 b, .int .i64 c] st = some (.slice (some ⟨st.H.length, 0, none⟩) 3 3, ⟨st.H ++ [.cells [.int .i64 a, .int .i64 b, .int .i64 c] t_int true], st.esc⟩) := by
  obtain ⟨H, e⟩ := st
  kernel_rfl

/-- an entry as a value -/
abbrev env (x : En) : Value := .agg [Value.int .i64 x.off, Value.int .i64 x.len, Value.int .i64 x.id].toArray

theorem compare_ok (a b : En) (H : List Blk) : acall PP TT n_itree_compare [env a, env b] H = some (.int .i64 (cmpE a b), H, none) := by
  rw [acall_eq, itree_compare.eq]
  have hvi : ∀ x : Int, veq (.int .i64 x) (.int .i64 x) = true := fun x => by simp [veq]
  simp only [itree_compare.sh, mach, Nat.reduceAdd, Nat.reduceLeDiff, Int.reduceEq, Int.reduceLT, Int.reduceLE, fa_itree_entry_0, fa_itree_entry_1, fa_api_Span_0, fa_api_Span_1, cmpI_ok, hvi, beq_st, bsl3]
  rw [or_ok (k := H.length + 2) (a := cmpI a.off b.off) (b := cmpI a.len b.len) (c := cmpI a.id b.id) (by simp)]
  simp only [mach, Nat.reduceAdd, Nat.reduceLeDiff, Int.reduceEq, Int.reduceLT, Int.reduceLE]
  exact fin_lit rfl rfl rfl

theorem cmpE_lt {x e : En} : cmpE x e < 0 ↔ ltE x e = true := by
  obtain ⟨o1, l1, i1⟩ := x
  obtain ⟨o2, l2, i2⟩ := e
  simp only [cmpE, or3, cmpI, ltE, Bool.or_eq_true, Bool.and_eq_true, decide_eq_true_eq]
  split <;> split <;> (try split) <;> (try split) <;> (try split) <;> (try split) <;> omega
theorem cmpE_gt {x e : En} : 0 < cmpE x e ↔ ltE e x = true := by
  obtain ⟨o1, l1, i1⟩ := x
  obtain ⟨o2, l2, i2⟩ := e
  simp only [cmpE, or3, cmpI, ltE, Bool.or_eq_true, Bool.and_eq_true, decide_eq_true_eq]
  split <;> split <;> (try split) <;> (try split) <;> (try split) <;> (try split) <;> omega
theorem cmpE_eq {x e : En} : cmpE x e = 0 ↔ x = e := by
  constructor
  · intro h
    have h1 : ltE x e = false := by
      cases hc : ltE x e with
      | false => rfl
      | true => have := cmpE_lt.2 hc; omega
    rcases ltE_total h1 with h2 | h2
    · exact h2
    · have := cmpE_gt.2 h2; omega
  · rintro rfl
    simp [cmpE, or3, cmpI]
end IT
end Go.Proofs.Ytgpfiiebfhdjhaa

end
section
namespace Go.Proofs.Ytgpfiiebfhdjhaa
open Go Go.Am
set_option linter.unusedVariables false
namespace IT
open Go.It

theorem Rn.app {r : Option (Value × List Blk × Option Nat)} {H l : List Blk} {t : Tr} {S : Nat → Prop} (h : Rn r (H ++ l) t S) : Rn r H t S := by
  obtain ⟨p, H2, e, h1, h2, h3⟩ := h
  refine ⟨p, H2, e, h1, h2.more ?_, (Fr.app H l S).trans h3 fun x hx => .inl hx⟩
  rintro x (hx | hx)
  · exact .inl hx
  · exact .inr (by simp at hx; omega)

theorem ref_p {H : List Blk} {p : Value} {t : Tr} {S : Nat → Prop} (h : TA H p t S) : ∀ r ∈ vrefs p, r < H.length := by
  cases t with
  | nil => rw [show p = nilp from h]; simp
  | nd c e f l r => obtain ⟨b, _, _, _, _, rfl, h2, _⟩ := h; simp [get_lt h2]
theorem ref1 {H : List Blk} {p : Value} {t : Tr} {S : Nat → Prop} (h : TA H p t S) : (vrefs p).length < 2 := by
  rcases h.ptr with ⟨rfl, _⟩ | ⟨b, rfl, _⟩ <;> simp

/-! ### The least one -/
theorem first_loop {H : List Blk} : ∀ {t : Tr} {p : Value} {S : Nat → Prop} {m : En}, TA H p t S → Go.It.first t = some m → ∃ b c f pr, H[b]? = some (nd m c f nilp pr) ∧
    loopG H.length (itree_first.loop1s (acall PP TT) loopG H.length) ([p, ptr H.length], ⟨H ++ [.cells z_itree_entry t_itree_entry true], none⟩) = some (.exit 0, [ptr b, ptr H.length], ⟨H ++ [.cells z_itree_entry t_itree_entry true], none⟩)
  | .nil, p, S, m, h, hm => by simp [Go.It.first] at hm
  | .nd c e f l r, p, S, m, h, hm => by
    have hg : gc H.length [p, ptr H.length] ⟨H ++ [.cells z_itree_entry t_itree_entry true], none⟩ = ([p, ptr H.length], ⟨H ++ [.cells z_itree_entry t_itree_entry true], none⟩) := by
      have h1 := ref_p h
      have h2 := ref1 h
      refine gc_one (fun r hr => ?_) (by simp) rfl ?_
      · simp at hr
        rcases hr with hr | rfl
        · exact .inl (h1 r hr)
        · exact .inr rfl
      · simp; omega
    rw [loopG_eq, hg]
    obtain ⟨q, pl, pr, Sl, Sr, rfl, hq, he, hl, hr, hSq, hSl, hSr⟩ := h
    have hq' : (H ++ [.cells z_itree_entry t_itree_entry true])[q]? = some (nd e c f pl pr) := by rw [List.getElem?_append_left (get_lt hq)]; exact hq
    cases l with
    | nil =>
      have : e = m := by simpa [Go.It.first] using hm
      subst this
      have hpl : pl = nilp := hl
      subst hpl
      refine ⟨q, c, f, pr, hq, ?_⟩
      simp only [itree_first.loop1s, itree_first.loop1, mach, Nat.reduceAdd, Nat.reduceLeDiff, Int.reduceEq, Int.reduceLT, Int.reduceLE, nil_ptr, fa_itree_node_3, ix0, cellAt_of hq', nb_5, neq_nil]
    | nd c1 e1 f1 a b =>
      have hm : Go.It.first (.nd c1 e1 f1 a b) = some m := hm
      obtain ⟨b', c', f', pr', k1, k2⟩ := first_loop hl hm
      refine ⟨b', c', f', pr', k1, ?_⟩
      obtain ⟨u, _, _, _, _, hpl, _⟩ := hl
      subst hpl
      simp only [itree_first.loop1s, itree_first.loop1, mach, Nat.reduceAdd, Nat.reduceLeDiff, Int.reduceEq, Int.reduceLT, Int.reduceLE, nil_ptr, fa_itree_node_3, ix0, cellAt_of hq', nb_5, neq_ptr]
      exact k2

theorem first_ok {H : List Blk} {t : Tr} {p : Value} {S : Nat → Prop} {m : En} (h : TA H p t S) (hm : Go.It.first t = some m) : acall PP TT n_itree_first [p] H = some (env m, H, none) := by
  obtain ⟨b, c, f, pr, hb, hl⟩ := first_loop h hm
  have hb' : (H ++ [.cells z_itree_entry t_itree_entry true])[b]? = some (nd m c f nilp pr) := by rw [List.getElem?_append_left (get_lt hb)]; exact hb
  rw [acall_eq, itree_first.eq]
  simp only [itree_first.sh, mach, Nat.reduceAdd, Nat.reduceLeDiff, Int.reduceEq, Int.reduceLT, Int.reduceLE, zg_itree_entry, zl_itree_entry, za_itree_entry]
  rw [hl]
  simp only [itree_first.j2, mach, Nat.reduceAdd, Nat.reduceLeDiff, Int.reduceEq, Int.reduceLT, Int.reduceLE, nil_ptr, fa_itree_node_0, cellsAt_of hb', nb_len, nb_e, Nat.reduceLeDiff, putCells_all, zl_itree_entry]
  exact fin_lit rfl rfl rfl

/-! ### Putting in -/
theorem bd_node (x : En) : aBuild PP t_itree_node [(0, env x), (1, .bool true)] = some (.agg (nb x true 0 nilp nilp).toArray) := by kernel_rfl

/-- a child comes from a call, then the node is settled: to the left -/
theorem put_l {H H' : List Blk} {q : Nat} {e : En} {c : Bool} {f : Int} {pl pr p' : Value} {r t' t2 : Tr} {S Sl Sr : Nat → Prop} (hq : H[q]? = some (nd e c f pl pr)) (he : plainB e.off e.len = true) (hr : TA H pr r Sr) (hSq : S q) (hSl : ∀ x, Sl x → S x ∧ x ≠ q) (hSr : ∀ x, Sr x → S x ∧ x ≠ q ∧ ¬ Sl x)
    (h' : TA H' p' t' (nw H Sl)) (hf : Fr H H' Sl) (hs : It.settle (.nd c e f t' r) = some t2) : H'[q]? = some (nd e c f pl pr) ∧ Rn (acall PP TT n_itree_settle [ptr q] (H'.set q (nd e c f p' pr))) H t2 S := by
  obtain ⟨m1, m2, m3⟩ := rep_l hq he hr hSq hSl hSr h' hf
  exact ⟨m1, (settle_ok m2 rfl hs).after' m3⟩
theorem put_r {H H' : List Blk} {q : Nat} {e : En} {c : Bool} {f : Int} {pl pr p' : Value} {l t' t2 : Tr} {S Sl Sr : Nat → Prop} (hq : H[q]? = some (nd e c f pl pr)) (he : plainB e.off e.len = true) (hl : TA H pl l Sl) (hSq : S q) (hSl : ∀ x, Sl x → S x ∧ x ≠ q) (hSr : ∀ x, Sr x → S x ∧ x ≠ q ∧ ¬ Sl x)
    (h' : TA H' p' t' (nw H Sr)) (hf : Fr H H' Sr) (hs : It.settle (.nd c e f l t') = some t2) : H'[q]? = some (nd e c f pl pr) ∧ Rn (acall PP TT n_itree_settle [ptr q] (H'.set q (nd e c f pl p'))) H t2 S := by
  obtain ⟨m1, m2, m3⟩ := rep_r hq he hl hSq hSl hSr h' hf
  exact ⟨m1, (settle_ok m2 rfl hs).after' m3⟩

/-- a call's answer is another's, but for what escaped -/
theorem Rn.same {r r' : Option (Value × List Blk × Option Nat)} {H : List Blk} {t : Tr} {S : Nat → Prop} (h : Rn r H t S) (hs : ∀ p' H' e', r = some (p', H', e') → ∃ e2, r' = some (p', H', e2)) : Rn r' H t S := by
  obtain ⟨p, H2, e, h1, h2, h3⟩ := h
  obtain ⟨e2, h4⟩ := hs _ _ _ h1
  exact ⟨p, H2, e2, h4, h2, h3⟩

theorem add_ok {x : En} (hx : plainB x.off x.len = true) : ∀ {t t' : Tr} {p : Value} {S : Nat → Prop} {H : List Blk}, TA H p t S → Go.It.add x t = some t' → Rn (acall PP TT n_itree_add [p, env x] H) H t' S
  | .nil, t', p, S, H, h, ht => by
    have hp : p = nilp := h
    subst hp
    have : mk true x .nil .nil = t' := by simpa [Go.It.add] using ht
    subst this
    have hN : (H ++ [.cells [.int .i64 x.off, .int .i64 x.len, .int .i64 x.id] t_itree_entry true, nd x true 0 nilp nilp])[H.length + 1]? = some (nd x true 0 nilp nilp) := by simp
    have hm := mend_ok hN hx (l := .nil) (r := .nil) (Sl := fun _ => False) (Sr := fun _ => False) rfl rfl
    have : ∃ e', acall PP TT n_itree_add [nilp, env x] H = some (ptr (H.length + 1), (H ++ [.cells [.int .i64 x.off, .int .i64 x.len, .int .i64 x.id] t_itree_entry true, nd x true 0 nilp nilp]).set (H.length + 1) (nd x true (farOf x .nil .nil) nilp nilp), e') := by
      rw [acall_eq, itree_add.eq]
      simp only [itree_add.sh, mach, Nat.reduceAdd, Nat.reduceLeDiff, Int.reduceEq, Int.reduceLT, Int.reduceLE, eql_nil, bd_node]
      rw [show allCells (nb x true 0 nilp nilp) = true from rfl]
      simp only [mach, Nat.reduceAdd, Nat.reduceLeDiff, Int.reduceEq, Int.reduceLT, Int.reduceLE, hm, finK]
      exact ⟨_, rfl⟩
    obtain ⟨e', this⟩ := this
    refine ⟨_, _, _, this, ⟨_, _, _, fun _ => False, fun _ => False, rfl, set_at (by simp), hx, rfl, rfl, .inr (by simp), fun _ h => h.elim, fun _ h => h.elim⟩, by simp, fun y hy _ => ?_⟩
    rw [set_off (by omega), List.getElem?_append_left hy]
  | .nd c e f l r, t', p, S, H, h, ht => by
    obtain ⟨q, pl, pr, Sl, Sr, rfl, hq, he, hl, hr, hSq, hSl, hSr⟩ := h
    have hq' : (H ++ [.cells [.int .i64 x.off, .int .i64 x.len, .int .i64 x.id] t_itree_entry true])[q]? = some (nd e c f pl pr) := by rw [List.getElem?_append_left (get_lt hq)]; exact hq
    have hl' := hl.app [.cells [.int .i64 x.off, .int .i64 x.len, .int .i64 x.id] t_itree_entry true]
    have hr' := hr.app [.cells [.int .i64 x.off, .int .i64 x.len, .int .i64 x.id] t_itree_entry true]
    simp only [Go.It.add] at ht
    refine Rn.app (l := [.cells [.int .i64 x.off, .int .i64 x.len, .int .i64 x.id] t_itree_entry true]) ?_
    cases hlt : ltE e x with
    | true =>
      rw [if_pos hlt] at ht
      cases ha : Go.It.add x r with
      | none => rw [ha] at ht; simp at ht
      | some r2 =>
        rw [ha, Option.bind_some] at ht
        obtain ⟨p', H', e', k1, k2, k3⟩ := add_ok hx hr' ha
        obtain ⟨m1, m2⟩ := put_r hq' he hl' hSq hSl hSr k2 k3 ht
        refine m2.same fun p2 H2 e2 hr2 => ?_
        rw [acall_eq, itree_add.eq]
        simp only [itree_add.sh, itree_add.j0, mach, Nat.reduceAdd, Nat.reduceLeDiff, Int.reduceEq, Int.reduceLT, Int.reduceLE, eql_ptr, nil_ptr, fa_itree_node_0, fa_itree_node_3, ix1, cellAt_of hq', cellsAt_of hq', nb_len, nb_e, nb_6, Nat.reduceLeDiff, compare_ok, cmpE_gt.2 hlt, k1, store_one (cell_p k2), cell_p k2, storeL_of m1, nb_put6, hr2, finK]
        exact ⟨_, rfl⟩
    | false =>
      rw [if_neg (by rw [hlt]; simp)] at ht
      have hc : ¬ 0 < cmpE x e := fun h => by rw [cmpE_gt.1 h] at hlt; simp at hlt
      cases ha : Go.It.add x l with
      | none => rw [ha] at ht; simp at ht
      | some r2 =>
        rw [ha, Option.bind_some] at ht
        obtain ⟨p', H', e', k1, k2, k3⟩ := add_ok hx hl' ha
        obtain ⟨m1, m2⟩ := put_l hq' he hr' hSq hSl hSr k2 k3 ht
        refine m2.same fun p2 H2 e2 hr2 => ?_
        rw [acall_eq, itree_add.eq]
        simp only [itree_add.sh, itree_add.j0, mach, Nat.reduceAdd, Nat.reduceLeDiff, Int.reduceEq, Int.reduceLT, Int.reduceLE, eql_ptr, nil_ptr, fa_itree_node_0, fa_itree_node_3, ix0, cellAt_of hq', cellsAt_of hq', nb_len, nb_e, nb_5, Nat.reduceLeDiff, compare_ok, hc, k1, store_one (cell_p k2), cell_p k2, storeL_of m1, nb_put5, hr2, finK]
        exact ⟨_, rfl⟩

/-! ### The least one is taken out -/
theorem redLeft_nn {t t' : Tr} (h : redLeft t = some t') : ∃ c e f l r, t' = .nd c e f l r := by
  unfold redLeft at h
  cases hfl : It.flip t with
  | none => rw [hfl] at h; simp at h
  | some t1 =>
    rw [hfl, Option.bind_some] at h
    obtain ⟨c, e, f, c1, e1, f1, a, b, c2, e2, f2, a2, b2, rfl⟩ := flip_shape hfl
    split at h
    · cases hr1 : turnR (.nd c2 e2 f2 a2 b2) with
      | none => simp only [hr1] at h; simp at h
      | some r' =>
        simp only [hr1, Option.bind_some] at h
        cases hr2 : turnL (.nd c e f (.nd c1 e1 f1 a b) r') with
        | none => rw [hr2] at h; simp at h
        | some t2 =>
          rw [hr2, Option.bind_some] at h
          obtain ⟨_, _, _, _, _, _, _, _, _, _, _, _, _, h⟩ := flip_shape h
          exact ⟨_, _, _, _, _, h⟩
    · simp only [Option.some.injEq] at h
      exact ⟨_, _, _, _, _, h.symm⟩

theorem behead_ok' : ∀ (k : Nat) {t t' : Tr} {p : Value} {S : Nat → Prop} {H : List Blk}, TA H p t S → behead k t = some t' → Rn (acall PP TT n_itree_behead [p] H) H t' S
  | 0, t, t', p, S, H, h, ht => by simp [behead] at ht
  | k + 1, t, t', p, S, H, h, ht => by
    -- the last part
    have last : ∀ (H1 : List Blk) (p1 : Value) (t1 : Tr) (S1 : Nat → Prop) (n0 : Nat) (e0 : Option Nat), TA H1 p1 t1 S1 → (match t1 with
        | .nil => none
        | .nd c e f l r => (behead k l).bind fun l' => It.settle (.nd c e f l' r)) = some t' → Rn (itree_behead.j1 (acall PP TT) loopG n0 p1 ⟨H1, e0⟩) H1 t' S1 := by
      intro H1 p1 t1 S1 n0 e0 h1 ht1
      cases t1 with
      | nil => simp at ht1
      | nd c e f l r =>
        obtain ⟨q, pl, pr, Sl, Sr, rfl, hq, he, hl, hr, hSq, hSl, hSr⟩ := h1
        simp only at ht1
        cases hb : behead k l with
        | none => rw [hb] at ht1; simp at ht1
        | some l2 =>
          rw [hb, Option.bind_some] at ht1
          obtain ⟨p', H', e', k1, k2, k3⟩ := behead_ok' k hl hb
          obtain ⟨m1, m2⟩ := put_l hq he hr hSq hSl hSr k2 k3 ht1
          refine m2.same fun p2 H2 e2 hr2 => ?_
          simp only [itree_behead.j1, mach, Nat.reduceAdd, Nat.reduceLeDiff, Int.reduceEq, Int.reduceLT, Int.reduceLE, nil_ptr, fa_itree_node_3, ix0, cellAt_of hq, nb_len, nb_5, Nat.reduceLeDiff, k1, store_one (cell_p k2), cell_p k2, storeL_of m1, nb_put5, hr2, finK]
          exact ⟨_, rfl⟩
    cases t with
    | nil => simp [behead, lf] at ht
    | nd c e f l r =>
      have h0 := h
      obtain ⟨q, pl, pr, Sl, Sr, rfl, hq, he, hl, hr, hSq, hSl, hSr⟩ := h
      rw [acall_eq, itree_behead.eq]
      simp only [behead, lf_nd, isNil_nd, Bool.false_eq_true, if_false] at ht
      cases l with
      | nil =>
        have hpl : pl = nilp := hl
        subst hpl
        simp only [isNil_nil, if_true, Option.some.injEq] at ht
        subst ht
        have : ∃ e', itree_behead.sh (acall PP TT) loopG H.length (ptr q) ⟨H, none⟩ = some (nilp, H, e') := by
          simp only [itree_behead.sh, mach, Nat.reduceAdd, Nat.reduceLeDiff, Int.reduceEq, Int.reduceLT, Int.reduceLE, nil_ptr, fa_itree_node_3, ix0, cellAt_of hq, nb_5, eql_nil, finK]
          exact ⟨_, rfl⟩
        obtain ⟨e', this⟩ := this
        exact ⟨_, _, _, this, rfl, Fr.refl _ _⟩
      | nd c1 e1 f1 a b =>
        have hl0 := hl
        obtain ⟨u, pa, pb, Sa, Sb, rfl, hu, he1, ha, hb, hSu, hSa, hSb⟩ := hl
        simp only [isNil_nd, Bool.false_eq_true, if_false] at ht
        cases g1 : isRed (.nd c1 e1 f1 a b) with
        | true =>
          have hcd : ¬ (isRed (.nd c1 e1 f1 a b) = false ∧ isRed (lf (.nd c1 e1 f1 a b)) = false) := by rw [g1]; simp
          simp only [hcd, if_false, Option.bind_some] at ht
          have : itree_behead.sh (acall PP TT) loopG H.length (ptr q) ⟨H, none⟩ = itree_behead.j1 (acall PP TT) loopG H.length (ptr q) ⟨H, none⟩ := by
            simp only [itree_behead.sh, itree_behead.j0, mach, Nat.reduceAdd, Nat.reduceLeDiff, Int.reduceEq, Int.reduceLT, Int.reduceLE, nil_ptr, fa_itree_node_3, ix0, cellAt_of hq, cellAt_of hu, nb_5, eql_ptr, isRed_ok hl0, g1]
          rw [this]
          exact last _ _ _ _ _ _ h0 ht
        | false =>
          cases g2 : isRed a with
          | true =>
            have hcd : ¬ (isRed (.nd c1 e1 f1 a b) = false ∧ isRed (lf (.nd c1 e1 f1 a b)) = false) := by rw [lf_nd, g2]; simp
            simp only [hcd, if_false, Option.bind_some] at ht
            have : itree_behead.sh (acall PP TT) loopG H.length (ptr q) ⟨H, none⟩ = itree_behead.j1 (acall PP TT) loopG H.length (ptr q) ⟨H, none⟩ := by
              simp only [itree_behead.sh, itree_behead.j0, mach, Nat.reduceAdd, Nat.reduceLeDiff, Int.reduceEq, Int.reduceLT, Int.reduceLE, nil_ptr, fa_itree_node_3, ix0, cellAt_of hq, cellAt_of hu, nb_5, eql_ptr, isRed_ok hl0, isRed_ok ha, g1, g2]
            rw [this]
            exact last _ _ _ _ _ _ h0 ht
          | false =>
            have hcd : isRed (.nd c1 e1 f1 a b) = false ∧ isRed (lf (.nd c1 e1 f1 a b)) = false := ⟨g1, by rw [lf_nd, g2]⟩
            simp only [hcd, and_self, if_true] at ht
            cases hre : redLeft (.nd c e f (.nd c1 e1 f1 a b) r) with
            | none => rw [hre] at ht; simp at ht
            | some t2 =>
              rw [hre, Option.bind_some] at ht
              obtain ⟨p', H', e', k1, k2, k3⟩ := redLeft_ok h0 hre
              have : ∃ e2, itree_behead.sh (acall PP TT) loopG H.length (ptr q) ⟨H, none⟩ = itree_behead.j1 (acall PP TT) loopG H.length p' ⟨H', e2⟩ := by
                simp only [itree_behead.sh, itree_behead.j0, mach, Nat.reduceAdd, Nat.reduceLeDiff, Int.reduceEq, Int.reduceLT, Int.reduceLE, nil_ptr, fa_itree_node_3, ix0, cellAt_of hq, cellAt_of hu, nb_5, eql_ptr, isRed_ok hl0, isRed_ok ha, g1, g2, k1]
                exact ⟨_, rfl⟩
              obtain ⟨e2, this⟩ := this
              rw [this]
              exact (last _ _ _ _ _ _ k2 ht).after k3
end IT
end Go.Proofs.Ytgpfiiebfhdjhaa

end
section
namespace Go.Proofs.Ytgpfiiebfhdjhaa
open Go Go.Am
set_option linter.unusedVariables false
namespace IT
open Go.It

theorem Rn.after2 {r : Option (Value × List Blk × Option Nat)} {H H' : List Blk} {t : Tr} {S : Nat → Prop} (h : Rn r H' t S) (hf : Fr H H' S) : Rn r H t S := by
  obtain ⟨p, H2, e, h1, h2, h3⟩ := h
  refine ⟨p, H2, e, h1, h2.more ?_, hf.trans h3 (fun x hx => .inl hx)⟩
  rintro x (hx | hx)
  · exact .inl hx
  · exact .inr (Nat.le_trans hf.1 hx)

theorem first_plain {H : List Blk} : ∀ {t : Tr} {p : Value} {S : Nat → Prop} {m : En}, TA H p t S → Go.It.first t = some m → plainB m.off m.len = true
  | .nil, p, S, m, h, hm => by simp [Go.It.first] at hm
  | .nd c e f l r, p, S, m, h, hm => by
    obtain ⟨q, pl, pr, Sl, Sr, rfl, hq, he, hl, hr, hSq, hSl, hSr⟩ := h
    cases l with
    | nil =>
      have : e = m := by simpa [Go.It.first] using hm
      subst this
      exact he
    | nd c1 e1 f1 a b => exact first_plain hl hm

/-- the box of the entry that goes -/
abbrev xb (x : En) : Blk := .cells [.int .i64 x.off, .int .i64 x.len, .int .i64 x.id] t_itree_entry true

/-- what cut does for fewer rounds -/
def CutIH (x : En) (k : Nat) : Prop := ∀ (t t' : Tr) (p : Value) (S : Nat → Prop) (H : List Blk), TA H p t S → cut x k t = some t' → Rn (acall PP TT n_itree_cut [p, env x] H) H t' S

section
variable {x : En} {k n0 k0 : Nat} {e0 : Option Nat}

theorem cut_j1 (ih : CutIH x k) {H : List Blk} {p : Value} {t t' : Tr} {S : Nat → Prop} (hk : H[k0]? = some (xb x)) (ht : (match t with
        | .nil => none
        | .nd c e f l r => (cut x k l).bind fun l' => It.settle (.nd c e f l' r)) = some t') (h : TA H p t S) : Rn (itree_cut.j1 (acall PP TT) loopG n0 p (ptr k0) ⟨H, e0⟩) H t' S := by
  cases t with
  | nil => simp at ht
  | nd c e f l r =>
    obtain ⟨q, pl, pr, Sl, Sr, rfl, hq, he, hl, hr, hSq, hSl, hSr⟩ := h
    simp only at ht
    cases hb : cut x k l with
    | none => rw [hb] at ht; simp at ht
    | some l2 =>
      rw [hb, Option.bind_some] at ht
      obtain ⟨p', H', e', k1, k2, k3⟩ := ih _ _ _ _ _ hl hb
      obtain ⟨m1, m2⟩ := put_l hq he hr hSq hSl hSr k2 k3 ht
      refine m2.same fun p2 H2 e2 hr2 => ?_
      simp only [itree_cut.j1, mach, Nat.reduceAdd, Nat.reduceLeDiff, Int.reduceEq, Int.reduceLT, Int.reduceLE, nil_ptr, fa_itree_node_3, ix0, cellAt_of hq, cellsAt_of hk, nb_len, nb_5, Nat.reduceLeDiff, k1, store_one (cell_p k2), cell_p k2, storeL_of m1, nb_put5, hr2, finK]
      exact ⟨_, rfl⟩

theorem cut_j6 (ih : CutIH x k) {H : List Blk} {p : Value} {t t' : Tr} {S : Nat → Prop} (hk : H[k0]? = some (xb x)) (ht : (match t with
        | .nil => none
        | .nd c e f l r => if x = e then (Go.It.first r).bind fun m => (behead k r).bind fun r' => It.settle (.nd c m f l r') else (cut x k r).bind fun r' => It.settle (.nd c e f l r')) = some t') (h : TA H p t S) : Rn (itree_cut.j6 (acall PP TT) loopG n0 p (ptr k0) ⟨H, e0⟩) H t' S := by
  cases t with
  | nil => simp at ht
  | nd c e f l r =>
    obtain ⟨q, pl, pr, Sl, Sr, rfl, hq, he, hl, hr, hSq, hSl, hSr⟩ := h
    simp only at ht
    by_cases hxe : x = e
    · have hc := cmpE_eq.2 hxe
      simp only [hxe, if_true] at ht
      cases hm : Go.It.first r with
      | none => rw [hm] at ht; simp at ht
      | some m =>
        rw [hm, Option.bind_some] at ht
        cases hb : behead k r with
        | none => rw [hb] at ht; simp at ht
        | some r2 =>
          rw [hb, Option.bind_some] at ht
          have hq2 := set_at (x := nd m c f pl pr) (get_lt hq)
          have hl2 := hl.set (x := nd m c f pl pr) fun y hy => (hSl y hy).2
          have hr2 := hr.set (x := nd m c f pl pr) fun y hy => (hSr y hy).2.1
          obtain ⟨p', H', e', k1, k2, k3⟩ := behead_ok' k hr2 hb
          obtain ⟨m1, m2⟩ := put_r hq2 (first_plain hr hm) hl2 hSq hSl hSr k2 k3 ht
          refine (m2.after2 ((Fr.refl H S).set hSq)).same fun p2 H2 e2 hr2 => ?_
          simp only [itree_cut.j6, itree_cut.j7, mach, Nat.reduceAdd, Nat.reduceLeDiff, Int.reduceEq, Int.reduceLT, Int.reduceLE, nil_ptr, fa_itree_node_0, fa_itree_node_3, ix1, cellAt_of hq, cellAt_of hq2, cellsAt_of hq, cellsAt_of hk, nb_len, nb_e, nb_6, Nat.reduceLeDiff, compare_ok, hc, first_ok hr hm, storeL_of hq, nb_put0, k1, store_one (cell_p k2), cell_p k2, storeL_of m1, nb_put6, hr2, finK]
          exact ⟨_, rfl⟩
    · have hc : ¬ cmpE x e = 0 := fun h => hxe (cmpE_eq.1 h)
      simp only [hxe, if_false] at ht
      cases hb : cut x k r with
      | none => rw [hb] at ht; simp at ht
      | some r2 =>
        rw [hb, Option.bind_some] at ht
        obtain ⟨p', H', e', k1, k2, k3⟩ := ih _ _ _ _ _ hr hb
        obtain ⟨m1, m2⟩ := put_r hq he hl hSq hSl hSr k2 k3 ht
        refine m2.same fun p2 H2 e2 hr2 => ?_
        simp only [itree_cut.j6, itree_cut.j7, mach, Nat.reduceAdd, Nat.reduceLeDiff, Int.reduceEq, Int.reduceLT, Int.reduceLE, nil_ptr, fa_itree_node_0, fa_itree_node_3, ix1, cellAt_of hq, cellsAt_of hq, cellsAt_of hk, nb_len, nb_e, nb_6, Nat.reduceLeDiff, compare_ok, hc, k1, store_one (cell_p k2), cell_p k2, storeL_of m1, nb_put6, hr2, finK]
        exact ⟨_, rfl⟩

theorem cut_j4 (ih : CutIH x k) {H : List Blk} {p : Value} {c1 : Bool} {e1 : En} {f1 : Int} {l1 r1 t' : Tr} {S : Nat → Prop} (hk : H[k0]? = some (xb x)) (hnk : ¬ S k0) (h : TA H p (.nd c1 e1 f1 l1 r1) S)
    (ht : ((if isRed r1 = false ∧ isRed (lf r1) = false then redRight (.nd c1 e1 f1 l1 r1) else some (.nd c1 e1 f1 l1 r1)).bind fun t => match t with
                | .nil => none
                | .nd c e f l r => if x = e then (Go.It.first r).bind fun m => (behead k r).bind fun r' => It.settle (.nd c m f l r') else (cut x k r).bind fun r' => It.settle (.nd c e f l r')) = some t') : Rn (itree_cut.j4 (acall PP TT) loopG n0 p (ptr k0) ⟨H, e0⟩) H t' S := by
  have h0 := h
  obtain ⟨q, pl, pr, Sl, Sr, rfl, hq, he, hl, hr, hSq, hSl, hSr⟩ := h
  cases g1 : isRed r1 with
  | true =>
    have hcd : ¬ (isRed r1 = false ∧ isRed (lf r1) = false) := by rw [g1]; simp
    simp only [hcd, if_false, Option.bind_some] at ht
    have : itree_cut.j4 (acall PP TT) loopG n0 (ptr q) (ptr k0) ⟨H, e0⟩ = itree_cut.j6 (acall PP TT) loopG n0 (ptr q) (ptr k0) ⟨H, e0⟩ := by
      simp only [itree_cut.j4, itree_cut.j5, mach, Nat.reduceAdd, Nat.reduceLeDiff, Int.reduceEq, Int.reduceLT, Int.reduceLE, nil_ptr, fa_itree_node_3, ix1, cellAt_of hq, nb_6, isRed_ok hr, g1]
    rw [this]
    exact cut_j6 ih hk (by exact ht) h0
  | false =>
    cases r1 with
    | nil =>
      simp [lf, redRight, It.flip] at ht
    | nd c2 e2 f2 a b =>
      have hr0 := hr
      obtain ⟨u, pa, pb, Sa, Sb, rfl, hu, he2, ha, hb, hSu, hSa, hSb⟩ := hr
      cases g2 : isRed a with
      | true =>
        have hcd : ¬ (isRed (.nd c2 e2 f2 a b) = false ∧ isRed (lf (.nd c2 e2 f2 a b)) = false) := by rw [lf_nd, g2]; simp
        simp only [hcd, if_false, Option.bind_some] at ht
        have : itree_cut.j4 (acall PP TT) loopG n0 (ptr q) (ptr k0) ⟨H, e0⟩ = itree_cut.j6 (acall PP TT) loopG n0 (ptr q) (ptr k0) ⟨H, e0⟩ := by
          simp only [itree_cut.j4, itree_cut.j5, mach, Nat.reduceAdd, Nat.reduceLeDiff, Int.reduceEq, Int.reduceLT, Int.reduceLE, nil_ptr, fa_itree_node_3, ix0, ix1, cellAt_of hq, cellAt_of hu, nb_5, nb_6, isRed_ok hr0, isRed_ok ha, g1, g2]
        rw [this]
        exact cut_j6 ih hk (by exact ht) h0
      | false =>
        have hcd : isRed (.nd c2 e2 f2 a b) = false ∧ isRed (lf (.nd c2 e2 f2 a b)) = false := ⟨g1, by rw [lf_nd, g2]⟩
        simp only [hcd, and_self, if_true] at ht
        cases hre : redRight (.nd c1 e1 f1 l1 (.nd c2 e2 f2 a b)) with
        | none => rw [hre] at ht; simp at ht
        | some t2 =>
          rw [hre, Option.bind_some] at ht
          obtain ⟨p', H', e', k1, k2, k3⟩ := redRight_ok h0 hre
          have : ∃ e2, itree_cut.j4 (acall PP TT) loopG n0 (ptr q) (ptr k0) ⟨H, e0⟩ = itree_cut.j6 (acall PP TT) loopG n0 p' (ptr k0) ⟨H', e2⟩ := by
            simp only [itree_cut.j4, itree_cut.j5, mach, Nat.reduceAdd, Nat.reduceLeDiff, Int.reduceEq, Int.reduceLT, Int.reduceLE, nil_ptr, fa_itree_node_3, ix0, ix1, cellAt_of hq, cellAt_of hu, nb_5, nb_6, isRed_ok hr0, isRed_ok ha, g1, g2, k1]
            exact ⟨_, rfl⟩
          obtain ⟨e2, this⟩ := this
          rw [this]
          have hk' : H'[k0]? = some (xb x) := by rw [k3.2 _ (get_lt hk) hnk]; exact hk
          exact (cut_j6 ih hk' (by exact ht) k2).after k3

theorem cut_j2 (ih : CutIH x k) {H : List Blk} {p : Value} {t t' : Tr} {S : Nat → Prop} (hk : H[k0]? = some (xb x)) (hnk : ¬ S k0)
    (ht : (match t with
          | .nil => none
          | .nd c1 e1 f1 l1 r1 =>
            if x = e1 ∧ isNil r1 = true then some .nil else
              (if isRed r1 = false ∧ isRed (lf r1) = false then redRight (.nd c1 e1 f1 l1 r1) else some (.nd c1 e1 f1 l1 r1)).bind fun t => match t with
                | .nil => none
                | .nd c e f l r => if x = e then (Go.It.first r).bind fun m => (behead k r).bind fun r' => It.settle (.nd c m f l r') else (cut x k r).bind fun r' => It.settle (.nd c e f l r')) = some t') (h : TA H p t S) : Rn (itree_cut.j2 (acall PP TT) loopG n0 p (ptr k0) ⟨H, e0⟩) H t' S := by
  cases t with
  | nil => simp at ht
  | nd c e f l r =>
    have h0 := h
    obtain ⟨q, pl, pr, Sl, Sr, rfl, hq, he, hl, hr, hSq, hSl, hSr⟩ := h
    simp only at ht
    by_cases hxe : x = e
    · have hc := cmpE_eq.2 hxe
      cases hn : isNil r with
      | true =>
        have hcd : x = e ∧ isNil r = true := ⟨hxe, hn⟩
        rw [if_pos hcd] at ht
        simp only [Option.some.injEq] at ht
        subst ht
        have hpr : pr = nilp := by
          rcases hr.ptr with ⟨h, _⟩ | ⟨_, _, h⟩
          · exact h
          · rw [hn] at h; simp at h
        subst hpr
        have : ∃ e', itree_cut.j2 (acall PP TT) loopG n0 (ptr q) (ptr k0) ⟨H, e0⟩ = some (nilp, H, e') := by
          simp only [itree_cut.j2, itree_cut.j3, mach, Nat.reduceAdd, Nat.reduceLeDiff, Int.reduceEq, Int.reduceLT, Int.reduceLE, nil_ptr, fa_itree_node_0, fa_itree_node_3, ix1, cellAt_of hq, cellsAt_of hq, cellsAt_of hk, nb_len, nb_e, nb_6, Nat.reduceLeDiff, compare_ok, hc, eql_nil, finK]
          exact ⟨_, rfl⟩
        obtain ⟨e', this⟩ := this
        exact ⟨_, _, _, this, rfl, Fr.refl _ _⟩
      | false =>
        have hcd : ¬ (x = e ∧ isNil r = true) := by rw [hn]; simp
        rw [if_neg hcd] at ht
        obtain ⟨b, hpr⟩ : ∃ b, pr = ptr b := by
          rcases hr.ptr with ⟨_, h⟩ | ⟨b, h, _⟩
          · subst h; simp at hn
          · exact ⟨b, h⟩
        have : itree_cut.j2 (acall PP TT) loopG n0 (ptr q) (ptr k0) ⟨H, e0⟩ = itree_cut.j4 (acall PP TT) loopG n0 (ptr q) (ptr k0) ⟨H, e0⟩ := by
          subst hpr
          simp only [itree_cut.j2, itree_cut.j3, mach, Nat.reduceAdd, Nat.reduceLeDiff, Int.reduceEq, Int.reduceLT, Int.reduceLE, nil_ptr, fa_itree_node_0, fa_itree_node_3, ix1, cellAt_of hq, cellsAt_of hq, cellsAt_of hk, nb_len, nb_e, nb_6, Nat.reduceLeDiff, compare_ok, hc, eql_ptr]
        rw [this]
        exact cut_j4 ih hk hnk h0 ht
    · have hc : ¬ cmpE x e = 0 := fun h => hxe (cmpE_eq.1 h)
      have hcd : ¬ (x = e ∧ isNil r = true) := fun h => hxe h.1
      rw [if_neg hcd] at ht
      have : itree_cut.j2 (acall PP TT) loopG n0 (ptr q) (ptr k0) ⟨H, e0⟩ = itree_cut.j4 (acall PP TT) loopG n0 (ptr q) (ptr k0) ⟨H, e0⟩ := by
        simp only [itree_cut.j2, itree_cut.j3, mach, Nat.reduceAdd, Nat.reduceLeDiff, Int.reduceEq, Int.reduceLT, Int.reduceLE, nil_ptr, fa_itree_node_0, fa_itree_node_3, ix1, cellAt_of hq, cellsAt_of hq, cellsAt_of hk, nb_len, nb_e, nb_6, Nat.reduceLeDiff, compare_ok, hc]
      rw [this]
      exact cut_j4 ih hk hnk h0 ht
end

theorem cut_ok' (x : En) : ∀ k : Nat, CutIH x k
  | 0 => fun t t' p S H h ht => by
    simp [cut] at ht
  | k + 1 => fun t t' p S H h ht => by
    have ih := cut_ok' x k
    cases t with
    | nil => simp [cut] at ht
    | nd c e f l r =>
      have hx1 : (H ++ [xb x])[H.length]? = some (xb x) := by simp
      have h1 := (h.app [xb x]).tight
      refine Rn.app (l := [xb x]) ?_
      have h2 := h.tight.app [xb x]
      refine Rn.after2 (H' := H ++ [xb x]) (S := S) ?_ (Fr.refl _ _)
      -- the set, kept below the box
      have hS : ∀ {r' : Option (Value × List Blk × Option Nat)} {t2 : Tr}, Rn r' (H ++ [xb x]) t2 (fun y => S y ∧ y < H.length) → Rn r' (H ++ [xb x]) t2 S := by
        rintro r' t2 ⟨p', H', e', a1, a2, a3⟩
        refine ⟨p', H', e', a1, a2.more ?_, a3.more fun y hy => hy.1⟩
        rintro y (hy | hy)
        · exact .inl hy.1
        · exact .inr hy
      apply hS
      have hnk : ¬ (S H.length ∧ H.length < H.length) := fun h => by omega
      have h20 := h2
      obtain ⟨q, pl, pr, Sl, Sr, rfl, hq, he, hl, hr, hSq, hSl, hSr⟩ := h2
      simp only [cut] at ht
      rw [acall_eq, itree_cut.eq]
      cases hlt : ltE x e with
      | true =>
        have hc := cmpE_lt.2 hlt
        rw [if_pos hlt] at ht
        cases g1 : isRed l with
        | true =>
          have hcd : ¬ (isRed l = false ∧ isRed (lf l) = false) := by rw [g1]; simp
          simp only [hcd, if_false, Option.bind_some] at ht
          have : itree_cut.sh (acall PP TT) loopG H.length (ptr q) (env x) ⟨H, none⟩ = itree_cut.j1 (acall PP TT) loopG H.length (ptr q) (ptr H.length) ⟨H ++ [xb x], none⟩ := by
            simp only [itree_cut.sh, itree_cut.j0, mach, Nat.reduceAdd, Nat.reduceLeDiff, Int.reduceEq, Int.reduceLT, Int.reduceLE, nil_ptr, fa_itree_node_0, fa_itree_node_3, ix0, cellAt_of hq, cellsAt_of hq, nb_len, nb_e, nb_5, Nat.reduceLeDiff, compare_ok, hc, isRed_ok hl, g1]
          rw [this]
          exact cut_j1 ih hx1 (by exact ht) h20
        | false =>
          cases l with
          | nil => simp [lf, redLeft, It.flip] at ht
          | nd c2 e2 f2 a b =>
            have hl0 := hl
            obtain ⟨u, pa, pb, Sa, Sb, rfl, hu, he2, ha, hb, hSu, hSa, hSb⟩ := hl
            cases g2 : isRed a with
            | true =>
              have hcd : ¬ (isRed (.nd c2 e2 f2 a b) = false ∧ isRed (lf (.nd c2 e2 f2 a b)) = false) := by rw [lf_nd, g2]; simp
              simp only [hcd, if_false, Option.bind_some] at ht
              have : itree_cut.sh (acall PP TT) loopG H.length (ptr q) (env x) ⟨H, none⟩ = itree_cut.j1 (acall PP TT) loopG H.length (ptr q) (ptr H.length) ⟨H ++ [xb x], none⟩ := by
                simp only [itree_cut.sh, itree_cut.j0, mach, Nat.reduceAdd, Nat.reduceLeDiff, Int.reduceEq, Int.reduceLT, Int.reduceLE, nil_ptr, fa_itree_node_0, fa_itree_node_3, ix0, cellAt_of hq, cellAt_of hu, cellsAt_of hq, nb_len, nb_e, nb_5, Nat.reduceLeDiff, compare_ok, hc, isRed_ok hl0, isRed_ok ha, g1, g2]
              rw [this]
              exact cut_j1 ih hx1 (by exact ht) h20
            | false =>
              have hcd : isRed (.nd c2 e2 f2 a b) = false ∧ isRed (lf (.nd c2 e2 f2 a b)) = false := ⟨g1, by rw [lf_nd, g2]⟩
              simp only [hcd, and_self, if_true] at ht
              cases hre : redLeft (.nd c e f (.nd c2 e2 f2 a b) r) with
              | none => rw [hre] at ht; simp at ht
              | some t2 =>
                rw [hre, Option.bind_some] at ht
                obtain ⟨p', H', e', k1, k2, k3⟩ := redLeft_ok h20 hre
                have : ∃ e2, itree_cut.sh (acall PP TT) loopG H.length (ptr q) (env x) ⟨H, none⟩ = itree_cut.j1 (acall PP TT) loopG H.length p' (ptr H.length) ⟨H', e2⟩ := by
                  simp only [itree_cut.sh, itree_cut.j0, mach, Nat.reduceAdd, Nat.reduceLeDiff, Int.reduceEq, Int.reduceLT, Int.reduceLE, nil_ptr, fa_itree_node_0, fa_itree_node_3, ix0, cellAt_of hq, cellAt_of hu, cellsAt_of hq, nb_len, nb_e, nb_5, Nat.reduceLeDiff, compare_ok, hc, isRed_ok hl0, isRed_ok ha, g1, g2, k1]
                  exact ⟨_, rfl⟩
                obtain ⟨e2, this⟩ := this
                rw [this]
                have hk' : H'[H.length]? = some (xb x) := by rw [k3.2 _ (get_lt hx1) hnk]; exact hx1
                exact (cut_j1 ih hk' (by exact ht) k2).after k3
      | false =>
        have hc : ¬ cmpE x e < 0 := fun h => by rw [cmpE_lt.1 h] at hlt; simp at hlt
        rw [if_neg (by rw [hlt]; simp)] at ht
        cases g1 : isRed l with
        | false =>
          have hcd : ¬ (isRed l = true) := by rw [g1]; simp
          simp only [hcd, if_false, Option.bind_some] at ht
          have : itree_cut.sh (acall PP TT) loopG H.length (ptr q) (env x) ⟨H, none⟩ = itree_cut.j2 (acall PP TT) loopG H.length (ptr q) (ptr H.length) ⟨H ++ [xb x], none⟩ := by
            simp only [itree_cut.sh, itree_cut.j0, mach, Nat.reduceAdd, Nat.reduceLeDiff, Int.reduceEq, Int.reduceLT, Int.reduceLE, nil_ptr, fa_itree_node_0, fa_itree_node_3, ix0, cellAt_of hq, cellsAt_of hq, nb_len, nb_e, nb_5, Nat.reduceLeDiff, compare_ok, hc, isRed_ok hl, g1]
          rw [this]
          exact cut_j2 ih hx1 hnk (by exact ht) h20
        | true =>
          simp only [g1, if_true] at ht
          cases hre : turnR (.nd c e f l r) with
          | none => rw [hre] at ht; simp at ht
          | some t2 =>
            rw [hre, Option.bind_some] at ht
            obtain ⟨p', H', e', k1, k2, k3⟩ := turnR_ok h20 hre
            have : ∃ e2, itree_cut.sh (acall PP TT) loopG H.length (ptr q) (env x) ⟨H, none⟩ = itree_cut.j2 (acall PP TT) loopG H.length p' (ptr H.length) ⟨H', e2⟩ := by
              simp only [itree_cut.sh, itree_cut.j0, mach, Nat.reduceAdd, Nat.reduceLeDiff, Int.reduceEq, Int.reduceLT, Int.reduceLE, nil_ptr, fa_itree_node_0, fa_itree_node_3, ix0, cellAt_of hq, cellsAt_of hq, nb_len, nb_e, nb_5, Nat.reduceLeDiff, compare_ok, hc, isRed_ok hl, g1, k1]
              exact ⟨_, rfl⟩
            obtain ⟨e2, this⟩ := this
            rw [this]
            have hk' : H'[H.length]? = some (xb x) := by rw [k3.2 _ (get_lt hx1) hnk]; exact hx1
            exact (cut_j2 ih hk' hnk (by exact ht) k2).after2 k3
end IT
end Go.Proofs.Ytgpfiiebfhdjhaa

end
