/- A part of the proof: It18, It19, It20, It21, It22, It23, It24, It25. Its conditions: none. -/
import Derived.Test.YtgpfiiebfhdjhaaIt14
set_option linter.all false
set_option linter.unusedVariables false
set_option linter.unusedSimpArgs false
set_option linter.unnecessarySimpa false
section
namespace Go.Proofs.Ytgpfiiebfhdjhaa
open Go Go.Am
set_option linter.unusedVariables false
namespace IT
open Go.It

/-- a row of ids that grows -/
def RI (H : List Blk) (sl : Value) (L : List Int) (Q : Nat → Prop) : Prop := (L = [] ∧ sl = .slice none 0 0) ∨ ∃ kr, sl = .slice (some ⟨kr, 0, none⟩) L.length UNK ∧ H[kr]? = some (intB L) ∧ Q kr
theorem RI.mono {H : List Blk} {sl : Value} {L : List Int} {Q Q' : Nat → Prop} (h : RI H sl L Q) (hq : ∀ x, Q x → Q' x) : RI H sl L Q' := by
  rcases h with h | ⟨kr, h1, h2, h3⟩
  · exact .inl h
  · exact .inr ⟨kr, h1, h2, hq _ h3⟩
theorem RI.tight {H : List Blk} {sl : Value} {L : List Int} {Q : Nat → Prop} (h : RI H sl L Q) : RI H sl L (fun x => Q x ∧ x < H.length) := by
  rcases h with h | ⟨kr, h1, h2, h3⟩
  · exact .inl h
  · exact .inr ⟨kr, h1, h2, h3, get_lt h2⟩

/-- one more -/
theorem RI.push {H : List Blk} {sl : Value} {L : List Int} {Q : Nat → Prop} (h : RI H sl L Q) (hl : L.length ≤ 65535) (x : Int) : ∃ sl' H', RI H' sl' (L ++ [x]) (nw H Q) ∧ Fr H H' Q ∧
    ∀ (R : Type) (F : Value → AS → Option R) (e : Option Nat), ((bsl PP t_L_int 1 [0] [.int .i64 x] ⟨H, e⟩).bind fun q => eBuiltin PP .append #[t_L_int, t_L_int] [sl, q.1] q.2 F) = F sl' ⟨H', e⟩ := by
  rcases h with ⟨rfl, rfl⟩ | ⟨kr, rfl, h2, h3⟩
  · exact ⟨_, _, .inr ⟨H.length + 1, rfl, by simp, .inr (by omega)⟩, Fr.app H [intB [x], intB [x]] Q, fun R F e => push0 x H e⟩
  · refine ⟨_, _, .inr ⟨H.length + 1, by simp, ?_, .inr (by omega)⟩, ?_, fun R F e => push1 x H e h2 hl⟩
    · rw [List.getElem?_append_right (by simp)]
      simp
    · refine ⟨by simp, fun y hy hn => ?_⟩
      rw [List.getElem?_append_left (by simpa using hy), set_off (fun hc => hn (by rw [← hc]; exact h3))]

theorem nids_ok : ∀ {t : Tr} {p : Value} {S : Nat → Prop} {H : List Blk} {sl : Value} {L : List Int} {Q : Nat → Prop}, TA H p t S → (∀ x, S x → ¬ Q x) → (∀ x, Q x → x < H.length) → RI H sl L Q → L.length + (toL t).length < 65535 →
    ∃ sl' H' e', acall PP TT n_itree_ids [p, sl] H = some (sl', H', e') ∧ RI H' sl' (L ++ (toL t).map (·.id)) (nw H Q) ∧ Fr H H' Q ∧ e' = none
  | .nil, p, S, H, sl, L, Q, h, hd, hq, hR, hl => by
    have hp : p = nilp := h
    subst hp
    refine ⟨sl, H, none, ?_, by simpa [toL] using hR.mono fun x hx => .inl hx, Fr.refl _ _, rfl⟩
    rw [acall_eq, itree_ids.eq]
    simp only [itree_ids.sh, mach, Nat.reduceAdd, Nat.reduceLeDiff, Int.reduceEq, Int.reduceLT, Int.reduceLE, eql_nil, finK, escBelow]
  | .nd c e f l r, p, S, H, sl, L, Q, h, hd, hq, hR, hl => by
    obtain ⟨q, pl, pr, Sl, Sr, rfl, hqn, he, hll, hrr, hSq, hSl, hSr⟩ := h
    have hvi : ∀ x : Int, veq (.int .i64 x) (.int .i64 x) = true := fun x => by simp [veq]
    have hl1 : (toL (.nd c e f l r)).length = (toL l).length + (toL r).length + 1 := by simp [toL]; omega
    obtain ⟨s1, H1, e1, a1, a2, a3, rfl⟩ := nids_ok hll (fun x hx => hd x (hSl x hx).1) hq hR (by omega)
    have hq1 : H1[q]? = some (nd e c f pl pr) := by rw [a3.2 q (get_lt hqn) (hd q hSq)]; exact hqn
    obtain ⟨s2, H2, b1, b2, b3⟩ := a2.tight.push (by simp; omega) e.id
    have hnq : ¬ (nw H Q q ∧ q < H1.length) := by
      rintro ⟨hc | hc, _⟩
      · exact hd q hSq hc
      · have := get_lt hqn; omega
    have hq2 : H2[q]? = some (nd e c f pl pr) := by rw [b2.2 q (get_lt hq1) hnq]; exact hq1
    have f2 : Fr H H2 Q := a3.trans b2 fun x hx => hx.1
    have hr2 : TA H2 pr r (fun x => Sr x ∧ x < H.length) := hrr.tight.frame fun x hx => f2.2 x hx.2 (hd x (hSr x hx.1).1)
    have R2 : RI H2 s2 (L ++ (toL l).map (·.id) ++ [e.id]) (nw H Q) := b1.mono (by
      rintro x (hx | hx)
      · exact hx.1
      · exact .inr (Nat.le_trans a3.1 hx))
    obtain ⟨s3, H3, e3, c1, c2, c3, rfl⟩ := nids_ok (Q := fun x => nw H Q x ∧ x < H2.length) hr2 (fun x hx hc => by
      rcases hc.1 with h | h
      · exact hd x (hSr x hx.1).1 h
      · have := hx.2; omega) (fun x hx => hx.2) R2.tight (by simp only [List.length_append, List.length_map, List.length_cons, List.length_nil]; omega)
    have hlit : (([.int .i64 e.id] : List Value).all litV && decide (1 < UNK)) = true := by simp [litV, UNK]
    refine ⟨s3, H3, none, ?_, ?_, f2.trans c3 fun x hx => hx.1, rfl⟩
    · rw [acall_eq, itree_ids.eq]
      simp only [itree_ids.sh, mach, Nat.reduceAdd, Nat.reduceLeDiff, Int.reduceEq, Int.reduceLT, Int.reduceLE, eql_ptr, nil_ptr, fa_itree_node_0, fa_itree_node_3, fa_itree_entry_1, ix0, ix1, cellAt_of hqn, nb_2, nb_5, a1, cellAt_of hq1, hvi, beq_st, hlit, b3, cellAt_of hq2, nb_6, c1, finK, escBelow]
    · have : toL (.nd c e f l r) = toL l ++ e :: toL r := rfl
      rw [this]
      have := c2.mono (Q' := nw H Q) (by
        rintro x (hx | hx)
        · exact hx.1
        · exact .inr (Nat.le_trans f2.1 hx))
      simpa using this
end IT
end Go.Proofs.Ytgpfiiebfhdjhaa

end
section
namespace Go.Proofs.Ytgpfiiebfhdjhaa
open Go Go.Am
set_option linter.unusedVariables false
namespace IT
open Go.It

theorem RI.fin {H l : List Blk} {sl : Value} {L : List Int} {Q : Nat → Prop} (h : RI (H ++ l) sl L Q) (hq : ∀ x, Q x → H.length ≤ x) {e : Option Nat} (he : escOk H.length e = true) : fin PP false H.length [sl] ⟨H ++ l, e⟩ = some (tSl L.length (intsV L), H, none) := by
  rcases h with ⟨rfl, rfl⟩ | ⟨kr, rfl, h2, h3⟩
  · exact fin_nil he
  · have hge := hq _ h3
    have hlr : l[kr - H.length]? = some (intB L) := by
      rw [List.getElem?_append_right hge] at h2
      exact h2
    have := fin_row (P := PP) (H0 := H) (l := l) (e := e) (t := t_int) (k := kr - H.length) (n := L.length) (c := UNK) hlr sz_int (by simp [intsV]) (ints_noSl _) (ints_refs _) he
    rw [show H.length + (kr - H.length) = kr by omega] at this
    exact this

theorem ids_ok {H : List Blk} {b : Nat} {t : Tr} {S : Nat → Prop} (h : TD H b t S) (hs : (toL t).length < 65000) :
    acall PP TT n_P_itree_Tree_Ids [ptr b] H = some (tSl ((toL t).map (·.id)).length (intsV ((toL t).map (·.id))), H, none) := by
  obtain ⟨root, h1, h2, h3⟩ := h
  obtain ⟨sl, H', e', a1, a2, a3, rfl⟩ := nids_ok (L := []) (Q := fun _ => False) h2 (fun _ _ h => h) (fun _ h => h.elim) (.inl ⟨rfl, rfl⟩) (by simp; omega)
  obtain ⟨l, rfl⟩ := a3.split
  rw [acall_eq, P_itree_Tree_Ids.eq]
  simp only [P_itree_Tree_Ids.sh, mach, Nat.reduceAdd, Nat.reduceLeDiff, Int.reduceEq, Int.reduceLT, Int.reduceLE, is_ok h1, nil_ptr, fa_itree_Tree_1, cellAt_of h1, a1]
  rw [List.nil_append] at a2
  exact a2.fin (fun x hx => hx.elim (fun h => h.elim) id) rfl
end IT
end Go.Proofs.Ytgpfiiebfhdjhaa

end
section
namespace Go.Proofs.Ytgpfiiebfhdjhaa
open Go Go.Am
set_option linter.unusedVariables false
namespace IT
open Go.It

theorem rless_ok (a b : En) (H : List Blk) : acall PP TT n_twainref14_less [env a, env b] H = some (.bool (ltE a b), H, none) := by
  rw [acall_eq, twainref14_less.eq]
  by_cases h1 : a.off = b.off
  · by_cases h2 : a.len = b.len
    · simp only [twainref14_less.sh, mach, Nat.reduceAdd, Nat.reduceLeDiff, Int.reduceEq, Int.reduceLT, Int.reduceLE, fa_twainref14_Item_0, fa_twainref14_Item_1, fa_api_Span_0, fa_api_Span_1, h1, h2]
      rw [show ltE a b = decide (a.id < b.id) by simp [ltE, h1, h2]]
      exact fin_lit rfl rfl rfl
    · simp only [twainref14_less.sh, mach, Nat.reduceAdd, Nat.reduceLeDiff, Int.reduceEq, Int.reduceLT, Int.reduceLE, fa_twainref14_Item_0, fa_twainref14_Item_1, fa_api_Span_0, fa_api_Span_1, h1, h2]
      rw [show ltE a b = decide (a.len < b.len) by simp [ltE, h1, h2]]
      exact fin_lit rfl rfl rfl
  · simp only [twainref14_less.sh, mach, Nat.reduceAdd, Nat.reduceLeDiff, Int.reduceEq, Int.reduceLT, Int.reduceLE, fa_twainref14_Item_0, fa_twainref14_Item_1, fa_api_Span_0, fa_api_Span_1, h1]
    rw [show ltE a b = decide (a.off < b.off) by simp [ltE, h1]]
    exact fin_lit rfl rfl rfl
end IT
end Go.Proofs.Ytgpfiiebfhdjhaa

end
section
namespace Go.Proofs.Ytgpfiiebfhdjhaa
open Go Go.Am
set_option linter.unusedVariables false
namespace IT
open Go.It

def itc (x : En) : List Value := [.int .i64 x.off, .int .i64 x.len, .int .i64 x.id]
def itR (L : List En) : List Value := (L.map itc).flatten
abbrev itB (L : List En) : Blk := .cells (itR L) t_twainref14_Item true
theorem it_rows (L : List En) : RowsOf 3 (L.map itc) := by
  refine ⟨fun r hr => ?_, fun r hr => ?_, fun r hr => ?_, fun r hr => ?_⟩ <;> (obtain ⟨a, _, rfl⟩ := List.mem_map.1 hr; rfl)
theorem itR_len (L : List En) : (itR L).length = L.length * 3 := by
  have := (it_rows L).flen
  rw [List.length_map] at this
  exact this
theorem itR_app (A B : List En) : itR (A ++ B) = itR A ++ itR B := by simp [itR]
theorem itR_take (L : List En) (k : Nat) : (itR L).take (k * 3) = itR (L.take k) := by
  by_cases h : k ≤ L.length
  · have : itR L = itR (L.take k) ++ itR (L.drop k) := by rw [← itR_app, List.take_append_drop]
    rw [this, List.take_left' (by rw [itR_len, List.length_take]; omega)]
  · rw [List.take_of_length_le (by rw [itR_len]; omega), List.take_of_length_le (by omega)]
theorem itR_drop (L : List En) (k : Nat) : (itR L).drop (k * 3) = itR (L.drop k) := by
  by_cases h : k ≤ L.length
  · have : itR L = itR (L.take k) ++ itR (L.drop k) := by rw [← itR_app, List.take_append_drop]
    rw [this, List.drop_left' (by rw [itR_len, List.length_take]; omega)]
  · rw [List.drop_of_length_le (by rw [itR_len]; omega), List.drop_of_length_le (by omega)]
    rfl
theorem itR_get {L : List En} {k : Nat} {x : En} (h : L[k]? = some x) : ((itR L).drop (k * 3)).take 3 = itc x := by
  rw [itR_drop]
  have hk := (List.getElem?_eq_some_iff.1 h)
  obtain ⟨hlt, hx⟩ := hk
  rw [List.drop_eq_getElem_cons hlt, hx]
  rfl

/-- the document's tree in a heap -/
def RD (H : List Blk) (b : Nat) (L : List En) : Prop := ∃ sl, H[b]? = some (.cells [sl] t_twainref14_Tree true) ∧
  ((L = [] ∧ sl = .slice none 0 0) ∨ ∃ kr c, sl = .slice (some ⟨kr, 0, none⟩) L.length c ∧ (c = UNK ∨ (L = [] ∧ c = 0)) ∧ H[kr]? = some (itB L) ∧ kr ≠ b)
theorem RD.app {H : List Blk} {b : Nat} {L : List En} (h : RD H b L) (l : List Blk) : RD (H ++ l) b L := by
  obtain ⟨sl, h1, h2⟩ := h
  refine ⟨sl, by rw [List.getElem?_append_left (get_lt h1)]; exact h1, h2.imp id ?_⟩
  rintro ⟨kr, c, a1, a2, a3, a4⟩
  exact ⟨kr, c, a1, a2, by rw [List.getElem?_append_left (get_lt a3)]; exact a3, a4⟩

section
variable {H : List Blk} {b : Nat} {L : List En} {sl : Value}
theorem rd_len (h2 : (L = [] ∧ sl = .slice none 0 0) ∨ ∃ kr c, sl = .slice (some ⟨kr, 0, none⟩) L.length c ∧ (c = UNK ∨ (L = [] ∧ c = 0)) ∧ H[kr]? = some (itB L) ∧ kr ≠ b) (st : AS) : aLen PP t_L_twainref14_Item sl st = some (.int .i64 L.length) := by
  rcases h2 with ⟨rfl, rfl⟩ | ⟨kr, c, rfl, _⟩
  · exact sl_len u_L_twainref14_Item
  · exact sl_len u_L_twainref14_Item
theorem rd_ix {kr c k : Nat} (hk : k < L.length) : aIndexAddr PP t_L_twainref14_Item (.slice (some ⟨kr, 0, none⟩) L.length c) (.int .i64 (k : Int)) = some (.pointer (some ⟨kr, k * 3, none⟩)) := by
  simp only [aIndexAddr, u_L_twainref14_Item, sz_twainref14_Item]
  rw [if_pos ⟨by omega, by omega⟩]
  simp only [Addr.add, Int.toNat_natCast, Nat.zero_add]
  split
  · rename_i h0; rw [h0]
  · rfl
theorem rd_ld {kr k : Nat} {x : En} {o : Bool} {e : Option Nat} (h : H[kr]? = some (itB L)) (hx : L[k]? = some x) : cellsAt H kr (k * 3) 3 = some (itc x) := by
  have hlt := (List.getElem?_eq_some_iff.1 hx).1
  rw [cellsAt_of h, if_pos (by rw [itR_len]; omega), itR_get hx]
end

/-- where an item stands, or would -/
def placeE (x : En) : List En → Nat
  | [] => 0
  | e :: es => if ltE e x = true then placeE x es + 1 else 0
end IT
end Go.Proofs.Ytgpfiiebfhdjhaa

end
section
namespace Go.Proofs.Ytgpfiiebfhdjhaa
open Go Go.Am
set_option linter.unusedVariables false
namespace IT
open Go.It

theorem place_loop {H : List Blk} {b : Nat} {L : List En} {x : En} (h : RD H b L) (hl : L.length < 1000000) : ∀ (m i : Nat), i + m = L.length →
    loopG H.length (P_twainref14_Tree_place.loop2s (acall PP TT) loopG H.length) ([ptr b, ptr H.length, .int .i64 (i : Nat)], ⟨H ++ [.cells (itc x) t_twainref14_Item true], none⟩) = some (.exit 0, [.int .i64 ((i + placeE x (L.drop i) : Nat) : Int)], ⟨H ++ [.cells (itc x) t_twainref14_Item true], none⟩)
  | m, i, hm => by
    obtain ⟨sl, h1, h2⟩ := id h
    have hb := get_lt h1
    have hg : gc H.length [ptr b, ptr H.length, .int .i64 (i : Nat)] ⟨H ++ [.cells (itc x) t_twainref14_Item true], none⟩ = ([ptr b, ptr H.length, .int .i64 (i : Nat)], ⟨H ++ [.cells (itc x) t_twainref14_Item true], none⟩) := by
      refine gc_one (fun r hr => ?_) (by simp) rfl (by simp)
      simp at hr
      rcases hr with rfl | rfl
      · exact .inl hb
      · exact .inr rfl
    have hk : (H ++ [.cells (itc x) t_twainref14_Item true])[b]? = some (.cells [sl] t_twainref14_Tree true) := by rw [List.getElem?_append_left hb]; exact h1
    have hx : (H ++ [.cells (itc x) t_twainref14_Item true])[H.length]? = some (.cells (itc x) t_twainref14_Item true) := by simp
    have hlen := rd_len h2
    rw [loopG_eq, hg]
    match m, hm with
    | 0, hm =>
      have hi : i = L.length := by omega
      subst hi
      simp only [P_twainref14_Tree_place.loop2s, P_twainref14_Tree_place.loop2, P_twainref14_Tree_place.j1, P_twainref14_Tree_place.j2, mach, Nat.reduceAdd, Nat.reduceLeDiff, Int.reduceEq, Int.reduceLT, Int.reduceLE, nil_ptr, fa_twainref14_Tree_0, cellAt_of hk, hlen, Int.lt_irrefl, List.drop_length, placeE]
    | m + 1, hm =>
      have hlt : (i : Int) < (L.length : Int) := by omega
      have hgx : L[i]? = some L[i] := List.getElem?_eq_getElem (by omega)
      have hdr : L.drop i = L[i] :: L.drop (i + 1) := List.drop_eq_getElem_cons (by omega)
      generalize L[i] = e at hgx hdr
      rcases h2 with ⟨rfl, _⟩ | ⟨kr, c, rfl, _, h3, _⟩
      · simp at hgx
      · have h3' : (H ++ [.cells (itc x) t_twainref14_Item true])[kr]? = some (itB L) := by rw [List.getElem?_append_left (get_lt h3)]; exact h3
        have hix := rd_ix (L := L) (kr := kr) (c := c) (k := i) (by omega)
        have hld := rd_ld h3' hgx (o := true) (e := none)
        have hxl : cellsAt (H ++ [.cells (itc x) t_twainref14_Item true]) H.length 0 3 = some (itc x) := by rw [cellsAt_of hx]; rfl
        have hw : IntKind.i64.wrap ((i : Int) + 1) = ((i + 1 : Nat) : Int) := wrap_succ (by omega)
        have hle : acall PP TT n_twainref14_less [.agg (itc e).toArray, .agg (itc x).toArray] (H ++ [.cells (itc x) t_twainref14_Item true]) = some (.bool (ltE e x), H ++ [.cells (itc x) t_twainref14_Item true], none) := rless_ok e x _
        cases hc : ltE e x with
        | true =>
          rw [hc] at hle
          have ih := place_loop h hl (x := x) m (i + 1) (by omega)
          simp only [P_twainref14_Tree_place.loop2s, P_twainref14_Tree_place.loop2, P_twainref14_Tree_place.j1, P_twainref14_Tree_place.j2, nil_ptr, fa_twainref14_Tree_0, load_one, load_agg, cellAt_of hk, List.getElem?_cons_zero, hlen, bin_lss, hlt, decide_true, bcase_true, hix, hld, hxl, hle, bin_add, hw, joinEsc_none, Option.bind_some, Option.map_some, List.getD_cons_zero, List.getD_cons_succ]
          rw [ih, hdr]
          simp only [placeE, hc, if_true]
          rw [show i + 1 + placeE x (L.drop (i + 1)) = i + (placeE x (L.drop (i + 1)) + 1) by omega]
        | false =>
          rw [hc] at hle
          simp only [P_twainref14_Tree_place.loop2s, P_twainref14_Tree_place.loop2, P_twainref14_Tree_place.j1, P_twainref14_Tree_place.j2, nil_ptr, fa_twainref14_Tree_0, load_one, load_agg, cellAt_of hk, List.getElem?_cons_zero, hlen, bin_lss, hlt, decide_true, bcase_true, bcase_false, hix, hld, hxl, hle, bin_add, hw, joinEsc_none, Option.bind_some, Option.map_some, List.getD_cons_zero, List.getD_cons_succ]
          rw [hdr]
          simp only [placeE, hc, Bool.false_eq_true, if_false, Nat.add_zero]
termination_by m => m

theorem rplace_ok {H : List Blk} {b : Nat} {L : List En} (h : RD H b L) (hl : L.length < 1000000) (x : En) : acall PP TT n_P_twainref14_Tree_place [ptr b, env x] H = some (.int .i64 (placeE x L : Nat), H, none) := by
  have hp := place_loop h hl (x := x) L.length 0 (by omega)
  unfold itc at hp
  rw [Nat.zero_add, List.drop_zero] at hp
  rw [acall_eq, P_twainref14_Tree_place.eq]
  simp only [P_twainref14_Tree_place.sh, mach, Nat.reduceAdd, Nat.reduceLeDiff, Int.reduceEq, Int.reduceLT, Int.reduceLE]
  rw [show (Value.int .i64 0 : Value) = .int .i64 ((0 : Nat) : Int) from rfl, hp]
  simp only [P_twainref14_Tree_place.j4, mach, Nat.reduceAdd, Nat.reduceLeDiff, Int.reduceEq, Int.reduceLT, Int.reduceLE]
  exact fin_lit rfl rfl rfl
end IT
end Go.Proofs.Ytgpfiiebfhdjhaa

end
section
namespace Go.Proofs.Ytgpfiiebfhdjhaa
open Go Go.Am
set_option linter.unusedVariables false
namespace IT
open Go.It

theorem gc_esc {n : Nat} {vs : List Value} {st : AS} (h : escOk n st.esc = true) : escOk n (gc n vs st).2.esc = true := by
  unfold gc
  rw [if_pos h]
  simp only
  split
  · rfl
  · exact h

/-- what lay there stays, and what a frame names -/
def Own (H : List Blk) (st : AS) : Prop := Fr H st.H (fun _ => False) ∧ escOk H.length st.esc = true
theorem gc_own2 {H : List Blk} {vs : List Value} {st : AS} (ho : Own H st) (h : ∀ r ∈ lrefs vs, ∃ cs t o, st.H[r]? = some (.cells cs t o) ∧ lrefs cs = []) : ∃ σ : Nat → Nat, (gc H.length vs st).1 = lren σ vs ∧ Own H (gc H.length vs st).2 ∧
    (∀ r, r < H.length → σ r = r) ∧ (∀ r ∈ lrefs vs, (H.length ≤ r → H.length ≤ σ r) ∧ ∀ b, st.H[r]? = some b → (gc H.length vs st).2.H[σ r]? = some b) := by
  obtain ⟨σ, h1, h2, h3⟩ := gc_flat H.length vs st h
  obtain ⟨_, _, _, _, h4⟩ := gc_spec H.length vs st
  refine ⟨σ, h1, ⟨⟨h4 ho.1.1, fun x hx hn => ?_⟩, gc_esc ho.2⟩, fun r hr => (h2 r hr).1, h3⟩
  rw [(h2 x hx).2]
  exact ho.1.2 x hx hn

theorem it_refs (L : List En) : lrefs (itR L) = [] := (it_rows L).frefs

/-- the items, as a frame names them -/
def Its (H : List Blk) (v : Value) (L : List En) : Prop := (L = [] ∧ v = .slice none 0 0) ∨ ∃ kr c, v = .slice (some ⟨kr, 0, none⟩) L.length c ∧ H[kr]? = some (itB L)
theorem Its.refs {H : List Blk} {v : Value} {L : List En} (h : Its H v L) : ∀ r ∈ vrefs v, r < H.length ∧ ∃ cs t o, H[r]? = some (.cells cs t o) ∧ lrefs cs = [] := by
  rcases h with ⟨rfl, rfl⟩ | ⟨kr, c, rfl, h⟩
  · simp
  · intro r hr
    simp at hr
    subst hr
    exact ⟨get_lt h, _, _, _, h, it_refs L⟩

def IR (H : List Blk) (v : Value) (L : List En) (i : Nat) (X : List Value × AS) : Prop := ∃ sl st, X = ([sl, v, .int .i64 L.length, .int .i64 i], st) ∧ Own H st ∧ RI st.H sl ((L.take i).map (·.id)) (fun x => H.length ≤ x)
theorem IR_gc {H : List Blk} {v : Value} {L : List En} (hv : Its H v L) (i : Nat) (X : List Value × AS) (h : IR H v L i X) : IR H v L i (gc H.length X.1 X.2) := by
  obtain ⟨sl, st, rfl, ho, hr⟩ := h
  have hflat : ∀ r ∈ lrefs [sl, v, .int .i64 L.length, .int .i64 i], ∃ cs t o, st.H[r]? = some (.cells cs t o) ∧ lrefs cs = [] := by
    intro r hm
    simp at hm
    rcases hm with hm | hm
    · rcases hr with ⟨_, rfl⟩ | ⟨kr, rfl, h2, _⟩
      · simp at hm
      · simp at hm; subst hm; exact ⟨_, _, _, h2, ints_refs _⟩
    · obtain ⟨g1, cs, t, o, g2, g3⟩ := hv.refs r hm
      exact ⟨cs, t, o, by rw [ho.1.2 r g1 (fun h => h)]; exact g2, g3⟩
  obtain ⟨σ, g1, g2, g3, g4⟩ := gc_own2 ho hflat
  have hvv : vren σ v = v := vren_same v fun r hm => g3 r (hv.refs r hm).1
  refine ⟨vren σ sl, (gc H.length [sl, v, .int .i64 L.length, .int .i64 i] st).2, Prod.ext ?_ rfl, g2, ?_⟩
  · rw [g1]
    simp [lren, hvv, vren]
  · rcases hr with ⟨h1, rfl⟩ | ⟨kr, rfl, h2, h3⟩
    · exact .inl ⟨h1, rfl⟩
    · obtain ⟨q1, q2⟩ := g4 kr (by simp)
      exact .inr ⟨σ kr, rfl, q2 _ h2, q1 h3⟩

theorem RI.app {H : List Blk} {sl : Value} {L : List Int} {Q : Nat → Prop} (h : RI H sl L Q) (l : List Blk) : RI (H ++ l) sl L Q := by
  rcases h with h | ⟨kr, h1, h2, h3⟩
  · exact .inl h
  · exact .inr ⟨kr, h1, by rw [List.getElem?_append_left (get_lt h2)]; exact h2, h3⟩

theorem Its.at_ {H H' : List Blk} {v : Value} {L : List En} (h : Its H v L) (hf : Fr H H' (fun _ => False)) {k : Nat} {x : En} (hx : L[k]? = some x) : ∃ b o, aIndexAddr PP t_L_twainref14_Item v (.int .i64 (k : Int)) = some (.pointer (some ⟨b, o, none⟩)) ∧ cellsAt H' b o 3 = some (itc x) := by
  rcases h with ⟨rfl, _⟩ | ⟨kr, c, rfl, h⟩
  · simp at hx
  · have hlt := (List.getElem?_eq_some_iff.1 hx).1
    exact ⟨kr, k * 3, rd_ix hlt, rd_ld (o := true) (e := none) (by rw [hf.2 kr (get_lt h) (fun h => h)]; exact h) hx⟩

theorem rids_loop {H : List Blk} {v : Value} {L : List En} (hv : Its H v L) (hl : L.length ≤ 60000) : ∃ r, loopG H.length (P_twainref14_Tree_Ids.loop3s (acall PP TT) loopG H.length) ([.slice none 0 0, v, .int .i64 L.length, .int .i64 0], ⟨H, none⟩) = some r ∧
    ∃ sl st, r = (.exit 0, [sl], st) ∧ Own H st ∧ RI st.H sl (L.map (·.id)) (fun x => H.length ≤ x) := by
  refine loop_inv (len := L.length) (IR H v L) _ (IR_gc hv) ?_ ?_ L.length 0 _ (by omega) ⟨_, _, rfl, ⟨Fr.refl _ _, rfl⟩, .inl ⟨rfl, rfl⟩⟩
  · rintro i X hi ⟨sl, ⟨H1, e⟩, rfl, ho, hr⟩
    right
    have hlt : (i : Int) < (L.length : Int) := by omega
    have hg : L[i]? = some L[i] := List.getElem?_eq_getElem hi
    have htk : L.take (i + 1) = L.take i ++ [L[i]] := by rw [List.take_succ, hg]; rfl
    generalize L[i] = x at hg htk
    obtain ⟨b, o, k1, k2⟩ := hv.at_ ho.1 hg
    have w4 : IntKind.i64.wrap ((i : Int) + 1) = ((i + 1 : Nat) : Int) := wrap_succ (by omega)
    have hzl : (itc x).length = z_twainref14_Item.length := rfl
    obtain ⟨sl', H2, p1, p2, p3⟩ := (hr.app [.cells (itc x) t_twainref14_Item true]).push (by simp; omega) x.id
    refine ⟨_, ?_, sl', ⟨H2, e⟩, rfl, ⟨?_, ho.2⟩, ?_⟩
    · unfold itc at p3 k2 hzl
      simp only [P_twainref14_Tree_Ids.loop3s, P_twainref14_Tree_Ids.loop3, mach, Nat.reduceAdd, Nat.reduceLeDiff, Int.reduceEq, Int.reduceLT, Int.reduceLE, hlt, k1, k2, zg_twainref14_Item, zl_twainref14_Item, za_twainref14_Item, z_twainref14_Item, putCells_all, hzl, fa_twainref14_Item_1, p3, w4]
    · exact (ho.1.trans (Fr.app H1 _ (fun _ => False)) fun x hx => .inl hx).trans p2 fun x hx => .inr hx
    · rw [htk, List.map_append]
      refine p1.mono ?_
      rintro y (hy | hy)
      · exact hy
      · have h9 : H.length ≤ H1.length := ho.1.1
        simp at hy
        show H.length ≤ y
        omega
  · rintro X ⟨sl, ⟨H1, e⟩, rfl, ho, hr⟩
    refine ⟨_, ?_, sl, ⟨H1, e⟩, rfl, ho, by rw [List.take_length] at hr; exact hr⟩
    simp only [P_twainref14_Tree_Ids.loop3s, P_twainref14_Tree_Ids.loop3, mach, Nat.reduceAdd, Nat.reduceLeDiff, Int.reduceEq, Int.reduceLT, Int.reduceLE, Int.lt_irrefl]
end IT
end Go.Proofs.Ytgpfiiebfhdjhaa

end
section
namespace Go.Proofs.Ytgpfiiebfhdjhaa
open Go Go.Am
set_option linter.unusedVariables false
namespace IT
open Go.It

theorem RD.its {H : List Blk} {b : Nat} {L : List En} (h : RD H b L) : ∃ v, H[b]? = some (.cells [v] t_twainref14_Tree true) ∧ Its H v L := by
  obtain ⟨sl, h1, h2⟩ := h
  refine ⟨sl, h1, h2.imp id ?_⟩
  rintro ⟨kr, c, a1, a2, a3, a4⟩
  exact ⟨kr, c, a1, a3⟩
theorem Its.len {H : List Blk} {v : Value} {L : List En} (h : Its H v L) (st : AS) : aLen PP t_L_twainref14_Item v st = some (.int .i64 L.length) := by
  rcases h with ⟨rfl, rfl⟩ | ⟨kr, c, rfl, _⟩
  · exact sl_len u_L_twainref14_Item
  · exact sl_len u_L_twainref14_Item

theorem fin_RI {H : List Blk} {st : AS} {sl : Value} {L : List Int} (ho : Own H st) (h : RI st.H sl L (fun x => H.length ≤ x)) : fin PP false H.length [sl] st = some (tSl L.length (intsV L), H, none) := by
  obtain ⟨H1, e⟩ := st
  obtain ⟨l, hl⟩ := ho.1.split
  have hl : H1 = H ++ l := hl
  subst hl
  exact h.fin (fun x hx => hx) ho.2

theorem rids_ok {H : List Blk} {b : Nat} {L : List En} (h : RD H b L) (hl : L.length ≤ 60000) : acall PP TT n_P_twainref14_Tree_Ids [ptr b] H = some (tSl (L.map (·.id)).length (intsV (L.map (·.id))), H, none) := by
  obtain ⟨v, h1, hv⟩ := h.its
  obtain ⟨r, p1, sl, st, rfl, ho, hr⟩ := rids_loop hv hl
  rw [acall_eq, P_twainref14_Tree_Ids.eq]
  simp only [P_twainref14_Tree_Ids.sh, mach, Nat.reduceAdd, Nat.reduceLeDiff, Int.reduceEq, Int.reduceLT, Int.reduceLE, nil_ptr, fa_twainref14_Tree_0, cellAt_of h1, hv.len]
  rw [p1]
  simp only [P_twainref14_Tree_Ids.j2, mach, Nat.reduceAdd, Nat.reduceLeDiff, Int.reduceEq, Int.reduceLT, Int.reduceLE]
  exact fin_RI ho hr
end IT
end Go.Proofs.Ytgpfiiebfhdjhaa

end
section
namespace Go.Proofs.Ytgpfiiebfhdjhaa
open Go Go.Am
set_option linter.unusedVariables false
namespace IT
open Go.It

def mids (o n : Int) (L : List En) : List Int := (L.filter fun e => meetB e.off e.len o n).map (·.id)
def IO (H : List Blk) (v : Value) (L : List En) (o n : Int) (i : Nat) (X : List Value × AS) : Prop := ∃ kb sl st, X = ([ptr kb, sl, v, .int .i64 L.length, .int .i64 i], st) ∧ Own H st ∧ st.H[kb]? = some (sb o n) ∧ H.length ≤ kb ∧ RI st.H sl (mids o n (L.take i)) (fun x => H.length ≤ x ∧ x ≠ kb)
theorem IO_gc {H : List Blk} {v : Value} {L : List En} {o n : Int} (hv : Its H v L) (i : Nat) (X : List Value × AS) (h : IO H v L o n i X) : IO H v L o n i (gc H.length X.1 X.2) := by
  obtain ⟨kb, sl, st, rfl, ho, hb, hkb, hr⟩ := h
  have hflat : ∀ r ∈ lrefs [ptr kb, sl, v, .int .i64 L.length, .int .i64 i], ∃ cs t o, st.H[r]? = some (.cells cs t o) ∧ lrefs cs = [] := by
    intro r hm
    simp at hm
    rcases hm with rfl | hm | hm
    · exact ⟨_, _, _, hb, rfl⟩
    · rcases hr with ⟨_, rfl⟩ | ⟨kr, rfl, h2, _⟩
      · simp at hm
      · simp at hm; subst hm; exact ⟨_, _, _, h2, ints_refs _⟩
    · obtain ⟨g1, cs, t, o, g2, g3⟩ := hv.refs r hm
      exact ⟨cs, t, o, by rw [ho.1.2 r g1 (fun h => h)]; exact g2, g3⟩
  obtain ⟨σ, g1, g2, g3, g4⟩ := gc_own2 ho hflat
  have hvv : vren σ v = v := vren_same v fun r hm => g3 r (hv.refs r hm).1
  obtain ⟨c1, c2⟩ := g4 kb (by simp)
  have hb' := c2 _ hb
  refine ⟨σ kb, vren σ sl, (gc H.length [ptr kb, sl, v, .int .i64 L.length, .int .i64 i] st).2, Prod.ext ?_ rfl, g2, hb', c1 hkb, ?_⟩
  · rw [g1]
    simp [lren, hvv, vren]
  · rcases hr with ⟨h1, rfl⟩ | ⟨kr, rfl, h2, h3, h4⟩
    · exact .inl ⟨h1, rfl⟩
    · obtain ⟨q1, q2⟩ := g4 kr (by simp)
      refine .inr ⟨σ kr, rfl, q2 _ h2, q1 h3, fun hc => ?_⟩
      have := q2 _ h2
      rw [hc, hb'] at this
      simp only [Option.some.injEq, Blk.cells.injEq] at this
      exact absurd this.2.1 (by decide)

theorem roverlaps_loop {H : List Blk} {v : Value} {L : List En} {o n : Int} (hv : Its H v L) (hl : L.length ≤ 60000) : ∃ r, loopG H.length (P_twainref14_Tree_Overlaps.loop3s (acall PP TT) loopG H.length) ([ptr H.length, .slice none 0 0, v, .int .i64 L.length, .int .i64 0], ⟨H ++ [sb o n], none⟩) = some r ∧
    ∃ sl st, r = (.exit 0, [sl], st) ∧ Own H st ∧ RI st.H sl (mids o n L) (fun x => H.length ≤ x) := by
  refine loop_inv (len := L.length) (IO H v L o n) _ (IO_gc hv) ?_ ?_ L.length 0 _ (by omega) ⟨_, _, _, rfl, ⟨Fr.app _ _ _, rfl⟩, by simp, Nat.le_refl _, .inl ⟨rfl, rfl⟩⟩
  · rintro i X hi ⟨kb, sl, ⟨H1, e⟩, rfl, ho, hb, hkb, hr⟩
    right
    have hlt : (i : Int) < (L.length : Int) := by omega
    have hg : L[i]? = some L[i] := List.getElem?_eq_getElem hi
    have htk : L.take (i + 1) = L.take i ++ [L[i]] := by rw [List.take_succ, hg]; rfl
    generalize L[i] = x at hg htk
    obtain ⟨b, q, k1, k2⟩ := hv.at_ ho.1 hg
    have w4 : IntKind.i64.wrap ((i : Int) + 1) = ((i + 1 : Nat) : Int) := wrap_succ (by omega)
    have hzl : (itc x).length = z_twainref14_Item.length := rfl
    have h9 : H.length ≤ H1.length := ho.1.1
    have hml : (mids o n (L.take i)).length ≤ 65535 := by
      unfold mids
      rw [List.length_map]
      have := List.length_filter_le (fun e => meetB e.off e.len o n) (L.take i)
      rw [List.length_take] at this
      omega
    have hb1 : (H1 ++ [.cells (itc x) t_twainref14_Item true])[kb]? = some (sb o n) := by rw [List.getElem?_append_left (get_lt hb)]; exact hb
    have f1 : Fr H (H1 ++ [.cells (itc x) t_twainref14_Item true]) (fun _ => False) := ho.1.trans (Fr.app H1 _ (fun _ => False)) fun x hx => .inl hx
    cases hme : meetB x.off x.len o n with
    | false =>
      have hm2 : mids o n (L.take (i + 1)) = mids o n (L.take i) := by rw [htk]; simp [mids, hme]
      refine ⟨([ptr kb, sl, v, .int .i64 L.length, .int .i64 ((i + 1 : Nat) : Int)], ⟨H1 ++ [.cells (itc x) t_twainref14_Item true], e⟩), ?_, kb, sl, _, rfl, ⟨f1, ho.2⟩, hb1, hkb, by rw [hm2]; exact hr.app _⟩
      unfold itc at k2 hzl hb1
      simp only [P_twainref14_Tree_Overlaps.loop3s, P_twainref14_Tree_Overlaps.loop3, P_twainref14_Tree_Overlaps.j1, mach, Nat.reduceAdd, Nat.reduceLeDiff, Int.reduceEq, Int.reduceLT, Int.reduceLE, hlt, k1, k2, zg_twainref14_Item, zl_twainref14_Item, za_twainref14_Item, z_twainref14_Item, putCells_all, hzl, fa_twainref14_Item_0, cellsAt_of hb1, Nat.reduceLeDiff, roverlap_ok, hme, w4, itc]
    | true =>
      have hm2 : mids o n (L.take (i + 1)) = mids o n (L.take i) ++ [x.id] := by rw [htk]; simp [mids, hme]
      obtain ⟨sl', H2, p1, p2, p3⟩ := (hr.app [.cells (itc x) t_twainref14_Item true]).push hml x.id
      have hb2 : H2[kb]? = some (sb o n) := by rw [p2.2 kb (get_lt hb1) (fun hc => hc.2 rfl)]; exact hb1
      refine ⟨([ptr kb, sl', v, .int .i64 L.length, .int .i64 ((i + 1 : Nat) : Int)], ⟨H2, e⟩), ?_, kb, sl', _, rfl, ⟨f1.trans p2 fun x hx => .inr hx.1, ho.2⟩, hb2, hkb, ?_⟩
      · unfold itc at p3 k2 hzl hb1
        simp only [P_twainref14_Tree_Overlaps.loop3s, P_twainref14_Tree_Overlaps.loop3, P_twainref14_Tree_Overlaps.j1, mach, Nat.reduceAdd, Nat.reduceLeDiff, Int.reduceEq, Int.reduceLT, Int.reduceLE, hlt, k1, k2, zg_twainref14_Item, zl_twainref14_Item, za_twainref14_Item, z_twainref14_Item, putCells_all, hzl, fa_twainref14_Item_0, fa_twainref14_Item_1, cellsAt_of hb1, Nat.reduceLeDiff, roverlap_ok, hme, p3, w4]
      · rw [hm2]
        refine p1.mono ?_
        rintro y (hy | hy)
        · exact hy
        · have h8 := get_lt hb
          simp at hy
          have h8 : kb < H1.length := h8
          exact ⟨by omega, by omega⟩
  · rintro X ⟨kb, sl, ⟨H1, e⟩, rfl, ho, hb, hkb, hr⟩
    refine ⟨_, ?_, sl, ⟨H1, e⟩, rfl, ho, by rw [List.take_length] at hr; exact hr.mono fun x hx => hx.1⟩
    simp only [P_twainref14_Tree_Overlaps.loop3s, P_twainref14_Tree_Overlaps.loop3, mach, Nat.reduceAdd, Nat.reduceLeDiff, Int.reduceEq, Int.reduceLT, Int.reduceLE, Int.lt_irrefl]

theorem roverlaps_ok {H : List Blk} {b : Nat} {L : List En} (h : RD H b L) (hl : L.length ≤ 60000) (o n : Int) : acall PP TT n_P_twainref14_Tree_Overlaps [ptr b, spn o n] H = some (tSl (mids o n L).length (intsV (mids o n L)), H, none) := by
  obtain ⟨v, h1, hv⟩ := h.its
  have h1' : (H ++ [sb o n])[b]? = some (.cells [v] t_twainref14_Tree true) := by rw [List.getElem?_append_left (get_lt h1)]; exact h1
  obtain ⟨r, p1, sl, st, rfl, ho, hr⟩ := roverlaps_loop (o := o) (n := n) hv hl
  rw [acall_eq, P_twainref14_Tree_Overlaps.eq]
  simp only [P_twainref14_Tree_Overlaps.sh, mach, Nat.reduceAdd, Nat.reduceLeDiff, Int.reduceEq, Int.reduceLT, Int.reduceLE, nil_ptr, fa_twainref14_Tree_0, cellAt_of h1', hv.len]
  rw [p1]
  simp only [P_twainref14_Tree_Overlaps.j3, mach, Nat.reduceAdd, Nat.reduceLeDiff, Int.reduceEq, Int.reduceLT, Int.reduceLE]
  exact fin_RI ho hr
end IT
end Go.Proofs.Ytgpfiiebfhdjhaa

end
