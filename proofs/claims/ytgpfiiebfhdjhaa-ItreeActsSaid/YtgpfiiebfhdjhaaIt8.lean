/- A part of the proof: It8, It9, It10, It11, It12, It13. Its conditions: none. -/
import Derived.Test.YtgpfiiebfhdjhaaIt1
set_option linter.all false
set_option linter.unusedVariables false
set_option linter.unusedSimpArgs false
set_option linter.unnecessarySimpa false
section
namespace Go.Proofs.Ytgpfiiebfhdjhaa
open Go Go.Am
set_option linter.unusedVariables false
namespace IT
open Go.It

/-- a tree's own block -/
abbrev tb (root : Value) (n : Int) : Blk := .cells [.bool true, root, .int .i64 n] t_itree_Tree true
/-- a tree that a call made, its nodes within a set -/
def TD (H : List Blk) (b : Nat) (t : Tr) (S : Nat → Prop) : Prop := ∃ root, H[b]? = some (tb root ((toL t).length : Nat)) ∧ TA H root t S ∧ ¬ S b

theorem TD.app {H : List Blk} {b : Nat} {t : Tr} {S : Nat → Prop} (h : TD H b t S) (l : List Blk) : TD (H ++ l) b t S := by
  obtain ⟨root, h1, h2, h3⟩ := h
  exact ⟨root, by rw [List.getElem?_append_left (get_lt h1)]; exact h1, h2.app l, h3⟩

theorem neq_T (a : Nat) (ox oy : Operand) : aBin PP .neq t_P_itree_Tree ox oy (ptr a) (.pointer none) = some (.bool true) := by kernel_rfl
theorem is_ok {H : List Blk} {b : Nat} {root : Value} {n : Int} (h : H[b]? = some (tb root n)) : acall PP TT n_P_itree_Tree_is [ptr b] H = some (.bool true, H, none) := by
  rw [acall_eq, P_itree_Tree_is.eq]
  simp only [P_itree_Tree_is.sh, mach, Nat.reduceAdd, Nat.reduceLeDiff, Int.reduceEq, Int.reduceLT, Int.reduceLE, neq_T, nil_ptr, fa_itree_Tree_0, cellAt_of h]
  exact fin_lit0 rfl rfl

theorem new_ok (H : List Blk) : acall PP TT n_itree_New [] H = some (ptr H.length, H ++ [tb nilp 0], none) := by
  rw [acall_eq, itree_New.eq]
  have hb : aBuild PP t_itree_Tree [(0, .bool true)] = some (.agg [Value.bool true, nilp, .int .i64 0].toArray) := by kernel_rfl
  simp only [itree_New.sh, mach, Nat.reduceAdd, Nat.reduceLeDiff, Int.reduceEq, Int.reduceLT, Int.reduceLE, hb]
  exact fin_keep (vs' := [ptr H.length]) (l' := [tb nilp 0]) rfl (gc_own (l := [tb nilp 0]) [[]] [0] [0] rfl rfl (by simp) (by simp [blkRefs]) (by simp [lren, vren, rn_own0, findIx]) (by simp [renBlk, lren, vren]))
theorem new_TD (H : List Blk) : TD (H ++ [tb nilp 0]) H.length .nil (fun _ => False) := ⟨nilp, by simp [toL], rfl, fun h => h⟩

theorem len_ok {H : List Blk} {b : Nat} {t : Tr} {S : Nat → Prop} (h : TD H b t S) : acall PP TT n_P_itree_Tree_Len [ptr b] H = some (.int .i64 ((toL t).length : Nat), H, none) := by
  obtain ⟨root, h1, h2, h3⟩ := h
  rw [acall_eq, P_itree_Tree_Len.eq]
  simp only [P_itree_Tree_Len.sh, mach, Nat.reduceAdd, Nat.reduceLeDiff, Int.reduceEq, Int.reduceLT, Int.reduceLE, is_ok h1, nil_ptr, fa_itree_Tree_2, cellAt_of h1]
  exact fin_lit0 rfl rfl

theorem height_le : ∀ (t : Tr), height t ≤ (toL t).length
  | .nil => by simp [height]
  | .nd c e f l r => by
    have := height_le l
    have := height_le r
    simp only [height, toL, List.length_append, List.length_cons]
    omega
theorem nheight_ok : ∀ {t : Tr} {H : List Blk} {p : Value} {S : Nat → Prop}, TA H p t S → height t < 1000000 → acall PP TT n_itree_height [p] H = some (.int .i64 (height t : Nat), H, none)
  | .nil, H, p, S, h, _ => by
    have hp : p = nilp := h
    subst hp
    rw [acall_eq, itree_height.eq]
    simp only [itree_height.sh, mach, Nat.reduceAdd, Nat.reduceLeDiff, Int.reduceEq, Int.reduceLT, Int.reduceLE, eql_nil]
    exact fin_lit0 rfl rfl
  | .nd c e f l r, H, p, S, h, hb => by
    obtain ⟨q, pl, pr, Sl, Sr, rfl, hq, he, hl, hr, hSq, hSl, hSr⟩ := h
    simp only [height] at hb
    have h1 := nheight_ok hl (by omega)
    have h2 := nheight_ok hr (by omega)
    have hm : (if ((height r : Nat) : Int) > ((height l : Nat) : Int) then ((height r : Nat) : Int) else ((height l : Nat) : Int)) = ((max (height l) (height r) : Nat) : Int) := by
      split <;> omega
    have hw : IntKind.i64.wrap (1 + ((max (height l) (height r) : Nat) : Int)) = ((height (.nd c e f l r) : Nat) : Int) := by
      rw [wrap_in ⟨by omega, by omega⟩]
      simp only [height]
      omega
    rw [acall_eq, itree_height.eq]
    simp only [itree_height.sh, mach, Nat.reduceAdd, Nat.reduceLeDiff, Int.reduceEq, Int.reduceLT, Int.reduceLE, eql_ptr, nil_ptr, fa_itree_node_3, ix0, ix1, cellAt_of hq, nb_5, nb_6, h1, h2, veq_p hr, beq_st, hm, hw]
    exact fin_lit0 rfl rfl

theorem height_ok' {H : List Blk} {b : Nat} {t : Tr} {S : Nat → Prop} (h : TD H b t S) (hs : (toL t).length < 1000000) : acall PP TT n_P_itree_Tree_Height [ptr b] H = some (.int .i64 (height t : Nat), H, none) := by
  obtain ⟨root, h1, h2, h3⟩ := h
  have hh := height_le t
  rw [acall_eq, P_itree_Tree_Height.eq]
  simp only [P_itree_Tree_Height.sh, mach, Nat.reduceAdd, Nat.reduceLeDiff, Int.reduceEq, Int.reduceLT, Int.reduceLE, is_ok h1, nil_ptr, fa_itree_Tree_1, cellAt_of h1, nheight_ok h2 (by omega)]
  exact fin_lit0 rfl rfl

/-! ### Binary digits -/
theorem bits_loop {H : List Blk} : ∀ (m n k : Nat), n < m → k + n < 1000000 → loopG H.length (twainlaw14_bits.loop2s (acall PP TT) loopG H.length) ([.int .i64 (n : Nat), .int .i64 (k : Nat)], ⟨H, none⟩) = some (.exit 0, [.int .i64 ((k + It.bits n : Nat) : Int)], ⟨H, none⟩)
  | 0, n, k, h, _ => by omega
  | m + 1, n, k, h, hk => by
    rw [loopG_eq, gc_same (by simp)]
    by_cases h0 : n = 0
    · subst h0
      simp only [twainlaw14_bits.loop2s, twainlaw14_bits.loop2, mach, Nat.reduceAdd, Nat.reduceLeDiff, Int.reduceEq, Int.reduceLT, Int.reduceLE, bits_zero, Int.natCast_zero, Int.ofNat_zero]
    · have hpos : 0 < (n : Int) := by omega
      have hq : IntKind.i64.wrap ((n : Int).tdiv 2) = ((n / 2 : Nat) : Int) := by
        rw [show ((n : Int).tdiv 2) = ((n / 2 : Nat) : Int) by rw [Int.tdiv_eq_ediv_of_nonneg (by omega)]; omega, wrap_in ⟨by omega, by omega⟩]
      have hw : IntKind.i64.wrap ((k : Int) + 1) = ((k + 1 : Nat) : Int) := wrap_succ (by omega)
      have hb2 : ∀ {ox oy}, aBin PP .quo t_int ox oy (.int .i64 (n : Nat)) (.int .i64 2) = some (.int .i64 (IntKind.i64.wrap ((n : Int).tdiv 2))) := bin_quo (by decide)
      simp only [twainlaw14_bits.loop2s, twainlaw14_bits.loop2, mach, Nat.reduceAdd, Nat.reduceLeDiff, Int.reduceEq, Int.reduceLT, Int.reduceLE, hpos, hb2, hq, hw]
      rw [bits_loop m (n / 2) (k + 1) (by omega) (by omega), bits_pos (n := n) (by omega)]
      rw [show k + 1 + It.bits (n / 2) = k + (It.bits (n / 2) + 1) by omega]
theorem bits_ok (n : Nat) (hn : n < 1000000) (H : List Blk) : acall PP TT n_twainlaw14_bits [.int .i64 (n : Nat)] H = some (.int .i64 (It.bits n : Nat), H, none) := by
  have h := bits_loop (H := H) (n + 1) n 0 (by omega) (by omega)
  rw [Nat.zero_add] at h
  rw [acall_eq, twainlaw14_bits.eq]
  simp only [twainlaw14_bits.sh]
  rw [show (Value.int .i64 0 : Value) = .int .i64 ((0 : Nat) : Int) from rfl, h]
  simp only [twainlaw14_bits.j2, mach, Nat.reduceAdd, Nat.reduceLeDiff, Int.reduceEq, Int.reduceLT, Int.reduceLE]
  exact fin_lit0 rfl rfl
end IT
end Go.Proofs.Ytgpfiiebfhdjhaa

end
section
namespace Go.Proofs.Ytgpfiiebfhdjhaa
open Go Go.Am
set_option linter.unusedVariables false
namespace IT
open Go.It

/-! ### Is it there? -/
def hasE (x : En) : Tr → Bool
  | .nil => false
  | .nd _ e _ l r => if ltE x e = true then hasE x l else if ltE e x = true then hasE x r else true
theorem hasE_ok {x : En} : ∀ {t : Tr}, Sorted (toL t) → (hasE x t = true ↔ x ∈ toL t)
  | .nil, _ => by simp [hasE, toL]
  | .nd c e f l r, hs => by
    have hs : Sorted (toL l ++ e :: toL r) := hs
    simp only [hasE]
    show _ ↔ x ∈ toL l ++ e :: toL r
    cases h1 : ltE x e with
    | true =>
      simp only [if_true]
      rw [hasE_ok (sorted_l hs)]
      exact ⟨fun h => List.mem_append_left _ h, fun h => in_left hs h h1⟩
    | false =>
      cases h2 : ltE e x with
      | true =>
        simp only [Bool.false_eq_true, if_false, if_true]
        rw [hasE_ok (sorted_r hs)]
        exact ⟨fun h => List.mem_append_right _ (List.mem_cons_of_mem _ h), fun h => in_right hs h h1 (fun hc => by rw [hc, ltE_irrefl] at h2; simp at h2)⟩
      | false =>
        rcases ltE_total h1 with h | h
        · subst h; simp
        · rw [h] at h2; simp at h2

theorem has_loop {x : En} {H : List Blk} : ∀ {t : Tr} {p : Value} {S : Nat → Prop}, TA H p t S → ∃ p', (hasE x t = true → ∃ b, p' = ptr b) ∧ (hasE x t = false → p' = nilp) ∧
    loopG H.length (P_itree_Tree_has.loop2s (acall PP TT) loopG H.length) ([ptr H.length, p], ⟨H ++ [xb x], none⟩) = some (.exit 0, [p'], ⟨H ++ [xb x], none⟩)
  | t, p, S, h => by
    have hg : gc H.length [ptr H.length, p] ⟨H ++ [xb x], none⟩ = ([ptr H.length, p], ⟨H ++ [xb x], none⟩) := by
      have h1 := ref_p h
      have h2 := ref1 h
      refine gc_one (fun r hr => ?_) (by simp) rfl ?_
      · simp at hr
        rcases hr with rfl | hr
        · exact .inr rfl
        · exact .inl (h1 r hr)
      · simp; omega
    have hX : (H ++ [xb x])[H.length]? = some (xb x) := by simp
    rw [loopG_eq, hg]
    match t, h with
    | .nil, h =>
      have hp : p = nilp := h
      subst hp
      refine ⟨nilp, fun h => by simp [hasE] at h, fun _ => rfl, ?_⟩
      simp only [P_itree_Tree_has.loop2s, P_itree_Tree_has.loop2, mach, Nat.reduceAdd, Nat.reduceLeDiff, Int.reduceEq, Int.reduceLT, Int.reduceLE, neq_nil]
    | .nd c e f l r, h =>
      obtain ⟨q, pl, pr, Sl, Sr, rfl, hq, he, hl, hr, hSq, hSl, hSr⟩ := h
      have hq' : (H ++ [xb x])[q]? = some (nd e c f pl pr) := by rw [List.getElem?_append_left (get_lt hq)]; exact hq
      cases h1 : ltE x e with
      | true =>
        have hc := cmpE_lt.2 h1
        obtain ⟨p', k1, k2, k3⟩ := has_loop (x := x) hl
        refine ⟨p', by simpa [hasE, h1] using k1, by simpa [hasE, h1] using k2, ?_⟩
        simp only [P_itree_Tree_has.loop2s, P_itree_Tree_has.loop2, mach, Nat.reduceAdd, Nat.reduceLeDiff, Int.reduceEq, Int.reduceLT, Int.reduceLE, neq_ptr, nil_ptr, fa_itree_node_0, fa_itree_node_3, ix0, cellAt_of hq', cellsAt_of hq', nb_len, nb_e, nb_5, Nat.reduceLeDiff, compare_ok, hc]
        exact k3
      | false =>
        have hc : ¬ cmpE x e < 0 := fun h => by rw [cmpE_lt.1 h] at h1; simp at h1
        cases h2 : ltE e x with
        | true =>
          have hc2 := cmpE_gt.2 h2
          obtain ⟨p', k1, k2, k3⟩ := has_loop (x := x) hr
          refine ⟨p', by simpa [hasE, h1, h2] using k1, by simpa [hasE, h1, h2] using k2, ?_⟩
          simp only [P_itree_Tree_has.loop2s, P_itree_Tree_has.loop2, mach, Nat.reduceAdd, Nat.reduceLeDiff, Int.reduceEq, Int.reduceLT, Int.reduceLE, neq_ptr, nil_ptr, fa_itree_node_0, fa_itree_node_3, ix1, cellAt_of hq', cellsAt_of hq', nb_len, nb_e, nb_6, Nat.reduceLeDiff, compare_ok, hc, hc2]
          exact k3
        | false =>
          have hc2 : ¬ 0 < cmpE x e := fun h => by rw [cmpE_gt.1 h] at h2; simp at h2
          refine ⟨ptr q, fun _ => ⟨q, rfl⟩, fun h => by simp [hasE, h1, h2] at h, ?_⟩
          simp only [P_itree_Tree_has.loop2s, P_itree_Tree_has.loop2, mach, Nat.reduceAdd, Nat.reduceLeDiff, Int.reduceEq, Int.reduceLT, Int.reduceLE, neq_ptr, nil_ptr, fa_itree_node_0, cellsAt_of hq', nb_len, nb_e, Nat.reduceLeDiff, compare_ok, hc, hc2]
termination_by t => t

theorem has_ok {x : En} {H : List Blk} {b : Nat} {t : Tr} {S : Nat → Prop} (h : TD H b t S) : acall PP TT n_P_itree_Tree_has [ptr b, env x] H = some (.bool (hasE x t), H, none) := by
  obtain ⟨root, h1, h2, h3⟩ := h
  have h1' : (H ++ [xb x])[b]? = some (tb root ((toL t).length : Nat)) := by rw [List.getElem?_append_left (get_lt h1)]; exact h1
  obtain ⟨p', k1, k2, k3⟩ := has_loop (x := x) h2
  rw [acall_eq, P_itree_Tree_has.eq]
  simp only [P_itree_Tree_has.sh, mach, Nat.reduceAdd, Nat.reduceLeDiff, Int.reduceEq, Int.reduceLT, Int.reduceLE, nil_ptr, fa_itree_Tree_1, cellAt_of h1']
  rw [k3]
  cases hh : hasE x t with
  | true =>
    obtain ⟨q, rfl⟩ := k1 hh
    simp only [P_itree_Tree_has.j2, mach, Nat.reduceAdd, Nat.reduceLeDiff, Int.reduceEq, Int.reduceLT, Int.reduceLE, neq_ptr]
    exact fin_lit rfl rfl rfl
  | false =>
    rw [k2 hh]
    simp only [P_itree_Tree_has.j2, mach, Nat.reduceAdd, Nat.reduceLeDiff, Int.reduceEq, Int.reduceLT, Int.reduceLE, neq_nil]
    exact fin_lit rfl rfl rfl

/-! ### Put in -/
def plainE (x : En) : Bool := plainB x.off x.len && !decide (x.len < 1)
def insOk (x : En) (t : Tr) : Bool := plainE x && !hasE x t
/-- the tree behind an Insert -/
def insT (x : En) (t : Tr) : Tr := if insOk x t = true then paint false ((Go.It.add x t).getD .nil) else t

theorem bd_entry (x : En) : aBuild PP t_itree_entry [(0, spn x.off x.len), (1, .int .i64 x.id)] = some (env x) := by kernel_rfl

theorem paint_ok {H : List Blk} {q : Nat} {e : En} {c : Bool} {f : Int} {l r : Tr} {S : Nat → Prop} (h : TA H (ptr q) (.nd c e f l r) S) (d : Bool) : ∃ pl pr, H[q]? = some (nd e c f pl pr) ∧ S q ∧ TA (H.set q (nd e d f pl pr)) (ptr q) (.nd d e f l r) S := by
  obtain ⟨q', pl, pr, Sl, Sr, hp, hq, he, hl, hr, hSq, hSl, hSr⟩ := h
  have : q' = q := by
    injection hp with hp
    injection hp with hp
    injection hp with hp _ _
    exact hp.symm
  subst this
  exact ⟨pl, pr, hq, hSq, q', pl, pr, Sl, Sr, rfl, set_at (get_lt hq), he, hl.set fun y hy => (hSl y hy).2, hr.set fun y hy => (hSr y hy).2.1, hSq, hSl, hSr⟩

theorem insT_len {x : En} {t : Tr} (hi : Inv t) (h : insOk x t = true) : toL (insT x t) = putIn x (toL t) ∧ Inv (insT x t) := by
  have hx : ¬ x ∈ toL t := fun hm => by
    rw [insOk, (hasE_ok hi.sorted).2 hm] at h
    simp at h
  obtain ⟨t', h1, h2, h3, h4⟩ := ins_ok hi hx
  have : insT x t = paint false t' := by
    rw [insT, if_pos h, h1]; rfl
  rw [this]
  exact ⟨h4, h3⟩
theorem putIn_len (x : En) : ∀ L : List En, (putIn x L).length = L.length + 1
  | [] => rfl
  | e :: es => by
    simp only [putIn]
    split
    · simp [putIn_len x es]
    · simp

theorem insert_no {x : En} {H : List Blk} {b : Nat} {t : Tr} {S : Nat → Prop} (h : TD H b t S) (hn : insOk x t = false) : ∃ l, acall PP TT n_P_itree_Tree_Insert [ptr b, spn x.off x.len, .int .i64 x.id] H = some (.bool false, H ++ l, none) := by
  obtain ⟨root, h1, h2, h3⟩ := id h
  refine ⟨[.cells [.int .i64 x.off, .int .i64 x.len] t_api_Span true, xb x], ?_⟩
  have h1' : (H ++ [.cells [.int .i64 x.off, .int .i64 x.len] t_api_Span true, xb x])[b]? = some (tb root ((toL t).length : Nat)) := by rw [List.getElem?_append_left (get_lt h1)]; exact h1
  have hd := h.app [.cells [.int .i64 x.off, .int .i64 x.len] t_api_Span true, xb x]
  rw [acall_eq, P_itree_Tree_Insert.eq]
  cases g1 : plainB x.off x.len with
  | false =>
    simp only [P_itree_Tree_Insert.sh, P_itree_Tree_Insert.j0, mach, Nat.reduceAdd, Nat.reduceLeDiff, Int.reduceEq, Int.reduceLT, Int.reduceLE, bd_entry, zg_itree_entry, zl_itree_entry, za_itree_entry, z_itree_entry, putCells_all, is_ok h1', plain_ok, g1, finK, escBelow]
  | true =>
    by_cases g2 : x.len < 1
    · simp only [P_itree_Tree_Insert.sh, P_itree_Tree_Insert.j0, mach, Nat.reduceAdd, Nat.reduceLeDiff, Int.reduceEq, Int.reduceLT, Int.reduceLE, bd_entry, zg_itree_entry, zl_itree_entry, za_itree_entry, z_itree_entry, putCells_all, is_ok h1', plain_ok, fa_api_Span_1, g1, g2, finK, escBelow]
    · have g3 : hasE x t = true := by simpa [insOk, plainE, g1, g2] using hn
      simp only [P_itree_Tree_Insert.sh, P_itree_Tree_Insert.j0, mach, Nat.reduceAdd, Nat.reduceLeDiff, Int.reduceEq, Int.reduceLT, Int.reduceLE, bd_entry, zg_itree_entry, zl_itree_entry, za_itree_entry, z_itree_entry, putCells_all, is_ok h1', plain_ok, fa_api_Span_1, g1, g2, has_ok hd, g3, finK, escBelow]

/-- the boxes ahead of a call's work -/
abbrev bx (x : En) : List Blk := [.cells [.int .i64 x.off, .int .i64 x.len] t_api_Span true, xb x]

theorem insert_yes {x : En} {H : List Blk} {b : Nat} {t : Tr} {S : Nat → Prop} (h : TD H b t S) (hi : Inv t) (hs : (toL t).length < 1000000) (hy : insOk x t = true) :
    ∃ H' e', acall PP TT n_P_itree_Tree_Insert [ptr b, spn x.off x.len, .int .i64 x.id] H = some (.bool true, H', e') ∧ TD H' b (insT x t) (nw H S) ∧ Fr H H' (fun y => y = b ∨ S y) := by
  have hp : plainE x = true ∧ hasE x t = false := by
    simp only [insOk, Bool.and_eq_true, Bool.not_eq_true'] at hy
    exact hy
  obtain ⟨hpl, hha⟩ := hp
  have hx : ¬ x ∈ toL t := fun hm => by
    rw [(hasE_ok hi.sorted).2 hm] at hha
    simp at hha
  obtain ⟨t', a1, a2, a3, a4⟩ := ins_ok hi hx
  have hit : insT x t = paint false t' := by rw [insT, if_pos hy, a1]; rfl
  have g1 : plainB x.off x.len = true := by
    simp only [plainE, Bool.and_eq_true] at hpl
    exact hpl.1
  have g2 : ¬ x.len < 1 := by
    simp only [plainE, Bool.and_eq_true, Bool.not_eq_true', decide_eq_false_iff_not] at hpl
    exact hpl.2
  obtain ⟨root, h1, h2, h3⟩ := id h
  have hd := h.app (bx x)
  have h1' : (H ++ bx x)[b]? = some (tb root ((toL t).length : Nat)) := by rw [List.getElem?_append_left (get_lt h1)]; exact h1
  -- what add comes to, its set kept low
  obtain ⟨p', H2, e2, k1, k2, k3⟩ := add_ok g1 (h2.tight.app (bx x)) a1
  have hbS : ¬ nw (H ++ bx x) (fun y => S y ∧ y < H.length) b := by
    rintro (hc | hc)
    · exact h3 hc.1
    · have := get_lt h1; simp at hc; omega
  have hbn : ∀ y, nw (H ++ bx x) (fun y => S y ∧ y < H.length) y → y ≠ b := fun y hy hc => by
    subst hc
    exact hbS hy
  have hb2 : H2[b]? = some (tb root ((toL t).length : Nat)) := by rw [k3.2 b (get_lt h1') (fun hc => h3 hc.1)]; exact h1'
  obtain ⟨q, rfl⟩ : ∃ q, p' = ptr q := by
    rcases k2.ptr with ⟨_, hc⟩ | ⟨q, hc, _⟩
    · exact absurd hc a2
    · exact ⟨q, hc⟩
  cases t' with
  | nil => exact absurd rfl a2
  | nd c e f l r =>
    have hb3 := set_at (x := tb (ptr q) ((toL t).length : Nat)) (get_lt hb2)
    have t3 := k2.set (x := tb (ptr q) ((toL t).length : Nat)) hbn
    obtain ⟨pl, pr, hq3, hqS, t4⟩ := paint_ok t3 false
    have hqb : q ≠ b := hbn q hqS
    have hb4 := (set_off (x := nd e false f pl pr) hqb).trans hb3
    have hw : IntKind.i64.wrap ((((toL t).length : Nat) : Int) + 1) = (((toL t).length + 1 : Nat) : Int) := wrap_succ (by omega)
    have t5 := t4.set (x := tb (ptr q) (((toL t).length + 1 : Nat) : Int)) hbn
    have hcall : ∃ e', acall PP TT n_P_itree_Tree_Insert [ptr b, spn x.off x.len, .int .i64 x.id] H = some (.bool true, (((H2.set b (tb (ptr q) ((toL t).length : Nat))).set q (nd e false f pl pr)).set b (tb (ptr q) (((toL t).length + 1 : Nat) : Int))), e') := by
      rw [acall_eq, P_itree_Tree_Insert.eq]
      simp only [P_itree_Tree_Insert.sh, P_itree_Tree_Insert.j0, P_itree_Tree_Insert.j1, mach, Nat.reduceAdd, Nat.reduceLeDiff, Int.reduceEq, Int.reduceLT, Int.reduceLE, bd_entry, zg_itree_entry, zl_itree_entry, za_itree_entry, z_itree_entry, putCells_all, is_ok h1', plain_ok, fa_api_Span_1, g1, g2, has_ok hd, hha,
        nil_ptr, fa_itree_Tree_1, fa_itree_Tree_2, fa_itree_node_1, cellAt_of h1', k1, storeL_of hb2, cellAt_of hb3, storeL_of hq3, nb_len, Nat.reduceLeDiff, nb_put3, cellAt_of hb4, storeL_of hb4, hw, finK]
      exact ⟨_, rfl⟩
    obtain ⟨e', hcall⟩ := hcall
    refine ⟨_, _, hcall, ⟨ptr q, ?_, ?_, ?_⟩, ?_⟩
    · rw [hit, a4, putIn_len]
      exact set_at (by rw [List.length_set, List.length_set]; exact get_lt hb2)
    · rw [hit]
      refine t5.more ?_
      rintro y (hc | hc)
      · exact .inl hc.1
      · exact .inr (by simp at hc; omega)
    · rintro (hc | hc)
      · exact h3 hc
      · have := get_lt h1; omega
    · have f1 : Fr H H2 (fun y => y = b ∨ S y) := (Fr.app H (bx x) _).trans k3 fun y hy => .inl (.inr hy.1)
      have f2 := f1.set (x := tb (ptr q) ((toL t).length : Nat)) (.inl rfl : b = b ∨ S b)
      refine ⟨by simp only [List.length_set]; exact f1.1, fun y hy hn => ?_⟩
      have hyb : b ≠ y := fun hc => hn (.inl hc.symm)
      have hyq : q ≠ y := fun hc => by
        subst hc
        rcases hqS with hc | hc
        · exact hn (.inr hc.1)
        · simp at hc; omega
      rw [set_off hyb, set_off hyq, set_off hyb]
      exact f1.2 y hy hn
end IT
end Go.Proofs.Ytgpfiiebfhdjhaa

end
section
namespace Go.Proofs.Ytgpfiiebfhdjhaa
open Go Go.Am
set_option linter.unusedVariables false
namespace IT
open Go.It

theorem delete_no {x : En} {H : List Blk} {b : Nat} {t : Tr} {S : Nat → Prop} (h : TD H b t S) (hn : hasE x t = false) : acall PP TT n_P_itree_Tree_Delete [ptr b, spn x.off x.len, .int .i64 x.id] H = some (.bool false, H ++ bx x, none) := by
  obtain ⟨root, h1, h2, h3⟩ := id h
  have h1' : (H ++ bx x)[b]? = some (tb root ((toL t).length : Nat)) := by rw [List.getElem?_append_left (get_lt h1)]; exact h1
  have hd := h.app (bx x)
  rw [acall_eq, P_itree_Tree_Delete.eq]
  simp only [P_itree_Tree_Delete.sh, P_itree_Tree_Delete.j0, mach, Nat.reduceAdd, Nat.reduceLeDiff, Int.reduceEq, Int.reduceLT, Int.reduceLE, bd_entry, zg_itree_entry, zl_itree_entry, za_itree_entry, z_itree_entry, putCells_all, is_ok h1', has_ok hd, hn, finK, escBelow]

section
variable {n0 : Nat} {e0 : Option Nat}
theorem del_j4 {H : List Blk} {b n : Nat} {root : Value} (hb : H[b]? = some (tb root (n : Nat))) (hn : 0 < n) (hn2 : n < 1000000) : ∃ e', P_itree_Tree_Delete.j4 (acall PP TT) loopG n0 (ptr b) ⟨H, e0⟩ = some (.bool true, H.set b (tb root ((n - 1 : Nat) : Int)), e') := by
  have hw : IntKind.i64.wrap ((n : Int) - 1) = ((n - 1 : Nat) : Int) := by rw [wrap_in ⟨by omega, by omega⟩]; omega
  simp only [P_itree_Tree_Delete.j4, mach, Nat.reduceAdd, Nat.reduceLeDiff, Int.reduceEq, Int.reduceLT, Int.reduceLE, nil_ptr, fa_itree_Tree_2, cellAt_of hb, storeL_of hb, hw, finK]
  exact ⟨_, rfl⟩

/-- what a Delete comes to -/
def DelR (r : Option (Value × List Blk × Option Nat)) (H : List Blk) (b : Nat) (t : Tr) (S : Nat → Prop) : Prop := ∃ H' e', r = some (.bool true, H', e') ∧ TD H' b t (nw H S) ∧ Fr H H' (fun y => y = b ∨ S y)

theorem del_j3 {x : En} {k k0 : Nat} {H : List Blk} {b : Nat} {root : Value} {t t' : Tr} {S : Nat → Prop} {n : Nat} (hk : H[k0]? = some (xb x)) (hb : H[b]? = some (tb root (n : Nat))) (h : TA H root t S) (hbS : ¬ S b) (ht : cut x k t = some t') (hn : n = (toL t').length + 1) (hn2 : n < 1000000) :
    DelR (P_itree_Tree_Delete.j3 (acall PP TT) loopG n0 (ptr b) (ptr k0) ⟨H, e0⟩) H b (paint false t') S := by
  obtain ⟨p', H2, e2, k1, k2, k3⟩ := cut_ok' x k _ _ _ _ _ h ht
  have hbl := get_lt hb
  have hbn : ∀ y, nw H S y → y ≠ b := by
    rintro y (hy | hy) hc
    · subst hc; exact hbS hy
    · omega
  have hb2 : H2[b]? = some (tb root (n : Nat)) := by rw [k3.2 b hbl hbS]; exact hb
  have hb3 := set_at (x := tb p' (n : Nat)) (get_lt hb2)
  have t3 := k2.set (x := tb p' (n : Nat)) hbn
  have f3 : Fr H (H2.set b (tb p' (n : Nat))) (fun y => y = b ∨ S y) := (k3.more fun y hy => .inr hy).set (.inl rfl)
  cases t' with
  | nil =>
    have hp : p' = nilp := k2
    subst hp
    obtain ⟨e', k4⟩ := del_j4 (n0 := n0) (e0 := joinEsc (joinEsc e0 e2) none) hb3 (by omega) hn2
    have hcall : ∃ e', P_itree_Tree_Delete.j3 (acall PP TT) loopG n0 (ptr b) (ptr k0) ⟨H, e0⟩ = some (.bool true, (H2.set b (tb nilp (n : Nat))).set b (tb nilp ((n - 1 : Nat) : Int)), e') := by
      simp only [P_itree_Tree_Delete.j3, mach, Nat.reduceAdd, Nat.reduceLeDiff, Int.reduceEq, Int.reduceLT, Int.reduceLE, nil_ptr, fa_itree_Tree_1, cellAt_of hb, cellsAt_of hk, k1, storeL_of hb2, cellAt_of hb3, neq_nil]
      obtain ⟨e', k4⟩ := del_j4 (n0 := n0) (e0 := joinEsc e0 e2) hb3 (by omega) hn2
      exact ⟨_, k4⟩
    obtain ⟨e', hcall⟩ := hcall
    refine ⟨_, _, hcall, ⟨nilp, ?_, rfl, fun hc => hbn b hc rfl⟩, f3.set (.inl rfl)⟩
    rw [set_at (by rw [List.length_set]; exact get_lt hb2), hn]
    rfl
  | nd c e f l r =>
    obtain ⟨q, rfl⟩ : ∃ q, p' = ptr q := by
      rcases k2.ptr with ⟨_, hc⟩ | ⟨q, hc, _⟩
      · simp at hc
      · exact ⟨q, hc⟩
    obtain ⟨pl, pr, hq3, hqS, t4⟩ := paint_ok t3 false
    have hqb := hbn q hqS
    have hb4 := (set_off (x := nd e false f pl pr) hqb).trans hb3
    have hcall : ∃ e', P_itree_Tree_Delete.j3 (acall PP TT) loopG n0 (ptr b) (ptr k0) ⟨H, e0⟩ = some (.bool true, ((H2.set b (tb (ptr q) (n : Nat))).set q (nd e false f pl pr)).set b (tb (ptr q) ((n - 1 : Nat) : Int)), e') := by
      have k4 : ∀ e0, ∃ e', P_itree_Tree_Delete.j4 (acall PP TT) loopG n0 (ptr b) ⟨(H2.set b (tb (ptr q) (n : Nat))).set q (nd e false f pl pr), e0⟩ = some (.bool true, ((H2.set b (tb (ptr q) (n : Nat))).set q (nd e false f pl pr)).set b (tb (ptr q) ((n - 1 : Nat) : Int)), e') := fun e0 => del_j4 (n0 := n0) (e0 := e0) hb4 (by omega) hn2
      simp only [P_itree_Tree_Delete.j3, mach, Nat.reduceAdd, Nat.reduceLeDiff, Int.reduceEq, Int.reduceLT, Int.reduceLE, nil_ptr, fa_itree_Tree_1, fa_itree_node_1, cellAt_of hb, cellsAt_of hk, k1, storeL_of hb2, cellAt_of hb3, neq_ptr, storeL_of hq3, nb_len, Nat.reduceLeDiff, nb_put3]
      exact k4 _
    obtain ⟨e', hcall⟩ := hcall
    refine ⟨_, _, hcall, ⟨ptr q, ?_, t4.set hbn, fun hc => hbn b hc rfl⟩, ?_⟩
    · rw [set_at (by rw [List.length_set, List.length_set]; exact get_lt hb2), hn]
      rfl
    · refine ⟨by simp only [List.length_set]; exact k3.1, fun y hy hny => ?_⟩
      have hyb : b ≠ y := fun hc => hny (.inl hc.symm)
      have hyq : q ≠ y := fun hc => by
        subst hc
        rcases hqS with hc | hc
        · exact hny (.inr hc)
        · omega
      rw [set_off hyb, set_off hyq, set_off hyb]
      exact k3.2 y hy fun hc => hny (.inr hc)
end

/-- the tree behind a Delete -/
theorem delete_yes {x : En} {H : List Blk} {b : Nat} {t : Tr} {S : Nat → Prop} (h : TD H b t S) (hi : Inv t) (hs : (toL t).length < 1000000) (hy : hasE x t = true) :
    ∃ t', Inv t' ∧ toL t' = (toL t).erase x ∧ DelR (acall PP TT n_P_itree_Tree_Delete [ptr b, spn x.off x.len, .int .i64 x.id] H) H b t' S := by
  have hx := (hasE_ok hi.sorted).1 hy
  obtain ⟨k, t', a1, a2, a3⟩ := del_ok hi hx
  refine ⟨_, a2, a3, ?_⟩
  obtain ⟨root, h1, h2, h3⟩ := id h
  have hd := h.app (bx x)
  have h1' : (H ++ bx x)[b]? = some (tb root ((toL t).length : Nat)) := by rw [List.getElem?_append_left (get_lt h1)]; exact h1
  have hk : (H ++ bx x)[H.length + 1]? = some (xb x) := by simp
  have hn : (toL t).length = (toL t').length + 1 := by
    have := congrArg List.length a3
    rw [toL_paint, List.length_erase_of_mem hx] at this
    have := List.length_pos_of_mem hx
    omega
  have fin : ∀ {r}, DelR r (H ++ bx x) b (paint false t') (fun y => S y ∧ y < H.length) → DelR r H b (paint false t') S := by
    rintro r ⟨H', e', c1, ⟨rt', c2, c3, c4⟩, c5⟩
    refine ⟨H', e', c1, ⟨rt', c2, c3.more ?_, ?_⟩, (Fr.app H (bx x) _).trans c5 ?_⟩
    · rintro y (hc | hc)
      · exact .inl hc.1
      · exact .inr (by simp at hc; omega)
    · rintro (hc | hc)
      · exact h3 hc
      · have := get_lt h1; omega
    · rintro y (hc | hc)
      · exact .inl (.inl hc)
      · exact .inl (.inr hc.1)
  apply fin
  have h2' := h2.tight.app (bx x)
  have hbS : ¬ (S b ∧ b < H.length) := fun hc => h3 hc.1
  cases t with
  | nil => simp [toL] at hx
  | nd c e f l r =>
    have h20 := h2'
    obtain ⟨q, pl, pr, Sl, Sr, rfl, hq, he, hl, hr, hSq, hSl, hSr⟩ := h2'
    rw [acall_eq, P_itree_Tree_Delete.eq]
    have stay : ∀ {r'}, r' = P_itree_Tree_Delete.j3 (acall PP TT) loopG H.length (ptr b) (ptr (H.length + 1)) ⟨H ++ bx x, none⟩ → ready (.nd c e f l r) = .nd c e f l r → DelR r' (H ++ bx x) b (paint false t') (fun y => S y ∧ y < H.length) := by
      rintro r' rfl hre
      rw [hre] at a1
      exact del_j3 hk h1' h20 hbS a1 hn hs
    cases g1 : isRed l with
    | true =>
      refine stay ?_ (by simp [ready, g1])
      simp only [P_itree_Tree_Delete.sh, P_itree_Tree_Delete.j0, P_itree_Tree_Delete.j1, P_itree_Tree_Delete.j2, mach, Nat.reduceAdd, Nat.reduceLeDiff, Int.reduceEq, Int.reduceLT, Int.reduceLE, bd_entry, zg_itree_entry, zl_itree_entry, za_itree_entry, z_itree_entry, putCells_all, is_ok h1', has_ok hd, hy,
        nil_ptr, fa_itree_Tree_1, fa_itree_node_3, ix0, ix1, cellAt_of h1', cellAt_of hq, nb_5, nb_6, isRed_ok hl, isRed_ok hr, g1]
    | false =>
      cases g2 : isRed r with
      | true =>
        refine stay ?_ (by simp [ready, g2])
        simp only [P_itree_Tree_Delete.sh, P_itree_Tree_Delete.j0, P_itree_Tree_Delete.j1, P_itree_Tree_Delete.j2, mach, Nat.reduceAdd, Nat.reduceLeDiff, Int.reduceEq, Int.reduceLT, Int.reduceLE, bd_entry, zg_itree_entry, zl_itree_entry, za_itree_entry, z_itree_entry, putCells_all, is_ok h1', has_ok hd, hy,
          nil_ptr, fa_itree_Tree_1, fa_itree_node_3, ix0, ix1, cellAt_of h1', cellAt_of hq, nb_5, nb_6, isRed_ok hl, isRed_ok hr, g1, g2]
      | false =>
        have hre : ready (.nd c e f l r) = .nd true e f l r := by simp [ready, g1, g2]
        rw [hre] at a1
        obtain ⟨pl', pr', hq', hqS, t4⟩ := paint_ok h20 true
        have hqb : q ≠ b := fun hc => by subst hc; exact hbS hqS
        have hb4 := (set_off (x := nd e true f pl' pr') hqb).trans h1'
        have hqk : q ≠ H.length + 1 := by have := hqS.2; omega
        have hk4 := (set_off (x := nd e true f pl' pr') hqk).trans hk
        have r1 := del_j3 (n0 := H.length) (e0 := none) hk4 hb4 t4 hbS a1 hn hs
        have heq : P_itree_Tree_Delete.sh (acall PP TT) loopG H.length (ptr b) (spn x.off x.len) (.int .i64 x.id) ⟨H, none⟩ = P_itree_Tree_Delete.j3 (acall PP TT) loopG H.length (ptr b) (ptr (H.length + 1)) ⟨(H ++ bx x).set q (nd e true f pl' pr'), none⟩ := by
          simp only [P_itree_Tree_Delete.sh, P_itree_Tree_Delete.j0, P_itree_Tree_Delete.j1, P_itree_Tree_Delete.j2, mach, Nat.reduceAdd, Nat.reduceLeDiff, Int.reduceEq, Int.reduceLT, Int.reduceLE, bd_entry, zg_itree_entry, zl_itree_entry, za_itree_entry, z_itree_entry, putCells_all, is_ok h1', has_ok hd, hy,
            nil_ptr, fa_itree_Tree_1, fa_itree_node_1, fa_itree_node_3, ix0, ix1, cellAt_of h1', cellAt_of hq, nb_5, nb_6, isRed_ok hl, isRed_ok hr, g1, g2, storeL_of hq', nb_len, Nat.reduceLeDiff, nb_put3]
        rw [heq]
        obtain ⟨H', e', c1, ⟨rt', c2, c3, c4⟩, c5⟩ := r1
        have hlen : ((H ++ bx x).set q (nd e true f pl' pr')).length = (H ++ bx x).length := List.length_set
        refine ⟨H', e', c1, ⟨rt', c2, c3.more ?_, ?_⟩, ?_⟩
        · rintro y (hc | hc)
          · exact .inl hc
          · exact .inr (by rw [hlen] at hc; exact hc)
        · rintro (hc | hc)
          · exact c4 (.inl hc)
          · exact c4 (.inr (by rw [hlen]; exact hc))
        · exact ((Fr.refl (H ++ bx x) (fun y => y = b ∨ (S y ∧ y < H.length))).set (.inr hqS)).trans c5 fun y hy => .inl hy
end IT
end Go.Proofs.Ytgpfiiebfhdjhaa

end
section
namespace Go.Proofs.Ytgpfiiebfhdjhaa
open Go Go.Am
set_option linter.unusedVariables false
namespace IT
open Go.It

theorem gc0_spec (vs : List Value) (st : AS) : ∃ σ : Nat → Nat, (gc 0 vs st).1 = lren σ vs ∧
    (∀ r, Rch st.H (lrefs vs) r → ∀ b, st.H[r]? = some b → (gc 0 vs st).2.H[σ r]? = some (renBlk σ b)) ∧
    (∀ r r', Rch st.H (lrefs vs) r → Rch st.H (lrefs vs) r' → σ r = σ r' → r = r') := by
  obtain ⟨H, e⟩ := st
  have idv : lren (fun r => r) vs = vs := lren_same vs (fun _ _ => rfl)
  have idb : ∀ b : Blk, renBlk (fun r => r) b = b := by
    intro b
    cases b with
    | cells cs t o => simp [renBlk, lren_same cs (fun _ _ => rfl)]
    | map es c =>
      simp only [renBlk]
      congr 1
      rw [show es = es.map id by simp, List.map_map]
      refine List.map_congr_left fun x _ => ?_
      simp [vren_same x.key (fun _ _ => rfl), vren_same x.val (fun _ _ => rfl)]
    | iter m a b c => simp [renBlk]
    | dead => rfl
  have same : ∃ σ : Nat → Nat, (vs, (⟨H, e⟩ : AS)).1 = lren σ vs ∧ (∀ r, Rch H (lrefs vs) r → ∀ b, H[r]? = some b → (vs, (⟨H, e⟩ : AS)).2.H[σ r]? = some (renBlk σ b)) ∧
      (∀ r r', Rch H (lrefs vs) r → Rch H (lrefs vs) r' → σ r = σ r' → r = r') :=
    ⟨fun r => r, idv.symm, fun r _ b hb => by rw [idb]; exact hb, fun _ _ _ _ h => h⟩
  unfold gc
  split
  · simp only
    generalize hkept : reach H 0 (H.length * 64 + 4096) (lrefs vs) [] = kept
    split
    · rename_i hcond
      obtain ⟨hc1, hc2, hc3⟩ := hcond
      have hc1 := closed_spec hc1
      rw [List.all_eq_true] at hc2
      have hmem : ∀ r, Rch H (lrefs vs) r → r ∈ kept := by
        intro r hr
        induction hr with
        | here h =>
          rcases hc1 _ h with h | h
          · omega
          · exact h
        | @step r q b hq hb hrb ih =>
          have := hc2 (H.getD q .dead) (List.mem_map.2 ⟨q, ih, rfl⟩)
          have hbq : H.getD q .dead = b := by simp [List.getD, hb]
          rw [hbq] at this
          rcases closed_spec this r hrb with h | h
          · omega
          · exact h
      have hix : ∀ r, Rch H (lrefs vs) r → kept[renum 0 kept r]? = some r := by
        intro r hr
        obtain ⟨j, h1, h2⟩ := findIx_mem kept 0 (hmem r hr)
        have : renum 0 kept r = j := by simp [renum, h1]
        rw [this]
        exact h2
      refine ⟨renum 0 kept, rfl, fun r hr b hb => ?_, fun r r' hr hr' h => ?_⟩
      · rw [List.take_zero, List.nil_append, List.getElem?_map, List.getElem?_map, hix r hr]
        simp [List.getD, hb]
      · have h1 := hix r hr
        rw [h, hix r' hr'] at h1
        exact (Option.some.inj h1).symm
    · exact same
  · exact same

section
variable {σ : Nat → Nat} {H H' : List Blk} {rts : List Nat}
theorem TA.ren (h1 : ∀ r, Rch H rts r → ∀ b, H[r]? = some b → H'[σ r]? = some (renBlk σ b)) (inj : ∀ r r', Rch H rts r → Rch H rts r' → σ r = σ r' → r = r') :
    ∀ {t : Tr} {p : Value} {S : Nat → Prop}, TA H p t S → (∀ r ∈ vrefs p, Rch H rts r) → TA H' (vren σ p) t (fun y => ∃ r, S r ∧ Rch H rts r ∧ σ r = y)
  | .nil, p, S, h, _ => by
    have hp : p = nilp := h
    subst hp
    rfl
  | .nd c e f l r, p, S, h, hr => by
    obtain ⟨q, pl, pr, Sl, Sr, rfl, hq, he, hl, hrr, hSq, hSl, hSr⟩ := h
    have rq : Rch H rts q := hr q (by simp)
    have hq' := h1 q rq _ hq
    have il := TA.ren h1 inj hl (fun x hx => .step rq hq (by simp [blkRefs, nb, hx]))
    have ir := TA.ren h1 inj hrr (fun x hx => .step rq hq (by simp [blkRefs, nb, hx]))
    refine ⟨σ q, vren σ pl, vren σ pr, _, _, rfl, hq', he, il, ir, ⟨q, hSq, rq, rfl⟩, ?_, ?_⟩
    · rintro y ⟨x, a1, a2, rfl⟩
      exact ⟨⟨x, (hSl x a1).1, a2, rfl⟩, fun hc => (hSl x a1).2 (inj _ _ a2 rq hc)⟩
    · rintro y ⟨x, a1, a2, rfl⟩
      refine ⟨⟨x, (hSr x a1).1, a2, rfl⟩, fun hc => (hSr x a1).2.1 (inj _ _ a2 rq hc), ?_⟩
      rintro ⟨z, b1, b2, b3⟩
      have := inj _ _ b2 a2 b3
      subst this
      exact (hSr z a1).2.2 b1

theorem TD.ren (h1 : ∀ r, Rch H rts r → ∀ b, H[r]? = some b → H'[σ r]? = some (renBlk σ b)) (inj : ∀ r r', Rch H rts r → Rch H rts r' → σ r = σ r' → r = r') {b : Nat} {t : Tr} {S : Nat → Prop} (h : TD H b t S) (hb : b ∈ rts) :
    TD H' (σ b) t (fun y => ∃ r, S r ∧ Rch H rts r ∧ σ r = y) := by
  obtain ⟨root, a1, a2, a3⟩ := h
  have rb : Rch H rts b := .here hb
  refine ⟨vren σ root, h1 b rb _ a1, a2.ren h1 inj (fun x hx => .step rb a1 (by simp [blkRefs, hx])), ?_⟩
  rintro ⟨r, c1, c2, c3⟩
  exact a3 (inj _ _ c2 rb c3 ▸ c1)
end

/-! ### Acts -/
structure Act where
  del : Bool
  e : En
def actc (a : Act) : List Value := [.bool a.del, .int .i64 a.e.off, .int .i64 a.e.len, .int .i64 a.e.id]
def actR (l : List Act) : List Value := (l.map actc).flatten
theorem act_rows (l : List Act) : RowsOf 4 (l.map actc) := by
  refine ⟨fun r hr => ?_, fun r hr => ?_, fun r hr => ?_, fun r hr => ?_⟩ <;> (obtain ⟨a, _, rfl⟩ := List.mem_map.1 hr; rfl)
theorem act_refs (l : List Act) : vrefs (tSl l.length (actR l)) = [] := by
  simp [(act_rows l).frefs, actR]
section
variable {l : List Act} {k : Nat} {a : Act} (h : l[k]? = some a) (st : AS)
include h
theorem act_ix : aIndexAddr PP t_L_twainlaw14_Act (tSl l.length (actR l)) (.int .i64 (k : Int)) = some (tPtr (k * 4) (actR l).toArray) := tsl_index u_L_twainlaw14_Act sz_twainlaw14_Act (List.getElem?_eq_some_iff.1 h).1
theorem act_load : aLoad true 4 st (tPtr (k * 4) (actR l).toArray) = some (.agg (actc a).toArray) := tptr_load (act_rows l) (by simp [h])
end
theorem act_len (l : List Act) (st : AS) : aLen PP t_L_twainlaw14_Act (tSl l.length (actR l)) st = some (.int .i64 l.length) := tsl_len u_L_twainlaw14_Act

/-! ### Whatever is asked -/
theorem insert_any {x : En} {H : List Blk} {b : Nat} {t : Tr} {S : Nat → Prop} (h : TD H b t S) (hi : Inv t) (hs : (toL t).length < 1000000) :
    ∃ v H' e' t' S', acall PP TT n_P_itree_Tree_Insert [ptr b, spn x.off x.len, .int .i64 x.id] H = some (.bool v, H', e') ∧ TD H' b t' S' ∧ Inv t' ∧ (toL t').length ≤ (toL t).length + 1 := by
  cases hy : insOk x t with
  | true =>
    obtain ⟨H', e', a1, a2, _⟩ := insert_yes h hi hs hy
    obtain ⟨b1, b2⟩ := insT_len hi hy
    exact ⟨_, _, _, _, _, a1, a2, b2, by rw [b1, putIn_len]; omega⟩
  | false =>
    obtain ⟨l, a1⟩ := insert_no h hy
    exact ⟨_, _, _, t, S, a1, h.app l, hi, by omega⟩
theorem delete_any {x : En} {H : List Blk} {b : Nat} {t : Tr} {S : Nat → Prop} (h : TD H b t S) (hi : Inv t) (hs : (toL t).length < 1000000) :
    ∃ v H' e' t' S', acall PP TT n_P_itree_Tree_Delete [ptr b, spn x.off x.len, .int .i64 x.id] H = some (.bool v, H', e') ∧ TD H' b t' S' ∧ Inv t' ∧ (toL t').length ≤ (toL t).length + 1 := by
  cases hy : hasE x t with
  | true =>
    obtain ⟨t', a1, a2, H', e', a3, a4, _⟩ := delete_yes h hi hs hy
    exact ⟨_, _, _, _, _, a3, a4, a1, by rw [a2]; have := List.length_erase_le (a := x) (l := toL t); omega⟩
  | false => exact ⟨_, _, _, t, S, delete_no h hy, h.app (bx x), hi, by omega⟩

theorem bits_le : ∀ n : Nat, It.bits n ≤ n := by
  intro n
  induction n using Nat.strongRecOn with
  | _ n ih =>
    by_cases h : n = 0
    · subst h; simp [bits_zero]
    · rw [bits_pos (by omega)]
      have := ih (n / 2) (by omega)
      omega
end IT
end Go.Proofs.Ytgpfiiebfhdjhaa

end
section
namespace Go.Proofs.Ytgpfiiebfhdjhaa
open Go Go.Am
set_option linter.unusedVariables false
namespace IT
open Go.It

theorem gcT {vs : List Value} {st : AS} {b : Nat} {t : Tr} {S : Nat → Prop} (h : TD st.H b t S) (hb : b ∈ lrefs vs) : ∃ σ S', (gc 0 vs st).1 = lren σ vs ∧ TD (gc 0 vs st).2.H (σ b) t S' := by
  obtain ⟨σ, h1, h2, h3⟩ := gc0_spec vs st
  exact ⟨σ, _, h1, h.ren h2 h3 hb⟩

/-- a tree of so many, in a state -/
def Few (st : AS) (b : Nat) (m : Nat) (t : Tr) : Prop := ∃ S, TD st.H b t S ∧ Inv t ∧ (toL t).length ≤ m

section
variable {l : List Act} {n : Nat} {step : Int}

/-- what is asked behind each call -/
theorem ask {H : List Blk} {b : Nat} {t : Tr} {S : Nat → Prop} (h : TD H b t S) (hi : Inv t) (hs : (toL t).length < 100000) :
    acall PP TT n_P_itree_Tree_Height [ptr b] H = some (.int .i64 (height t : Nat), H, none) ∧ acall PP TT n_P_itree_Tree_Len [ptr b] H = some (.int .i64 ((toL t).length : Nat), H, none) ∧
    IntKind.i64.wrap ((((toL t).length : Nat) : Int) + 1) = (((toL t).length + 1 : Nat) : Int) ∧ acall PP TT n_twainlaw14_bits [.int .i64 (((toL t).length + 1 : Nat) : Int)] H = some (.int .i64 (It.bits ((toL t).length + 1) : Nat), H, none) ∧
    IntKind.i64.wrap (2 * ((It.bits ((toL t).length + 1) : Nat) : Int)) = 2 * ((It.bits ((toL t).length + 1) : Nat) : Int) ∧ ¬ 2 * ((It.bits ((toL t).length + 1) : Nat) : Int) < ((height t : Nat) : Int) := by
  have h1 := height_bits hi
  have h2 := bits_le ((toL t).length + 1)
  refine ⟨height_ok' h (by omega), len_ok h, wrap_succ (by omega), bits_ok _ (by omega) H, wrap_in ⟨by omega, by omega⟩, by omega⟩

def I5 (l : List Act) (n : Nat) (step : Int) (i : Nat) (X : List Value × AS) : Prop := ∃ b t st, X = ([tSl l.length (actR l), .int .i64 n, .int .i64 step, ptr b, .int .i64 i], st) ∧ Few st b i t
theorem I5_gc (i : Nat) (X : List Value × AS) (h : I5 l n step i X) : I5 l n step i (gc 0 X.1 X.2) := by
  obtain ⟨b, t, st, rfl, S, h1, h2, h3⟩ := h
  obtain ⟨σ, S', g1, g2⟩ := gcT (vs := [tSl l.length (actR l), .int .i64 n, .int .i64 step, ptr b, .int .i64 i]) h1 (by simp)
  refine ⟨σ b, t, _, Prod.ext ?_ rfl, S', g2, h2, h3⟩
  rw [g1]
  simp [lren, vren_none (act_refs l), vren]

theorem mul_in {i : Nat} {step : Int} (hi : i ≤ 300) (h1 : -1000 ≤ step) (h2 : step ≤ 1000) : -300000 ≤ (i : Int) * step ∧ (i : Int) * step ≤ 300000 := by
  have a1 : (i : Int) * step ≤ (i : Int) * 1000 := Int.mul_le_mul_of_nonneg_left h2 (by omega)
  have a2 : (i : Int) * (-1000) ≤ (i : Int) * step := Int.mul_le_mul_of_nonneg_left h1 (by omega)
  omega
theorem tmod7 (i : Nat) : 0 ≤ (i : Int).tmod 7 ∧ (i : Int).tmod 7 < 7 := by
  rw [Int.tmod_eq_emod_of_nonneg (by omega)]
  omega

theorem loop5_ok (hn : n ≤ 300) (h1 : -1000 ≤ step) (h2 : step ≤ 1000) {b : Nat} {t : Tr} {st : AS} (hf : Few st b 0 t) :
    ∃ r, loopG 0 (twainlaw14_ItreeHeight.loop5s (acall PP TT) loopG 0) ([tSl l.length (actR l), .int .i64 n, .int .i64 step, ptr b, .int .i64 0], st) = some r ∧ ∃ b' t' st', r = (.exit 0, [tSl l.length (actR l), .int .i64 n, .int .i64 step, unk, ptr b'], st') ∧ Few st' b' n t' := by
  refine loop_inv (len := n) (I5 l n step) _ I5_gc ?_ ?_ n 0 _ (by omega) ⟨b, t, st, rfl, hf⟩
  · rintro i X hi ⟨b, t, ⟨H, e⟩, rfl, S, a1, a2, a3⟩
    right
    have hlt : (i : Int) < (n : Int) := by omega
    have hm := mul_in (i := i) (by omega) h1 h2
    have ht := tmod7 i
    have w1 : IntKind.i64.wrap ((i : Int) * step) = (i : Int) * step := wrap_in ⟨by omega, by omega⟩
    have w2 : IntKind.i64.wrap (300000 + (i : Int) * step) = 300000 + (i : Int) * step := wrap_in ⟨by omega, by omega⟩
    have w3 : IntKind.i64.wrap (1 + (i : Int).tmod 7) = 1 + (i : Int).tmod 7 := wrap_in ⟨by omega, by omega⟩
    have w4 : IntKind.i64.wrap ((i : Int) + 1) = ((i + 1 : Nat) : Int) := wrap_succ (by omega)
    have hrem : ∀ {ox oy}, aBin PP .rem t_int ox oy (.int .i64 (i : Nat)) (.int .i64 7) = some (.int .i64 ((i : Int).tmod 7)) := bin_rem (by decide)
    obtain ⟨v, H', e', t', S', k1, k2, k3, k4⟩ := insert_any (x := ⟨300000 + (i : Int) * step, 1 + (i : Int).tmod 7, i⟩) a1 a2 (by omega)
    simp only at k1
    obtain ⟨q1, q2, q3, q4, q5, q6⟩ := ask k2 k3 (by omega)
    refine ⟨_, ?_, b, t', ⟨H', joinEsc (joinEsc (joinEsc (joinEsc e e') none) none) none⟩, rfl, S', k2, k3, by omega⟩
    simp only [twainlaw14_ItreeHeight.loop5s, twainlaw14_ItreeHeight.loop5, mach, Nat.reduceAdd, Nat.reduceLeDiff, Int.reduceEq, Int.reduceLT, Int.reduceLE, hlt, w1, w2, w3, w4, hrem, bd_span2, k1, q1, q2, q3, q4, q5, q6]
  · rintro X ⟨b, t, ⟨H, e⟩, rfl, hf⟩
    refine ⟨_, ?_, b, t, ⟨H, e⟩, rfl, hf⟩
    simp only [twainlaw14_ItreeHeight.loop5s, twainlaw14_ItreeHeight.loop5, mach, Nat.reduceAdd, Nat.reduceLeDiff, Int.reduceEq, Int.reduceLT, Int.reduceLE, Int.lt_irrefl]

def I11 (l : List Act) (n : Nat) (step : Int) (i : Nat) (X : List Value × AS) : Prop := ∃ b t st, X = ([.int .i64 n, .int .i64 step, ptr b, tSl l.length (actR l), .int .i64 l.length, .int .i64 i], st) ∧ Few st b (n + i) t
theorem I11_gc (i : Nat) (X : List Value × AS) (h : I11 l n step i X) : I11 l n step i (gc 0 X.1 X.2) := by
  obtain ⟨b, t, st, rfl, S, h1, h2, h3⟩ := h
  obtain ⟨σ, S', g1, g2⟩ := gcT (vs := [.int .i64 n, .int .i64 step, ptr b, tSl l.length (actR l), .int .i64 l.length, .int .i64 i]) h1 (by simp)
  refine ⟨σ b, t, _, Prod.ext ?_ rfl, S', g2, h2, h3⟩
  rw [g1]
  simp [lren, vren_none (act_refs l), vren]

theorem loop11_ok (hn : n ≤ 300) (hl : l.length ≤ 150) {b : Nat} {t : Tr} {st : AS} (hf : Few st b n t) :
    ∃ r, loopG 0 (twainlaw14_ItreeHeight.loop11s (acall PP TT) loopG 0) ([.int .i64 n, .int .i64 step, ptr b, tSl l.length (actR l), .int .i64 l.length, .int .i64 0], st) = some r ∧ ∃ b' t' st', r = (.exit 2, [.int .i64 n, .int .i64 step, unk, ptr b'], st') ∧ Few st' b' (n + l.length) t' := by
  refine loop_inv (len := l.length) (I11 l n step) _ I11_gc ?_ ?_ l.length 0 _ (by omega) ⟨b, t, st, rfl, hf⟩
  · rintro i X hi ⟨b, t, ⟨H, e⟩, rfl, S, a1, a2, a3⟩
    right
    have hlt : (i : Int) < (l.length : Int) := by omega
    have hg : l[i]? = some l[i] := List.getElem?_eq_getElem hi
    generalize l[i] = a at hg
    have w4 : IntKind.i64.wrap ((i : Int) + 1) = ((i + 1 : Nat) : Int) := wrap_succ (by omega)
    have a1' := a1.app [.cells (actc a) t_twainlaw14_Act true]
    have hb : (H ++ [.cells (actc a) t_twainlaw14_Act true])[H.length]? = some (.cells (actc a) t_twainlaw14_Act true) := by simp
    have hac : (actc a).length = z_twainlaw14_Act.length := rfl
    cases hd : a.del with
    | true =>
      obtain ⟨v, H', e', t', S', k1, k2, k3, k4⟩ := delete_any (x := a.e) a1' a2 (by omega)
      obtain ⟨q1, q2, q3, q4, q5, q6⟩ := ask k2 k3 (by omega)
      have : ∃ e2, twainlaw14_ItreeHeight.loop11s (acall PP TT) loopG 0 ([.int .i64 n, .int .i64 step, ptr b, tSl l.length (actR l), .int .i64 l.length, .int .i64 i], ⟨H, e⟩) = some (.inl ([.int .i64 n, .int .i64 step, ptr b, tSl l.length (actR l), .int .i64 l.length, .int .i64 ((i + 1 : Nat) : Int)], ⟨H', e2⟩)) := by
        unfold actc at k1 hb hac
        simp only [twainlaw14_ItreeHeight.loop11s, twainlaw14_ItreeHeight.loop11, twainlaw14_ItreeHeight.j6, twainlaw14_ItreeHeight.j7, mach, Nat.reduceAdd, Nat.reduceLeDiff, Int.reduceEq, Int.reduceLT, Int.reduceLE, hlt, act_ix hg, act_load hg, zg_twainlaw14_Act, zl_twainlaw14_Act, za_twainlaw14_Act, z_twainlaw14_Act, actc, putCells_all, hac, fa_twainlaw14_Act_0, fa_twainlaw14_Act_1, fa_twainlaw14_Act_2, hd]
        rw [hd] at k1
        simp only [k1, q1, q2, q3, q4, q5, q6, w4, mach, Nat.reduceAdd, Nat.reduceLeDiff, Int.reduceEq, Int.reduceLT, Int.reduceLE]
        exact ⟨_, rfl⟩
      obtain ⟨e2, this⟩ := this
      exact ⟨_, this, b, t', _, rfl, S', k2, k3, by omega⟩
    | false =>
      obtain ⟨v, H', e', t', S', k1, k2, k3, k4⟩ := insert_any (x := a.e) a1' a2 (by omega)
      obtain ⟨q1, q2, q3, q4, q5, q6⟩ := ask k2 k3 (by omega)
      have : ∃ e2, twainlaw14_ItreeHeight.loop11s (acall PP TT) loopG 0 ([.int .i64 n, .int .i64 step, ptr b, tSl l.length (actR l), .int .i64 l.length, .int .i64 i], ⟨H, e⟩) = some (.inl ([.int .i64 n, .int .i64 step, ptr b, tSl l.length (actR l), .int .i64 l.length, .int .i64 ((i + 1 : Nat) : Int)], ⟨H', e2⟩)) := by
        unfold actc at k1 hb hac
        simp only [twainlaw14_ItreeHeight.loop11s, twainlaw14_ItreeHeight.loop11, twainlaw14_ItreeHeight.j6, twainlaw14_ItreeHeight.j7, mach, Nat.reduceAdd, Nat.reduceLeDiff, Int.reduceEq, Int.reduceLT, Int.reduceLE, hlt, act_ix hg, act_load hg, zg_twainlaw14_Act, zl_twainlaw14_Act, za_twainlaw14_Act, z_twainlaw14_Act, actc, putCells_all, hac, fa_twainlaw14_Act_0, fa_twainlaw14_Act_1, fa_twainlaw14_Act_2, hd]
        rw [hd] at k1
        simp only [k1, q1, q2, q3, q4, q5, q6, w4, mach, Nat.reduceAdd, Nat.reduceLeDiff, Int.reduceEq, Int.reduceLT, Int.reduceLE]
        exact ⟨_, rfl⟩
      obtain ⟨e2, this⟩ := this
      exact ⟨_, this, b, t', _, rfl, S', k2, k3, by omega⟩
  · rintro X ⟨b, t, ⟨H, e⟩, rfl, hf⟩
    refine ⟨_, ?_, b, t, ⟨H, e⟩, rfl, hf⟩
    simp only [twainlaw14_ItreeHeight.loop11s, twainlaw14_ItreeHeight.loop11, mach, Nat.reduceAdd, Nat.reduceLeDiff, Int.reduceEq, Int.reduceLT, Int.reduceLE, Int.lt_irrefl]

def I20 (n : Nat) (step : Int) (i : Nat) (X : List Value × AS) : Prop := ∃ b t st, X = ([.int .i64 n, .int .i64 step, ptr b, .int .i64 ((2 * i : Nat) : Int)], st) ∧ Few st b (450 + i) t
theorem I20_gc (i : Nat) (X : List Value × AS) (h : I20 n step i X) : I20 n step i (gc 0 X.1 X.2) := by
  obtain ⟨b, t, st, rfl, S, h1, h2, h3⟩ := h
  obtain ⟨σ, S', g1, g2⟩ := gcT (vs := [.int .i64 n, .int .i64 step, ptr b, .int .i64 ((2 * i : Nat) : Int)]) h1 (by simp)
  refine ⟨σ b, t, _, Prod.ext ?_ rfl, S', g2, h2, h3⟩
  rw [g1]
  simp [lren, vren]
theorem loop20_ok (hn : n ≤ 300) (h1 : -1000 ≤ step) (h2 : step ≤ 1000) {b : Nat} {t : Tr} {st : AS} (hf : Few st b 450 t) :
    ∃ r, loopG 0 (twainlaw14_ItreeHeight.loop20s (acall PP TT) loopG 0) ([.int .i64 n, .int .i64 step, ptr b, .int .i64 0], st) = some r ∧ ∃ st', r = (.exit 4, [unk], st') := by
  refine loop_inv (len := 151) (I20 n step) _ I20_gc ?_ ?_ 151 0 _ (by omega) ⟨b, t, st, rfl, hf⟩
  · rintro i X hi ⟨b, t, ⟨H, e⟩, rfl, S, a1, a2, a3⟩
    by_cases hlt : ((2 * i : Nat) : Int) < (n : Int)
    · right
      have hm := mul_in (i := 2 * i) (by omega) h1 h2
      have ht := tmod7 (2 * i)
      have w1 : IntKind.i64.wrap (((2 * i : Nat) : Int) * step) = ((2 * i : Nat) : Int) * step := wrap_in ⟨by omega, by omega⟩
      have w2 : IntKind.i64.wrap (300000 + ((2 * i : Nat) : Int) * step) = 300000 + ((2 * i : Nat) : Int) * step := wrap_in ⟨by omega, by omega⟩
      have w3 : IntKind.i64.wrap (1 + ((2 * i : Nat) : Int).tmod 7) = 1 + ((2 * i : Nat) : Int).tmod 7 := wrap_in ⟨by omega, by omega⟩
      have w4 : IntKind.i64.wrap (((2 * i : Nat) : Int) + 2) = ((2 * (i + 1) : Nat) : Int) := by rw [wrap_in ⟨by omega, by omega⟩]; omega
      have hrem : ∀ {ox oy}, aBin PP .rem t_int ox oy (.int .i64 ((2 * i : Nat) : Int)) (.int .i64 7) = some (.int .i64 (((2 * i : Nat) : Int).tmod 7)) := bin_rem (by decide)
      obtain ⟨v, H', e', t', S', k1, k2, k3, k4⟩ := delete_any (x := ⟨300000 + ((2 * i : Nat) : Int) * step, 1 + ((2 * i : Nat) : Int).tmod 7, ((2 * i : Nat) : Int)⟩) a1 a2 (by omega)
      simp only at k1
      obtain ⟨q1, q2, q3, q4, q5, q6⟩ := ask k2 k3 (by omega)
      refine ⟨_, ?_, b, t', ⟨H', joinEsc (joinEsc (joinEsc (joinEsc e e') none) none) none⟩, rfl, S', k2, k3, by omega⟩
      generalize ((2 * i : Nat) : Int) = j at *
      simp only [twainlaw14_ItreeHeight.loop20s, twainlaw14_ItreeHeight.loop20, mach, Nat.reduceAdd, Nat.reduceLeDiff, Int.reduceEq, Int.reduceLT, Int.reduceLE, hlt, w1, w2, w3, w4, hrem, bd_span2, k1, q1, q2, q3, q4, q5, q6]
    · left
      refine ⟨_, ?_, ⟨H, e⟩, rfl⟩
      simp only [twainlaw14_ItreeHeight.loop20s, twainlaw14_ItreeHeight.loop20, mach, Nat.reduceAdd, Nat.reduceLeDiff, Int.reduceEq, Int.reduceLT, Int.reduceLE, hlt]
  · rintro X ⟨b, t, ⟨H, e⟩, rfl, hf⟩
    have hlt : ¬ ((2 * 151 : Nat) : Int) < (n : Int) := by omega
    refine ⟨_, ?_, ⟨H, e⟩, rfl⟩
    simp only [twainlaw14_ItreeHeight.loop20s, twainlaw14_ItreeHeight.loop20, mach, Nat.reduceAdd, Nat.reduceLeDiff, Int.reduceEq, Int.reduceLT, Int.reduceLE, hlt]

theorem says_fin {n0 : Nat} {st : AS} : saysTrue (fin PP false n0 [.bool true] st) = true := by
  unfold fin endFrz
  simp only [Bool.false_eq_true, if_false, frzL, frz_noSl n0 8 (.bool true) st.H rfl]
  rw [gc_vals _ _ _ rfl]
  rfl

theorem height_law {m step : Int} (hm : isI m) (hs : isI step) : saysTrue (acall PP TT n_twainlaw14_ItreeHeight [tSl l.length (actR l), .int .i64 m, .int .i64 step] []) = true := by
  rw [acall_eq, twainlaw14_ItreeHeight.eq]
  by_cases c1 : (150 : Int) < (l.length : Int)
  · simp only [twainlaw14_ItreeHeight.sh, twainlaw14_ItreeHeight.j0, mach, Nat.reduceAdd, Nat.reduceLeDiff, Int.reduceEq, Int.reduceLT, Int.reduceLE, act_len, c1, twainlaw14_lives.eq]
    exact says_fin
  by_cases c2 : m < 0
  · simp only [twainlaw14_ItreeHeight.sh, twainlaw14_ItreeHeight.j0, mach, Nat.reduceAdd, Nat.reduceLeDiff, Int.reduceEq, Int.reduceLT, Int.reduceLE, act_len, c1, c2, twainlaw14_lives.eq]
    exact says_fin
  by_cases c3 : 300 < m
  · simp only [twainlaw14_ItreeHeight.sh, twainlaw14_ItreeHeight.j0, mach, Nat.reduceAdd, Nat.reduceLeDiff, Int.reduceEq, Int.reduceLT, Int.reduceLE, act_len, c1, c2, c3, twainlaw14_lives.eq]
    exact says_fin
  by_cases c4 : step < -1000
  · simp only [twainlaw14_ItreeHeight.sh, twainlaw14_ItreeHeight.j0, mach, Nat.reduceAdd, Nat.reduceLeDiff, Int.reduceEq, Int.reduceLT, Int.reduceLE, act_len, c1, c2, c3, c4, twainlaw14_lives.eq]
    exact says_fin
  by_cases c5 : 1000 < step
  · simp only [twainlaw14_ItreeHeight.sh, twainlaw14_ItreeHeight.j0, mach, Nat.reduceAdd, Nat.reduceLeDiff, Int.reduceEq, Int.reduceLT, Int.reduceLE, act_len, c1, c2, c3, c4, c5, twainlaw14_lives.eq]
    exact says_fin
  obtain ⟨n, rfl⟩ : ∃ n : Nat, m = (n : Int) := ⟨m.toNat, by omega⟩
  have hnew := new_TD []
  obtain ⟨r1, p1, b1, t1, st1, rfl, f1⟩ := loop5_ok (l := l) (n := n) (step := step) (by omega) (by omega) (by omega) (b := 0) (t := .nil) (st := ⟨[tb nilp 0], none⟩) ⟨_, hnew, inv_nil, by simp [toL]⟩
  obtain ⟨r2, p2, b2, t2, st2, rfl, f2⟩ := loop11_ok (l := l) (n := n) (step := step) (by omega) (by omega) f1
  obtain ⟨S2, g1, g2, g3⟩ := f2
  obtain ⟨r3, p3, st3, rfl⟩ := loop20_ok (n := n) (step := step) (by omega) (by omega) (by omega) (b := b2) (t := t2) (st := st2) ⟨S2, g1, g2, by omega⟩
  have hnw := new_ok []
  simp only [twainlaw14_ItreeHeight.sh, twainlaw14_ItreeHeight.j0, twainlaw14_ItreeHeight.j1, mach, Nat.reduceAdd, Nat.reduceLeDiff, Int.reduceEq, Int.reduceLT, Int.reduceLE, act_len, c1, c2, c3, c4, c5, hnw]
  rw [p1]
  simp only [twainlaw14_ItreeHeight.j4, mach, Nat.reduceAdd, Nat.reduceLeDiff, Int.reduceEq, Int.reduceLT, Int.reduceLE, act_len]
  rw [p2]
  simp only [twainlaw14_ItreeHeight.j9, mach, Nat.reduceAdd, Nat.reduceLeDiff, Int.reduceEq, Int.reduceLT, Int.reduceLE]
  rw [p3]
  simp only [twainlaw14_ItreeHeight.j12, mach, Nat.reduceAdd, Nat.reduceLeDiff, Int.reduceEq, Int.reduceLT, Int.reduceLE, twainlaw14_lives.eq]
  exact says_fin
end
end IT
end Go.Proofs.Ytgpfiiebfhdjhaa

end
section
namespace Go.Proofs.Ytgpfiiebfhdjhaa
open Go Go.Am
set_option linter.unusedVariables false
namespace IT
open Go.It

theorem tokInt_inv {r : List Value} (h : TOk PP t_int r) : ∃ n, isI n ∧ r = [.int .i64 n] := by
  obtain ⟨n, rfl, hn⟩ := h.int_inv u_int
  have e1 : IntKind.i64.min = -9223372036854775808 := by decide
  have e2 : IntKind.i64.max = 9223372036854775807 := by decide
  rw [e1, e2] at hn
  exact ⟨n, by unfold isI; omega, rfl⟩
theorem argInt (n : Int) : argV PP t_int [.int .i64 n] = .int .i64 n := by unfold argV; rw [u_int]; rfl

/-- an entry of the right kinds -/
structure EnT (e : En) : Prop where
  off : isI e.off
  len : isI e.len
  id : isI e.id

theorem span_of {r : List Value} (h : TOk PP t_api_Span r) : ∃ o n, isI o ∧ isI n ∧ r = [.int .i64 o, .int .i64 n] := by
  obtain ⟨ps, rfl, hp⟩ := h.struct_inv us_api_Span
  rw [ty_api_Span] at hp
  match ps, hp with
  | [a, b], ⟨ha, hb, _⟩ =>
    obtain ⟨o, h1, rfl⟩ := tokInt_inv ha
    obtain ⟨n, h2, rfl⟩ := tokInt_inv hb
    exact ⟨o, n, h1, h2, rfl⟩

theorem act_of {r : List Value} (h : TOk PP t_twainlaw14_Act r) : ∃ a : Act, EnT a.e ∧ r = actc a := by
  obtain ⟨ps, rfl, hp⟩ := h.struct_inv us_twainlaw14_Act
  rw [ty_twainlaw14_Act] at hp
  match ps, hp with
  | [a, b, c], ⟨ha, hb, hc, _⟩ =>
    obtain ⟨d, rfl⟩ := ha.bool_inv u_bool
    obtain ⟨o, n, h1, h2, rfl⟩ := span_of hb
    obtain ⟨i, h3, rfl⟩ := tokInt_inv hc
    exact ⟨⟨d, ⟨o, n, i⟩⟩, ⟨h1, h2, h3⟩, rfl⟩

theorem acts_of : ∀ (rows : List (List Value)), (∀ r ∈ rows, TOk PP t_twainlaw14_Act r) → ∃ l : List Act, (∀ a ∈ l, EnT a.e) ∧ rows = l.map actc
  | [], _ => ⟨[], fun x hx => by simp at hx, rfl⟩
  | r :: rs, h => by
    obtain ⟨l, h1, h2⟩ := acts_of rs (fun x hx => h x (by simp [hx]))
    obtain ⟨a, h3, rfl⟩ := act_of (h r (by simp))
    refine ⟨a :: l, fun y hy => ?_, by rw [h2]; rfl⟩
    rcases List.mem_cons.1 hy with rfl | hy
    · exact h3
    · exact h1 y hy

theorem acts_arg {w : List Value} (h : TOk PP t_L_twainlaw14_Act w) : ∃ l : List Act, (∀ a ∈ l, EnT a.e) ∧ argV PP t_L_twainlaw14_Act w = tSl l.length (actR l) := by
  obtain ⟨rows, rfl, hm, hr⟩ := h.slice_inv u_L_twainlaw14_Act
  obtain ⟨l, h1, rfl⟩ := acts_of rows hr
  refine ⟨l, h1, ?_⟩
  unfold argV
  rw [u_L_twainlaw14_Act, List.length_map]
  rfl
end IT
end Go.Proofs.Ytgpfiiebfhdjhaa

end
