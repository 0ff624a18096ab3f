/- A part of the proof: SrtP, Sr1, Sr2, Sr3, Sr4. Its conditions: none. -/
import Derived.Test.YtpklhjeccbjalaaAm32
import Derived.Test.YtpklhjeccbjalaaSrSh
import Derived.Test.YtpklhjeccbjalaaSrOps
set_option linter.all false
set_option linter.unusedVariables false
set_option linter.unusedSimpArgs false
set_option linter.unnecessarySimpa false
section
namespace Go.Am
open Go

theorem eq_of_sorted : ∀ {l r : List Int}, l.Perm r → l.Pairwise (· ≤ ·) → r.Pairwise (· ≤ ·) → l = r
  | [], r, h, _, _ => by rw [List.nil_perm.1 h]
  | a :: l, [], h, _, _ => by simp at h
  | a :: l, b :: r, h, h1, h2 => by
    rw [List.pairwise_cons] at h1 h2
    have ha : a ∈ b :: r := h.subset (by simp)
    have hb : b ∈ a :: l := h.symm.subset (by simp)
    have e : a = b := by
      rcases List.mem_cons.1 ha with e | e <;> rcases List.mem_cons.1 hb with f | f
      · exact e
      · exact e
      · exact f.symm
      · have := h1.1 b f
        have := h2.1 a e
        omega
    subst e
    rw [eq_of_sorted ((List.perm_cons a).1 h) h1.2 h2.2]
theorem sorted_pw (l : List Int) : (sorted l).Pairwise (· ≤ ·) := by
  have := List.pairwise_mergeSort (le := fun x y : Int => decide (x ≤ y)) (fun a b c h1 h2 => by simp at h1 h2 ⊢; omega) (fun a b => by simp; omega) l
  exact this.imp (fun h => by simpa using h)
theorem sorted_perm (l : List Int) : (sorted l).Perm l := List.mergeSort_perm _ _
theorem sorted_len (l : List Int) : (sorted l).length = l.length := (sorted_perm l).length_eq
theorem sorted_of {l r : List Int} (hp : r.Perm l) (hs : r.Pairwise (· ≤ ·)) : r = sorted l := eq_of_sorted (hp.trans (sorted_perm l).symm) hs (sorted_pw l)

/-- two neighbours, the other way round -/
def swap (A : List Int) (k : Nat) : List Int := (A.set k (A.getD (k + 1) 0)).set (k + 1) (A.getD k 0)
/-- the k'th sinks to its place -/
def sink : Nat → List Int → List Int
  | 0, A => A
  | k + 1, A => if A.getD (k + 1) 0 < A.getD k 0 then sink k (swap A k) else A
theorem swap_len (A : List Int) (k : Nat) : (swap A k).length = A.length := by simp [swap]
theorem sink_len : ∀ (k : Nat) (A : List Int), (sink k A).length = A.length
  | 0, _ => rfl
  | k + 1, A => by
    simp only [sink]
    split
    · rw [sink_len k, swap_len]
    · rfl
theorem swap_at (P : List Int) (y x : Int) (R : List Int) : swap (P ++ y :: x :: R) P.length = P ++ x :: y :: R := by
  unfold swap
  simp [List.getD, List.set_append]
theorem sink_spec : ∀ (k : Nat) (P : List Int) (x : Int) (R : List Int), P.length = k → P.Pairwise (· ≤ ·) → ∃ Q, sink k (P ++ x :: R) = Q ++ R ∧ Q.Perm (P ++ [x]) ∧ Q.Pairwise (· ≤ ·)
  | 0, P, x, R, hk, hp => by
    have : P = [] := List.length_eq_zero_iff.1 hk
    subst this
    exact ⟨[x], rfl, .refl _, by simp⟩
  | k + 1, P, x, R, hk, hp => by
    obtain ⟨P', y, rfl⟩ : ∃ P' y, P = P' ++ [y] := by
      have hne : P ≠ [] := fun e => by subst e; simp at hk
      exact ⟨P.dropLast, P.getLast hne, (List.dropLast_concat_getLast hne).symm⟩
    have hk' : P'.length = k := by simp at hk; omega
    rw [List.pairwise_append] at hp
    obtain ⟨h1, _, h3⟩ := hp
    have hA : (P' ++ [y]) ++ x :: R = P' ++ y :: x :: R := by simp
    rw [hA]
    have g1 : (P' ++ y :: x :: R).getD (k + 1) 0 = x := by simp [List.getD, ← hk']
    have g0 : (P' ++ y :: x :: R).getD k 0 = y := by simp [List.getD, ← hk']
    simp only [sink, g1, g0]
    by_cases hlt : x < y
    · rw [if_pos hlt]
      have hsw : swap (P' ++ y :: x :: R) k = P' ++ x :: y :: R := by rw [← hk']; exact swap_at P' y x R
      rw [hsw]
      obtain ⟨Q, e1, e2, e3⟩ := sink_spec k P' x (y :: R) hk' h1
      refine ⟨Q ++ [y], by rw [e1]; simp, ?_, ?_⟩
      · have : ((P' ++ [x]) ++ [y]).Perm ((P' ++ [y]) ++ [x]) := by
          rw [List.append_assoc, List.append_assoc]
          exact List.Perm.append_left _ (List.Perm.swap y x [])
        exact (e2.append_right [y]).trans this
      · rw [List.pairwise_append]
        refine ⟨e3, by simp, fun a ha b hb => ?_⟩
        simp at hb; subst hb
        rcases List.mem_append.1 (e2.subset ha) with h | h
        · exact h3 a h b (by simp)
        · simp at h; omega
    · rw [if_neg hlt]
      refine ⟨P' ++ [y, x], by simp, by simp, ?_⟩
      rw [List.pairwise_append]
      refine ⟨h1, by simp; omega, fun a ha b hb => ?_⟩
      have := h3 a ha y (by simp)
      simp at hb
      rcases hb with rfl | rfl <;> omega
/-- all of them, one by one -/
theorem sinks_spec (l : List Int) : ∀ n, n ≤ l.length → ∃ Q, upto (fun i A => sink i A) n l = Q ++ l.drop n ∧ Q.length = n ∧ Q.Perm (l.take n) ∧ Q.Pairwise (· ≤ ·)
  | 0, _ => ⟨[], by simp [upto], rfl, by simp, by simp⟩
  | n + 1, hn => by
    obtain ⟨Q, e1, e2, e3, e4⟩ := sinks_spec l n (by omega)
    have hd : l.drop n = l[n] :: l.drop (n + 1) := List.drop_eq_getElem_cons (by omega)
    obtain ⟨Q', f1, f2, f3⟩ := sink_spec n Q l[n] (l.drop (n + 1)) e2 e4
    refine ⟨Q', ?_, ?_, ?_, f3⟩
    · simp only [upto]; rw [e1, hd]; exact f1
    · have := f2.length_eq; simp at this; omega
    · rw [List.take_add_one, List.getElem?_eq_getElem (by omega)]
      exact f2.trans (e3.append_right [l[n]])
theorem sinks_sorted (l : List Int) : upto (fun i A => sink i A) l.length l = sorted l := by
  obtain ⟨Q, e1, _, e3, e4⟩ := sinks_spec l l.length (Nat.le_refl _)
  rw [e1, List.drop_length, List.append_nil]
  rw [List.take_length] at e3
  exact sorted_of e3 e4
end Go.Am

end
section
namespace Go.Proofs.Ytpklhjeccbjalaa
open Go Go.Am
set_option linter.unusedVariables false
namespace SR
abbrev nv (l : List Int) : List Value := l.map (Value.int .i64)
abbrev nB (l : List Int) : Blk := .cells (nv l) t_int true
abbrev sl (b n c : Nat) : Value := .slice (some ⟨b, 0, none⟩) n c
theorem nv_refs (l : List Int) : lrefs (nv l) = [] := by
  induction l with
  | nil => rfl
  | cons a l ih => simp [ih]
theorem nv_noSl (l : List Int) : (nv l).all noSl = true := by
  induction l with
  | nil => rfl
  | cons a l ih => simp [noSl]
theorem nv_cells (l : List Int) : (nv l).all cellV = true := by
  induction l with
  | nil => rfl
  | cons a l ih => simp
theorem nv_len (l : List Int) : (nv l).length = l.length := by simp
theorem nB_refs (l : List Int) : blkRefs (nB l) = [] := by rw [blkRefs_cells]; exact nv_refs l
theorem nv_put {l : List Int} {k : Nat} (hk : k < l.length) (v : Int) : putCells (nv l) k [.int .i64 v] = nv (l.set k v) := by
  apply List.ext_getElem?
  intro i
  rw [putCells_get (by simp; omega)]
  simp only [List.length_cons, List.length_nil, List.getElem?_map, List.getElem?_set]
  by_cases h1 : i < k
  · have : ¬ k = i := by omega
    simp [h1, this]
  · by_cases h2 : i = k
    · subst h2; simp [hk]
    · have : ¬ k = i := by omega
      have h3 : ¬ i < k + 1 := by omega
      simp [h1, this, h3]
theorem bsl0 (H : List Blk) (e : Option Nat) : bsl PP t_L_int 0 [] [] ⟨H, e⟩ = some (sl H.length 0 0, ⟨H ++ [nB []], e⟩) := by kernel_rfl
theorem src_nv (l : List Int) (H : List Blk) : srcCells 1 H (tSl l.length (nv l)) = some (l.length, nv l) := src_tree (by simp) (nv_cells l)
theorem ix_row {b n c k : Nat} (hk : k < n) : aIndexAddr PP t_L_int (sl b n c) (.int .i64 (k : Int)) = some (.pointer (some ⟨b, k, none⟩)) := by
  have := ix_sl (P := PP) (j := .i64) (b := b) (o := 0) (c := c) u_L_int sz_int hk
  rw [this]; simp
theorem ln_row (b n c : Nat) (st : AS) : aLen PP t_L_int (sl b n c) st = some (.int .i64 n) := by simp [aLen, u_L_int]
theorem ln_tree (l : List Int) (st : AS) : aLen PP t_L_int (tSl l.length (nv l)) st = some (.int .i64 l.length) := tsl_len u_L_int
theorem nv_get {l : List Int} {k : Nat} (hk : k < l.length) : (nv l)[k]? = some (.int .i64 (l.getD k 0)) := by simp [List.getD, hk]
section
variable {H : List Blk} {A : List Int} {b : Nat}
theorem cell_row (hb : H[b]? = some (nB A)) {k : Nat} (hk : k < A.length) : cellAt H b k = some (.int .i64 (A.getD k 0)) := by rw [cellAt_eq hb, nv_get hk]
theorem store_row (hb : H[b]? = some (nB A)) {k : Nat} (hk : k < A.length) (e : Option Nat) (v : Int) : storeL ⟨H, e⟩ b k [.int .i64 v] = some ⟨H.set b (nB (A.set k v)), e⟩ := by
  rw [storeL_eq hb, if_pos ⟨by simp; omega, rfl⟩, nv_put hk]
  rfl
theorem g1 (X : List Blk) (hX : ∀ x ∈ X, blkRefs x = []) (vs : List Value) (hv : lrefs vs = []) (n c : Nat) : gc H.length (sl H.length n c :: vs) ⟨H ++ (nB A :: X), none⟩ = (sl H.length n c :: vs, ⟨H ++ [nB A], none⟩) := by
  refine gc_flats [0] ?_ rfl (by simp [hv, news]) (by simp [hv]) ?_ (by simp [once])
  · intro x hx
    rcases List.mem_cons.1 hx with rfl | hx
    · exact nB_refs A
    · exact hX x hx
  · simp [lren, vren, rn_own0, findIx, once, lren_none hv]

/-! ### The document's sort -/
theorem sink_loop (len i : Value) (hl : vrefs len = []) (hi : vrefs i = []) (c : Nat) : ∀ (k : Nat) (A : List Int), k < A.length → A.length < 1000000 →
    loopG H.length (twainref47_sorted.loop6s (acall PP TT) loopG H.length) ([sl H.length A.length c, .int .i64 (k : Int), len, i], ⟨H ++ [nB A], none⟩) = some (.exit 2, [sl H.length A.length c, len, i], ⟨H ++ [nB (sink k A)], none⟩)
  | 0, A, hk, hm => by
    rw [loopG_eq, g1 [] (by simp) [.int .i64 ((0 : Nat) : Int), len, i] (by simp [hl, hi])]
    simp only [twainref47_sorted.loop6s, twainref47_sorted.loop6, twainref47_sorted.j2, mach, Nat.reduceAdd, Nat.reduceLeDiff, Int.reduceEq, Int.reduceLT, Int.reduceLE, Int.natCast_zero, Int.lt_irrefl, sink]
  | k + 1, A, hk, hm => by
    have hpos : (0 : Int) < ((k + 1 : Nat) : Int) := by omega
    have hw : IntKind.i64.wrap (((k + 1 : Nat) : Int) - 1) = ((k : Nat) : Int) := by rw [wrap_i64 ⟨by omega, by omega⟩]; omega
    have hb : (H ++ [nB A])[H.length]? = some (nB A) := by simp
    have hk1 : k + 1 < A.length := hk
    have hk0 : k < A.length := by omega
    have x1 := ix_row (b := H.length) (c := c) hk1
    have x0 := ix_row (b := H.length) (c := c) hk0
    have c1 := cell_row hb hk1
    have c0 := cell_row hb hk0
    rw [loopG_eq, g1 [] (by simp) [.int .i64 ((k + 1 : Nat) : Int), len, i] (by simp [hl, hi])]
    by_cases hlt : A.getD (k + 1) 0 < A.getD k 0
    · have s1 := store_row hb hk0 none (A.getD (k + 1) 0)
      have hset : (H ++ [nB A]).set H.length (nB (A.set k (A.getD (k + 1) 0))) = H ++ [nB (A.set k (A.getD (k + 1) 0))] := by simp
      rw [hset] at s1
      have hb2 : (H ++ [nB (A.set k (A.getD (k + 1) 0))])[H.length]? = some (nB (A.set k (A.getD (k + 1) 0))) := by simp
      have s2 := store_row hb2 (k := k + 1) (by simp; omega) none (A.getD k 0)
      have hset2 : (H ++ [nB (A.set k (A.getD (k + 1) 0))]).set H.length (nB ((A.set k (A.getD (k + 1) 0)).set (k + 1) (A.getD k 0))) = H ++ [nB (swap A k)] := by simp [swap]
      rw [hset2] at s2
      have ih := sink_loop len i hl hi c k (swap A k) (by rw [swap_len]; omega) (by rw [swap_len]; omega)
      rw [swap_len] at ih
      have hsk : sink (k + 1) A = sink k (swap A k) := by simp only [sink, if_pos hlt]
      rw [hsk, ← ih]
      generalize hGA : H ++ [nB A] = G at hb x1 x0 c1 c0 s1
      generalize hGB : H ++ [nB (A.set k (A.getD (k + 1) 0))] = G2 at hb2 s1 s2
      generalize H ++ [nB (swap A k)] = G3 at s2
      simp only [twainref47_sorted.loop6s, twainref47_sorted.loop6, twainref47_sorted.j2, twainref47_sorted.j3, mach, Nat.reduceAdd, Nat.reduceLeDiff, Int.reduceEq, Int.reduceLT, Int.reduceLE, hpos, hw, x1, x0, c1, c0, hlt, s1, s2]
    · have hsk : sink (k + 1) A = A := by simp only [sink, if_neg hlt]
      rw [hsk]
      generalize hGA : H ++ [nB A] = G at hb x1 x0 c1 c0
      simp only [twainref47_sorted.loop6s, twainref47_sorted.loop6, twainref47_sorted.j2, mach, Nat.reduceAdd, Nat.reduceLeDiff, Int.reduceEq, Int.reduceLT, Int.reduceLE, hpos, hw, x1, x0, c1, c0, hlt]
end
end SR
end Go.Proofs.Ytpklhjeccbjalaa

end
section
namespace Go.Proofs.Ytpklhjeccbjalaa
open Go Go.Am
set_option linter.unusedVariables false
namespace SR
section
variable {H : List Blk} {l : List Int}
theorem sorted_ok (hm : l.length < 60000) (H : List Blk) : acall PP TT n_twainref47_sorted [tSl l.length (nv l)] H = some (tSl l.length (nv (sorted l)), H, none) := by
  rw [acall_eq, twainref47_sorted.eq]
  by_cases hl : l = []
  · subst hl
    have hs0 : sorted ([] : List Int) = [] := List.length_eq_zero_iff.1 (by rw [sorted_len]; rfl)
    rw [hs0]
    have ha := fun (R : Type) (k : Value → AS → Option R) => app_none (P := PP) (n := 0) (c := 0) (a := ⟨H.length, 0, none⟩) (y := tSl 0 []) (st := ⟨H ++ [nB []], none⟩) (k := k) el_L_int (by rfl)
    have hloop : loopG H.length (twainref47_sorted.loop3s (acall PP TT) loopG H.length) ([sl H.length 0 0, .int .i64 0, .int .i64 0], ⟨H ++ [nB []], none⟩) = some (.exit 0, [sl H.length 0 0], ⟨H ++ [nB []], none⟩) := by
      rw [loopG_eq, g1 [] (by simp) [.int .i64 0, .int .i64 0] (by simp)]
      simp only [twainref47_sorted.loop3s, twainref47_sorted.loop3, mach, Nat.reduceAdd, Nat.reduceLeDiff, Int.reduceEq, Int.reduceLT, Int.reduceLE, Int.lt_irrefl]
    simp only [twainref47_sorted.sh, twainref47_sorted.j7, mach, Nat.reduceAdd, Nat.reduceLeDiff, Int.reduceEq, Int.reduceLT, Int.reduceLE, bsl0, List.length_nil, List.map_nil, ha, ln_row, Int.natCast_zero, hloop]
    exact fin_row0 (sz := 1) rfl sz_int rfl rfl rfl rfl
  · have hpos : 0 < l.length := List.length_pos_iff.2 hl
    have ha := fun (R : Type) (k : Value → AS → Option R) => app_full (P := PP) (n := 0) (c := 0) (m := l.length) (bk := H.length) (old := []) (new := nv l) (y := tSl l.length (nv l)) (st := ⟨H ++ [nB []], none⟩) (k := k) el_L_int (o := true) (by simp) rfl (src_nv l _) hpos (by omega) (by omega)
    have hloop := loop_upto (n0 := H.length) (step := twainref47_sorted.loop3s (acall PP TT) loopG H.length) (len := l.length)
      (fun i (A : List Int) => ([sl H.length l.length UNK, .int .i64 l.length, .int .i64 (i : Int)], ⟨H ++ [nB A], none⟩)) (fun i A => sink i A) (fun _ A => A.length = l.length) (fun A => (.exit 0, [sl H.length l.length UNK], ⟨H ++ [nB A], none⟩))
      (fun i A hi hA => by
        have hlt : (i : Int) < (l.length : Int) := by omega
        have hw : IntKind.i64.wrap ((i : Int) + 1) = ((i + 1 : Nat) : Int) := wrap_add1 (by omega)
        have hs := sink_loop (H := H) (.int .i64 l.length) (.int .i64 (i : Int)) rfl rfl UNK i A (by omega) (by omega)
        rw [hA] at hs
        refine ⟨[sl H.length l.length UNK, .int .i64 l.length, .int .i64 ((i + 1 : Nat) : Int)], ⟨H ++ [nB (sink i A)], none⟩, ?_, g1 [] (by simp) [.int .i64 l.length, .int .i64 ((i + 1 : Nat) : Int)] (by simp) _ _, by rw [sink_len]; exact hA⟩
        simp only [twainref47_sorted.loop3s, twainref47_sorted.loop3, twainref47_sorted.j5, mach, Nat.reduceAdd, Nat.reduceLeDiff, Int.reduceEq, Int.reduceLT, Int.reduceLE, hlt, hs, hw])
      (fun A _ => by simp only [twainref47_sorted.loop3s, twainref47_sorted.loop3, mach, Nat.reduceAdd, Nat.reduceLeDiff, Int.reduceEq, Int.reduceLT, Int.reduceLE, Int.lt_irrefl]) l [sl (H.length + 1) l.length UNK, .int .i64 l.length, .int .i64 0] ⟨H ++ [nB [], nB l], none⟩ rfl (by
        refine gc_flats [1] (by intro x hx; simp at hx; rcases hx with rfl | rfl <;> exact nB_refs _) rfl (by simp [news]) (by simp) (by simp [lren, vren, rn_own, rn_own0, findIx, once]) (by simp [once]))
    rw [sinks_sorted] at hloop
    simp only [twainref47_sorted.sh, twainref47_sorted.j7, mach, Nat.reduceAdd, Nat.reduceLeDiff, Int.reduceEq, Int.reduceLT, Int.reduceLE, bsl0, ha, ln_row, hloop, List.append_assoc]
    have := fin_row0 (P := PP) (H0 := H) (l := [nB (sorted l)]) (e := none) (n := l.length) (c := UNK) (sz := 1) rfl sz_int (by simp [sorted_len]) (nv_noSl _) (nv_refs _) rfl
    exact this

theorem ints_ok {x y : Value} (hx : Rd H x l.length (nv l)) (hy : Rd H y l.length (nv l)) (vx : ∀ r ∈ vrefs x, r < H.length) (vy : ∀ r ∈ vrefs y, r < H.length) (hm : l.length < 60000) : acall PP TT n_twainref01_Ints [x, y] H = some (.bool true, H, none) := by
  have lx := hx.len (P := PP) u_L_int
  have ly := hy.len (P := PP) u_L_int
  have hgc : ∀ n : Int, gc H.length [x, y, .int .i64 l.length, .int .i64 n] ⟨H, none⟩ = ([x, y, .int .i64 l.length, .int .i64 n], ⟨H, none⟩) := fun n => gc_same (by
    intro r hr
    simp at hr
    rcases hr with hr | hr
    · exact vx r hr
    · exact vy r hr)
  have hloop := loop_upto (n0 := H.length) (step := twainref01_Ints.loop4s (acall PP TT) loopG H.length) (len := l.length)
    (fun i (_ : Unit) => ([x, y, .int .i64 l.length, .int .i64 (i : Int)], ⟨H, none⟩)) (fun _ s => s) (fun _ _ => True) (fun _ => (.exit 0, [unk], ⟨H, none⟩))
    (fun i _ hi _ => by
      have hlt : (i : Int) < (l.length : Int) := by omega
      have hw : IntKind.i64.wrap ((i : Int) + 1) = ((i + 1 : Nat) : Int) := wrap_add1 (by omega)
      have ix := hx.index (P := PP) u_L_int sz_int (k := .i64) (i := (i : Int)) (by omega) hlt
      have iy := hy.index (P := PP) u_L_int sz_int (k := .i64) (i := (i : Int)) (by omega) hlt
      rw [Int.toNat_natCast, Nat.mul_one] at ix iy
      have dx := hx.load1 (by omega) (nv_get hi) none
      have dy := hy.load1 (by omega) (nv_get hi) none
      refine ⟨[x, y, .int .i64 l.length, .int .i64 ((i + 1 : Nat) : Int)], ⟨H, none⟩, ?_, hgc _, trivial⟩
      simp only [twainref01_Ints.loop4s, twainref01_Ints.loop4, mach, Nat.reduceAdd, Nat.reduceLeDiff, Int.reduceEq, Int.reduceLT, Int.reduceLE, hlt, ix, iy, dx, dy, hw])
    (fun _ _ => by simp only [twainref01_Ints.loop4s, twainref01_Ints.loop4, mach, Nat.reduceAdd, Nat.reduceLeDiff, Int.reduceEq, Int.reduceLT, Int.reduceLE, Int.lt_irrefl]) () [x, y, .int .i64 l.length, .int .i64 0] ⟨H, none⟩ trivial (hgc 0)
  rw [acall_eq, twainref01_Ints.eq]
  simp only [twainref01_Ints.sh, twainref01_Ints.j2, mach, Nat.reduceAdd, Nat.reduceLeDiff, Int.reduceEq, Int.reduceLT, Int.reduceLE, lx, ly, hloop]
  exact fin_lit0 rfl rfl

/-! ### Ranks -/
theorem make_nv {n : Nat} (hn : n ≤ 60000) (st : AS) : aMakeSlice PP t_L_int (.int .i64 (n : Int)) (.int .i64 (n : Int)) st = some (sl st.H.length n n, newBlk st (nB (List.replicate n 0))) := by
  have h1 : nv (List.replicate n 0) = (List.replicate n [Value.int .i64 0]).flatten := by
    induction n with
    | zero => rfl
    | succ n ih =>
      rw [List.replicate_succ, List.replicate_succ, List.flatten_cons]
      show Value.int .i64 0 :: nv (List.replicate n 0) = _
      rw [ih (by omega)]; rfl
  rw [nB, h1]
  unfold aMakeSlice
  simp only [u_L_int, sz_int, by_int, zv_int]
  rw [if_pos ⟨by omega, by omega, by omega, by omega, by kernel_rfl, by omega, by kernel_rfl, by kernel_rfl⟩]
  show some (aRow t_int ((List.replicate (n : Int).toNat [Value.int .i64 0]).flatten) (n : Int).toNat (n : Int).toNat st) = _
  rw [Int.toNat_natCast]
  rfl
def rankOk (l : List Int) (num den : Int) : Prop := l ≠ [] ∧ 1 ≤ den ∧ den ≤ 1000 ∧ 0 ≤ num ∧ num ≤ den
instance (l : List Int) (num den : Int) : Decidable (rankOk l num den) := by unfold rankOk; infer_instance
def rankAt (l : List Int) (num den : Int) : Nat := (l.length - 1) * num.toNat / den.toNat
def rankR (l : List Int) (num den : Int) : Value := if rankOk l num den then .tuple #[.int .i64 ((sorted l).getD (rankAt l num den) 0), .bool true] else .tuple #[.int .i64 0, .bool false]
theorem rank_lt {num den : Int} (h : rankOk l num den) : rankAt l num den < l.length := by
  obtain ⟨h0, h1, h2, h3, h4⟩ := h
  have hp : 0 < l.length := List.length_pos_iff.2 h0
  unfold rankAt
  have : (l.length - 1) * num.toNat / den.toNat ≤ l.length - 1 := by
    apply Nat.div_le_of_le_mul
    rw [Nat.mul_comm den.toNat]
    exact Nat.mul_le_mul_left _ (by omega)
  omega
theorem rank_num {num den : Int} (h : rankOk l num den) (hm : l.length < 60000) : IntKind.i64.wrap ((l.length : Int) - 1) = ((l.length - 1 : Nat) : Int) ∧ IntKind.i64.wrap (((l.length - 1 : Nat) : Int) * num) = (((l.length - 1) * num.toNat : Nat) : Int) ∧
    ∀ ox oy, aBin PP .quo t_int ox oy (.int .i64 (((l.length - 1) * num.toNat : Nat) : Int)) (.int .i64 den) = some (.int .i64 ((rankAt l num den : Nat) : Int)) := by
  obtain ⟨h0, h1, h2, h3, h4⟩ := h
  have hp : 0 < l.length := List.length_pos_iff.2 h0
  have hle : (l.length - 1) * num.toNat ≤ 60000 * 1000 := Nat.mul_le_mul (by omega) (by omega)
  refine ⟨?_, ?_, ?_⟩
  · rw [wrap_i64 ⟨by omega, by omega⟩]; omega
  · have : ((l.length - 1 : Nat) : Int) * num = (((l.length - 1) * num.toNat : Nat) : Int) := by
      rw [Int.natCast_mul]; congr 1; omega
    rw [this, wrap_i64 ⟨by omega, by omega⟩]
  · intro ox oy
    have := bin_quo_nat (P := PP) (t := t_int) (ox := ox) (oy := oy) (x := (l.length - 1) * num.toNat) (y := den.toNat) (k := .i64) (by omega) (fun n hn => by rw [wrap_i64 ⟨by omega, by omega⟩])
    rw [show ((den.toNat : Nat) : Int) = den by omega] at this
    exact this
theorem gSort_row {H : List Blk} {b c : Nat} {A : List Int} (hb : H[b]? = some (nB A)) (h0 : 0 < A.length) (hm : A.length < 1000000) : gSort [sl b A.length c] H = some (.tuple #[], H.set b (nB (sorted A)), none) := by
  have ht : (nv A).take A.length = nv A := List.take_of_length_le (by simp)
  have hs : storeL ⟨H, none⟩ b 0 (nv (sorted A)) = some ⟨H.set b (nB (sorted A)), none⟩ := by
    rw [storeL_eq hb, if_pos ⟨by simp [sorted_len], nv_cells _⟩, putCells_all (by simp [sorted_len])]
    simp [nv_refs, escOf_nil]
  unfold gSort
  simp only [hb]
  rw [if_pos ⟨by simp, h0, hm⟩, List.drop_zero, ht, numsOf_map]
  simp only [hs, Option.map_some]
theorem srank_ok {x : Value} (hx : Rd H x l.length (nv l)) (hm : l.length < 60000) (num den : Int) : acall PP TT n_stats_Rank [x, .int .i64 num, .int .i64 den] H = some (rankR l num den, H, none) := by
  have lx := hx.len (P := PP) u_L_int
  rw [acall_eq, stats_Rank.eq]
  unfold rankR
  by_cases c0 : l = []
  · have hc : (l.length : Int) = 0 := by simp [c0]
    rw [if_neg (fun h => h.1 c0)]
    simp only [stats_Rank.sh, stats_Rank.j0, mach, Nat.reduceAdd, Nat.reduceLeDiff, Int.reduceEq, Int.reduceLT, Int.reduceLE, lx, hc]
    exact fin_lit0 rfl rfl
  have c0' : ¬ ((l.length : Int) = 0) := by
    have := List.length_pos_iff.2 c0; omega
  by_cases c1 : den < 1
  · rw [if_neg (fun h => by have := h.2.1; omega)]
    simp only [stats_Rank.sh, stats_Rank.j0, mach, Nat.reduceAdd, Nat.reduceLeDiff, Int.reduceEq, Int.reduceLT, Int.reduceLE, lx, c0', c1]
    exact fin_lit0 rfl rfl
  by_cases c2 : 1000 < den
  · rw [if_neg (fun h => by have := h.2.2.1; omega)]
    simp only [stats_Rank.sh, stats_Rank.j0, mach, Nat.reduceAdd, Nat.reduceLeDiff, Int.reduceEq, Int.reduceLT, Int.reduceLE, lx, c0', c1, c2]
    exact fin_lit0 rfl rfl
  by_cases c3 : num < 0
  · rw [if_neg (fun h => by have := h.2.2.2.1; omega)]
    simp only [stats_Rank.sh, stats_Rank.j0, mach, Nat.reduceAdd, Nat.reduceLeDiff, Int.reduceEq, Int.reduceLT, Int.reduceLE, lx, c0', c1, c2, c3]
    exact fin_lit0 rfl rfl
  by_cases c4 : den < num
  · rw [if_neg (fun h => by have := h.2.2.2.2; omega)]
    simp only [stats_Rank.sh, stats_Rank.j0, mach, Nat.reduceAdd, Nat.reduceLeDiff, Int.reduceEq, Int.reduceLT, Int.reduceLE, lx, c0', c1, c2, c3, c4]
    exact fin_lit0 rfl rfl
  have hk : rankOk l num den := ⟨c0, by omega, by omega, by omega, by omega⟩
  have hp : 0 < l.length := List.length_pos_iff.2 c0
  rw [if_pos hk]
  obtain ⟨w1, w2, w3⟩ := rank_num hk hm
  have mk := make_nv (n := l.length) (by omega) ⟨H, none⟩
  have hnb : newBlk (⟨H, none⟩ : AS) (nB (List.replicate l.length 0)) = ⟨H ++ [nB (List.replicate l.length 0)], none⟩ := rfl
  have hb1 : (H ++ [nB (List.replicate l.length 0)])[H.length]? = some (nB (List.replicate l.length 0)) := by simp
  have cp := fun (R : Type) (F : Value → AS → Option R) => copy_own (P := PP) (t := t_L_int) (elem := t_int) (t' := t_L_int) (st := ⟨H ++ [nB (List.replicate l.length 0)], none⟩) (k := H.length) (o := 0) (len := l.length) (c := l.length) (m := l.length) (q := l.length) (cs := nv (List.replicate l.length 0)) (new := nv l) (y := x) F u_L_int sz_int hb1 ((hx.app (l := [nB (List.replicate l.length 0)])).src (by simp) (nv_cells l)) (by simp) (by simp) hp (by simp) (nv_cells l) (nv_refs l)
  have hset : ∀ B : Blk, (H ++ [nB (List.replicate l.length 0)]).set H.length B = H ++ [B] := fun B => by simp
  have hpt : putCells (nv (List.replicate l.length 0)) 0 ((nv l).take l.length) = nv l := by
    rw [List.take_of_length_le (by simp)]
    exact putCells_all (by simp)
  have gs := gSort_row (H := H ++ [nB l]) (b := H.length) (c := l.length) (A := l) (by simp) hp (by omega)
  have hset2 : ∀ B : Blk, (H ++ [nB l]).set H.length B = H ++ [B] := fun B => by simp
  rw [hset2] at gs
  have hlt := rank_lt hk
  have ix := ix_row (b := H.length) (n := l.length) (c := l.length) hlt
  have hb3 : (H ++ [nB (sorted l)])[H.length]? = some (nB (sorted l)) := by simp
  have ld := cell_row hb3 (k := rankAt l num den) (by rw [sorted_len]; exact hlt)
  generalize hG : H ++ [nB (sorted l)] = G at ld gs
  simp only [stats_Rank.sh, stats_Rank.j0, stats_Rank.j1, mach, Nat.reduceAdd, Nat.reduceLeDiff, Int.reduceEq, Int.reduceLT, Int.reduceLE, lx, c0', c1, c2, c3, c4, mk, hnb, cp, hset, hpt, slices_Sort_L_int_int.eq, gs, w1, w2, w3, ix, ld]
  rw [← hG]
  exact fin_lit (l := [nB (sorted l)]) rfl rfl rfl
theorem rrank_ok (hm : l.length < 60000) (num den : Int) (H : List Blk) : acall PP TT n_twainref47_Rank [tSl l.length (nv l), .int .i64 num, .int .i64 den] H = some (rankR l num den, H, none) := by
  rw [acall_eq, twainref47_Rank.eq]
  unfold rankR
  by_cases c0 : l = []
  · have hc : (l.length : Int) = 0 := by simp [c0]
    rw [if_neg (fun h => h.1 c0)]
    simp only [twainref47_Rank.sh, twainref47_Rank.j0, mach, Nat.reduceAdd, Nat.reduceLeDiff, Int.reduceEq, Int.reduceLT, Int.reduceLE, ln_tree, hc]
    exact fin_lit0 rfl rfl
  have c0' : ¬ ((l.length : Int) = 0) := by
    have := List.length_pos_iff.2 c0; omega
  by_cases c1 : den < 1
  · rw [if_neg (fun h => by have := h.2.1; omega)]
    simp only [twainref47_Rank.sh, twainref47_Rank.j0, mach, Nat.reduceAdd, Nat.reduceLeDiff, Int.reduceEq, Int.reduceLT, Int.reduceLE, ln_tree, c0', c1]
    exact fin_lit0 rfl rfl
  by_cases c2 : 1000 < den
  · rw [if_neg (fun h => by have := h.2.2.1; omega)]
    simp only [twainref47_Rank.sh, twainref47_Rank.j0, mach, Nat.reduceAdd, Nat.reduceLeDiff, Int.reduceEq, Int.reduceLT, Int.reduceLE, ln_tree, c0', c1, c2]
    exact fin_lit0 rfl rfl
  by_cases c3 : num < 0
  · rw [if_neg (fun h => by have := h.2.2.2.1; omega)]
    simp only [twainref47_Rank.sh, twainref47_Rank.j0, mach, Nat.reduceAdd, Nat.reduceLeDiff, Int.reduceEq, Int.reduceLT, Int.reduceLE, ln_tree, c0', c1, c2, c3]
    exact fin_lit0 rfl rfl
  by_cases c4 : den < num
  · rw [if_neg (fun h => by have := h.2.2.2.2; omega)]
    simp only [twainref47_Rank.sh, twainref47_Rank.j0, mach, Nat.reduceAdd, Nat.reduceLeDiff, Int.reduceEq, Int.reduceLT, Int.reduceLE, ln_tree, c0', c1, c2, c3, c4]
    exact fin_lit0 rfl rfl
  have hk : rankOk l num den := ⟨c0, by omega, by omega, by omega, by omega⟩
  rw [if_pos hk]
  obtain ⟨w1, w2, w3⟩ := rank_num hk hm
  have hlt := rank_lt hk
  have hs := sorted_ok hm H
  have ix : aIndexAddr PP t_L_int (tSl l.length (nv (sorted l))) (.int .i64 ((rankAt l num den : Nat) : Int)) = some (tPtr (rankAt l num den) (nv (sorted l)).toArray) := by
    have := tsl_index (P := PP) (sz := 1) (n := l.length) (row := nv (sorted l)) (j := .i64) u_L_int sz_int hlt
    rwa [Nat.mul_one] at this
  have ld : ∀ st : AS, aLoad false 1 st (tPtr (rankAt l num den) (nv (sorted l)).toArray) = some (.int .i64 ((sorted l).getD (rankAt l num den) 0)) := by
    intro st
    simp only [aLoad, tPtr, tLoad, Bool.false_eq_true, if_false]
    exact nv_get (by rw [sorted_len]; exact hlt)
  have hv : veq (.int .i64 (l.length : Int)) (.int .i64 (l.length : Int)) = true := by simp [veq]
  simp only [twainref47_Rank.sh, twainref47_Rank.j0, twainref47_Rank.j1, mach, Nat.reduceAdd, Nat.reduceLeDiff, Int.reduceEq, Int.reduceLT, Int.reduceLE, ln_tree, c0', c1, c2, c3, c4, hs, w1, w2, w3, hv, ix, ld]
  exact fin_lit0 rfl rfl
end
end SR
end Go.Proofs.Ytpklhjeccbjalaa

end
section
namespace Go.Proofs.Ytpklhjeccbjalaa
open Go Go.Am
set_option linter.unusedVariables false
namespace SR
def bump (k : Nat) (A : List Int) : List Int := A.set k (A.getD k 0 + 1)
def place (W N : Nat) (x : Int) : Nat := min (x.toNat / W) (N - 1)
def bars (W N : Nat) (l : List Int) : List Int := upto (fun i A => bump (place W N (l.getD i 0)) A) l.length (List.replicate N 0)
structure Cnt (N i : Nat) (A : List Int) : Prop where
  len : A.length = N
  pos : ∀ x ∈ A, 0 ≤ x
  sum : A.sum = (i : Int)
theorem sum_set : ∀ (A : List Int) (k : Nat), k < A.length → (A.set k (A.getD k 0 + 1)).sum = A.sum + 1
  | [], k, h => by simp at h
  | a :: A, 0, _ => by simp [List.getD]; omega
  | a :: A, k + 1, h => by
    have := sum_set A k (by simpa using h)
    simp [List.getD] at this ⊢
    omega
theorem le_sum : ∀ (A : List Int), (∀ x ∈ A, 0 ≤ x) → 0 ≤ A.sum ∧ ∀ x ∈ A, x ≤ A.sum
  | [], _ => by simp
  | a :: A, h => by
    obtain ⟨h1, h2⟩ := le_sum A (fun x hx => h x (by simp [hx]))
    have h0 := h a (by simp)
    refine ⟨by simp; omega, fun x hx => ?_⟩
    rcases List.mem_cons.1 hx with rfl | hx
    · simp; omega
    · have := h2 x hx; simp; omega
theorem place_lt {W N : Nat} (hN : 0 < N) (x : Int) : place W N x < N := by unfold place; omega
theorem getD_mem {A : List Int} {k : Nat} (hk : k < A.length) : A.getD k 0 ∈ A := by
  have : A.getD k 0 = A[k] := by simp [List.getD, hk]
  rw [this]; exact List.getElem_mem hk
theorem Cnt.at_ {N i k : Nat} {A : List Int} (h : Cnt N i A) (hk : k < N) : 0 ≤ A.getD k 0 ∧ A.getD k 0 ≤ (i : Int) := by
  have hm := getD_mem (A := A) (k := k) (by rw [h.len]; exact hk)
  exact ⟨h.pos _ hm, by rw [← h.sum]; exact (le_sum A h.pos).2 _ hm⟩
theorem Cnt.bump {N i k : Nat} {A : List Int} (h : Cnt N i A) (hk : k < N) : Cnt N (i + 1) (bump k A) := by
  have hl := h.len
  refine ⟨by simp [SR.bump, hl], fun x hx => ?_, ?_⟩
  · rcases List.mem_or_eq_of_mem_set hx with hx | rfl
    · exact h.pos x hx
    · have := h.at_ hk; omega
  · unfold SR.bump
    rw [sum_set A k (by omega), h.sum]; omega
theorem Cnt.zero (N : Nat) : Cnt N 0 (List.replicate N 0) := by
  refine ⟨by simp, fun x hx => by have := List.eq_of_mem_replicate hx; omega, ?_⟩
  induction N with
  | zero => rfl
  | succ n ih => rw [List.replicate_succ, List.sum_cons, ih]; rfl
theorem bars_cnt {W N : Nat} (hN : 0 < N) (l : List Int) : Cnt N l.length (bars W N l) := by
  have key : ∀ n, Cnt N n (upto (fun i A => bump (place W N (l.getD i 0)) A) n (List.replicate N 0)) := by
    intro n
    induction n with
    | zero => exact .zero N
    | succ n ih => exact ih.bump (place_lt hN _)
  exact key l.length

section
variable {H : List Blk} {l : List Int}
def barsL (wide most : Int) (l : List Int) : List Int := if 1 ≤ wide ∧ 1 ≤ most ∧ most ≤ 100 then bars wide.toNat most.toNat l else []
theorem quo_nn {x W : Nat} (hW : 0 < W) (hx : x < 9223372036854775808) (ox oy : Operand) : aBin PP .quo t_int ox oy (.int .i64 (x : Int)) (.int .i64 (W : Int)) = some (.int .i64 ((x / W : Nat) : Int)) :=
  bin_quo_nat (by omega) (fun n hn => by rw [wrap_i64 ⟨by omega, by omega⟩])
theorem bars_ok {x : Value} (hx : Rd H x l.length (nv l)) (vx : ∀ r ∈ vrefs x, r < H.length) (hI : ∀ z ∈ l, z < 9223372036854775808) (hm : l.length < 60000) (wide most : Int) : acall PP TT n_stats_Bars [x, .int .i64 wide, .int .i64 most] H = some (tSl (barsL wide most l).length (nv (barsL wide most l)), H, none) := by
  rw [acall_eq, stats_Bars.eq]
  unfold barsL
  by_cases c1 : wide < 1
  · rw [if_neg (by omega)]
    simp only [stats_Bars.sh, stats_Bars.j0, mach, Nat.reduceAdd, Nat.reduceLeDiff, Int.reduceEq, Int.reduceLT, Int.reduceLE, c1]
    exact fin_nil0
  by_cases c2 : most < 1
  · rw [if_neg (by omega)]
    simp only [stats_Bars.sh, stats_Bars.j0, mach, Nat.reduceAdd, Nat.reduceLeDiff, Int.reduceEq, Int.reduceLT, Int.reduceLE, c1, c2]
    exact fin_nil0
  by_cases c3 : 100 < most
  · rw [if_neg (by omega)]
    simp only [stats_Bars.sh, stats_Bars.j0, mach, Nat.reduceAdd, Nat.reduceLeDiff, Int.reduceEq, Int.reduceLT, Int.reduceLE, c1, c2, c3]
    exact fin_nil0
  rw [if_pos ⟨by omega, by omega, by omega⟩]
  obtain ⟨W, rfl⟩ : ∃ W : Nat, wide = (W : Int) := ⟨wide.toNat, by omega⟩
  obtain ⟨N, rfl⟩ : ∃ N : Nat, most = (N : Int) := ⟨most.toNat, by omega⟩
  rw [Int.toNat_natCast, Int.toNat_natCast]
  have hW : 0 < W := by omega
  have hN : 0 < N := by omega
  have lx := hx.len (P := PP) u_L_int
  have hcnt := bars_cnt (W := W) hN l
  have hgc : ∀ (A : List Int) (n : Int), gc H.length [.int .i64 (W : Int), .int .i64 (N : Int), sl H.length N N, x, .int .i64 l.length, .int .i64 n] ⟨H ++ [nB A], none⟩ = ([.int .i64 (W : Int), .int .i64 (N : Int), sl H.length N N, x, .int .i64 l.length, .int .i64 n], ⟨H ++ [nB A], none⟩) := fun A n =>
    gc_one (G := []) (by
      intro r hr
      simp at hr
      rcases hr with hr | hr
      · exact .inr hr
      · exact .inl (vx r hr)) (by simp) (nv_refs A) (by have := hx.few (nv_refs l); simp; omega)
  have hloop := loop_upto (n0 := H.length) (step := stats_Bars.loop5s (acall PP TT) loopG H.length) (len := l.length)
    (fun i (A : List Int) => ([.int .i64 (W : Int), .int .i64 (N : Int), sl H.length N N, x, .int .i64 l.length, .int .i64 (i : Int)], ⟨H ++ [nB A], none⟩)) (fun i A => bump (place W N (l.getD i 0)) A) (fun i A => Cnt N i A) (fun A => (.exit 0, [sl H.length N N], ⟨H ++ [nB A], none⟩))
    (fun i A hi hA => by
      have hlt : (i : Int) < (l.length : Int) := by omega
      have hw : IntKind.i64.wrap ((i : Int) + 1) = ((i + 1 : Nat) : Int) := wrap_add1 (by omega)
      have ix := hx.index (P := PP) u_L_int sz_int (k := .i64) (i := (i : Int)) (by omega) hlt
      rw [Int.toNat_natCast, Nat.mul_one] at ix
      have dx := (hx.app (l := [nB A])).load1 (by omega) (nv_get hi) none
      have hz := hI _ (getD_mem hi)
      generalize hzz : l.getD i 0 = z at dx hz
      have hmax : (if 0 > z then (0 : Int) else z) = ((z.toNat : Nat) : Int) := by split <;> omega
      have hq := fun ox oy => quo_nn (x := z.toNat) hW (by omega) ox oy
      have hwn : IntKind.i64.wrap ((N : Int) - 1) = ((N - 1 : Nat) : Int) := by rw [wrap_i64 ⟨by omega, by omega⟩]; omega
      have hmin : (if ((N - 1 : Nat) : Int) < ((z.toNat / W : Nat) : Int) then ((N - 1 : Nat) : Int) else ((z.toNat / W : Nat) : Int)) = ((place W N z : Nat) : Int) := by
        unfold place
        generalize z.toNat / W = q
        split <;> omega
      have hp := place_lt (W := W) hN z
      have hal := hA.len
      have ip := ix_row (b := H.length) (n := N) (c := N) hp
      have hb : (H ++ [nB A])[H.length]? = some (nB A) := by simp
      have ld := cell_row hb (k := place W N z) (by omega)
      have ha := hA.at_ hp
      have hwa : IntKind.i64.wrap (A.getD (place W N z) 0 + 1) = A.getD (place W N z) 0 + 1 := by rw [wrap_i64 ⟨by omega, by omega⟩]
      have st := store_row hb (k := place W N z) (by omega) none (A.getD (place W N z) 0 + 1)
      have hset : (H ++ [nB A]).set H.length (nB (A.set (place W N z) (A.getD (place W N z) 0 + 1))) = H ++ [nB (bump (place W N z) A)] := by simp [bump]
      rw [hset] at st
      refine ⟨[.int .i64 (W : Int), .int .i64 (N : Int), sl H.length N N, x, .int .i64 l.length, .int .i64 ((i + 1 : Nat) : Int)], ⟨H ++ [nB (bump (place W N z) A)], none⟩, ?_, hgc _ _, hA.bump hp⟩
      generalize hG : H ++ [nB A] = G at dx ld st hb
      generalize hG2 : H ++ [nB (bump (place W N z) A)] = G2 at st
      simp only [stats_Bars.loop5s, stats_Bars.loop5, mach, Nat.reduceAdd, Nat.reduceLeDiff, Int.reduceEq, Int.reduceLT, Int.reduceLE, hlt, ix, dx, hmax, hq, hwn, hmin, ip, ld, hwa, st, hw])
    (fun A _ => by simp only [stats_Bars.loop5s, stats_Bars.loop5, mach, Nat.reduceAdd, Nat.reduceLeDiff, Int.reduceEq, Int.reduceLT, Int.reduceLE, Int.lt_irrefl]) (List.replicate N 0) [.int .i64 (W : Int), .int .i64 (N : Int), sl H.length N N, x, .int .i64 l.length, .int .i64 0] ⟨H ++ [nB (List.replicate N 0)], none⟩ (.zero N) (hgc _ _)
  have mk := make_nv (n := N) (by omega) ⟨H, none⟩
  have hnb : newBlk (⟨H, none⟩ : AS) (nB (List.replicate N 0)) = ⟨H ++ [nB (List.replicate N 0)], none⟩ := rfl
  simp only [stats_Bars.sh, stats_Bars.j0, stats_Bars.j1, stats_Bars.j4, mach, Nat.reduceAdd, Nat.reduceLeDiff, Int.reduceEq, Int.reduceLT, Int.reduceLE, c1, c2, c3, mk, hnb, lx, hloop]
  have hl := hcnt.len
  have := fin_row0 (P := PP) (H0 := H) (l := [nB (bars W N l)]) (e := none) (n := N) (c := N) (sz := 1) rfl sz_int (by simp [hl]) (nv_noSl _) (nv_refs _) rfl
  rw [hl]
  exact this
theorem rbars_ok (hI : ∀ z ∈ l, z < 9223372036854775808) (hm : l.length < 60000) (wide most : Int) (H : List Blk) : acall PP TT n_twainref47_Bars [tSl l.length (nv l), .int .i64 wide, .int .i64 most] H = some (tSl (barsL wide most l).length (nv (barsL wide most l)), H, none) := by
  rw [acall_eq, twainref47_Bars.eq]
  unfold barsL
  by_cases c1 : wide < 1
  · rw [if_neg (by omega)]
    simp only [twainref47_Bars.sh, twainref47_Bars.j0, mach, Nat.reduceAdd, Nat.reduceLeDiff, Int.reduceEq, Int.reduceLT, Int.reduceLE, c1]
    exact fin_nil0
  by_cases c2 : most < 1
  · rw [if_neg (by omega)]
    simp only [twainref47_Bars.sh, twainref47_Bars.j0, mach, Nat.reduceAdd, Nat.reduceLeDiff, Int.reduceEq, Int.reduceLT, Int.reduceLE, c1, c2]
    exact fin_nil0
  by_cases c3 : 100 < most
  · rw [if_neg (by omega)]
    simp only [twainref47_Bars.sh, twainref47_Bars.j0, mach, Nat.reduceAdd, Nat.reduceLeDiff, Int.reduceEq, Int.reduceLT, Int.reduceLE, c1, c2, c3]
    exact fin_nil0
  rw [if_pos ⟨by omega, by omega, by omega⟩]
  obtain ⟨W, rfl⟩ : ∃ W : Nat, wide = (W : Int) := ⟨wide.toNat, by omega⟩
  obtain ⟨N, rfl⟩ : ∃ N : Nat, most = (N : Int) := ⟨most.toNat, by omega⟩
  rw [Int.toNat_natCast, Int.toNat_natCast]
  have hW : 0 < W := by omega
  have hN : 0 < N := by omega
  have hcnt := bars_cnt (W := W) hN l
  have hgc : ∀ (A : List Int) (n : Int), gc H.length [.int .i64 (W : Int), .int .i64 (N : Int), sl H.length N N, tSl l.length (nv l), .int .i64 l.length, .int .i64 n] ⟨H ++ [nB A], none⟩ = ([.int .i64 (W : Int), .int .i64 (N : Int), sl H.length N N, tSl l.length (nv l), .int .i64 l.length, .int .i64 n], ⟨H ++ [nB A], none⟩) := fun A n =>
    gc_one (G := []) (by intro r hr; simp [nv_refs] at hr; exact .inr hr) (by simp) (nv_refs A) (by simp [nv_refs])
  have hloop := loop_upto (n0 := H.length) (step := twainref47_Bars.loop5s (acall PP TT) loopG H.length) (len := l.length)
    (fun i (A : List Int) => ([.int .i64 (W : Int), .int .i64 (N : Int), sl H.length N N, tSl l.length (nv l), .int .i64 l.length, .int .i64 (i : Int)], ⟨H ++ [nB A], none⟩)) (fun i A => bump (place W N (l.getD i 0)) A) (fun i A => Cnt N i A) (fun A => (.exit 0, [sl H.length N N], ⟨H ++ [nB A], none⟩))
    (fun i A hi hA => by
      have hlt : (i : Int) < (l.length : Int) := by omega
      have hw : IntKind.i64.wrap ((i : Int) + 1) = ((i + 1 : Nat) : Int) := wrap_add1 (by omega)
      have ix : aIndexAddr PP t_L_int (tSl l.length (nv l)) (.int .i64 (i : Int)) = some (tPtr i (nv l).toArray) := by
        have := tsl_index (P := PP) (sz := 1) (n := l.length) (row := nv l) (j := .i64) u_L_int sz_int hi
        rwa [Nat.mul_one] at this
      have dx : ∀ st : AS, aLoad false 1 st (tPtr i (nv l).toArray) = some (.int .i64 (l.getD i 0)) := by
        intro st
        simp only [aLoad, tPtr, tLoad, Bool.false_eq_true, if_false]
        exact nv_get hi
      have hz := hI _ (getD_mem hi)
      generalize hzz : l.getD i 0 = z at dx hz
      have hq := fun ox oy => quo_nn (x := z.toNat) hW (by omega) ox oy
      have hwn : IntKind.i64.wrap ((N : Int) - 1) = ((N - 1 : Nat) : Int) := by rw [wrap_i64 ⟨by omega, by omega⟩]; omega
      have hp := place_lt (W := W) hN z
      have hal := hA.len
      have ip := ix_row (b := H.length) (n := N) (c := N) hp
      have hb : (H ++ [nB A])[H.length]? = some (nB A) := by simp
      have ld := cell_row hb (k := place W N z) (by omega)
      have ha := hA.at_ hp
      have hwa : IntKind.i64.wrap (A.getD (place W N z) 0 + 1) = A.getD (place W N z) 0 + 1 := by rw [wrap_i64 ⟨by omega, by omega⟩]
      have st := store_row hb (k := place W N z) (by omega) none (A.getD (place W N z) 0 + 1)
      have hset : (H ++ [nB A]).set H.length (nB (A.set (place W N z) (A.getD (place W N z) 0 + 1))) = H ++ [nB (bump (place W N z) A)] := by simp [bump]
      rw [hset] at st
      refine ⟨[.int .i64 (W : Int), .int .i64 (N : Int), sl H.length N N, tSl l.length (nv l), .int .i64 l.length, .int .i64 ((i + 1 : Nat) : Int)], ⟨H ++ [nB (bump (place W N z) A)], none⟩, ?_, hgc _ _, hA.bump hp⟩
      have hpl : place W N z = min (z.toNat / W) (N - 1) := rfl
      by_cases h0 : 0 < z
      · rw [show ((z.toNat : Nat) : Int) = z by omega] at hq
        by_cases hge : (N : Int) ≤ ((z.toNat / W : Nat) : Int)
        · have hpe : place W N z = N - 1 := by rw [hpl]; omega
          rw [hpe] at ip ld hwa st ⊢
          generalize hG : H ++ [nB A] = G at ld st hb
          generalize hG2 : H ++ [nB (bump (N - 1) A)] = G2 at st
          simp only [twainref47_Bars.loop5s, twainref47_Bars.loop5, twainref47_Bars.j3, twainref47_Bars.j4, twainref47_Bars.j5, mach, Nat.reduceAdd, Nat.reduceLeDiff, Int.reduceEq, Int.reduceLT, Int.reduceLE, hlt, ix, dx, h0, hq, hge, hwn, ip, ld, hwa, st, hw]
        · have hpe : place W N z = z.toNat / W := by rw [hpl]; omega
          rw [hpe] at ip ld hwa st ⊢
          generalize hG : H ++ [nB A] = G at ld st hb
          generalize hG2 : H ++ [nB (bump (z.toNat / W) A)] = G2 at st
          simp only [twainref47_Bars.loop5s, twainref47_Bars.loop5, twainref47_Bars.j3, twainref47_Bars.j4, twainref47_Bars.j5, mach, Nat.reduceAdd, Nat.reduceLeDiff, Int.reduceEq, Int.reduceLT, Int.reduceLE, hlt, ix, dx, h0, hq, hge, ip, ld, hwa, st, hw]
      · have hz0 : z.toNat = 0 := by omega
        have hpe : place W N z = 0 := by rw [hpl, hz0, Nat.zero_div]; omega
        rw [hpe] at ip ld hwa st ⊢
        have hge : ¬ ((N : Int) ≤ 0) := by omega
        simp only [Int.natCast_zero] at ip
        generalize hG : H ++ [nB A] = G at ld st hb
        generalize hG2 : H ++ [nB (bump 0 A)] = G2 at st
        simp only [twainref47_Bars.loop5s, twainref47_Bars.loop5, twainref47_Bars.j3, twainref47_Bars.j4, twainref47_Bars.j5, mach, Nat.reduceAdd, Nat.reduceLeDiff, Int.reduceEq, Int.reduceLT, Int.reduceLE, hlt, ix, dx, h0, hge, ip, ld, hwa, st, hw])
    (fun A _ => by simp only [twainref47_Bars.loop5s, twainref47_Bars.loop5, mach, Nat.reduceAdd, Nat.reduceLeDiff, Int.reduceEq, Int.reduceLT, Int.reduceLE, Int.lt_irrefl]) (List.replicate N 0) [.int .i64 (W : Int), .int .i64 (N : Int), sl H.length N N, tSl l.length (nv l), .int .i64 l.length, .int .i64 0] ⟨H ++ [nB (List.replicate N 0)], none⟩ (.zero N) (hgc _ _)
  have mk := make_nv (n := N) (by omega) ⟨H, none⟩
  have hnb : newBlk (⟨H, none⟩ : AS) (nB (List.replicate N 0)) = ⟨H ++ [nB (List.replicate N 0)], none⟩ := rfl
  simp only [twainref47_Bars.sh, twainref47_Bars.j0, twainref47_Bars.j1, twainref47_Bars.j7, mach, Nat.reduceAdd, Nat.reduceLeDiff, Int.reduceEq, Int.reduceLT, Int.reduceLE, c1, c2, c3, mk, hnb, ln_tree, hloop]
  have hl := hcnt.len
  have := fin_row0 (P := PP) (H0 := H) (l := [nB (bars W N l)]) (e := none) (n := N) (c := N) (sz := 1) rfl sz_int (by simp [hl]) (nv_noSl _) (nv_refs _) rfl
  rw [hl]
  exact this
end
end SR
end Go.Proofs.Ytpklhjeccbjalaa

end
section
namespace Go.Proofs.Ytpklhjeccbjalaa
open Go Go.Am
set_option linter.unusedVariables false
namespace SR
section
variable {H : List Blk} {l : List Int}
theorem barsL_sum (wide most : Int) (l : List Int) : barsL wide most l = [] ∨ ((barsL wide most l).sum = (l.length : Int) ∧ ∀ x ∈ barsL wide most l, 0 ≤ x) := by
  unfold barsL
  split
  · rename_i h
    have := bars_cnt (W := wide.toNat) (N := most.toNat) (by omega) l
    exact .inr ⟨this.sum, this.pos⟩
  · exact .inl rfl
theorem barsL_len (wide most : Int) (l : List Int) : (barsL wide most l).length ≤ 100 := by
  unfold barsL
  split
  · rename_i h
    have := bars_cnt (W := wide.toNat) (N := most.toNat) (by omega) l
    rw [this.len]; omega
  · simp
theorem sum_take (B : List Int) (hp : ∀ x ∈ B, 0 ≤ x) (n : Nat) : 0 ≤ (B.take n).sum ∧ (B.take n).sum ≤ B.sum := by
  have h1 := (le_sum (B.take n) (fun x hx => hp x (List.mem_of_mem_take hx))).1
  have h2 := (le_sum (B.drop n) (fun x hx => hp x (List.mem_of_mem_drop hx))).1
  have h3 : B.sum = (B.take n).sum + (B.drop n).sum := by rw [← List.sum_append, List.take_append_drop]
  exact ⟨h1, by omega⟩
theorem loop12_ok (B : List Int) (hp : ∀ x ∈ B, 0 ≤ x) (hs : B.sum ≤ 1000000) (hB : B.length ≤ 1000) (st : AS) : ∃ st', loopG 0 (twainlaw47_StatsRanks.loop12s (acall PP TT) loopG 0) ([tSl l.length (nv l), tSl B.length (nv B), .int .i64 0, tSl B.length (nv B), .int .i64 B.length, .int .i64 0], st) = some (.exit 0, [tSl l.length (nv l), tSl B.length (nv B), .int .i64 B.sum], st') := by
  have h := loop_inv (n0 := 0) (step := twainlaw47_StatsRanks.loop12s (acall PP TT) loopG 0) (len := B.length)
    (fun i X => ∃ st, X = ([tSl l.length (nv l), tSl B.length (nv B), .int .i64 (B.take i).sum, tSl B.length (nv B), .int .i64 B.length, .int .i64 (i : Int)], st))
    (fun r => ∃ st', r = (.exit 0, [tSl l.length (nv l), tSl B.length (nv B), .int .i64 B.sum], st'))
    (fun i X ⟨st, hX⟩ => by
      subst hX
      obtain ⟨σ, g1, _⟩ := gc0_spec [tSl l.length (nv l), tSl B.length (nv B), .int .i64 (B.take i).sum, tSl B.length (nv B), .int .i64 B.length, .int .i64 (i : Int)] st
      refine ⟨_, Prod.ext ?_ rfl⟩
      rw [g1]
      simp [lren, vren, vren_none, nv_refs])
    (fun i X hi ⟨st, hX⟩ => by
      subst hX
      right
      have hlt : (i : Int) < (B.length : Int) := by omega
      have hw : IntKind.i64.wrap ((i : Int) + 1) = ((i + 1 : Nat) : Int) := wrap_add1 (by omega)
      have ix : aIndexAddr PP t_L_int (tSl B.length (nv B)) (.int .i64 (i : Int)) = some (tPtr i (nv B).toArray) := by
        have := tsl_index (P := PP) (sz := 1) (n := B.length) (row := nv B) (j := .i64) u_L_int sz_int hi
        rwa [Nat.mul_one] at this
      have dx : ∀ st : AS, aLoad false 1 st (tPtr i (nv B).toArray) = some (.int .i64 (B.getD i 0)) := by
        intro st
        simp only [aLoad, tPtr, tLoad, Bool.false_eq_true, if_false]
        exact nv_get hi
      have hsum : (B.take (i + 1)).sum = (B.take i).sum + B.getD i 0 := by
        rw [List.take_add_one, List.sum_append]
        simp [List.getD, hi]
      have hb := sum_take B hp (i + 1)
      have hws : IntKind.i64.wrap ((B.take i).sum + B.getD i 0) = (B.take (i + 1)).sum := by rw [← hsum, wrap_i64 ⟨by omega, by omega⟩]
      refine ⟨([tSl l.length (nv l), tSl B.length (nv B), .int .i64 (B.take (i + 1)).sum, tSl B.length (nv B), .int .i64 B.length, .int .i64 ((i + 1 : Nat) : Int)], st), ?_, st, rfl⟩
      simp only [twainlaw47_StatsRanks.loop12s, twainlaw47_StatsRanks.loop12, mach, Nat.reduceAdd, Nat.reduceLeDiff, Int.reduceEq, Int.reduceLT, Int.reduceLE, hlt, ix, dx, hws, hw])
    (fun X ⟨st, hX⟩ => by
      subst hX
      refine ⟨_, ?_, st, rfl⟩
      rw [List.take_length]
      simp only [twainlaw47_StatsRanks.loop12s, twainlaw47_StatsRanks.loop12, mach, Nat.reduceAdd, Nat.reduceLeDiff, Int.reduceEq, Int.reduceLT, Int.reduceLE, Int.lt_irrefl])
    B.length 0 ([tSl l.length (nv l), tSl B.length (nv B), .int .i64 0, tSl B.length (nv B), .int .i64 B.length, .int .i64 0], st) (by omega) ⟨st, rfl⟩
  obtain ⟨r, h1, st', rfl⟩ := h
  exact ⟨st', h1⟩
theorem neq_bool (b : Bool) (ox oy : Operand) : aBin PP .neq t_bool ox oy (.bool b) (.bool b) = some (.bool false) := by cases b <;> kernel_rfl
theorem rank_pair (l : List Int) (num den : Int) : ∃ r b, rankR l num den = .tuple #[.int .i64 r, .bool b] := by
  unfold rankR
  split
  · exact ⟨_, _, rfl⟩
  · exact ⟨_, _, rfl⟩
def csC (a b c d : Int) : List Value := [.int .i64 a, .int .i64 b, .int .i64 c, .int .i64 d]
theorem tail_ok (B : List Int) (hB : B = [] ∨ (B.sum = (l.length : Int) ∧ ∀ x ∈ B, 0 ≤ x)) (hb : B.length ≤ 100) (hl : l.length ≤ 200) (st : AS) : saysTrue (twainlaw47_StatsRanks.j1 (acall PP TT) loopG 0 (tSl l.length (nv l)) (tSl B.length (nv B)) st) = true := by
  have hs : B.sum ≤ 1000000 ∧ ∀ x ∈ B, 0 ≤ x := by
    rcases hB with rfl | ⟨h1, h2⟩
    · exact ⟨by simp, fun x hx => by simp at hx⟩
    · exact ⟨by omega, h2⟩
  obtain ⟨st', h12⟩ := loop12_ok (l := l) B hs.2 hs.1 (by omega) st
  by_cases h0 : (B.length : Int) = 0
  · rw [h0] at h12
    simp only [twainlaw47_StatsRanks.j1, twainlaw47_StatsRanks.j4, mach, Nat.reduceAdd, Nat.reduceLeDiff, Int.reduceEq, Int.reduceLT, Int.reduceLE, ln_tree, h12, h0, twainlaw47_lives.eq]
    exact says_fin0
  · have he : B.sum = (l.length : Int) := by
      rcases hB with rfl | ⟨h1, _⟩
      · simp at h0
      · exact h1
    simp only [twainlaw47_StatsRanks.j1, twainlaw47_StatsRanks.j4, mach, Nat.reduceAdd, Nat.reduceLeDiff, Int.reduceEq, Int.reduceLT, Int.reduceLE, ln_tree, h12, h0, he, twainlaw47_lives.eq]
    exact says_fin0
theorem ranks_law (hI : ∀ z ∈ l, z < 9223372036854775808) (a b c d : Int) : saysTrue (acall PP TT n_twainlaw47_StatsRanks [tSl l.length (nv l), .agg (csC a b c d).toArray] []) = true := by
  rw [acall_eq, twainlaw47_StatsRanks.eq]
  have cs_all : allCells (csC a b c d) = true := rfl
  have cs_0 : (csC a b c d)[0]? = some (.int .i64 a) := rfl
  have cs_1 : (csC a b c d)[1]? = some (.int .i64 b) := rfl
  have cs_2 : (csC a b c d)[2]? = some (.int .i64 c) := rfl
  have cs_3 : (csC a b c d)[3]? = some (.int .i64 d) := rfl
  by_cases hlen : (200 : Int) < (l.length : Int)
  · simp only [twainlaw47_StatsRanks.sh, mach, Nat.reduceAdd, Nat.reduceLeDiff, Int.reduceEq, Int.reduceLT, Int.reduceLE, box_lit, cs_all, fa_twainlaw47_Case_0, fa_twainlaw47_Case_1, fa_twainlaw47_Case_2, fa_twainlaw47_Case_3, cs_0, cs_1, cs_2, cs_3, ln_tree, hlen, twainlaw47_lives.eq]
    exact says_fin0
  have own : ∃ (x : Value) (H2 : List Blk), (∀ (R : Type) (k : Value → AS → Option R), eBuiltin PP .append #[t_L_int, t_L_int] [sl 1 0 0, tSl l.length (nv l)] ⟨[.cells (csC a b c d) t_twainlaw47_Case true, nB []], none⟩ k = k x ⟨H2, none⟩) ∧ Rd H2 x l.length (nv l) ∧ ∀ r ∈ vrefs x, r < H2.length := by
    by_cases h0 : l = []
    · subst h0
      exact ⟨sl 1 0 0, [.cells (csC a b c d) t_twainlaw47_Case true, nB []], fun R k => app_none (P := PP) (n := 0) (c := 0) (a := ⟨1, 0, none⟩) (y := tSl 0 []) el_L_int (by rfl), .own (t := t_int) (own := true) (bs := []) rfl (by simp) rfl, by simp⟩
    · have hpos : 0 < l.length := List.length_pos_iff.2 h0
      refine ⟨sl 2 l.length UNK, [.cells (csC a b c d) t_twainlaw47_Case true, nB [], nB l], fun R k => ?_, .own (t := t_int) (own := true) (bs := nv l) rfl (by simp) (by rw [List.drop_zero]; exact List.take_length), by simp⟩
      have := app_full (P := PP) (n := 0) (c := 0) (m := l.length) (bk := 1) (old := []) (new := nv l) (y := tSl l.length (nv l)) (st := ⟨[.cells (csC a b c d) t_twainlaw47_Case true, nB []], none⟩) (k := k) el_L_int (o := true) rfl rfl (src_nv l _) hpos (by omega) (by omega)
      rw [Nat.zero_add] at this
      exact this
  obtain ⟨x, H2, ha, hx, vx⟩ := own
  have hb0 := bsl0 [.cells (csC a b c d) t_twainlaw47_Case true] none
  simp only [List.length_cons, List.length_nil, Nat.zero_add, List.cons_append, List.nil_append] at hb0
  have r1 := srank_ok hx (by omega) a b
  have r2 := rrank_ok (l := l) (by omega) a b H2
  obtain ⟨r, bo, hr⟩ := rank_pair l a b
  rw [hr] at r1 r2
  have r3 := bars_ok hx vx hI (by omega) c d
  have r4 := rbars_ok hI (by omega) c d H2
  have r5 := ints_ok (H := H2) (l := barsL c d l) (x := tSl (barsL c d l).length (nv (barsL c d l))) (y := tSl (barsL c d l).length (nv (barsL c d l))) (.tree _ _) (.tree _ _) (by simp [nv_refs]) (by simp [nv_refs]) (by have := barsL_len c d l; omega)
  have r6 := ints_ok hx (y := tSl l.length (nv l)) (.tree _ _) vx (by simp [nv_refs]) (by omega)
  have ht := fun st => tail_ok (l := l) (barsL c d l) (barsL_sum c d l) (barsL_len c d l) (by omega) st
  have hnb := fun ox oy => neq_bool bo ox oy
  simp only [twainlaw47_StatsRanks.sh, twainlaw47_StatsRanks.j0, mach, Nat.reduceAdd, Nat.reduceLeDiff, Int.reduceEq, Int.reduceLT, Int.reduceLE, box_lit, cs_all, fa_twainlaw47_Case_0, fa_twainlaw47_Case_1, fa_twainlaw47_Case_2, fa_twainlaw47_Case_3, cs_0, cs_1, cs_2, cs_3, ln_tree, hlen, hb0, ha, r1, r2, r3, r4, r5, r6, hnb, ht]

/-! ### Arguments -/
theorem int_of {v : List Value} (h : TOk PP t_int v) : ∃ n, v = [.int .i64 n] ∧ n < 9223372036854775808 := by
  obtain ⟨n, rfl, hn⟩ := h.int_inv u_int
  have e2 : IntKind.i64.max = 9223372036854775807 := by decide
  rw [e2] at hn
  exact ⟨n, rfl, by omega⟩
theorem ints_arg {v : List Value} (h : TOk PP t_L_int v) : ∃ l : List Int, (∀ z ∈ l, z < 9223372036854775808) ∧ argV PP t_L_int v = tSl l.length (nv l) := by
  obtain ⟨rows, rfl, _, hr⟩ := h.slice_inv u_L_int
  have key : ∀ rows : List (List Value), (∀ r ∈ rows, TOk PP t_int r) → ∃ l : List Int, (∀ z ∈ l, z < 9223372036854775808) ∧ rows.length = l.length ∧ rows.flatten = nv l := by
    intro rows
    induction rows with
    | nil => intro _; exact ⟨[], by simp, rfl, rfl⟩
    | cons r rs ih =>
      intro hr
      obtain ⟨l, h0, h1, h2⟩ := ih (fun z hz => hr z (by simp [hz]))
      obtain ⟨n, rfl, hn⟩ := int_of (hr r (by simp))
      refine ⟨n :: l, fun z hz => ?_, by simp [h1], by simp [h2]⟩
      rcases List.mem_cons.1 hz with rfl | hz
      · exact hn
      · exact h0 z hz
  obtain ⟨l, h0, h1, h2⟩ := key rows hr
  refine ⟨l, h0, ?_⟩
  unfold argV
  rw [u_L_int, h1, h2]
  rfl
theorem cs_arg {w : List Value} (h : TOk PP t_twainlaw47_Case w) : ∃ a b c d : Int, argV PP t_twainlaw47_Case w = .agg (csC a b c d).toArray := by
  obtain ⟨ps, rfl, hp⟩ := h.struct_inv us_twainlaw47_Case
  rw [ty_twainlaw47_Case] at hp
  match ps, hp with
  | [p, q, r, s], ⟨hp, hq, hr, hs, _⟩ =>
    obtain ⟨a, rfl, _⟩ := int_of hp
    obtain ⟨b, rfl, _⟩ := int_of hq
    obtain ⟨c, rfl, _⟩ := int_of hr
    obtain ⟨d, rfl, _⟩ := int_of hs
    refine ⟨a, b, c, d, ?_⟩
    unfold argV
    rw [us_twainlaw47_Case]
    rfl
end
end SR
end Go.Proofs.Ytpklhjeccbjalaa

end
