/- A part of the proof: RegFind. Its conditions: none. -/
import Derived.Test.YtfinilnkempofaaRegProg
set_option linter.all false
set_option linter.unusedVariables false
set_option linter.unusedSimpArgs false
set_option linter.unnecessarySimpa false
namespace Go.Proofs.Ytfinilnkempofaa
open Go Go.Am Go.Reg

/-- a row of numbers, as the machine's cells -/
def rowC (row : List Nat) : List Value := nums (row.map fun (n : Nat) => (n : Int))
theorem rowC_len (row : List Nat) : (rowC row).length = row.length := by simp [rowC, nums]
theorem rowC_snoc (row : List Nat) (i : Nat) : rowC (row ++ [i]) = rowC row ++ [.int .i64 (i : Int)] := by simp [rowC, nums]

/-- the row so far, in its cell -/
def RowV (lo : Nat) (H : List Blk) (rv : Value) (row : List Nat) : Prop :=
  (rv = .slice none 0 0 ∧ row = []) ∨ ∃ (b : Nat) (cs : List Value), rv = .slice (some ⟨b, 0, none⟩) row.length UNK ∧ H[b]? = some (.cells cs t_int true) ∧ cs.take row.length = rowC row ∧ row.length ≤ cs.length ∧ lo ≤ b

/-- what a hunt leaves as it is -/
def Keep (H H' : List Blk) (rc : Nat) : Prop := H.length ≤ H'.length ∧ ∀ (i : Nat) (cs : List Value) (t : TypeId) (o : Bool), H[i]? = some (.cells cs t o) → t ≠ t_int → i ≠ rc → H'[i]? = some (.cells cs t o)

theorem Keep.refl (H : List Blk) (rc : Nat) : Keep H H rc := ⟨Nat.le_refl _, fun _ _ _ _ h _ _ => h⟩
theorem Keep.trans {H H' H'' : List Blk} {rc : Nat} (h : Keep H H' rc) (h' : Keep H' H'' rc) : Keep H H'' rc := ⟨Nat.le_trans h.1 h'.1, fun i cs t o hi ht hr => h'.2 i cs t o (h.2 i cs t o hi ht hr) ht hr⟩
theorem Keep.app (H L : List Blk) (rc : Nat) : Keep H (H ++ L) rc := ⟨by simp, fun i cs t o hi _ _ => by rw [List.getElem?_append_left (lt_of_get hi)]; exact hi⟩
theorem Keep.low {H L H' : List Blk} {rc : Nat} (h : Keep (H ++ L) H' rc) : Keep H H' rc := (Keep.app H L rc).trans h

/-- where the hunt's things lie -/
structure Pl where
  lo : Nat
  hb : Nat
  ab : Nat
  mb : Nat
  hc : Nat
  rc : Nat
  fc : Nat
  v : Value
  av : Value
  M : Nat
  A : List Nat

/-- the hunt, as it lies in memory -/
structure Fx (p : Pl) (H : List Blk) (row : List Nat) (T : List (Nat × List Value)) : Prop where
  hu : Hu H p.hb p.ab p.mb p.v p.av p.M p.A
  at_ : ∀ r ∈ vrefs p.av, ∃ cs o, H[r]? = some (.cells cs t_uint64 o)
  hc : H[p.hc]? = some (.cells [.pointer (some ⟨p.hb, 0, none⟩)] t_P_register_hunt true)
  fc : H[p.fc]? = some (.cells [.func (.func n_P_register_hunt_find_1) #[] #[.pointer (some ⟨p.hc, 0, none⟩), .pointer (some ⟨p.rc, 0, none⟩), .pointer (some ⟨p.fc, 0, none⟩)]] t_Fd15f66 true)
  rc : ∃ rv, H[p.rc]? = some (.cells [rv] t_L_int true) ∧ RowV p.lo H rv row
  mb : ∃ es ck, H[p.mb]? = some (.map es ck) ∧ Keys PP t_register_state es (T.map fun e => stc e.1 e.2) ∧ (∀ e ∈ es, e.val = .bool true)
  ok : ∀ e ∈ T, e.1 < 2 ^ 64
  lo : p.lo ≤ H.length

theorem Rd.keep {H H' : List Blk} {v : Value} {n : Nat} {cs : List Value} (h : Rd H v n cs) (hk : ∀ r ∈ vrefs v, H'[r]? = H[r]?) : Rd H' v n cs := by
  cases h with
  | tree => exact .tree _ _
  | nil => exact .nil
  | own hb ho hc => exact .own (by rw [hk _ (by simp)]; exact hb) ho hc

/-- all but the row and what was tried stays -/
theorem Fx.keep {p : Pl} {H H' : List Blk} {row row' : List Nat} {T T' : List (Nat × List Value)} (h : Fx p H row T) (hk : Keep H H' p.rc) (hr : ∃ rv, H'[p.rc]? = some (.cells [rv] t_L_int true) ∧ RowV p.lo H' rv row')
    (hm : ∃ es ck, H'[p.mb]? = some (.map es ck) ∧ Keys PP t_register_state es (T'.map fun e => stc e.1 e.2) ∧ (∀ e ∈ es, e.val = .bool true)) (hok : ∀ e ∈ T', e.1 < 2 ^ 64) : Fx p H' row' T' := by
  obtain ⟨rv0, hrc, _⟩ := h.rc
  have ne : ∀ (i : Nat) (cs : List Value) (t : TypeId) (o : Bool), H[i]? = some (.cells cs t o) → t ≠ t_L_int → i ≠ p.rc := fun i cs t o hi ht he => by
    subst he; rw [hrc] at hi; simp at hi; exact ht hi.2.1.symm
  have get : ∀ (i : Nat) (cs : List Value) (t : TypeId) (o : Bool), H[i]? = some (.cells cs t o) → t ≠ t_int → t ≠ t_L_int → H'[i]? = some (.cells cs t o) := fun i cs t o hi h3 h31 => hk.2 i cs t o hi h3 (ne i cs t o hi h31)
  refine ⟨⟨get _ _ _ _ h.hu.hunt (by decide) (by decide), Rd.keep h.hu.rd (fun r hr => ?_), h.hu.refs, h.hu.m, h.hu.a⟩, fun r hr => ?_, get _ _ _ _ h.hc (by decide) (by decide), get _ _ _ _ h.fc (by decide) (by decide), hr, hm, hok, Nat.le_trans h.lo hk.1⟩
  · obtain ⟨cs, o, hc⟩ := h.at_ r hr
    rw [hc]; exact get _ _ _ _ hc (by decide) (by decide)
  · obtain ⟨cs, o, hc⟩ := h.at_ r hr
    exact ⟨cs, o, get _ _ _ _ hc (by decide) (by decide)⟩

theorem Fx.app {p : Pl} {H : List Blk} {row : List Nat} {T : List (Nat × List Value)} (h : Fx p H row T) (L : List Blk) : Fx p (H ++ L) row T := by
  obtain ⟨rv, h1, h2⟩ := h.rc
  obtain ⟨es, ck, h3, h4, h5⟩ := h.mb
  refine h.keep (.app H L _) ⟨rv, by rw [List.getElem?_append_left (lt_of_get h1)]; exact h1, ?_⟩ ⟨es, ck, by rw [List.getElem?_append_left (lt_of_get h3)]; exact h3, h4, h5⟩ h.ok
  rcases h2 with h2 | ⟨b, cs, e1, e2, e3, e4⟩
  · exact .inl h2
  · exact .inr ⟨b, cs, e1, by rw [List.getElem?_append_left (lt_of_get e2)]; exact e2, e3, e4⟩

theorem build92 {n : Int} {u : List Value} (hu : TOk PP t_api_Sector u) : aBuild PP t_register_state [(0, .int .u64 n), (1, .agg u.toArray)] = some (.agg (.int .u64 n :: u).toArray) := by
  obtain ⟨u1, _, _⟩ := sec_cells hu
  match u, sec_len hu, u1 with
  | [a0, a1, a2, a3, a4, a5, a6, a7, a8, a9, a10, a11, a12, a13, a14, a15], _, u1 =>
    simp only [allCells_cons, Bool.and_eq_true, allCells_nil] at u1
    obtain ⟨b0, b1, b2, b3, b4, b5, b6, b7, b8, b9, b10, b11, b12, b13, b14, b15, _⟩ := u1
    unfold aBuild
    have hz : zeroP PP t_register_state = some (.agg qz_register_state.toArray) := by kernel_rfl
    rw [hz]
    simp only
    rw [if_pos ⟨show plainL qz_register_state = true by kernel_rfl, by simp [Value.cells, b0, b1, b2, b3, b4, b5, b6, b7, b8, b9, b10, b11, b12, b13, b14, b15]⟩]
    refine Eq.trans (b := some (.agg #[.int .u64 n, a0, a1, a2, a3, a4, a5, a6, a7, a8, a9, a10, a11, a12, a13, a14, a15])) ?_ rfl
    kernel_rfl

theorem fn43 (a b c x y : Value) : aFn PP (.func (.func n_P_register_hunt_find_1_1) #[] #[a, b, c]) [x, y] = some (n_P_register_hunt_find_1_1, [x, y, a, b, c]) := by kernel_rfl
theorem fn42 (a b c x : Value) : aFn PP (.func (.func n_P_register_hunt_find_1) #[] #[a, b, c]) [x] = some (n_P_register_hunt_find_1, [x, a, b, c]) := by kernel_rfl

/-- the end of a call behind which an older block names a newer one -/
theorem fin_esc {H : List Blk} {n m : Nat} {b : Bool} (hm : m < n) : fin PP false n [.bool b] ⟨H, some m⟩ = some (.bool b, H, some m) := by
  unfold fin endFrz
  have h1 : ¬ n ≤ m := by omega
  simp only [Bool.false_eq_true, if_false, frzL, frz_noSl n 8 (.bool b) _ rfl, gc, escOk, h1, decide_false, escBelow, hm, if_true]
  rfl

theorem gc_esc {vs : List Value} {H : List Blk} {n m : Nat} (hm : m < n) : gc n vs ⟨H, some m⟩ = (vs, ⟨H, some m⟩) := by
  have h1 : ¬ n ≤ m := by omega
  simp [gc, escOk, h1]

section
variable {R : Type} {H : List Blk} {e : Option Nat} {rv : Value} {k : Value → AS → Option R}

/-- one number more in the row -/
theorem row_more {row : List Nat} {i : Nat} {y : Value} {lo : Nat} (hr : RowV lo H rv row) (hy : Rd H y 1 [.int .i64 (i : Int)]) (hm : row.length < 1000) :
    ∃ H2 : List Blk, eBuiltin PP .append #[t_L_int, t_L_int] [rv, y] ⟨H, e⟩ k = k (.slice (some ⟨H.length, 0, none⟩) (row.length + 1) UNK) ⟨H2 ++ [Blk.cells (rowC (row ++ [i])) t_int true], e⟩ ∧ H2.length = H.length ∧
      ∀ j : Nat, H2[j]? = H[j]? ∨ ∃ cs, H[j]? = some (Blk.cells cs t_int true) := by
  have hs := hy.src (size := 1) (by simp) (by simp)
  rcases hr with ⟨rfl, rfl⟩ | ⟨b, cs, rfl, hb, hc, hl, _⟩
  · refine ⟨H, ?_, rfl, fun j => .inl rfl⟩
    simp only [eBuiltin, aAppend, qu_L_int, qsz_int, qby_int, qz_int, Option.getD_some, hs]
    simp [Value.cells, aRow, newBlk, rowC, nums]
  · refine ⟨H.set b .dead, ?_, by simp, fun j => ?_⟩
    · have h1 : (row.length + 1) * 8 ≤ 140737488355328 := by omega
      simp only [eBuiltin, aAppend, qu_L_int, qsz_int, qby_int, qz_int, Option.getD_some, hs]
      simp [Value.cells, h1, hb, hl, aRow, newBlk, hc, rowC_snoc]
    · by_cases hj : b = j
      · subst hj; exact .inr ⟨cs, hb⟩
      · exact .inl (List.getElem?_set_ne hj)

end

theorem slice31 {H : List Blk} {e : Option Nat} {b n len : Nat} {cs : List Value} {o : Bool} (hb : H[b]? = some (.cells cs t_int o)) (hn : n ≤ len) (hl : len < 2 ^ 40) :
    aSlice PP t_L_int (.slice (some ⟨b, 0, none⟩) len UNK) none (some (.int .i64 (n : Int))) none ⟨H, e⟩ = some (.slice (some ⟨b, 0, none⟩) n UNK) := by
  have h1 : len < UNK := by unfold UNK; omega
  simp [aSlice, qu_L_int, qsz_int, aBounds, hb, hn, h1, add_none]

theorem escOf_le1 {m b r : Nat} (h : m ≤ b) : ∃ m', escOf (some m) b [r] = some m' ∧ m' ≤ b := by
  simp only [escOf]
  split
  · exact ⟨min m b, rfl, by omega⟩
  · exact ⟨m, rfl, h⟩

theorem join_le {m rc : Nat} (h : m ≤ rc) (e : Option Nat) : ∃ m', joinEsc (some m) e = some m' ∧ m' ≤ rc := by
  cases e with
  | none => exact ⟨m, rfl, h⟩
  | some b => exact ⟨min m b, rfl, by omega⟩

theorem next43 {p : Pl} {l : List (Rw (List Value))} {H : List Blk} {d i sb : Nat} {u0 val : List Value} {row : List Nat} {T : List (Nat × List Value)} (h : Fx p H row T) (hsb : H[sb]? = some (.cells (stc d u0) t_register_state true)) (hd : d < 2 ^ 64) (hi : i < 64) (hval : TOk PP t_api_Sector val) (hrl : row.length < 900)
    (IH : ∀ H6, Fx p H6 (row ++ [i]) T → ∃ (b : Bool) (H' : List Blk) (e : Option Nat) (row' : List Nat) (T' : List (Nat × List Value)), acall PP TT n_P_register_hunt_find_1 [.agg (stc (d ||| 2 ^ i) val).toArray, .pointer (some ⟨p.hc, 0, none⟩), .pointer (some ⟨p.rc, 0, none⟩), .pointer (some ⟨p.fc, 0, none⟩)] H6 = some (.bool b, H', e) ∧
      Keep H6 H' p.rc ∧ Fx p H' row' T' ∧ Tells l (d ||| 2 ^ i) val (row ++ [i]) T b row' T') :
    ∃ (b : Bool) (H' : List Blk) (m : Nat) (row' : List Nat) (T' : List (Nat × List Value)), acall PP TT n_P_register_hunt_find_1_1 [.int .i64 i, .agg val.toArray, .pointer (some ⟨p.rc, 0, none⟩), .pointer (some ⟨p.fc, 0, none⟩), .pointer (some ⟨sb, 0, none⟩)] H = some (.bool b, H', some m) ∧ m ≤ p.rc ∧
      Keep H H' p.rc ∧ Fx p H' row' T' ∧ (b = true → ∃ r, row' = row ++ (i :: r) ∧ Comp l (ins d.testBit i) val r) ∧ (b = false → row' = row ∧ Dead l (ins d.testBit i) val ∧ ∀ e ∈ T', e ∈ T ∨ Dead l e.1.testBit e.2) := by
  obtain ⟨v1, v2, v3⟩ := sec_cells hval
  have vn := sec_len hval
  have htv : val.take 16 = val := List.take_of_length_le (by omega)
  obtain ⟨rv, hrc, hrv⟩ := h.rc
  have hrcl := lt_of_get hrc
  have h2 := h.app ([Blk.cells val t_api_Sector true] ++ [Blk.cells [.int .i64 (i : Int)] t_int true])
  obtain ⟨rv2, hrc2, hrv2⟩ := h2.rc
  have hrc2' : (H ++ ([Blk.cells val t_api_Sector true] ++ [Blk.cells [.int .i64 (i : Int)] t_int true]))[p.rc]? = some (.cells [rv] t_L_int true) := by rw [List.getElem?_append_left hrcl]; exact hrc
  have hrveq : rv2 = rv := by rw [hrc2'] at hrc2; simp at hrc2; exact hrc2.symm
  subst hrveq
  have hlen2 : (H ++ ([Blk.cells val t_api_Sector true] ++ [Blk.cells [.int .i64 (i : Int)] t_int true])).length = H.length + 2 := by simp
  generalize hH2 : H ++ ([Blk.cells val t_api_Sector true] ++ [Blk.cells [.int .i64 (i : Int)] t_int true]) = H2 at *
  have hy : Rd H2 (.slice (some ⟨H.length + 1, 0, none⟩) 1 1) 1 [.int .i64 (i : Int)] := .own (bs := [.int .i64 (i : Int)]) (t := t_int) (own := true) (by rw [← hH2, get_app]; rfl) (by simp) (by simp)
  have hbx : H2[H.length]? = some (.cells val t_api_Sector true) := by rw [← hH2, get_app0]; rfl
  -- the row's new block
  obtain ⟨H3, happ, hl3, hj3⟩ := row_more (R := Value × List Blk × Option Nat) (e := none) (k := fun x4 s5 => (aStore 1 s5 (.pointer (some ⟨p.rc, 0, none⟩)) x4).bind fun s6 =>
    (aLoad false 1 s6 (.pointer (some ⟨p.fc, 0, none⟩))).bind fun x7 =>
    (aFieldAddr PP t_register_state (.pointer (some ⟨sb, 0, none⟩)) 0).bind fun x8 =>
    (aLoad false 1 s6 x8).bind fun x9 =>
    (aBin PP .shl t_uint64 (.const (.int .u64 1)) (.tmp 15) (.int .u64 1) (.int .i64 i)).bind fun x10 =>
    (aBin PP .or t_uint64 (.tmp 14) (.tmp 16) x9 x10).bind fun x11 =>
    (aLoad true 16 s6 (.pointer (some ⟨H.length, 0, none⟩))).bind fun x12 =>
    (aBuild PP t_register_state [(0, x11), (1, x12)]).bind fun x13 =>
    (aFn PP x7 [x13]).bind fun g15 =>
    (acall PP TT g15.1 g15.2 s6.H).bind fun r14 =>
    bcase r14.1 (
    fin PP false H.length [.bool true] (AS.mk r14.2.1 (joinEsc s6.esc r14.2.2))) (
    (aLoad false 1 (AS.mk r14.2.1 (joinEsc s6.esc r14.2.2)) (.pointer (some ⟨p.rc, 0, none⟩))).bind fun x16 =>
    (aLoad false 1 (AS.mk r14.2.1 (joinEsc s6.esc r14.2.2)) (.pointer (some ⟨p.rc, 0, none⟩))).bind fun x17 =>
    (aLen PP t_L_int x17 (AS.mk r14.2.1 (joinEsc s6.esc r14.2.2))).bind fun x18 =>
    (aBin PP .sub t_int (.tmp 23) (.const (.int .i64 1)) x18 (.int .i64 1)).bind fun x19 =>
    (aSlice PP t_L_int x16 none (some x19) none (AS.mk r14.2.1 (joinEsc s6.esc r14.2.2))).bind fun x20 =>
    (aStore 1 (AS.mk r14.2.1 (joinEsc s6.esc r14.2.2)) (.pointer (some ⟨p.rc, 0, none⟩)) x20).bind fun s21 =>
    fin PP false H.length [.bool false] s21)) hrv2 hy (by omega)
  have h3c : ∀ (j : Nat) (cs : List Value) (t : TypeId) (o : Bool), H2[j]? = some (.cells cs t o) → t ≠ t_int → H3[j]? = some (.cells cs t o) := fun j cs t o hj ht => by
    rcases hj3 j with h | ⟨cs', h⟩
    · rw [h]; exact hj
    · rw [hj] at h; simp at h; exact absurd h.2.1 ht
  have h3rc := h3c _ _ _ _ hrc2' (by decide)
  -- what is stored
  let x4 : Value := .slice (some ⟨H2.length, 0, none⟩) (row.length + 1) UNK
  let H4 : List Blk := (H3 ++ [Blk.cells (rowC (row ++ [i])) t_int true]).set p.rc (.cells [x4] t_L_int true)
  have hrcl3 : p.rc < H3.length := by omega
  have hstore : aStore 1 ⟨H3 ++ [Blk.cells (rowC (row ++ [i])) t_int true], none⟩ (.pointer (some ⟨p.rc, 0, none⟩)) x4 = some ⟨H4, some p.rc⟩ := by
    have hg : (H3 ++ [Blk.cells (rowC (row ++ [i])) t_int true])[p.rc]? = some (.cells [rv2] t_L_int true) := by rw [List.getElem?_append_left hrcl3]; exact h3rc
    have hlt : p.rc < H2.length := by omega
    show storeL _ _ _ [x4] = _
    simp [storeL, hg, x4, putCells, escOf, hlt, minO, H4]
  have hkeep : Keep H2 H4 p.rc := ⟨by simp [H4]; omega, fun j cs t o hj ht hne => by
    show ((H3 ++ [Blk.cells (rowC (row ++ [i])) t_int true]).set p.rc _)[j]? = _
    rw [List.getElem?_set_ne (Ne.symm hne), List.getElem?_append_left (by have := lt_of_get hj; omega)]
    exact h3c j cs t o hj ht⟩
  have hrc4 : H4[p.rc]? = some (.cells [x4] t_L_int true) := by
    show ((H3 ++ [Blk.cells (rowC (row ++ [i])) t_int true]).set p.rc _)[p.rc]? = _
    rw [List.getElem?_set_self (by simp; omega)]
  have hne3 : H2.length ≠ p.rc := by omega
  have hnb4 : H4[H2.length]? = some (.cells (rowC (row ++ [i])) t_int true) := by
    show ((H3 ++ [Blk.cells (rowC (row ++ [i])) t_int true]).set p.rc _)[H2.length]? = _
    rw [List.getElem?_set_ne (Ne.symm hne3), ← hl3]
    simp
  have hfx4 : Fx p H4 (row ++ [i]) T := by
    obtain ⟨es, ck, hm1, hm2, hm3⟩ := h2.mb
    refine h2.keep hkeep ⟨x4, hrc4, .inr ⟨H2.length, rowC (row ++ [i]), by simp [x4], hnb4, ?_, by simp [rowC_len], h2.lo⟩⟩ ⟨es, ck, ?_, hm2, hm3⟩ h2.ok
    · exact List.take_of_length_le (by simp [rowC_len])
    · have hmr : p.mb ≠ p.rc := fun he => by rw [he, hrc2'] at hm1; simp at hm1
      show ((H3 ++ [Blk.cells (rowC (row ++ [i])) t_int true]).set p.rc _)[p.mb]? = _
      rw [List.getElem?_set_ne (Ne.symm hmr), List.getElem?_append_left (by have := lt_of_get hm1; omega)]
      rcases hj3 p.mb with hh | ⟨cs', hh⟩
      · rw [hh]; exact hm1
      · rw [hm1] at hh; simp at hh
  have hsb2 : H2[sb]? = some (.cells (stc d u0) t_register_state true) := by rw [← hH2, List.getElem?_append_left (lt_of_get hsb)]; exact hsb
  have hsbne : sb ≠ p.rc := fun he => by rw [he, hrc2'] at hsb2; simp [t_register_state, t_L_int] at hsb2
  have hsb4 := hkeep.2 _ _ _ _ hsb2 (by decide) hsbne
  have hbne : H.length ≠ p.rc := by omega
  have hbx4 := hkeep.2 _ _ _ _ hbx (by decide) hbne
  have hfc4 := hfx4.fc
  have hbit : (2 : Nat) ^ i < 2 ^ 64 := Nat.pow_lt_pow_right (by decide) hi
  have hor := bin_or (P := PP) (t := t_uint64) (ox := .tmp 14) (oy := .tmp 16) hd hbit
  have hl0 : cellAt H4 sb 0 = some (.int .u64 (d : Int)) := by simp [cellAt, hsb4, stc]
  have hlv : cellsAt H4 H.length 0 16 = some val := by simp [cellsAt, hbx4, vn, htv]
  have hlf : cellAt H4 p.fc 0 = some (.func (.func n_P_register_hunt_find_1) #[] #[.pointer (some ⟨p.hc, 0, none⟩), .pointer (some ⟨p.rc, 0, none⟩), .pointer (some ⟨p.fc, 0, none⟩)]) := by simp [cellAt, hfc4]
  have hb92 : aBuild PP t_register_state [(0, .int .u64 ((d ||| 2 ^ i : Nat) : Int)), (1, .agg val.toArray)] = some (.agg (stc (d ||| 2 ^ i) val).toArray) := build92 hval
  obtain ⟨b, H', e', row', T', hcall, hk', hfx', htell⟩ := IH H4 hfx4
  obtain ⟨m, hm, hmle⟩ := join_le (Nat.le_refl p.rc) e'
  have hkall : Keep H H' p.rc := by
    refine Keep.low (L := [Blk.cells val t_api_Sector true] ++ [Blk.cells [.int .i64 (i : Int)] t_int true]) ?_
    rw [hH2]; exact hkeep.trans hk'
  have hbits := bits_ins d i
  have hload : cellAt (H ++ [Blk.cells val t_api_Sector true]) p.rc 0 = some rv2 := by
    simp [cellAt, List.getElem?_append_left hrcl, hrc]
  have hbsl := bsl31_1 (i : Int) (H ++ [Blk.cells val t_api_Sector true]) none
  have hassoc : H ++ [Blk.cells val t_api_Sector true] ++ [Blk.cells [.int .i64 (i : Int)] t_int true] = H2 := by rw [← hH2, List.append_assoc]
  rw [hassoc] at hbsl
  simp only [List.length_append, List.length_cons, List.length_nil, Nat.zero_add] at hbsl
  cases b with
  | true =>
    refine ⟨true, H', m, row', T', ?_, hmle, hkall, hfx', fun _ => ?_, by simp⟩
    · rw [acall_eq, P_register_hunt_find_1_1.eq]
      simp only [P_register_hunt_find_1_1.sh, box_agg v1, Option.bind_some, load_one, hload, hbsl]
      refine Eq.trans happ ?_
      rw [show (Value.slice (some ⟨H2.length, 0, none⟩) (row.length + 1) UNK) = x4 from rfl, hstore]
      simp only [Option.bind_some, load_one, load_agg, hlf, qfa_register_state_0, hl0, bin_bit hi, hor, hlv, Option.map_some, hb92, fn42, hcall, hm, bcase_true]
      exact fin_esc (by omega)
    · obtain ⟨r, hr1, hr2⟩ := htell.found rfl
      exact ⟨r, by rw [hr1]; simp, by rw [← hbits]; exact hr2⟩
  | false =>
    obtain ⟨hrow, hdead, hT⟩ := htell.not rfl
    subst hrow
    obtain ⟨rv', hrc', hrv'⟩ := hfx'.rc
    rcases hrv' with ⟨_, he⟩ | ⟨b', cs', rfl, hb', htk', hle', hlo'⟩
    · simp at he
    have hlr : (row ++ [i]).length = row.length + 1 := by simp
    rw [hlr] at htk' hle'
    have hrcl' := lt_of_get hrc'
    let x20 : Value := .slice (some ⟨b', 0, none⟩) row.length UNK
    let H5 : List Blk := H'.set p.rc (.cells [x20] t_L_int true)
    obtain ⟨m2, hm2, hm2le⟩ := escOf_le1 (r := b') hmle
    have hst5 : aStore 1 ⟨H', some m⟩ (.pointer (some ⟨p.rc, 0, none⟩)) x20 = some ⟨H5, some m2⟩ := by
      show storeL _ _ _ [x20] = _
      simp [storeL, hrc', x20, putCells, hm2, H5]
    have hb'ne : b' ≠ p.rc := fun he => by rw [he, hrc'] at hb'; simp [t_int, t_L_int] at hb'
    have hk5 : Keep H' H5 p.rc := ⟨by simp [H5], fun j cs t o hj ht hne => by
      show (H'.set p.rc _)[j]? = _
      rw [List.getElem?_set_ne (Ne.symm hne)]; exact hj⟩
    have hrc5 : H5[p.rc]? = some (.cells [x20] t_L_int true) := by
      show (H'.set p.rc _)[p.rc]? = _
      rw [List.getElem?_set_self hrcl']
    have hb5 : H5[b']? = some (.cells cs' t_int true) := by
      show (H'.set p.rc _)[b']? = _
      rw [List.getElem?_set_ne (Ne.symm hb'ne)]; exact hb'
    refine ⟨false, H5, m2, row, T', ?_, hm2le, hkall.trans hk5, ?_, by simp, fun _ => ⟨rfl, by rw [← hbits]; exact hdead, hT⟩⟩
    · have hlr' : cellAt H' p.rc 0 = some (.slice (some ⟨b', 0, none⟩) (row.length + 1) UNK) := by simp [cellAt, hrc', hlr]
      have hlen' : ∀ st, aLen PP t_L_int (.slice (some ⟨b', 0, none⟩) (row.length + 1) UNK) st = some (.int .i64 ((row.length + 1 : Nat) : Int)) := fun st => by simp [aLen, qu_L_int]
      have hsub : aBin PP .sub t_int (.tmp 23) (.const (.int .i64 1)) (.int .i64 ((row.length + 1 : Nat) : Int)) (.int .i64 1) = some (.int .i64 (row.length : Int)) := by
        have h1 : ((row.length + 1 : Nat) : Int) - 1 = (row.length : Int) := by omega
        rw [bin_sub, h1, i64_wrap (by omega)]
      have hsl := slice31 (e := some m) hb' (n := row.length) (len := row.length + 1) (by omega) (by omega)
      rw [acall_eq, P_register_hunt_find_1_1.eq]
      simp only [P_register_hunt_find_1_1.sh, box_agg v1, Option.bind_some, load_one, hload, hbsl]
      refine Eq.trans happ ?_
      rw [show (Value.slice (some ⟨H2.length, 0, none⟩) (row.length + 1) UNK) = x4 from rfl, hstore]
      simp only [Option.bind_some, load_one, load_agg, hlf, qfa_register_state_0, hl0, bin_bit hi, hor, hlv, Option.map_some, hb92, fn42, hcall, hm, bcase_false, hlr', hlen', hsub, hsl]
      rw [show (Value.slice (some ⟨b', 0, none⟩) row.length UNK) = x20 from rfl, hst5]
      simp only [Option.bind_some]
      exact fin_esc (by omega)
    · obtain ⟨es, ck, hm1, hmk, hmv⟩ := hfx'.mb
      refine hfx'.keep hk5 ⟨x20, hrc5, .inr ⟨b', cs', rfl, hb5, ?_, by omega, hlo'⟩⟩ ⟨es, ck, ?_, hmk, hmv⟩ hfx'.ok
      · have := congrArg (List.take row.length) htk'
        rw [List.take_take, Nat.min_eq_left (by omega), rowC_snoc] at this
        rw [this, List.take_append_of_le_length (by simp [rowC_len]), List.take_of_length_le (by simp [rowC_len])]
      · have hmr : p.mb ≠ p.rc := fun he => by rw [he, hrc'] at hm1; simp at hm1
        show (H'.set p.rc _)[p.mb]? = _
        rw [List.getElem?_set_ne (Ne.symm hmr)]; exact hm1

/-- what stands in the hunt, of the ops -/
structure Cx (p : Pl) (l : List (Rw (List Value))) : Prop where
  v : vrefs p.v = []
  ok : OkOps l
  len : l.length ≤ 60
  rd : ∀ H, Rd H p.v l.length (opsC l)
  aLen : p.A.length = l.length
  m : ∀ k, p.M.testBit k = true ↔ ∃ x, l[k]? = some x ∧ mustR x = true
  a : ∀ (i : Nat) x, l[i]? = some x → ∀ k, (p.A.getD i 0).testBit k = true ↔ ∃ y, l[k]? = some y ∧ k ≠ i ∧ aheadR y x = true

theorem may_can {p : Pl} {l : List (Rw (List Value))} (c : Cx p l) {H : List Blk} (hA : ∀ x ∈ p.A, x < 2 ^ 64) {d i : Nat} (hd : d < 2 ^ 64) {x : Rw (List Value)} (hx : l[i]? = some x) : mayB p.A d i = true ↔ canNext l d.testBit i := by
  have hi := lt_of_get hx
  have ha : p.A.getD i 0 < 2 ^ 64 := by
    rw [List.getD, List.getElem?_eq_getElem (by rw [c.aLen]; exact hi)]
    exact hA _ (List.getElem_mem _)
  simp only [mayB, Bool.and_eq_true, Bool.not_eq_true', decide_eq_true_eq, lessBits_zero ha hd]
  constructor
  · rintro ⟨h1, h2⟩
    exact ⟨h1, fun k y x' hy hx' hk hah => by rw [hx] at hx'; simp at hx'; subst hx'; exact h2 k ((c.a i x hx k).2 ⟨y, hy, hk, hah⟩)⟩
  · rintro ⟨h1, h2⟩
    refine ⟨h1, fun k hk => ?_⟩
    obtain ⟨y, hy, hne, hah⟩ := (c.a i x hx k).1 hk
    exact h2 k y x hy hx hne hah

theorem all_must {p : Pl} {l : List (Rw (List Value))} (c : Cx p l) (hM : p.M < 2 ^ 64) {d : Nat} (hd : d < 2 ^ 64) : lessBits p.M d = 0 ↔ allMust l d.testBit := by
  rw [lessBits_zero hM hd]
  constructor
  · intro h k x hx hm; exact h k ((c.m k).2 ⟨x, hx, hm⟩)
  · intro h k hk
    obtain ⟨x, hx, hm⟩ := (c.m k).1 hk
    exact h k x hx hm

noncomputable def qfs_register_state : Array Field := match PP.underlying t_register_state with | some (.struct fs) => fs | _ => #[]
theorem qus_register_state : PP.underlying t_register_state = some (.struct qfs_register_state) := by kernel_rfl
theorem qfs_register_state_size : qfs_register_state.size = 2 := by kernel_rfl
theorem qfs_register_state_0 : (qfs_register_state[0]?).map (·.type) = some t_uint64 := by kernel_rfl
theorem qfs_register_state_1 : (qfs_register_state[1]?).map (·.type) = some t_api_Sector := by kernel_rfl

theorem stc_tok {d : Nat} {u : List Value} (hd : d < 2 ^ 64) (hu : TOk PP t_api_Sector u) : TOk PP t_register_state (stc d u) := by
  have hint : TOk PP t_uint64 [.int .u64 (d : Int)] := by
    refine .int _ (k := .u64) qu_uint64 ⟨?_, ?_⟩
    · have h0 : IntKind.u64.min = 0 := by kernel_rfl
      rw [h0]; omega
    · have h1 : IntKind.u64.max = 18446744073709551615 := by kernel_rfl
      rw [h1]; omega
  clear hd
  have := TOk.struct (P := PP) (t := t_register_state) [[.int .u64 (d : Int)], u] qus_register_state qfs_register_state_size.symm (fun i f q hi hq => by
    rcases i with _ | _ | n
    · have h0 := qfs_register_state_0
      rw [hi] at h0
      simp only [Option.map_some, Option.some.injEq] at h0
      rw [h0]
      simp only [List.getElem?_cons_zero, Option.some.injEq] at hq
      subst hq
      exact hint
    · have h0 := qfs_register_state_1
      rw [hi] at h0
      simp only [Option.map_some, Option.some.injEq] at h0
      rw [h0]
      simp only [List.getElem?_cons_succ, List.getElem?_cons_zero, Option.some.injEq] at hq
      subst hq
      exact hu
    · have := lt_of_getA hi
      rw [qfs_register_state_size] at this
      omega)
  simpa [stc] using this

theorem stc_inj {d d' : Nat} {u u' : List Value} : stc d u = stc d' u' ↔ d = d' ∧ u = u' := by
  simp only [stc, List.cons.injEq, Value.int.injEq, true_and]
  constructor
  · rintro ⟨h1, h2⟩; exact ⟨by omega, h2⟩
  · rintro ⟨rfl, h2⟩; exact ⟨rfl, h2⟩

theorem qz_bool : zeroP PP t_bool = some (.bool false) := by kernel_rfl
theorem qu_M_register_state_bool : PP.underlying t_M_register_state_bool = some (.map t_register_state t_bool) := by kernel_rfl

open Classical in
/-- was a state tried? -/
theorem tried_ok {H : List Blk} {e : Option Nat} {mb ck : Nat} {es : List MapEntry} {T : List (Nat × List Value)} (hm : H[mb]? = some (.map es ck)) (hk : Keys PP t_register_state es (T.map fun e => stc e.1 e.2)) (hv : ∀ e ∈ es, e.val = .bool true) {d : Nat} {u : List Value} (hd : d < 2 ^ 64) (hu : TOk PP t_api_Sector u) :
    aLookup PP t_M_register_state_bool (.map (some mb)) (.agg (stc d u).toArray) false ⟨H, e⟩ = some (.bool (decide ((d, u) ∈ T))) := by
  have h := lookup_flat (P := PP) qu_M_register_state_bool qz_bool rfl qflat_register_state.flat (st := ⟨H, e⟩) hm hk (stc_tok hd hu) false
  rw [qflat_register_state.argV] at h
  rw [h]
  have hlen : es.length = T.length := by have := congrArg List.length hk.keys; simpa using this
  cases hf : (T.map fun e => stc e.1 e.2).findIdx? fun k => decide (k = stc d u) with
  | none =>
    rw [List.findIdx?_eq_none_iff] at hf
    have : ¬ (d, u) ∈ T := fun hc => by
      have := hf (stc d u) (List.mem_map.2 ⟨(d, u), hc, rfl⟩)
      simp at this
    simp [this]
  | some i =>
    rw [List.findIdx?_eq_some_iff_getElem] at hf
    obtain ⟨hi, hp, _⟩ := hf
    simp only [List.length_map] at hi
    simp only [List.getElem_map, decide_eq_true_eq, stc_inj] at hp
    have hin : (d, u) ∈ T := by
      have : T[i] = (d, u) := Prod.ext hp.1 hp.2
      rw [← this]; exact List.getElem_mem hi
    have hei : es[i]? = some es[i] := List.getElem?_eq_getElem (by omega)
    simp only [hei, Option.map_some, hv _ (List.getElem_mem _), hin, decide_true]
    rfl

end Go.Proofs.Ytfinilnkempofaa
