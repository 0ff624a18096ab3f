/- The law of the order in which things happened. -/
import Derived.Test.YtfinilnkempofaaHistTells
set_option linter.all false
set_option linter.unusedVariables false
set_option linter.unusedSimpArgs false
set_option linter.unnecessarySimpa false
namespace Go.Proofs.Ytfinilnkempofaa
open Go Go.Am

/-! ### Plain: what each op is, and how many are open -/

theorem ended_kind {l : List Ev} {n m : Nat} (h : endedI l n = (m : Int)) : n < m ∧ m < l.length ∧ ∃ y, l[m]? = some y ∧ y.kind = 1 := by
  unfold endedI at h
  rcases firstN_spec (p := endsB l n) (l.length - (n + 1)) (n + 1) with ⟨h1, _⟩ | ⟨k, h1, h2, h3, h4, _⟩
  · rw [h1] at h; omega
  · rw [h1] at h
    have : k = m := by omega
    subst this
    unfold endsB at h4
    cases hy : l[k]? with
    | none => rw [hy] at h4; simp at h4
    | some y =>
      rw [hy] at h4
      simp only [Bool.and_eq_true, decide_eq_true_eq] at h4
      exact ⟨by omega, by omega, y, rfl, h4.1⟩

/-- what an op says of its events -/
structure HopOk (l : List Ev) (x : Hop) : Prop where
  f : ∃ n : Nat, x.f = (n : Int) ∧ ∃ y, l[n]? = some y ∧ y.kind = 0
  t : x.t < (l.length : Int)
  tt : ∀ m : Nat, x.t = (m : Int) → x.f < (m : Int) ∧ ∃ y, l[m]? = some y ∧ y.kind = 1
  r : x.w = false → 0 ≤ x.t

theorem opD_hop {l : List Ev} (hm : l.length < 1000000) {at_ : Int} {n : Nat} {h : Hop} (hd : opD (endedI l) l at_ n = some h) : HopOk l h ∧ h.f = (n : Int) := by
  have hE := endedI_isI (l := l) hm n
  unfold opD at hd
  cases hx : l[n]? with
  | none => rw [hx] at hd; simp at hd
  | some x =>
    rw [hx] at hd
    simp only at hd
    have key : ∀ (w : Bool) (v : List Int), touchB x at_ = true → (w = false → ¬ endedI l n < 0) → HopOk l ⟨w, v, n, endedI l n⟩ := fun w v ht hw => by
      simp only [touchB, Bool.and_eq_true, decide_eq_true_eq] at ht
      refine ⟨⟨n, rfl, x, hx, ht.1.1⟩, hE.2.1, fun m hm => ?_, fun h => ?_⟩
      · obtain ⟨h1, h2, h3⟩ := ended_kind hm
        exact ⟨by simp only; omega, h3⟩
      · have := hw h
        simp only
        omega
    split at hd
    · rename_i ht
      split at hd
      · simp at hd; subst hd
        exact ⟨key _ _ ht (fun h => by simp at h), rfl⟩
      · split at hd
        · simp at hd
        · rename_i hn
          split at hd
          · simp at hd; subst hd
            exact ⟨key _ _ ht (fun _ => hn), rfl⟩
          · simp at hd
    · simp at hd

/-- the ops stand as they were asked -/
theorem opsL_hop {l : List Ev} (hm : l.length < 1000000) (at_ : Int) : ∀ n, (∀ x ∈ opsL (endedI l) l at_ n, HopOk l x ∧ x.f < (n : Int)) ∧ ∀ (i : Nat) x y, (opsL (endedI l) l at_ n)[i]? = some x → (opsL (endedI l) l at_ n)[i + 1]? = some y → x.f < y.f
  | 0 => ⟨fun x hx => by simp [opsL] at hx, fun i x y hx => by simp [opsL] at hx⟩
  | n + 1 => by
    obtain ⟨h1, h2⟩ := opsL_hop hm at_ n
    simp only [opsL]
    cases hd : opD (endedI l) l at_ n with
    | none => exact ⟨fun x hx => ⟨(h1 x hx).1, by have := (h1 x hx).2; omega⟩, h2⟩
    | some z =>
      obtain ⟨hz1, hz2⟩ := opD_hop hm hd
      refine ⟨fun x hx => ?_, fun i x y hx hy => ?_⟩
      · rcases List.mem_append.1 hx with hx | hx
        · exact ⟨(h1 x hx).1, by have := (h1 x hx).2; omega⟩
        · simp at hx; subst hx; exact ⟨hz1, by omega⟩
      · by_cases hi : i + 1 < (opsL (endedI l) l at_ n).length
        · simp only at hx hy
          rw [List.getElem?_append_left (by omega)] at hx
          rw [List.getElem?_append_left hi] at hy
          exact h2 i x y hx hy
        · simp only at hx hy
          rw [List.getElem?_append_right (by omega)] at hy
          have h0 : i + 1 - (opsL (endedI l) l at_ n).length = 0 := by
            have := lt_of_get hy
            simp at this
            omega
          rw [h0] at hy
          simp at hy; subst hy
          rw [List.getElem?_append_left (by omega)] at hx
          have := (h1 x (List.mem_of_getElem? hx)).2
          omega

/-- how many are so, of the first ones -/
def cnt (p : Nat → Bool) (n : Nat) : Nat := (openL p n).length
theorem cnt_zero (p : Nat → Bool) : cnt p 0 = 0 := rfl
theorem cnt_succ (p : Nat → Bool) (n : Nat) : cnt p (n + 1) = cnt p n + (if p n = true then 1 else 0) := by
  unfold cnt
  simp only [openL]
  split <;> simp
theorem cnt_congr {p q : Nat → Bool} : ∀ {n : Nat}, (∀ i, i < n → p i = q i) → cnt p n = cnt q n
  | 0, _ => rfl
  | n + 1, h => by rw [cnt_succ, cnt_succ, cnt_congr (fun i hi => h i (by omega)), h n (by omega)]
theorem cnt_one {p q : Nat → Bool} {m : Nat} (hp : p m = true) (hq : q m = false) (h : ∀ i, i ≠ m → q i = p i) : ∀ {n : Nat}, m < n → cnt p n = cnt q n + 1
  | 0, hm => by omega
  | n + 1, hm => by
    rw [cnt_succ, cnt_succ]
    by_cases hmn : m = n
    · subst hmn
      rw [cnt_congr (p := p) (q := q) (fun i hi => (h i (by omega)).symm), hp, hq]
      simp
    · rw [cnt_one hp hq h (by omega), h n (by omega)]
      omega

def kindB (l : List Ev) (k : Int) (n : Nat) : Bool := match l[n]? with | some x => decide (x.kind = k) | none => false
/-- open by the pairs so far -/
def openS (l : List Ev) (s : PS) (n : Nat) : Bool := kindB l 0 n && (lookE s.E n).isNone

theorem counts {l : List Ev} (hl : OkEvs l) : ∀ n, n ≤ l.length → (pairS l n).odd = false → cnt (kindB l 0) n = cnt (kindB l 1) n + cnt (openS l (pairS l n)) n
  | 0, _, _ => rfl
  | n + 1, hn, ho => by
    obtain ⟨x, hx⟩ : ∃ x, l[n]? = some x := ⟨_, List.getElem?_eq_getElem (by omega)⟩
    have hs : pairS l (n + 1) = pstep (pairS l n) n x := by simp [pairS, hx]
    have ih := counts hl n (by omega)
    have hok := pairS_ok hl n (by omega)
    have hkn := knows (l := l) n (by omega)
    rw [hs] at ho ⊢
    generalize pairS l n = s at ih ho hok hkn
    have hk0 : kindB l 0 n = decide (x.kind = 0) := by simp [kindB, hx]
    have hk1 : kindB l 1 n = decide (x.kind = 1) := by simp [kindB, hx]
    have hnone : lookE s.E n = none := by
      cases hq : lookE s.E n with
      | none => rfl
      | some k =>
        unfold lookE at hq
        cases hf : s.E.find? fun p => decide (p.1 = n) with
        | none => rw [hf] at hq; simp at hq
        | some p =>
          have h1 := List.find?_some hf
          have h2 := (hok.e p (List.mem_of_find?_eq_some hf)).1
          simp only [decide_eq_true_eq] at h1
          omega
    rw [cnt_succ, cnt_succ, cnt_succ, hk0, hk1]
    by_cases k0 : x.kind = 0
    · cases hf : lookA s.A x.who x.ticket with
      | some m =>
        have hp : pstep s n x = ⟨s.A, s.E, true⟩ := by simp [pstep, k0, hf]
        rw [hp] at ho; simp at ho
      | none =>
        have hp : pstep s n x = ⟨s.A ++ [((x.who, x.ticket), n)], s.E, s.odd⟩ := by simp [pstep, k0, hf]
        rw [hp] at ho ⊢
        have ih := ih ho
        have h1 : openS l ⟨s.A ++ [((x.who, x.ticket), n)], s.E, s.odd⟩ = openS l s := rfl
        have h2 : openS l s n = true := by simp [openS, hk0, k0, hnone]
        rw [h1, h2]
        simp [k0]
        omega
    · by_cases k1 : x.kind = 1
      · cases hf : lookA s.A x.who x.ticket with
        | none =>
          have hp : pstep s n x = ⟨s.A, s.E, true⟩ := by simp [pstep, k0, k1, hf]
          rw [hp] at ho; simp at ho
        | some m =>
          cases hg : lookE s.E m with
          | some q =>
            have hp : pstep s n x = ⟨s.A, s.E, true⟩ := by simp [pstep, k0, k1, hf, hg]
            rw [hp] at ho; simp at ho
          | none =>
            have hp : pstep s n x = ⟨s.A, s.E ++ [(m, n)], s.odd⟩ := by simp [pstep, k0, k1, hf, hg]
            rw [hp] at ho ⊢
            have ih := ih ho
            have hmo : askO l n x.who x.ticket = some m := by rw [← hkn.a, hf]
            have hmn := askO_lt hmo
            have hkm : kindB l 0 m = true := by
              unfold askO at hmo
              have h3 := List.findIdx?_eq_some_iff_findIdx_eq.1 hmo
              have h4 := List.findIdx?_eq_some_iff_getElem.1 hmo
              obtain ⟨h5, h6, _⟩ := h4
              rw [List.getElem_take] at h6
              simp only [askP, Bool.and_eq_true, decide_eq_true_eq] at h6
              have h7 : l[m]? = some l[m] := List.getElem?_eq_getElem (by omega)
              simp [kindB, h7, h6.1.1]
            have h1 : cnt (openS l s) n = cnt (openS l ⟨s.A, s.E ++ [(m, n)], s.odd⟩) n + 1 := by
              refine cnt_one (m := m) (by simp [openS, hkm, hg]) (by simp [openS, lookE_snoc, hg]) (fun i hi => ?_) hmn
              have hmi : ¬ m = i := fun h => hi h.symm
              simp only [openS, lookE_snoc, hmi, if_false]
              cases lookE s.E i <;> rfl
            have h2 : openS l ⟨s.A, s.E ++ [(m, n)], s.odd⟩ n = false := by simp [openS, hk0, k0]
            rw [h2]
            simp [k0, k1]
            omega
      · have hp : pstep s n x = s := by simp [pstep, k0, k1]
        rw [hp] at ho ⊢
        have ih := ih ho
        have h2 : openS l s n = false := by simp [openS, hk0, k0]
        rw [h2]
        simp [k0, k1]
        omega

theorem open_cnt {l : List Ev} : (openL (pOpenB l) l.length).length = cnt (openS l (pairS l l.length)) l.length := by
  refine cnt_congr fun i hi => ?_
  have hx : l[i]? = some l[i] := List.getElem?_eq_getElem hi
  unfold pOpenB openS kindB toI
  simp only [hx]
  congr 1
  cases lookE (pairS l l.length).E i with
  | none => rfl
  | some k =>
    simp only [Option.isNone_some, decide_eq_false_iff_not]
    omega

/-! ### The loops -/

theorem opk_f {x : Hop} (h : x.v.length = 16) : (opk x)[17]? = some (.int .i64 x.f) := by
  simp only [opk, List.getElem?_cons_succ]
  rw [List.getElem?_append_right (by simp [byt, h])]
  simp [byt, h]

section
variable {l : List Ev} {H : List Blk}

theorem order_loop (hm : l.length < 60000) {A : List Hop} (hA : OkHops A) (hAl : A.length < 60000) (hop : ∀ x ∈ A, HopOk l x) (hord : ∀ (i : Nat) x y, A[i]? = some x → A[i + 1]? = some y → x.f < y.f) :
    loopG H.length (twainlaw36_HistoryOrder.loop6s (acall PP TT) loopG H.length) ([tSl l.length (evR l), tSl l.length (evR l), tSl A.length (hopR A), tSl A.length (hopR A), .int .i64 A.length, .int .i64 0], ⟨H, none⟩) = some (.exit 0, [tSl l.length (evR l), unk, tSl l.length (evR l)], ⟨H, none⟩) := by
  have hlast : ¬ ((A.length : Int) < (A.length : Int)) := Int.lt_irrefl _
  obtain ⟨r, hlp, hr⟩ := loop_r (n0 := H.length) (step := twainlaw36_HistoryOrder.loop6s (acall PP TT) loopG H.length) (len := A.length) (σ := Unit)
    (fun n _ => ([tSl l.length (evR l), tSl l.length (evR l), tSl A.length (hopR A), tSl A.length (hopR A), .int .i64 A.length, .int .i64 n], ⟨H, none⟩))
    (fun _ _ => True) (fun r => r = (.exit 0, [tSl l.length (evR l), unk, tSl l.length (evR l)], ⟨H, none⟩))
    (fun n _ hn _ => by
      obtain ⟨x, hx⟩ : ∃ x, A[n]? = some x := ⟨_, List.getElem?_eq_getElem hn⟩
      have hxo := hA x (List.mem_of_getElem? hx)
      have hxh := hop x (List.mem_of_getElem? hx)
      have hn' : ((n : Int) < (A.length : Int)) := by omega
      have hix := ix_pop hn
      have hld := fun st => hop_load hA hx st
      have hw := wrap_succ (n := n) (by omega)
      have hxl := opk_len hxo.v.1
      have g0 := opk_w x
      have g17 := opk_f hxo.v.1
      have g18 := opk_t hxo.v.1
      obtain ⟨q, hq, yq, hyq, hkq⟩ := hxh.f
      have hql := lt_of_get hyq
      rw [hq] at g17
      have c1 : ¬ ((q : Int) < 0) := by omega
      have c2 : ¬ ((l.length : Int) ≤ (q : Int)) := by omega
      have c3 : ¬ ((l.length : Int) ≤ x.t) := by have := hxh.t; omega
      have hixq := ix_ref hql
      have hkd := fun st => ev_kind hyq st
      rw [hkq] at hkd
      refine .inr ⟨[tSl l.length (evR l), tSl l.length (evR l), tSl A.length (hopR A), tSl A.length (hopR A), .int .i64 A.length, .int .i64 ((n + 1 : Nat) : Int)], ⟨H ++ [.cells (opk x) t_history_Op true], none⟩, (), ?_, gc_clean (by simp [evR_refs, hopR_refs]) rfl, trivial⟩
      -- what came ahead
      have prev : ∀ k, n = k + 1 → ∃ z : Hop, ∃ zf : Int, z.f = zf ∧ zf < (q : Int) ∧ IntKind.i64.wrap ((n : Int) - 1) = (k : Int) ∧ aIndexAddr PP t_L_history_Op (tSl A.length (hopR A)) (.int .i64 (k : Int)) = some (tPtr (k * 19) (hopR A).toArray) ∧ ∀ st, aLoad false 1 st (tPtr (k * 19 + 17) (hopR A).toArray) = some (.int .i64 zf) := by
        intro k hk
        obtain ⟨z, hz⟩ : ∃ z, A[k]? = some z := ⟨_, List.getElem?_eq_getElem (by omega)⟩
        have hlt := hord k z x hz (by rw [← hk]; exact hx)
        refine ⟨z, z.f, rfl, by omega, by rw [wrap_in ⟨by omega, by omega⟩]; omega, ix_pop (by omega), fun st => ?_⟩
        exact tptr_get (off := 17) (hops_rows hA) (by simp [hz]) (opk_f (hA z (List.mem_of_getElem? hz)).v.1)
      by_cases ht : 0 ≤ x.t
      · obtain ⟨m, hm'⟩ : ∃ m : Nat, x.t = (m : Int) := ⟨x.t.toNat, by omega⟩
        obtain ⟨hfm, ym, hym, hkm⟩ := hxh.tt m hm'
        rw [hm'] at g18 c3 ht
        rw [hq] at hfm
        have hml := lt_of_get hym
        have c4 : ¬ ((m : Int) ≤ (q : Int)) := by omega
        have c5 : ¬ ((m : Int) < 0) := by omega
        have hixm := ix_ref hml
        have hkdm := fun st => ev_kind hym st
        rw [hkm] at hkdm
        rcases Nat.eq_zero_or_pos n with hn0 | hn0
        · have c6 : ¬ ((0 : Int) < (n : Int)) := by omega
          cases hwv : x.w <;> rw [hwv] at g0 <;>
          simp only [twainlaw36_HistoryOrder.loop6s, twainlaw36_HistoryOrder.loop6, twainlaw36_HistoryOrder.j1, twainlaw36_HistoryOrder.j2, Option.bind_some, Option.map_some, bcase_true, bcase_false, List.getD_cons_zero, List.getD_cons_succ, bin_add, bin_sub, bin_mul, bin_eql, bin_neq, bin_lss, bin_leq, bin_gtr, bin_geq, un_not, pick_bool, decide_true, decide_false, Bool.not_true, Bool.not_false, joinEsc_none, oneOf_one, ext20, ext21, ext30, ext31, ext32, if_true, box_lit, box_int, box_bool, box_slice, box_map, box_ptr, box_tSl, store_lit, store_int, store_bool, store_slice, store_map, store_ptr, store_tSl, load_one, load_agg, app_cons2, List.cons_append, List.nil_append, len_app, List.length_cons, List.length_nil, Nat.zero_add, Nat.add_zero, Nat.reduceAdd, Nat.reduceLeDiff, Nat.le_refl, cellAt_app0, cellAt_app, cellsAt_app0, cellsAt_app, storeL_own0, storeL_own, cellAt_z, cellAt_s, cellsAt_z, cellsAt_s, putB_z, putB_s, List.getElem?_cons_zero, List.getElem?_cons_succ, List.drop_zero, List.drop_succ_cons, List.take_zero, List.take_succ_cons, allCells_cons, allCells_nil, cellV_int, cellV_bool, cellV_string, cellV_ptr, cellV_slice, cellV_map, cellV_func, cellV_nilFunc, cellV_tSl, Bool.and_self, Bool.and_true, Bool.true_and, and_self, true_and, and_true, Bool.false_eq_true, if_false, lrefs_nil, lrefs_cons, vrefs_bool, vrefs_int, vrefs_string, vrefs_ptr, vrefs_ptr0, vrefs_slice, vrefs_slice0, vrefs_map, vrefs_tSl, vrefs_tPtr, vrefs_agg, escOf_nil, Int.reduceEq, Int.reduceLT, Int.reduceLE, putCells_one0, putCells_succ, max_int, min_int, hn', hix, hld, zg_history_Op, zl_history_Op, za_history_Op, hxl, opk_cells, opk_refs, putCells_all, g0, g17, g18, fa_history_Op_0, fa_history_Op_2, fa_history_Op_3, ft_twainref34_Event_0, ln_ref, c1, c2, c3, c4, c5, ht, hixq, hkd, hixm, hkdm, hw, c6]
        · obtain ⟨k, hk⟩ : ∃ k, n = k + 1 := ⟨n - 1, by omega⟩
          obtain ⟨z, zf, hz1, hz2, hz3, hz4, hz5⟩ := prev k hk
          have c6 : (0 : Int) < (n : Int) := by omega
          have c7 : ¬ ((q : Int) ≤ zf) := by omega
          cases hwv : x.w <;> rw [hwv] at g0 <;>
          simp only [twainlaw36_HistoryOrder.loop6s, twainlaw36_HistoryOrder.loop6, twainlaw36_HistoryOrder.j1, twainlaw36_HistoryOrder.j2, Option.bind_some, Option.map_some, bcase_true, bcase_false, List.getD_cons_zero, List.getD_cons_succ, bin_add, bin_sub, bin_mul, bin_eql, bin_neq, bin_lss, bin_leq, bin_gtr, bin_geq, un_not, pick_bool, decide_true, decide_false, Bool.not_true, Bool.not_false, joinEsc_none, oneOf_one, ext20, ext21, ext30, ext31, ext32, if_true, box_lit, box_int, box_bool, box_slice, box_map, box_ptr, box_tSl, store_lit, store_int, store_bool, store_slice, store_map, store_ptr, store_tSl, load_one, load_agg, app_cons2, List.cons_append, List.nil_append, len_app, List.length_cons, List.length_nil, Nat.zero_add, Nat.add_zero, Nat.reduceAdd, Nat.reduceLeDiff, Nat.le_refl, cellAt_app0, cellAt_app, cellsAt_app0, cellsAt_app, storeL_own0, storeL_own, cellAt_z, cellAt_s, cellsAt_z, cellsAt_s, putB_z, putB_s, List.getElem?_cons_zero, List.getElem?_cons_succ, List.drop_zero, List.drop_succ_cons, List.take_zero, List.take_succ_cons, allCells_cons, allCells_nil, cellV_int, cellV_bool, cellV_string, cellV_ptr, cellV_slice, cellV_map, cellV_func, cellV_nilFunc, cellV_tSl, Bool.and_self, Bool.and_true, Bool.true_and, and_self, true_and, and_true, Bool.false_eq_true, if_false, lrefs_nil, lrefs_cons, vrefs_bool, vrefs_int, vrefs_string, vrefs_ptr, vrefs_ptr0, vrefs_slice, vrefs_slice0, vrefs_map, vrefs_tSl, vrefs_tPtr, vrefs_agg, escOf_nil, Int.reduceEq, Int.reduceLT, Int.reduceLE, putCells_one0, putCells_succ, max_int, min_int, hn', hix, hld, zg_history_Op, zl_history_Op, za_history_Op, hxl, opk_cells, opk_refs, putCells_all, g0, g17, g18, fa_history_Op_0, fa_history_Op_2, fa_history_Op_3, ft_history_Op_2, ft_twainref34_Event_0, ln_ref, c1, c2, c3, c4, c5, c6, c7, hz3, hz4, hz5, ht, hixq, hkd, hixm, hkdm, hw]
      · have hwv : x.w = true := by
          cases hwv : x.w with
          | true => rfl
          | false => exact absurd (hxh.r hwv) ht
        rw [hwv] at g0
        rcases Nat.eq_zero_or_pos n with hn0 | hn0
        · have c6 : ¬ ((0 : Int) < (n : Int)) := by omega
          simp only [twainlaw36_HistoryOrder.loop6s, twainlaw36_HistoryOrder.loop6, twainlaw36_HistoryOrder.j1, twainlaw36_HistoryOrder.j2, Option.bind_some, Option.map_some, bcase_true, bcase_false, List.getD_cons_zero, List.getD_cons_succ, bin_add, bin_sub, bin_mul, bin_eql, bin_neq, bin_lss, bin_leq, bin_gtr, bin_geq, un_not, pick_bool, decide_true, decide_false, Bool.not_true, Bool.not_false, joinEsc_none, oneOf_one, ext20, ext21, ext30, ext31, ext32, if_true, box_lit, box_int, box_bool, box_slice, box_map, box_ptr, box_tSl, store_lit, store_int, store_bool, store_slice, store_map, store_ptr, store_tSl, load_one, load_agg, app_cons2, List.cons_append, List.nil_append, len_app, List.length_cons, List.length_nil, Nat.zero_add, Nat.add_zero, Nat.reduceAdd, Nat.reduceLeDiff, Nat.le_refl, cellAt_app0, cellAt_app, cellsAt_app0, cellsAt_app, storeL_own0, storeL_own, cellAt_z, cellAt_s, cellsAt_z, cellsAt_s, putB_z, putB_s, List.getElem?_cons_zero, List.getElem?_cons_succ, List.drop_zero, List.drop_succ_cons, List.take_zero, List.take_succ_cons, allCells_cons, allCells_nil, cellV_int, cellV_bool, cellV_string, cellV_ptr, cellV_slice, cellV_map, cellV_func, cellV_nilFunc, cellV_tSl, Bool.and_self, Bool.and_true, Bool.true_and, and_self, true_and, and_true, Bool.false_eq_true, if_false, lrefs_nil, lrefs_cons, vrefs_bool, vrefs_int, vrefs_string, vrefs_ptr, vrefs_ptr0, vrefs_slice, vrefs_slice0, vrefs_map, vrefs_tSl, vrefs_tPtr, vrefs_agg, escOf_nil, Int.reduceEq, Int.reduceLT, Int.reduceLE, putCells_one0, putCells_succ, max_int, min_int, hn', hix, hld, zg_history_Op, zl_history_Op, za_history_Op, hxl, opk_cells, opk_refs, putCells_all, g0, g17, g18, fa_history_Op_0, fa_history_Op_2, fa_history_Op_3, ft_twainref34_Event_0, ln_ref, c1, c2, c3, ht, hixq, hkd, hw, c6]
        · obtain ⟨k, hk⟩ : ∃ k, n = k + 1 := ⟨n - 1, by omega⟩
          obtain ⟨z, zf, hz1, hz2, hz3, hz4, hz5⟩ := prev k hk
          have c6 : (0 : Int) < (n : Int) := by omega
          have c7 : ¬ ((q : Int) ≤ zf) := by omega
          simp only [twainlaw36_HistoryOrder.loop6s, twainlaw36_HistoryOrder.loop6, twainlaw36_HistoryOrder.j1, twainlaw36_HistoryOrder.j2, Option.bind_some, Option.map_some, bcase_true, bcase_false, List.getD_cons_zero, List.getD_cons_succ, bin_add, bin_sub, bin_mul, bin_eql, bin_neq, bin_lss, bin_leq, bin_gtr, bin_geq, un_not, pick_bool, decide_true, decide_false, Bool.not_true, Bool.not_false, joinEsc_none, oneOf_one, ext20, ext21, ext30, ext31, ext32, if_true, box_lit, box_int, box_bool, box_slice, box_map, box_ptr, box_tSl, store_lit, store_int, store_bool, store_slice, store_map, store_ptr, store_tSl, load_one, load_agg, app_cons2, List.cons_append, List.nil_append, len_app, List.length_cons, List.length_nil, Nat.zero_add, Nat.add_zero, Nat.reduceAdd, Nat.reduceLeDiff, Nat.le_refl, cellAt_app0, cellAt_app, cellsAt_app0, cellsAt_app, storeL_own0, storeL_own, cellAt_z, cellAt_s, cellsAt_z, cellsAt_s, putB_z, putB_s, List.getElem?_cons_zero, List.getElem?_cons_succ, List.drop_zero, List.drop_succ_cons, List.take_zero, List.take_succ_cons, allCells_cons, allCells_nil, cellV_int, cellV_bool, cellV_string, cellV_ptr, cellV_slice, cellV_map, cellV_func, cellV_nilFunc, cellV_tSl, Bool.and_self, Bool.and_true, Bool.true_and, and_self, true_and, and_true, Bool.false_eq_true, if_false, lrefs_nil, lrefs_cons, vrefs_bool, vrefs_int, vrefs_string, vrefs_ptr, vrefs_ptr0, vrefs_slice, vrefs_slice0, vrefs_map, vrefs_tSl, vrefs_tPtr, vrefs_agg, escOf_nil, Int.reduceEq, Int.reduceLT, Int.reduceLE, putCells_one0, putCells_succ, max_int, min_int, hn', hix, hld, zg_history_Op, zl_history_Op, za_history_Op, hxl, opk_cells, opk_refs, putCells_all, g0, g17, g18, fa_history_Op_0, fa_history_Op_2, fa_history_Op_3, ft_history_Op_2, ft_twainref34_Event_0, ln_ref, c1, c2, c3, c6, c7, hz3, hz4, hz5, ht, hixq, hkd, hw])
    (fun _ _ => ⟨_, by simp only [twainlaw36_HistoryOrder.loop6s, twainlaw36_HistoryOrder.loop6, Option.bind_some, Option.map_some, bcase_true, bcase_false, List.getD_cons_zero, List.getD_cons_succ, bin_add, bin_sub, bin_mul, bin_eql, bin_neq, bin_lss, bin_leq, bin_gtr, bin_geq, un_not, pick_bool, decide_true, decide_false, Bool.not_true, Bool.not_false, joinEsc_none, oneOf_one, ext20, ext21, ext30, ext31, ext32, if_true, box_lit, box_int, box_bool, box_slice, box_map, box_ptr, box_tSl, store_lit, store_int, store_bool, store_slice, store_map, store_ptr, store_tSl, load_one, load_agg, app_cons2, List.cons_append, List.nil_append, len_app, List.length_cons, List.length_nil, Nat.zero_add, Nat.add_zero, Nat.reduceAdd, Nat.reduceLeDiff, Nat.le_refl, cellAt_app0, cellAt_app, cellsAt_app0, cellsAt_app, storeL_own0, storeL_own, cellAt_z, cellAt_s, cellsAt_z, cellsAt_s, putB_z, putB_s, List.getElem?_cons_zero, List.getElem?_cons_succ, List.drop_zero, List.drop_succ_cons, List.take_zero, List.take_succ_cons, allCells_cons, allCells_nil, cellV_int, cellV_bool, cellV_string, cellV_ptr, cellV_slice, cellV_map, cellV_func, cellV_nilFunc, cellV_tSl, Bool.and_self, Bool.and_true, Bool.true_and, and_self, true_and, and_true, Bool.false_eq_true, if_false, lrefs_nil, lrefs_cons, vrefs_bool, vrefs_int, vrefs_string, vrefs_ptr, vrefs_ptr0, vrefs_slice, vrefs_slice0, vrefs_map, vrefs_tSl, vrefs_tPtr, vrefs_agg, escOf_nil, Int.reduceEq, Int.reduceLT, Int.reduceLE, putCells_one0, putCells_succ, max_int, min_int, hlast], rfl⟩)
    A.length 0 () _ _ (by omega) trivial (gc_nil (H := H) (vs := [tSl l.length (evR l), tSl l.length (evR l), tSl A.length (hopR A), tSl A.length (hopR A), .int .i64 A.length, .int .i64 0]) (by simp [evR_refs, hopR_refs]))
  rw [hr] at hlp
  exact hlp

theorem count_loop (hm : l.length < 60000) :
    loopG H.length (twainlaw36_HistoryOrder.loop13s (acall PP TT) loopG H.length) ([tSl l.length (evR l), .int .i64 0, .int .i64 0, tSl l.length (evR l), .int .i64 l.length, .int .i64 0], ⟨H, none⟩) = some (.exit 2, [tSl l.length (evR l), .int .i64 (cnt (kindB l 0) l.length), .int .i64 (cnt (kindB l 1) l.length)], ⟨H, none⟩) := by
  have hlast : ¬ ((l.length : Int) < (l.length : Int)) := Int.lt_irrefl _
  obtain ⟨r, hlp, hr⟩ := loop_r (n0 := H.length) (step := twainlaw36_HistoryOrder.loop13s (acall PP TT) loopG H.length) (len := l.length) (σ := Unit)
    (fun n _ => ([tSl l.length (evR l), .int .i64 (cnt (kindB l 0) n), .int .i64 (cnt (kindB l 1) n), tSl l.length (evR l), .int .i64 l.length, .int .i64 n], ⟨H, none⟩))
    (fun _ _ => True) (fun r => r = (.exit 2, [tSl l.length (evR l), .int .i64 (cnt (kindB l 0) l.length), .int .i64 (cnt (kindB l 1) l.length)], ⟨H, none⟩))
    (fun n _ hn _ => by
      obtain ⟨x, hx⟩ : ∃ x, l[n]? = some x := ⟨_, List.getElem?_eq_getElem hn⟩
      have hn' : ((n : Int) < (l.length : Int)) := by omega
      have hix := ix_ref hn
      have hld := fun st => ev_load hx st
      have hw := wrap_succ (n := n) (by omega)
      have f0 : (evc x)[0]? = some (.int .i64 x.kind) := by simp [evc]
      have hk0 : kindB l 0 n = decide (x.kind = 0) := by simp [kindB, hx]
      have hk1 : kindB l 1 n = decide (x.kind = 1) := by simp [kindB, hx]
      have b0 : cnt (kindB l 0) n ≤ n := openL_len _ n
      have b1 : cnt (kindB l 1) n ≤ n := openL_len _ n
      have w0 := wrap_succ (n := cnt (kindB l 0) n) (by omega)
      have w1 := wrap_succ (n := cnt (kindB l 1) n) (by omega)
      refine .inr ⟨[tSl l.length (evR l), .int .i64 (cnt (kindB l 0) (n + 1)), .int .i64 (cnt (kindB l 1) (n + 1)), tSl l.length (evR l), .int .i64 l.length, .int .i64 ((n + 1 : Nat) : Int)], ⟨H ++ [.cells (evc x) t_twainref34_Event true], none⟩, (), ?_, gc_clean (by simp [evR_refs]) rfl, trivial⟩
      rw [cnt_succ, cnt_succ, hk0, hk1]
      by_cases k0 : x.kind = 0
      · have k1 : ¬ x.kind = 1 := by omega
        simp only [twainlaw36_HistoryOrder.loop13s, twainlaw36_HistoryOrder.loop13, twainlaw36_HistoryOrder.j6, twainlaw36_HistoryOrder.j7, Option.bind_some, Option.map_some, bcase_true, bcase_false, List.getD_cons_zero, List.getD_cons_succ, bin_add, bin_sub, bin_mul, bin_eql, bin_neq, bin_lss, bin_leq, bin_gtr, bin_geq, un_not, pick_bool, decide_true, decide_false, Bool.not_true, Bool.not_false, joinEsc_none, oneOf_one, ext20, ext21, ext30, ext31, ext32, if_true, box_lit, box_int, box_bool, box_slice, box_map, box_ptr, box_tSl, store_lit, store_int, store_bool, store_slice, store_map, store_ptr, store_tSl, load_one, load_agg, app_cons2, List.cons_append, List.nil_append, len_app, List.length_cons, List.length_nil, Nat.zero_add, Nat.add_zero, Nat.reduceAdd, Nat.reduceLeDiff, Nat.le_refl, cellAt_app0, cellAt_app, cellsAt_app0, cellsAt_app, storeL_own0, storeL_own, cellAt_z, cellAt_s, cellsAt_z, cellsAt_s, putB_z, putB_s, List.getElem?_cons_zero, List.getElem?_cons_succ, List.drop_zero, List.drop_succ_cons, List.take_zero, List.take_succ_cons, allCells_cons, allCells_nil, cellV_int, cellV_bool, cellV_string, cellV_ptr, cellV_slice, cellV_map, cellV_func, cellV_nilFunc, cellV_tSl, Bool.and_self, Bool.and_true, Bool.true_and, and_self, true_and, and_true, Bool.false_eq_true, if_false, lrefs_nil, lrefs_cons, vrefs_bool, vrefs_int, vrefs_string, vrefs_ptr, vrefs_ptr0, vrefs_slice, vrefs_slice0, vrefs_map, vrefs_tSl, vrefs_tPtr, vrefs_agg, escOf_nil, Int.reduceEq, Int.reduceLT, Int.reduceLE, putCells_one0, putCells_succ, max_int, min_int, hn', hix, hld, zg_twainref34_Event, zl_twainref34_Event, za_twainref34_Event, evc_len, evc_cells, evc_refs, putCells_all, f0, fa_twainref34_Event_0, k0, hw, w0, show ¬ (0 : Int) = 1 by decide]
      · by_cases k1 : x.kind = 1
        · simp only [twainlaw36_HistoryOrder.loop13s, twainlaw36_HistoryOrder.loop13, twainlaw36_HistoryOrder.j6, twainlaw36_HistoryOrder.j7, Option.bind_some, Option.map_some, bcase_true, bcase_false, List.getD_cons_zero, List.getD_cons_succ, bin_add, bin_sub, bin_mul, bin_eql, bin_neq, bin_lss, bin_leq, bin_gtr, bin_geq, un_not, pick_bool, decide_true, decide_false, Bool.not_true, Bool.not_false, joinEsc_none, oneOf_one, ext20, ext21, ext30, ext31, ext32, if_true, box_lit, box_int, box_bool, box_slice, box_map, box_ptr, box_tSl, store_lit, store_int, store_bool, store_slice, store_map, store_ptr, store_tSl, load_one, load_agg, app_cons2, List.cons_append, List.nil_append, len_app, List.length_cons, List.length_nil, Nat.zero_add, Nat.add_zero, Nat.reduceAdd, Nat.reduceLeDiff, Nat.le_refl, cellAt_app0, cellAt_app, cellsAt_app0, cellsAt_app, storeL_own0, storeL_own, cellAt_z, cellAt_s, cellsAt_z, cellsAt_s, putB_z, putB_s, List.getElem?_cons_zero, List.getElem?_cons_succ, List.drop_zero, List.drop_succ_cons, List.take_zero, List.take_succ_cons, allCells_cons, allCells_nil, cellV_int, cellV_bool, cellV_string, cellV_ptr, cellV_slice, cellV_map, cellV_func, cellV_nilFunc, cellV_tSl, Bool.and_self, Bool.and_true, Bool.true_and, and_self, true_and, and_true, Bool.false_eq_true, if_false, lrefs_nil, lrefs_cons, vrefs_bool, vrefs_int, vrefs_string, vrefs_ptr, vrefs_ptr0, vrefs_slice, vrefs_slice0, vrefs_map, vrefs_tSl, vrefs_tPtr, vrefs_agg, escOf_nil, Int.reduceEq, Int.reduceLT, Int.reduceLE, putCells_one0, putCells_succ, max_int, min_int, hn', hix, hld, zg_twainref34_Event, zl_twainref34_Event, za_twainref34_Event, evc_len, evc_cells, evc_refs, putCells_all, f0, fa_twainref34_Event_0, k1, hw, w1, show ¬ (1 : Int) = 0 by decide]
        · simp only [twainlaw36_HistoryOrder.loop13s, twainlaw36_HistoryOrder.loop13, twainlaw36_HistoryOrder.j6, twainlaw36_HistoryOrder.j7, Option.bind_some, Option.map_some, bcase_true, bcase_false, List.getD_cons_zero, List.getD_cons_succ, bin_add, bin_sub, bin_mul, bin_eql, bin_neq, bin_lss, bin_leq, bin_gtr, bin_geq, un_not, pick_bool, decide_true, decide_false, Bool.not_true, Bool.not_false, joinEsc_none, oneOf_one, ext20, ext21, ext30, ext31, ext32, if_true, box_lit, box_int, box_bool, box_slice, box_map, box_ptr, box_tSl, store_lit, store_int, store_bool, store_slice, store_map, store_ptr, store_tSl, load_one, load_agg, app_cons2, List.cons_append, List.nil_append, len_app, List.length_cons, List.length_nil, Nat.zero_add, Nat.add_zero, Nat.reduceAdd, Nat.reduceLeDiff, Nat.le_refl, cellAt_app0, cellAt_app, cellsAt_app0, cellsAt_app, storeL_own0, storeL_own, cellAt_z, cellAt_s, cellsAt_z, cellsAt_s, putB_z, putB_s, List.getElem?_cons_zero, List.getElem?_cons_succ, List.drop_zero, List.drop_succ_cons, List.take_zero, List.take_succ_cons, allCells_cons, allCells_nil, cellV_int, cellV_bool, cellV_string, cellV_ptr, cellV_slice, cellV_map, cellV_func, cellV_nilFunc, cellV_tSl, Bool.and_self, Bool.and_true, Bool.true_and, and_self, true_and, and_true, Bool.false_eq_true, if_false, lrefs_nil, lrefs_cons, vrefs_bool, vrefs_int, vrefs_string, vrefs_ptr, vrefs_ptr0, vrefs_slice, vrefs_slice0, vrefs_map, vrefs_tSl, vrefs_tPtr, vrefs_agg, escOf_nil, Int.reduceEq, Int.reduceLT, Int.reduceLE, putCells_one0, putCells_succ, max_int, min_int, hn', hix, hld, zg_twainref34_Event, zl_twainref34_Event, za_twainref34_Event, evc_len, evc_cells, evc_refs, putCells_all, f0, fa_twainref34_Event_0, k0, k1, hw])
    (fun _ _ => ⟨_, by simp only [twainlaw36_HistoryOrder.loop13s, twainlaw36_HistoryOrder.loop13, Option.bind_some, Option.map_some, bcase_true, bcase_false, List.getD_cons_zero, List.getD_cons_succ, bin_add, bin_sub, bin_mul, bin_eql, bin_neq, bin_lss, bin_leq, bin_gtr, bin_geq, un_not, pick_bool, decide_true, decide_false, Bool.not_true, Bool.not_false, joinEsc_none, oneOf_one, ext20, ext21, ext30, ext31, ext32, if_true, box_lit, box_int, box_bool, box_slice, box_map, box_ptr, box_tSl, store_lit, store_int, store_bool, store_slice, store_map, store_ptr, store_tSl, load_one, load_agg, app_cons2, List.cons_append, List.nil_append, len_app, List.length_cons, List.length_nil, Nat.zero_add, Nat.add_zero, Nat.reduceAdd, Nat.reduceLeDiff, Nat.le_refl, cellAt_app0, cellAt_app, cellsAt_app0, cellsAt_app, storeL_own0, storeL_own, cellAt_z, cellAt_s, cellsAt_z, cellsAt_s, putB_z, putB_s, List.getElem?_cons_zero, List.getElem?_cons_succ, List.drop_zero, List.drop_succ_cons, List.take_zero, List.take_succ_cons, allCells_cons, allCells_nil, cellV_int, cellV_bool, cellV_string, cellV_ptr, cellV_slice, cellV_map, cellV_func, cellV_nilFunc, cellV_tSl, Bool.and_self, Bool.and_true, Bool.true_and, and_self, true_and, and_true, Bool.false_eq_true, if_false, lrefs_nil, lrefs_cons, vrefs_bool, vrefs_int, vrefs_string, vrefs_ptr, vrefs_ptr0, vrefs_slice, vrefs_slice0, vrefs_map, vrefs_tSl, vrefs_tPtr, vrefs_agg, escOf_nil, Int.reduceEq, Int.reduceLT, Int.reduceLE, putCells_one0, putCells_succ, max_int, min_int, hlast], rfl⟩)
    l.length 0 () [tSl l.length (evR l), .int .i64 0, .int .i64 0, tSl l.length (evR l), .int .i64 l.length, .int .i64 0] ⟨H, none⟩ (by omega) trivial (gc_nil (H := H) (by simp [evR_refs]))
  rw [hr] at hlp
  exact hlp

theorem order_law (hlT : EvTs l) (hm : l.length < 9223372036854775808) {at_ : Int} (hat : isI at_) : saysTrue (acall PP TT n_twainlaw36_HistoryOrder [tSl l.length (evR l), .int .i64 at_] []) = true := by
  rw [acall_eq, twainlaw36_HistoryOrder.eq]
  have hfw := fun H => few_ok l hm H
  cases hf : fewB l with
  | false =>
    simp only [twainlaw36_HistoryOrder.sh, hfw, hf, twainlaw36_lives.eq, Option.bind_some, Option.map_some, bcase_true, bcase_false, List.getD_cons_zero, List.getD_cons_succ, bin_add, bin_sub, bin_mul, bin_eql, bin_neq, bin_lss, bin_leq, bin_gtr, bin_geq, un_not, pick_bool, decide_true, decide_false, Bool.not_true, Bool.not_false, joinEsc_none, oneOf_one, ext20, ext21, ext30, ext31, ext32, if_true, box_lit, box_int, box_bool, box_slice, box_map, box_ptr, box_tSl, store_lit, store_int, store_bool, store_slice, store_map, store_ptr, store_tSl, load_one, load_agg, app_cons2, List.cons_append, List.nil_append, len_app, List.length_cons, List.length_nil, Nat.zero_add, Nat.add_zero, Nat.reduceAdd, Nat.reduceLeDiff, Nat.le_refl, cellAt_app0, cellAt_app, cellsAt_app0, cellsAt_app, storeL_own0, storeL_own, cellAt_z, cellAt_s, cellsAt_z, cellsAt_s, putB_z, putB_s, List.getElem?_cons_zero, List.getElem?_cons_succ, List.drop_zero, List.drop_succ_cons, List.take_zero, List.take_succ_cons, allCells_cons, allCells_nil, cellV_int, cellV_bool, cellV_string, cellV_ptr, cellV_slice, cellV_map, cellV_func, cellV_nilFunc, cellV_tSl, Bool.and_self, Bool.and_true, Bool.true_and, and_self, true_and, and_true, Bool.false_eq_true, if_false, lrefs_nil, lrefs_cons, vrefs_bool, vrefs_int, vrefs_string, vrefs_ptr, vrefs_ptr0, vrefs_slice, vrefs_slice0, vrefs_map, vrefs_tSl, vrefs_tPtr, vrefs_agg, escOf_nil, Int.reduceEq, Int.reduceLT, Int.reduceLE, putCells_one0, putCells_succ, max_int, min_int]
    rfl
  | true =>
    have hl := few_ok2 hlT hf
    have h100 := few_len hf
    have h6 : l.length < 60000 := Nat.lt_of_le_of_lt h100 (by decide)
    have h7 : l.length < 1000000 := Nat.lt_of_le_of_lt h100 (by decide)
    clear hm
    have hE : ∀ n, isI (endedI l n) := fun n => (endedI_isI h7 n).1
    obtain ⟨hok, hlen⟩ := opsL_ok (E := endedI l) hl h7 hE at_ l.length
    have h8 : (opsL (endedI l) l at_ l.length).length < 60000 := by omega
    have hq := fun H => qops_ok hl h6 hat H
    simp only [ops_eq] at hq
    obtain ⟨ho1, ho2⟩ := opsL_hop (l := l) h7 at_ l.length
    have hod := fun H => odd_ok hl h7 H
    have hop := fun H => open_ok hl h6 H
    have hlo : ∀ st, aLen PP t_L_int (tSl (openL (pOpenB l) l.length).length (ints (openL (pOpenB l) l.length))) st = some (.int .i64 (openL (pOpenB l) l.length).length) := fun st => tsl_len u_L_int
    have hloop := order_loop (H := []) h6 hok h8 (fun x hx => (ho1 x hx).1) ho2
    have hcl := count_loop (l := l) (H := []) h6
    simp only [List.length_nil] at hloop hcl
    cases hodd : (pairS l l.length).odd with
    | true =>
      simp only [twainlaw36_HistoryOrder.sh, twainlaw36_HistoryOrder.j4, twainlaw36_HistoryOrder.j9, hfw, hf, twainlaw36_lives.eq, Option.bind_some, Option.map_some, bcase_true, bcase_false, List.getD_cons_zero, List.getD_cons_succ, bin_add, bin_sub, bin_mul, bin_eql, bin_neq, bin_lss, bin_leq, bin_gtr, bin_geq, un_not, pick_bool, decide_true, decide_false, Bool.not_true, Bool.not_false, joinEsc_none, oneOf_one, ext20, ext21, ext30, ext31, ext32, if_true, box_lit, box_int, box_bool, box_slice, box_map, box_ptr, box_tSl, store_lit, store_int, store_bool, store_slice, store_map, store_ptr, store_tSl, load_one, load_agg, app_cons2, List.cons_append, List.nil_append, len_app, List.length_cons, List.length_nil, Nat.zero_add, Nat.add_zero, Nat.reduceAdd, Nat.reduceLeDiff, Nat.le_refl, cellAt_app0, cellAt_app, cellsAt_app0, cellsAt_app, storeL_own0, storeL_own, cellAt_z, cellAt_s, cellsAt_z, cellsAt_s, putB_z, putB_s, List.getElem?_cons_zero, List.getElem?_cons_succ, List.drop_zero, List.drop_succ_cons, List.take_zero, List.take_succ_cons, allCells_cons, allCells_nil, cellV_int, cellV_bool, cellV_string, cellV_ptr, cellV_slice, cellV_map, cellV_func, cellV_nilFunc, cellV_tSl, Bool.and_self, Bool.and_true, Bool.true_and, and_self, true_and, and_true, Bool.false_eq_true, if_false, lrefs_nil, lrefs_cons, vrefs_bool, vrefs_int, vrefs_string, vrefs_ptr, vrefs_ptr0, vrefs_slice, vrefs_slice0, vrefs_map, vrefs_tSl, vrefs_tPtr, vrefs_agg, escOf_nil, Int.reduceEq, Int.reduceLT, Int.reduceLE, putCells_one0, putCells_succ, max_int, min_int, raw_ok (l := l) h6, hq, ln_pop, ln_ref, hloop, hcl, hod, hodd]
      rfl
    | false =>
      have hc := counts hl l.length (Nat.le_refl _) hodd
      rw [← open_cnt] at hc
      have b0 : cnt (kindB l 0) l.length ≤ l.length := openL_len _ _
      have b1 : cnt (kindB l 1) l.length ≤ l.length := openL_len _ _
      have hsub : IntKind.i64.wrap ((cnt (kindB l 0) l.length : Int) - (cnt (kindB l 1) l.length : Int)) = ((openL (pOpenB l) l.length).length : Int) := by
        rw [wrap_in ⟨by omega, by omega⟩]; omega
      simp only [twainlaw36_HistoryOrder.sh, twainlaw36_HistoryOrder.j4, twainlaw36_HistoryOrder.j9, hfw, hf, twainlaw36_lives.eq, Option.bind_some, Option.map_some, bcase_true, bcase_false, List.getD_cons_zero, List.getD_cons_succ, bin_add, bin_sub, bin_mul, bin_eql, bin_neq, bin_lss, bin_leq, bin_gtr, bin_geq, un_not, pick_bool, decide_true, decide_false, Bool.not_true, Bool.not_false, joinEsc_none, oneOf_one, ext20, ext21, ext30, ext31, ext32, if_true, box_lit, box_int, box_bool, box_slice, box_map, box_ptr, box_tSl, store_lit, store_int, store_bool, store_slice, store_map, store_ptr, store_tSl, load_one, load_agg, app_cons2, List.cons_append, List.nil_append, len_app, List.length_cons, List.length_nil, Nat.zero_add, Nat.add_zero, Nat.reduceAdd, Nat.reduceLeDiff, Nat.le_refl, cellAt_app0, cellAt_app, cellsAt_app0, cellsAt_app, storeL_own0, storeL_own, cellAt_z, cellAt_s, cellsAt_z, cellsAt_s, putB_z, putB_s, List.getElem?_cons_zero, List.getElem?_cons_succ, List.drop_zero, List.drop_succ_cons, List.take_zero, List.take_succ_cons, allCells_cons, allCells_nil, cellV_int, cellV_bool, cellV_string, cellV_ptr, cellV_slice, cellV_map, cellV_func, cellV_nilFunc, cellV_tSl, Bool.and_self, Bool.and_true, Bool.true_and, and_self, true_and, and_true, Bool.false_eq_true, if_false, lrefs_nil, lrefs_cons, vrefs_bool, vrefs_int, vrefs_string, vrefs_ptr, vrefs_ptr0, vrefs_slice, vrefs_slice0, vrefs_map, vrefs_tSl, vrefs_tPtr, vrefs_agg, escOf_nil, Int.reduceEq, Int.reduceLT, Int.reduceLE, putCells_one0, putCells_succ, max_int, min_int, raw_ok (l := l) h6, hq, ln_pop, ln_ref, hloop, hcl, hod, hodd, hop, hlo, hsub]
      rfl

end
end Go.Proofs.Ytfinilnkempofaa
