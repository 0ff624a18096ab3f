/- A part of the proof: RegProg. Its conditions: none. -/
import Derived.Test.YtfinilnkempofaaRegSearch
set_option linter.all false
set_option linter.unusedVariables false
set_option linter.unusedSimpArgs false
set_option linter.unnecessarySimpa false
namespace Go.Proofs.Ytfinilnkempofaa
open Go Go.Am Go.Reg

/-- sets of bits, as a row's cells -/
def sets (l : List Nat) : List Value := l.map fun (n : Nat) => .int .u64 (n : Int)
/-- a state's cells -/
def stc (d : Nat) (u : List Value) : List Value := .int .u64 (d : Int) :: u

theorem stc_cells {d : Nat} {u : List Value} (hu : TOk PP t_api_Sector u) : allCells (stc d u) = true ∧ lrefs (stc d u) = [] ∧ (stc d u).length = 17 ∧ (stc d u).all noSl = true := by
  obtain ⟨u1, u2, qu_int⟩ := sec_cells hu
  exact ⟨by simp [stc, u1], by simp [stc, u2], by simp [stc, sec_len hu], by simp [stc, qu_int, noSl]⟩

attribute [local simp] box_agg load_one load_agg store_agg cellAt_app cellAt_app0 cellsAt_app cellsAt_app0 storeL_app storeL_app0 newBlk_app newBlk_bare newPtr_def un_not bcase_if
  bin_add bin_sub bin_mul bin_eql bin_neq bin_lss bin_leq bin_gtr bin_geq pick_bool fin_flat fin_flat' flatV noSl oneOf_one joinEsc_none escOf_nil storeL cellAt cellsAt
  qfa_twainref36_Op_0 qfa_twainref36_Op_1 qfa_twainref36_Op_2 qfa_twainref36_Op_3 qfa_history_Op_0 qfa_history_Op_1 qfa_history_Op_2 qfa_history_Op_3 qfa_register_hunt_0 qfa_register_hunt_1 qfa_register_hunt_2 qfa_register_hunt_3 qfa_register_state_0 qfa_register_state_1 qzg_twainref36_Op qzg_history_Op qzg_api_Sector qza_twainref36_Op qza_history_Op qza_api_Sector qzl_twainref36_Op qzl_history_Op qzl_api_Sector

/-- the hunt as it lies in memory: what no call changes -/
structure Hu (H : List Blk) (hb ab mb : Nat) (v av : Value) (M : Nat) (A : List Nat) : Prop where
  hunt : H[hb]? = some (.cells [v, .int .u64 (M : Int), av, .map (some mb)] t_register_hunt true)
  rd : Rd H av A.length (sets A)
  refs : ∀ r ∈ vrefs av, r = ab
  m : M < 2 ^ 64
  a : ∀ x ∈ A, x < 2 ^ 64

/-- may an op come next? -/
def mayB (A : List Nat) (d i : Nat) : Bool := !d.testBit i && decide (lessBits (A.getD i 0) d = 0)

theorem may_ok {H : List Blk} {hb ab mb M : Nat} {v av : Value} {A : List Nat} (h : Hu H hb ab mb v av M A) {d : Nat} {u : List Value} (hd : d < 2 ^ 64) (hu : TOk PP t_api_Sector u) {i : Nat} (hi : i < A.length) (hi64 : i < 64) :
    acall PP TT n_P_register_hunt_may [.pointer (some ⟨hb, 0, none⟩), .agg (stc d u).toArray, .int .i64 i] H = some (.bool (mayB A d i), H, none) := by
  obtain ⟨s1, s2, s3, s4⟩ := stc_cells (d := d) hu
  have hlt := lt_of_get h.hunt
  have hget : ∀ L : List Blk, (H ++ L)[hb]? = some (.cells [v, .int .u64 (M : Int), av, .map (some mb)] t_register_hunt true) := fun L => by rw [List.getElem?_append_left hlt]; exact h.hunt
  have hix := h.rd.index (P := PP) qu_L_uint64 qsz_uint64 (k := .i64) (i := (i : Int)) (by omega) (by omega)
  simp at hix
  have ha := h.a A[i] (List.getElem_mem hi)
  have hld : ∀ L : List Blk, aLoad false 1 ⟨H ++ L, none⟩ (rdPtr av i) = some (.int .u64 (A[i] : Int)) := fun L => (h.rd.app (l := L)).load1 (by omega) (off := i) (by simp [sets, hi]) none
  have hb1 : (1 : Nat) < 2 ^ 64 := by decide
  have hsr : d >>> i < 2 ^ 64 := Nat.lt_of_le_of_lt (Nat.shiftRight_le _ _) hd
  have hand : aBin PP .and t_uint64 (.tmp 10) (.const (.int .u64 1)) (.int .u64 ((d >>> i : Nat) : Int)) (.int .u64 1) = some (.int .u64 ((d >>> i &&& 1 : Nat) : Int)) := bin_and (y := 1) hsr hb1
  have hln := bin_andNot (P := PP) (t := t_uint64) (ox := .tmp 20) (oy := .tmp 22) ha hd
  have hbit : (d >>> i &&& 1) = 0 ↔ d.testBit i = false := by
    rw [Nat.testBit_eq_decide_div_mod_eq, Nat.shiftRight_eq_div_pow, Nat.and_one_is_mod, decide_eq_false_iff_not]
    generalize d / 2 ^ i = z
    omega
  have hbit2 : decide (((d >>> i &&& 1 : Nat) : Int) = 0) = !d.testBit i := by
    rw [Bool.eq_iff_iff]
    simp only [decide_eq_true_eq, Bool.not_eq_true']
    rw [← hbit]
    exact Int.natCast_eq_zero
  have hll : decide (((lessBits A[i] d : Nat) : Int) = 0) = decide (lessBits A[i] d = 0) := by
    rw [Bool.eq_iff_iff]
    simp only [decide_eq_true_eq]
    exact Int.natCast_eq_zero
  rw [acall_eq, P_register_hunt_may.eq]
  simp only [P_register_hunt_may.sh, box_agg s1, Option.bind_some, qfa_register_state_0, load_one, cellAt_app0]
  have hc0 : cellAt [Blk.cells (stc d u) t_register_state true] 0 0 = some (.int .u64 (d : Int)) := rfl
  simp only [hc0, Option.bind_some, bin_shr hi64, hand, bin_eql, hbit2]
  cases hb : d.testBit i with
  | true => simp [mayB, hb]
  | false =>
    simp only [Bool.not_false, bcase_true, aNil, Option.bind_some, qfa_register_hunt_2, load_one, cellAt, hget]
    simp [hix, hld, hln, stc, hll, mayB, hb, List.getD, hi]

theorem op_load40 {H : List Blk} {v : Value} {l : List (Rw (List Value))} (hr : Rd H v l.length (opsC l)) (hl : OkOps l) {i : Nat} {x : Rw (List Value)} (hx : l[i]? = some x) (e : Option Nat) :
    aLoad true 19 ⟨H, e⟩ (rdPtr v (i * 19)) = some (.agg (opc x).toArray) := op_load hr hl hx e

open Classical in
/-- a read that may come, and tells what the sector has -/
theorem read_ok {H : List Blk} {hb ab mb M : Nat} {v av : Value} {A : List Nat} (h : Hu H hb ab mb v av M A) {l : List (Rw (List Value))} (hv : vrefs v = []) (hl : OkOps l) (hm : l.length ≤ 60) (hA : A.length = l.length) (hrd : ∀ H, Rd H v l.length (opsC l))
    {d : Nat} {u : List Value} (hd : d < 2 ^ 64) (hu : TOk PP t_api_Sector u) :
    ∃ (i : Nat) (b : Bool), acall PP TT n_P_register_hunt_read [.pointer (some ⟨hb, 0, none⟩), .agg (stc d u).toArray] H = some (.tuple #[.int .i64 i, .bool b], H, none) ∧
      (b = true → ∃ x, l[i]? = some x ∧ x.w = false ∧ x.v = u ∧ mayB A d i = true) ∧ (b = false → ∀ i x, l[i]? = some x → x.w = false → x.v = u → mayB A d i = false) := by
  obtain ⟨s1, s2, s3, s4⟩ := stc_cells (d := d) hu
  have un := sec_len hu
  have hlt := lt_of_get h.hunt
  have hget : ∀ L : List Blk, (H ++ L)[hb]? = some (.cells [v, .int .u64 (M : Int), av, .map (some mb)] t_register_hunt true) := fun L => by rw [List.getElem?_append_left hlt]; exact h.hunt
  have hgc : ∀ (i : Int) (L : List Blk), gc H.length [.pointer (some ⟨hb, 0, none⟩), .pointer (some ⟨H.length, 0, none⟩), v, .int .i64 l.length, .int .i64 i] ⟨H ++ (.cells (stc d u) t_register_state true :: L), none⟩ =
      ([.pointer (some ⟨hb, 0, none⟩), .pointer (some ⟨H.length, 0, none⟩), v, .int .i64 l.length, .int .i64 i], ⟨H ++ [.cells (stc d u) t_register_state true], none⟩) := fun i L =>
    gc_one (by intro r hr; simp [hv] at hr; omega) (by simp) s2 (by simp [hv])
  have hst1 : (stc d u).drop 1 = u := rfl
  have htu : u.take 16 = u := List.take_of_length_le (by omega)
  have hts : (stc d u).take 17 = stc d u := List.take_of_length_le (by omega)
  have hcx : (stc d u).tail.take 16 = u := htu
  obtain ⟨r, h1, h2⟩ := loop_rule (n0 := H.length) (step := P_register_hunt_read.loop2s (acall PP TT) loopG H.length) (len := l.length) (fun i (_ : Unit) => ([.pointer (some ⟨hb, 0, none⟩), .pointer (some ⟨H.length, 0, none⟩), v, .int .i64 l.length, .int .i64 i], ⟨H ++ [.cells (stc d u) t_register_state true], none⟩))
    (fun i _ => ∀ (k : Nat) (x : Rw (List Value)), k < i → l[k]? = some x → x.w = false → x.v = u → mayB A d k = false)
    (fun r => (∃ (G : List Blk) (i : Nat) (x : Rw (List Value)), r = (.ret, [.int .i64 i, .bool true], ⟨H ++ G, none⟩) ∧ l[i]? = some x ∧ x.w = false ∧ x.v = u ∧ mayB A d i = true) ∨
      (r = (.exit 0, [unk, unk], ⟨H ++ [.cells (stc d u) t_register_state true], none⟩) ∧ ∀ (k : Nat) (x : Rw (List Value)), l[k]? = some x → x.w = false → x.v = u → mayB A d k = false))
    (fun i _ hi hok => by
      have hi' : ((i : Int) < (l.length : Int)) := by omega
      obtain ⟨x, hx⟩ : ∃ x, l[i]? = some x := ⟨_, List.getElem?_eq_getElem hi⟩
      have hxo := hl x (List.mem_of_getElem? hx)
      obtain ⟨c1, c2, c3⟩ := opc_cells hxo
      have cn := opc_len hxo
      have xn := sec_len hxo.v
      have htx : x.v.take 16 = x.v := List.take_of_length_le (by omega)
      have hix := (hrd H).index (P := PP) qu_L_history_Op qsz_history_Op (k := .i64) (i := (i : Int)) (by omega) hi'
      simp at hix
      have hld := fun (L : List Blk) => op_load40 (hrd (H ++ L)) hl hx none
      have hw' : IntKind.i64.wrap ((i : Int) + 1) = ((i + 1 : Nat) : Int) := by rw [i64_wrap (by omega)]; omega
      have hu2 : Hu (H ++ [Blk.cells (stc d u) t_register_state true, Blk.cells (opc x) t_history_Op true]) hb ab mb v av M A := ⟨hget _, h.rd.app, h.refs, h.m, h.a⟩
      have hmay := may_ok hu2 hd hu (i := i) (by omega) (by omega)
      have hb0 : ∀ hh, (opc x)[0]'hh = .bool x.w := fun _ => rfl
      have hbv : (opc x).tail.take 16 = x.v := by simp [opc, xn]
      have hbl : 1 + 16 ≤ (opc x).length := by omega
      by_cases hgood : x.w = false ∧ x.v = u ∧ mayB A d i = true
      · obtain ⟨g1, g2, g3⟩ := hgood
        refine .inl ⟨(.ret, [.int .i64 i, .bool true], ⟨H ++ [Blk.cells (stc d u) t_register_state true, Blk.cells (opc x) t_history_Op true], none⟩), ?_, .inl ⟨_, i, x, rfl, hx, g1, g2, g3⟩⟩
        simp [P_register_hunt_read.loop2s, P_register_hunt_read.loop2, P_register_hunt_read.j1, P_register_hunt_read.j2, hi', hix, hld, c1, putCells_all, cn, c2, hb0, hbv, g1, g2, s3, hcx, hts, bin_eql_flat qflat_api_Sector hu hu, hmay, g3]
      · refine .inr ⟨([.pointer (some ⟨hb, 0, none⟩), .pointer (some ⟨H.length, 0, none⟩), v, .int .i64 l.length, .int .i64 ((i + 1 : Nat) : Int)], ⟨H ++ [Blk.cells (stc d u) t_register_state true, Blk.cells (opc x) t_history_Op true], none⟩), (), ?_, hgc _ _, fun k y hk hy hw hv => ?_⟩
        · cases g1 : x.w with
          | true => simp [P_register_hunt_read.loop2s, P_register_hunt_read.loop2, P_register_hunt_read.j1, P_register_hunt_read.j2, hi', hix, hld, c1, putCells_all, cn, c2, hb0, g1, hw']
          | false =>
            by_cases g2 : x.v = u
            · have g3 : mayB A d i = false := by cases hmb : mayB A d i <;> simp_all
              simp [P_register_hunt_read.loop2s, P_register_hunt_read.loop2, P_register_hunt_read.j1, P_register_hunt_read.j2, hi', hix, hld, c1, putCells_all, cn, c2, hb0, hbv, g1, g2, s3, hcx, hts, bin_eql_flat qflat_api_Sector hu hu, hmay, g3, hw']
            · simp [P_register_hunt_read.loop2s, P_register_hunt_read.loop2, P_register_hunt_read.j1, P_register_hunt_read.j2, hi', hix, hld, c1, putCells_all, cn, c2, hb0, hbv, g1, s3, hcx, hts, bin_eql_flat qflat_api_Sector hxo.v hu, g2, hw']
        · by_cases hki : k = i
          · subst hki
            rw [hx] at hy; simp at hy; subst hy
            cases hmb : mayB A d k <;> simp_all
          · exact hok k y (by omega) hy hw hv)
    (fun _ hok => ⟨(.exit 0, [unk, unk], ⟨H ++ [.cells (stc d u) t_register_state true], none⟩), by simp [P_register_hunt_read.loop2s, P_register_hunt_read.loop2], .inr ⟨rfl, fun k x hx => hok k x (lt_of_get hx) hx⟩⟩)
    l.length 0 () ([.pointer (some ⟨hb, 0, none⟩), .pointer (some ⟨H.length, 0, none⟩), v, .int .i64 l.length, .int .i64 0], ⟨H ++ [.cells (stc d u) t_register_state true], none⟩) (by omega) (fun k x hk => by omega) (by simpa using hgc 0 [])
  have hlen := fun (L : List Blk) (st : AS) => (hrd (H ++ L)).len (P := PP) qu_L_history_Op st
  rw [acall_eq, P_register_hunt_read.eq]
  rcases h2 with ⟨G, i, x, rfl, hx, g1, g2, g3⟩ | ⟨rfl, hall⟩
  · refine ⟨i, true, ?_, fun _ => ⟨x, hx, g1, g2, g3⟩, by simp⟩
    simp [P_register_hunt_read.sh, s1, aNil, hget, hlen [], h1, oneOf]
  · refine ⟨0, false, ?_, by simp, fun _ => hall⟩
    simp [P_register_hunt_read.sh, s1, aNil, hget, hlen [], h1, P_register_hunt_read.j4, oneOf]

end Go.Proofs.Ytfinilnkempofaa
