/- A part of the proof: RegProg, RegRow, RegFits, RegFind, RegFrom. Its conditions: none. -/
import Derived.Test.YtfinilnkempofaaRegPure
set_option linter.all false
set_option linter.unusedVariables false
set_option linter.unusedSimpArgs false
set_option linter.unnecessarySimpa false
section
namespace Go.Proofs.Ytfinilnkempofaa
open Go Go.Am Go.Reg

/-- sets of bits, as a row's cells -/
def sets (l : List Nat) : List Value := l.map fun (n : Nat) => .int .u64 (n : Int)
/-- a state's cells -/
def stc (d : Nat) (u : List Value) : List Value := .int .u64 (d : Int) :: u

theorem y346 {d : Nat} {u : List Value} (hu : TOk PP y1 u) : q16 (stc d u) = true ∧ lrefs (stc d u) = [] ∧ (stc d u).length = 17 ∧ (stc d u).all noSl = true := by
  obtain ⟨u1, u2, q320⟩ := q100 hu
  exact ⟨by simp [stc, u1], by simp [stc, u2], by simp [stc, y112 hu], by simp [stc, q320, noSl]⟩

attribute [local simp] y56 y55 q61 q54 y185 y164 q150 q107 y167 y94 q213 y189 y236 q187 y193
  q108 y321 q203 q204 q169 q65 bin_leq q223 y153 y256 q271 fin_flat' flatV noSl q252 q42 y247 q71 y76 q35
  q59 q58 q104 y104 q64 q97 q99 q73 y86 y51 q103 q72 y42 q75 y38 q63 y117 q38 q62 y118 q50 y127 q130

/-- the hunt as it lies in memory: what no call changes -/
structure Hu (H : List Blk) (hb ab mb : Nat) (v av : Value) (M : Nat) (A : List Nat) : Prop where
  hunt : H[hb]? = some (.cells [v, .int .u64 (M : Int), av, .map (some mb)] y10 true)
  rd : Rd H av A.length (sets A)
  refs : ∀ r ∈ vrefs av, r = ab
  m : M < 2 ^ 64
  a : ∀ x ∈ A, x < 2 ^ 64

/-- may an op come next? -/
def mayB (A : List Nat) (d i : Nat) : Bool := !d.testBit i && decide (y149 (A.getD i 0) d = 0)

theorem may_ok {H : List Blk} {hb ab mb M : Nat} {v av : Value} {A : List Nat} (h : Hu H hb ab mb v av M A) {d : Nat} {u : List Value} (hd : d < 2 ^ 64) (hu : TOk PP y1 u) {i : Nat} (hi : i < A.length) (hi64 : i < 64) :
    acall PP TT q78 [.pointer (some ⟨hb, 0, none⟩), .agg (stc d u).toArray, .int .i64 i] H = some (.bool (mayB A d i), H, none) := by
  obtain ⟨s1, s2, s3, s4⟩ := y346 (d := d) hu
  have hlt := q12 h.hunt
  have hget : ∀ L : List Blk, (H ++ L)[hb]? = some (.cells [v, .int .u64 (M : Int), av, .map (some mb)] y10 true) := fun L => by rw [List.getElem?_append_left hlt]; exact h.hunt
  have hix := h.rd.index (P := PP) q259 y310 (k := .i64) (i := (i : Int)) (by omega) (by omega)
  simp at hix
  have ha := h.a A[i] (List.getElem_mem hi)
  have hld : ∀ L : List Blk, aLoad false 1 ⟨H ++ L, none⟩ (rdPtr av i) = some (.int .u64 (A[i] : Int)) := fun L => (h.rd.app (l := L)).load1 (by omega) (off := i) (by simp [sets, hi]) none
  have hb1 : (1 : Nat) < 2 ^ 64 := by decide
  have hsr : d >>> i < 2 ^ 64 := Nat.lt_of_le_of_lt (Nat.shiftRight_le _ _) hd
  have hand : aBin PP .and y37 (.tmp 10) (.const (.int .u64 1)) (.int .u64 ((d >>> i : Nat) : Int)) (.int .u64 1) = some (.int .u64 ((d >>> i &&& 1 : Nat) : Int)) := bin_and (y := 1) hsr hb1
  have hln := y365 (P := PP) (t := y37) (ox := .tmp 20) (oy := .tmp 22) ha hd
  have hbit : (d >>> i &&& 1) = 0 ↔ d.testBit i = false := by
    rw [Nat.testBit_eq_decide_div_mod_eq, Nat.shiftRight_eq_div_pow, Nat.and_one_is_mod, decide_eq_false_iff_not]
    generalize d / 2 ^ i = z
    omega
  have hbit2 : decide (((d >>> i &&& 1 : Nat) : Int) = 0) = !d.testBit i := by
    rw [Bool.eq_iff_iff]
    simp only [decide_eq_true_eq, Bool.not_eq_true']
    rw [← hbit]
    exact Int.natCast_eq_zero
  have hll : decide (((y149 A[i] d : Nat) : Int) = 0) = decide (y149 A[i] d = 0) := by
    rw [Bool.eq_iff_iff]
    simp only [decide_eq_true_eq]
    exact Int.natCast_eq_zero
  rw [y22, P_register_hunt_may.eq]
  simp only [P_register_hunt_may.sh, y56 s1, Option.bind_some, y42, y55, y164]
  have hc0 : y76 [Blk.cells (stc d u) y6 true] 0 0 = some (.int .u64 (d : Int)) := rfl
  simp only [hc0, Option.bind_some, bin_shr hi64, hand, q204, hbit2]
  cases hb : d.testBit i with
  | true => simp [mayB, hb]
  | false =>
    simp only [Bool.not_false, y23, aNil, Option.bind_some, q103, y55, y76, hget]
    simp [hix, hld, hln, stc, hll, mayB, hb, List.getD, hi]

theorem q282 {H : List Blk} {v : Value} {l : List (Rw (List Value))} (hr : Rd H v l.length (opsC l)) (hl : OkOps l) {i : Nat} {x : Rw (List Value)} (hx : l[i]? = some x) (e : Option Nat) :
    aLoad true 19 ⟨H, e⟩ (rdPtr v (i * 19)) = some (.agg (opc x).toArray) := y289 hr hl hx e

open Classical in
/-- a read that may come, and tells what the sector has -/
theorem read_ok {H : List Blk} {hb ab mb M : Nat} {v av : Value} {A : List Nat} (h : Hu H hb ab mb v av M A) {l : List (Rw (List Value))} (hv : vrefs v = []) (hl : OkOps l) (hm : l.length ≤ 60) (hA : A.length = l.length) (hrd : ∀ H, Rd H v l.length (opsC l))
    {d : Nat} {u : List Value} (hd : d < 2 ^ 64) (hu : TOk PP y1 u) :
    ∃ (i : Nat) (b : Bool), acall PP TT q84 [.pointer (some ⟨hb, 0, none⟩), .agg (stc d u).toArray] H = some (.tuple #[.int .i64 i, .bool b], H, none) ∧
      (b = true → ∃ x, l[i]? = some x ∧ x.w = false ∧ x.v = u ∧ mayB A d i = true) ∧ (b = false → ∀ i x, l[i]? = some x → x.w = false → x.v = u → mayB A d i = false) := by
  obtain ⟨s1, s2, s3, s4⟩ := y346 (d := d) hu
  have un := y112 hu
  have hlt := q12 h.hunt
  have hget : ∀ L : List Blk, (H ++ L)[hb]? = some (.cells [v, .int .u64 (M : Int), av, .map (some mb)] y10 true) := fun L => by rw [List.getElem?_append_left hlt]; exact h.hunt
  have hgc : ∀ (i : Int) (L : List Blk), gc H.length [.pointer (some ⟨hb, 0, none⟩), .pointer (some ⟨H.length, 0, none⟩), v, .int .i64 l.length, .int .i64 i] ⟨H ++ (.cells (stc d u) y6 true :: L), none⟩ =
      ([.pointer (some ⟨hb, 0, none⟩), .pointer (some ⟨H.length, 0, none⟩), v, .int .i64 l.length, .int .i64 i], ⟨H ++ [.cells (stc d u) y6 true], none⟩) := fun i L =>
    gc_one (by intro r hr; simp [hv] at hr; omega) (by simp) s2 (by simp [hv])
  have hst1 : (stc d u).drop 1 = u := rfl
  have htu : u.take 16 = u := List.take_of_length_le (by omega)
  have hts : (stc d u).take 17 = stc d u := List.take_of_length_le (by omega)
  have hcx : (stc d u).tail.take 16 = u := htu
  obtain ⟨r, h1, h2⟩ := q142 (n0 := H.length) (step := P_register_hunt_read.loop2s (acall PP TT) loopG H.length) (len := l.length) (fun i (_ : Unit) => ([.pointer (some ⟨hb, 0, none⟩), .pointer (some ⟨H.length, 0, none⟩), v, .int .i64 l.length, .int .i64 i], ⟨H ++ [.cells (stc d u) y6 true], none⟩))
    (fun i _ => ∀ (k : Nat) (x : Rw (List Value)), k < i → l[k]? = some x → x.w = false → x.v = u → mayB A d k = false)
    (fun r => (∃ (G : List Blk) (i : Nat) (x : Rw (List Value)), r = (.ret, [.int .i64 i, .bool true], ⟨H ++ G, none⟩) ∧ l[i]? = some x ∧ x.w = false ∧ x.v = u ∧ mayB A d i = true) ∨
      (r = (.exit 0, [unk, unk], ⟨H ++ [.cells (stc d u) y6 true], none⟩) ∧ ∀ (k : Nat) (x : Rw (List Value)), l[k]? = some x → x.w = false → x.v = u → mayB A d k = false))
    (fun i _ hi hok => by
      have hi' : ((i : Int) < (l.length : Int)) := by omega
      obtain ⟨x, hx⟩ : ∃ x, l[i]? = some x := ⟨_, List.getElem?_eq_getElem hi⟩
      have hxo := hl x (List.mem_of_getElem? hx)
      obtain ⟨c1, c2, c3⟩ := q87 hxo
      have cn := y171 hxo
      have xn := y112 hxo.v
      have htx : x.v.take 16 = x.v := List.take_of_length_le (by omega)
      have hix := (hrd H).index (P := PP) q57 y89 (k := .i64) (i := (i : Int)) (by omega) hi'
      simp at hix
      have hld := fun (L : List Blk) => q282 (hrd (H ++ L)) hl hx none
      have hw' : IntKind.i64.wrap ((i : Int) + 1) = ((i + 1 : Nat) : Int) := by rw [y150 (by omega)]; omega
      have hu2 : Hu (H ++ [Blk.cells (stc d u) y6 true, Blk.cells (opc x) y4 true]) hb ab mb v av M A := ⟨hget _, h.rd.app, h.refs, h.m, h.a⟩
      have hmay := may_ok hu2 hd hu (i := i) (by omega) (by omega)
      have hb0 : ∀ hh, (opc x)[0]'hh = .bool x.w := fun _ => rfl
      have hbv : (opc x).tail.take 16 = x.v := by simp [opc, xn]
      have hbl : 1 + 16 ≤ (opc x).length := by omega
      by_cases hgood : x.w = false ∧ x.v = u ∧ mayB A d i = true
      · obtain ⟨g1, g2, g3⟩ := hgood
        refine .inl ⟨(.ret, [.int .i64 i, .bool true], ⟨H ++ [Blk.cells (stc d u) y6 true, Blk.cells (opc x) y4 true], none⟩), ?_, .inl ⟨_, i, x, rfl, hx, g1, g2, g3⟩⟩
        simp [P_register_hunt_read.loop2s, P_register_hunt_read.loop2, P_register_hunt_read.j1, P_register_hunt_read.j2, hi', hix, hld, c1, q9, cn, c2, hb0, hbv, g1, g2, s3, hcx, hts, q193 qflat_api_Sector hu hu, hmay, g3]
      · refine .inr ⟨([.pointer (some ⟨hb, 0, none⟩), .pointer (some ⟨H.length, 0, none⟩), v, .int .i64 l.length, .int .i64 ((i + 1 : Nat) : Int)], ⟨H ++ [Blk.cells (stc d u) y6 true, Blk.cells (opc x) y4 true], none⟩), (), ?_, hgc _ _, fun k y hk hy hw hv => ?_⟩
        · cases g1 : x.w with
          | true => simp [P_register_hunt_read.loop2s, P_register_hunt_read.loop2, P_register_hunt_read.j1, P_register_hunt_read.j2, hi', hix, hld, c1, q9, cn, c2, hb0, g1, hw']
          | false =>
            by_cases g2 : x.v = u
            · have g3 : mayB A d i = false := by cases hmb : mayB A d i <;> simp_all
              simp [P_register_hunt_read.loop2s, P_register_hunt_read.loop2, P_register_hunt_read.j1, P_register_hunt_read.j2, hi', hix, hld, c1, q9, cn, c2, hb0, hbv, g1, g2, s3, hcx, hts, q193 qflat_api_Sector hu hu, hmay, g3, hw']
            · simp [P_register_hunt_read.loop2s, P_register_hunt_read.loop2, P_register_hunt_read.j1, P_register_hunt_read.j2, hi', hix, hld, c1, q9, cn, c2, hb0, hbv, g1, s3, hcx, hts, q193 qflat_api_Sector hxo.v hu, g2, hw']
        · by_cases hki : k = i
          · subst hki
            rw [hx] at hy; simp at hy; subst hy
            cases hmb : mayB A d k <;> simp_all
          · exact hok k y (by omega) hy hw hv)
    (fun _ hok => ⟨(.exit 0, [unk, unk], ⟨H ++ [.cells (stc d u) y6 true], none⟩), by simp [P_register_hunt_read.loop2s, P_register_hunt_read.loop2], .inr ⟨rfl, fun k x hx => hok k x (q12 hx) hx⟩⟩)
    l.length 0 () ([.pointer (some ⟨hb, 0, none⟩), .pointer (some ⟨H.length, 0, none⟩), v, .int .i64 l.length, .int .i64 0], ⟨H ++ [.cells (stc d u) y6 true], none⟩) (by omega) (fun k x hk => by omega) (by simpa using hgc 0 [])
  have hlen := fun (L : List Blk) (st : AS) => (hrd (H ++ L)).len (P := PP) q57 st
  rw [y22, P_register_hunt_read.eq]
  rcases h2 with ⟨G, i, x, rfl, hx, g1, g2, g3⟩ | ⟨rfl, hall⟩
  · refine ⟨i, true, ?_, fun _ => ⟨x, hx, g1, g2, g3⟩, by simp⟩
    simp [P_register_hunt_read.sh, s1, aNil, hget, hlen [], h1, oneOf]
  · refine ⟨0, false, ?_, by simp, fun _ => hall⟩
    simp [P_register_hunt_read.sh, s1, aNil, hget, hlen [], h1, P_register_hunt_read.j4, oneOf]

end Go.Proofs.Ytfinilnkempofaa

end
section
namespace Go.Proofs.Ytfinilnkempofaa
open Go Go.Am Go.Reg

theorem q198 : y131 PP y4 = some 40 := by kernel_rfl
theorem q161 : zeroP PP y4 = some (.agg qz_history_Op.toArray) := by kernel_rfl

theorem opc_ex {x : Rw (List Value)} (h : OkRw x) : ∃ a0 a1 a2 a3 a4 a5 a6 a7 a8 a9 a10 a11 a12 a13 a14 a15, x.v = [a0, a1, a2, a3, a4, a5, a6, a7, a8, a9, a10, a11, a12, a13, a14, a15] := by
  have := y112 h.v
  match hv : x.v, this with
  | [a0, a1, a2, a3, a4, a5, a6, a7, a8, a9, a10, a11, a12, a13, a14, a15], _ => exact ⟨a0, a1, a2, a3, a4, a5, a6, a7, a8, a9, a10, a11, a12, a13, a14, a15, rfl⟩

/-- a row of one op, as it is written -/
theorem bsl26_1 {x : Rw (List Value)} (h : OkRw x) (H : List Blk) (e : Option Nat) : bsl PP y9 1 [0] [.agg (opc x).toArray] ⟨H, e⟩ = some (.slice (some ⟨H.length, 0, none⟩) 1 1, ⟨H ++ [.cells (opc x) y4 true], e⟩) := by
  obtain ⟨c1, c2, c3⟩ := q87 h
  unfold bsl
  have hfl : ([.agg (opc x).toArray] : List Value).all flatV = true := by simp [flatV, c3]
  simp only [q126 0 8 [.agg (opc x).toArray] H hfl]
  unfold q112
  simp only [q57, y89, q161]
  rw [if_pos ⟨by decide, by decide, by kernel_rfl, by simp [Value.cells, c1], by kernel_rfl, by kernel_rfl⟩]
  obtain ⟨a0, a1, a2, a3, a4, a5, a6, a7, a8, a9, a10, a11, a12, a13, a14, a15, hv⟩ := opc_ex h
  obtain ⟨w, v, f, t⟩ := x
  simp only at hv
  subst hv
  clear c1 c2 c3 hfl h
  refine Eq.trans (b := some (aRow y4 [.bool w, a0, a1, a2, a3, a4, a5, a6, a7, a8, a9, a10, a11, a12, a13, a14, a15, .int .i64 f, .int .i64 t] 1 1 ⟨H, e⟩)) ?_ rfl
  kernel_rfl

theorem opsC_cells {A : List (Rw (List Value))} (hA : OkOps A) : (opsC A).all cellV = true ∧ (opsC A).all noSl = true := by
  induction A with
  | nil => exact ⟨rfl, rfl⟩
  | cons x A ih =>
    obtain ⟨h1, h2⟩ := ih (fun y hy => hA y (by simp [hy]))
    obtain ⟨c1, c2, c3⟩ := q87 (hA x (by simp))
    unfold q16 at c1
    simp only [opsC, List.map_cons, List.flatten_cons, List.all_append] at h1 h2 ⊢
    simp [h1, h2, c1, c3]

theorem opsC_snoc (A : List (Rw (List Value))) (x : Rw (List Value)) : opsC (A ++ [x]) = opsC A ++ opc x := by simp [opsC]
theorem OkOps.snoc {A : List (Rw (List Value))} {x : Rw (List Value)} (hA : OkOps A) (hx : OkRw x) : OkOps (A ++ [x]) := fun y hy => by
  rcases List.mem_append.1 hy with h | h
  · exact hA y h
  · simp at h; subst h; exact hx

/-- a row of ops, a call's own -/
def RowO (n0 : Nat) (H : List Blk) (rv : Value) (A : List (Rw (List Value))) : Prop :=
  (rv = .slice none 0 0 ∧ A = []) ∨ ∃ b cap, n0 ≤ b ∧ rv = .slice (some ⟨b, 0, none⟩) A.length cap ∧ (cap = UNK ∨ cap = A.length) ∧ H[b]? = some (.cells (opsC A) y4 true)

/-- one op more -/
theorem app26 {H : List Blk} {e : Option Nat} {rv y : Value} {A : List (Rw (List Value))} {x : Rw (List Value)} {n0 : Nat} (hav : RowO n0 H rv A) (hA : OkOps A) (hx : OkRw x)
    (hy : Rd H y 1 (opc x)) (hm : A.length < 1000) :
    ∃ H2 : List Blk, (∀ (R : Type) (k : Value → AS → Option R), y16 PP .append #[y9, y9] [rv, y] ⟨H, e⟩ k = k (.slice (some ⟨H.length, 0, none⟩) (A.length + 1) UNK) ⟨H2 ++ [Blk.cells (opsC (A ++ [x])) y4 true], e⟩) ∧ H2.length = H.length ∧
      ∀ j : Nat, H2[j]? = H[j]? ∨ (n0 ≤ j ∧ ∃ cs, H[j]? = some (Blk.cells cs y4 true)) := by
  obtain ⟨c1, c2, c3⟩ := q87 hx
  have cn := y171 hx
  unfold q16 at c1
  have hs := hy.src (size := 19) (by simp [cn]) c1
  have hsz : (Value.agg qz_history_Op.toArray).cells.size = 19 := by kernel_rfl
  rcases hav with ⟨rfl, rfl⟩ | ⟨b, cap, hb, rfl, hcap, hg⟩
  · refine ⟨H, fun R k => ?_, rfl, fun j => .inl rfl⟩
    simp only [y16, y143, q57, y89, q198, q161, Option.getD_some, hs, hsz]
    simp [aRow, q79, opsC]
  · have h1 : (A.length + 1) * 40 ≤ 140737488355328 := by omega
    have hl := y309 hA
    have h2 : (opsC A).take (A.length * 19) = opsC A := List.take_of_length_le (by omega)
    by_cases hu : cap = UNK
    · subst hu
      refine ⟨H.set b .dead, fun R k => ?_, by simp, fun j => ?_⟩
      · simp only [y16, y143, q57, y89, q198, q161, Option.getD_some, hs, hsz]
        simp [h1, hg, aRow, q79, h2, opsC_snoc, hl]
      · by_cases hj : b = j
        · subst hj; exact .inr ⟨hb, _, hg⟩
        · exact .inl (List.getElem?_set_ne hj)
    · have hcl : cap = A.length := by rcases hcap with h | h; exact absurd h hu; exact h
      refine ⟨H, fun R k => ?_, rfl, fun j => .inl rfl⟩
      have hca : q35 H b 0 (A.length * 19) = some (opsC A) := by simp [q35, hg, h2, hl]
      have hnl : ¬ A.length + 1 ≤ A.length := by omega
      subst hcl
      simp only [y16, y143, q57, y89, q198, q161, Option.getD_some, hs, hsz]
      simp [h1, hu, hca, aRow, q79, opsC_snoc]
      rw [if_neg hnl]
      rfl

/-- a row of ops becomes a value of its own -/
theorem frz_row40 {n0 b c q : Nat} {H : List Blk} {A : List (Rw (List Value))} (hA : OkOps A) (hb : H[b]? = some (.cells (opsC A) y4 true)) (hn : n0 ≤ b) :
    frz PP n0 (q + 1) (.slice (some ⟨b, 0, none⟩) A.length c) H = (tSl A.length (opsC A), H.set b .dead) := by
  have hl := y309 hA
  have h1 : 0 + A.length * 19 ≤ (opsC A).length := by omega
  have h2 : (opsC A).take (A.length * 19) = opsC A := List.take_of_length_le (by omega)
  simp only [frz, hb, y89]
  rw [if_pos ⟨hn, h1⟩]
  simp only [List.drop_zero, h2]
  rw [y219 _ _ _ _ (opsC_cells hA).2]

theorem q302 {n0 : Nat} {st : AS} : y166 (fin PP false n0 [.bool true] st) = true := by
  unfold fin q151
  simp only [Bool.false_eq_true, if_false, frzL, y107 n0 8 (.bool true) st.H rfl]
  rw [q324 _ _ _ rfl]
  rfl

end Go.Proofs.Ytfinilnkempofaa

end
section
namespace Go.Proofs.Ytfinilnkempofaa
open Go Go.Am Go.Reg

/-- from a place in the row on, all stands right -/
def y243 (l : List (Rw (List Value))) (row : List Int) : Nat → List Value → List Int → Prop
  | _, _, [] => True
  | i, u, n :: rs => ∃ x, 0 ≤ n ∧ l[n.toNat]? = some x ∧ y34 row n 0 = (i : Int) ∧ (x.w = false → x.v = u) ∧
      (∀ (k : Nat) y, l[k]? = some y → y159 y x = true → 0 ≤ y34 row (k : Int) 0 ∧ y34 row (k : Int) 0 ≤ (i : Int)) ∧ y243 l row (i + 1) (if x.w = true then x.v else u) rs

/-- what stands of the blocks that were there, and the blocks of one's own -/
structure FSt (H0 H : List Blk) : Prop where
  pre : ∀ j, j < H0.length → H[j]? = H0[j]?
  len : H0.length ≤ H.length

theorem FSt.refl (H0 : List Blk) : FSt H0 H0 := ⟨fun _ _ => rfl, Nat.le_refl _⟩
theorem FSt.app {H0 H : List Blk} (h : FSt H0 H) (L : List Blk) : FSt H0 (H ++ L) := ⟨fun j hj => by rw [List.getElem?_append_left (by have := h.len; omega)]; exact h.pre j hj, by have := h.len; simp; omega⟩
theorem FSt.set {H0 H : List Blk} (h : FSt H0 H) {b : Nat} (hb : H0.length ≤ b) (x : Blk) : FSt H0 (H.set b x) := ⟨fun j hj => by rw [List.getElem?_set_ne (by omega)]; exact h.pre j hj, by have := h.len; simpa using this⟩
theorem FSt.gc {H0 : List Blk} {st : AS} (h : FSt H0 st.H) (vs : List Value) : FSt H0 (Am.gc H0.length vs st).2.H := by
  obtain ⟨_, _, g2, _, g4⟩ := q275 H0.length vs st
  exact ⟨fun j hj => by rw [(g2 j hj).2]; exact h.pre j hj, g4 h.len⟩

section
variable {l : List (Rw (List Value))} {row : List Int}

theorem nums_lrefs (r : List Int) : lrefs (nums r) = [] := q143 r

/-- all that end ahead of an op stand ahead of it -/
theorem y361 (hl : OkOps l) (hm : l.length < 2 ^ 62) (hrm : row.length < 2 ^ 62) {H0 : List Blk} {u : List Value} {x : Rw (List Value)} (hx : OkRw x) (hu : TOk PP y1 u) {i p xb : Nat} {st : AS} (hst : FSt H0 st.H) (hp : H0.length ≤ p) (hpg : st.H[p]? = some (.cells u y1 true)) (hxb : H0.length ≤ xb) (hxg : st.H[xb]? = some (.cells (opc x) y2 true)) :
    ∃ r, loopG H0.length (twainref37_Fits.loop13s (acall PP TT) loopG H0.length) ([tSl l.length (opsC l), tSl row.length (nums row), .pointer (some ⟨p, 0, none⟩), .int .i64 i, .pointer (some ⟨xb, 0, none⟩), tSl row.length (nums row), .int .i64 row.length, .int .i64 i, tSl l.length (opsC l), .int .i64 l.length, .int .i64 0], st) = some r ∧
      ((∃ (t : Value) (st : AS), r = (.ret, [tSl l.length (opsC l), tSl row.length (nums row), .bool false, t, tSl row.length (nums row), .int .i64 row.length, .int .i64 i], st) ∧ FSt H0 st.H ∧ ∃ (k : Nat) (y : _), l[k]? = some y ∧ y159 y x = true ∧ ¬ (0 ≤ y34 row (k : Int) 0 ∧ y34 row (k : Int) 0 ≤ (i : Int))) ∨
       (∃ (p : Nat) (st : AS), r = (.exit 2, [tSl l.length (opsC l), tSl row.length (nums row), unk, .pointer (some ⟨p, 0, none⟩), tSl row.length (nums row), .int .i64 row.length, .int .i64 i], st) ∧ FSt H0 st.H ∧ H0.length ≤ p ∧ st.H[p]? = some (.cells u y1 true) ∧ ∀ (k : Nat) y, l[k]? = some y → y159 y x = true → 0 ≤ y34 row (k : Int) 0 ∧ y34 row (k : Int) 0 ≤ (i : Int))) := by
  obtain ⟨u1, u2, q320⟩ := q100 hu
  obtain ⟨x1, x2, x3⟩ := q87 hx
  have xn := y171 hx
  have hlr := q136 hl
  have hvl : vrefs (tSl l.length (opsC l)) = [] := by simp [hlr]
  have hvr : vrefs (tSl row.length (nums row)) = [] := by simp [q143]
  have hvs : ∀ σ, vren σ (tSl l.length (opsC l)) = tSl l.length (opsC l) := fun σ => q138 _ (fun b hb => by rw [hvl] at hb; simp at hb)
  have hvt : ∀ σ, vren σ (tSl row.length (nums row)) = tSl row.length (nums row) := fun σ => q138 _ (fun b hb => by rw [hvr] at hb; simp at hb)
  refine y264 (len := l.length) (fun k X => ∃ (p xb : Nat) (st : AS), X = ([tSl l.length (opsC l), tSl row.length (nums row), .pointer (some ⟨p, 0, none⟩), .int .i64 i, .pointer (some ⟨xb, 0, none⟩), tSl row.length (nums row), .int .i64 row.length, .int .i64 i, tSl l.length (opsC l), .int .i64 l.length, .int .i64 k], st) ∧
      FSt H0 st.H ∧ H0.length ≤ p ∧ st.H[p]? = some (.cells u y1 true) ∧ H0.length ≤ xb ∧ st.H[xb]? = some (.cells (opc x) y2 true) ∧ ∀ (q : Nat) y, q < k → l[q]? = some y → y159 y x = true → 0 ≤ y34 row (q : Int) 0 ∧ y34 row (q : Int) 0 ≤ (i : Int)) _ ?_ ?_ ?_ l.length 0 _ (by omega)
      ⟨p, xb, st, rfl, hst, hp, hpg, hxb, hxg, fun q y hq => by omega⟩
  · rintro k X ⟨p, xb, st, rfl, h1, h2, h3, h4, h5, h6⟩
    have hrefs : lrefs [tSl l.length (opsC l), tSl row.length (nums row), .pointer (some ⟨p, 0, none⟩), .int .i64 i, .pointer (some ⟨xb, 0, none⟩), tSl row.length (nums row), .int .i64 row.length, .int .i64 i, tSl l.length (opsC l), .int .i64 l.length, .int .i64 k] = [p, xb] := by simp [hlr, q143]
    obtain ⟨σ, g1, g2, g3⟩ := gc_flat H0.length [tSl l.length (opsC l), tSl row.length (nums row), .pointer (some ⟨p, 0, none⟩), .int .i64 i, .pointer (some ⟨xb, 0, none⟩), tSl row.length (nums row), .int .i64 row.length, .int .i64 i, tSl l.length (opsC l), .int .i64 l.length, .int .i64 k] st (fun r hr => by
      rw [hrefs] at hr
      simp at hr
      rcases hr with rfl | rfl
      · exact ⟨_, _, _, h3, u2⟩
      · exact ⟨_, _, _, h5, x2⟩)
    rw [hrefs] at g3
    obtain ⟨a1, a2⟩ := g3 p (by simp)
    obtain ⟨b1, b2⟩ := g3 xb (by simp)
    refine ⟨σ p, σ xb, _, Prod.ext ?_ rfl, h1.gc _, a1 h2, a2 _ h3, b1 h4, b2 _ h5, h6⟩
    rw [g1]
    simp [lren, hvs, hvt, vren]
  · rintro k X hk ⟨p, xb, ⟨H, e⟩, rfl, h1, h2, h3, h4, h5, h6⟩
    simp only at h1 h3 h5
    obtain ⟨y, hy⟩ : ∃ y, l[k]? = some y := ⟨_, List.getElem?_eq_getElem hk⟩
    have hyo := hl y (List.mem_of_getElem? hy)
    obtain ⟨c1, c2, c3⟩ := q87 hyo
    have cn := y171 hyo
    have hk' : ((k : Int) < (l.length : Int)) := by omega
    have hrd : Rd H (tSl l.length (opsC l)) l.length (opsC l) := .tree _ _
    have hix := hrd.index (P := PP) y40 y87 (k := .i64) (i := (k : Int)) (by omega) hk'
    simp at hix
    have hld := y289 hrd hl hy e
    have hstb : q71 ⟨H ++ [Blk.cells qz_twainref36_Op y2 true], e⟩ H.length 0 (opc y) = some ⟨H ++ [Blk.cells (opc y) y2 true], e⟩ := by
      rw [y94]
      simp [q71, cn, q50, c1, q9, c2, escOf]
    have hl2 : q35 (H ++ [Blk.cells (opc y) y2 true]) H.length 0 19 = some (opc y) := by
      rw [q107]; simp [q35, cn, y268 hyo]
    have hl3 : q35 (H ++ [Blk.cells (opc y) y2 true]) xb 0 19 = some (opc x) := by
      simp only [q35, List.getElem?_append_left (q12 h5), h5]
      simp [xn, y268 hx]
    have hw' : IntKind.i64.wrap ((k : Int) + 1) = ((k + 1 : Nat) : Int) := by rw [y150 (by omega)]; omega
    have hpl := y270 (H := H ++ [Blk.cells (opc y) y2 true]) (v := tSl row.length (nums row)) (l := row) (.tree _ _) (by rw [hvr]; simp) hrm (k : Int)
    have hah := q344 hyo hx (H ++ [Blk.cells (opc y) y2 true])
    by_cases hg : y159 y x = true ∧ ¬ (0 ≤ y34 row (k : Int) 0 ∧ y34 row (k : Int) 0 ≤ (i : Int))
    · refine .inl ⟨_, ?_, .inl ⟨.pointer (some ⟨p, 0, none⟩), ⟨H ++ [Blk.cells (opc y) y2 true], e⟩, rfl, h1.app _, k, y, hy, hg.1, hg.2⟩⟩
      by_cases hneg : y34 row (k : Int) 0 < 0
      · simp only [twainref37_Fits.loop13s, twainref37_Fits.loop13, List.getD_cons_zero, List.getD_cons_succ, q65, Option.bind_some, hk', decide_true, y23, hix, hld, y38, y56 q38, q54 cn, hstb, hpl, q42, q61, hl2, hl3, Option.map_some, hah, hg.1, hneg, twainref37_Fits.j7]
      · have hgt : (i : Int) < y34 row (k : Int) 0 := by omega
        simp only [twainref37_Fits.loop13s, twainref37_Fits.loop13, List.getD_cons_zero, List.getD_cons_succ, q65, Option.bind_some, hk', decide_true, y23, hix, hld, y38, y56 q38, q54 cn, hstb, hpl, q42, q61, hl2, hl3, Option.map_some, hah, hg.1, hneg, decide_false, q23, q223, hgt, twainref37_Fits.j7]
    · refine .inr ⟨_, ?_, p, xb, ⟨H ++ [Blk.cells (opc y) y2 true], e⟩, rfl, h1.app _, h2, by rw [List.getElem?_append_left (q12 h3)]; exact h3, h4, by rw [List.getElem?_append_left (q12 h5)]; exact h5, fun q z hq hz hza => ?_⟩
      · cases hab : y159 y x with
        | false => simp only [twainref37_Fits.loop13s, twainref37_Fits.loop13, List.getD_cons_zero, List.getD_cons_succ, q65, Option.bind_some, hk', decide_true, y23, hix, hld, y38, y56 q38, q54 cn, hstb, hpl, q42, q61, hl2, hl3, Option.map_some, hah, hab, q23, twainref37_Fits.j7, twainref37_Fits.j8, q108, hw']
        | true =>
          have hpp : 0 ≤ y34 row (k : Int) 0 ∧ y34 row (k : Int) 0 ≤ (i : Int) := Classical.byContradiction fun hc => hg ⟨hab, hc⟩
          have hneg : ¬ y34 row (k : Int) 0 < 0 := by omega
          have hgt : ¬ (i : Int) < y34 row (k : Int) 0 := by omega
          simp only [twainref37_Fits.loop13s, twainref37_Fits.loop13, List.getD_cons_zero, List.getD_cons_succ, q65, Option.bind_some, hk', decide_true, y23, hix, hld, y38, y56 q38, q54 cn, hstb, hpl, q42, q61, hl2, hl3, Option.map_some, hah, hab, hneg, decide_false, q23, q223, hgt, twainref37_Fits.j7, twainref37_Fits.j8, q108, hw']
      · by_cases hqk : q = k
        · subst hqk
          rw [hy] at hz; simp at hz; subst hz
          exact Classical.byContradiction fun hc => hg ⟨hza, hc⟩
        · exact h6 q z (by omega) hz hza
  · rintro X ⟨p, xb, st, rfl, h1, h2, h3, h4, h5, h6⟩
    refine ⟨_, ?_, .inr ⟨p, st, rfl, h1, h2, h3, fun k y hy ha => h6 k y (q12 hy) hy ha⟩⟩
    simp [twainref37_Fits.loop13s, twainref37_Fits.loop13, q65, y193]

theorem opc_v {x : Rw (List Value)} (h : OkRw x) : ((opc x).drop 1).take 16 = x.v := by
  have := y112 h.v
  simp only [opc, List.drop_succ_cons, List.drop_zero]
  rw [List.take_append_of_le_length (by omega), List.take_of_length_le (by omega)]

theorem fits_step {i m : Nat} {v : List Value} {rs : List Int} {x : Rw (List Value)} (hx : l[m]? = some x) (hpi : y34 row (m : Int) 0 = (i : Int)) :
    y243 l row i v ((m : Int) :: rs) ↔ (x.w = false → x.v = v) ∧ (∀ (k : Nat) y, l[k]? = some y → y159 y x = true → 0 ≤ y34 row (k : Int) 0 ∧ y34 row (k : Int) 0 ≤ (i : Int)) ∧ y243 l row (i + 1) (if x.w = true then x.v else v) rs := by
  simp only [y243]
  constructor
  · rintro ⟨x', _, h1, _, h2, h3, h4⟩
    have : x' = x := by rw [Int.toNat_natCast, hx] at h1; simpa using h1.symm
    subst this
    exact ⟨h2, h3, h4⟩
  · rintro ⟨h2, h3, h4⟩
    exact ⟨x, Int.natCast_nonneg m, by rw [Int.toNat_natCast]; exact hx, hpi, h2, h3, h4⟩

open Classical in
/-- the row, place by place -/
theorem fits_outer (hl : OkOps l) (hm : l.length < 2 ^ 62) (hrm : row.length < 2 ^ 62) {H0 : List Blk} {u : List Value} (hu : TOk PP y1 u) {p : Nat} {st : AS} (hst : FSt H0 st.H) (hp : H0.length ≤ p) (hpg : st.H[p]? = some (.cells u y1 true)) :
    ∃ r, loopG H0.length (twainref37_Fits.loop3s (acall PP TT) loopG H0.length) ([tSl l.length (opsC l), tSl row.length (nums row), .pointer (some ⟨p, 0, none⟩), tSl row.length (nums row), .int .i64 row.length, .int .i64 0], st) = some r ∧
      ((∃ st : AS, r = (.ret, [tSl l.length (opsC l), tSl row.length (nums row), .bool false], st) ∧ FSt H0 st.H ∧ ¬ y243 l row 0 u row) ∨
       (∃ st : AS, r = (.exit 0, [tSl l.length (opsC l), tSl row.length (nums row), unk], st) ∧ FSt H0 st.H ∧ y243 l row 0 u row)) := by
  have hlr := q136 hl
  have hvl : vrefs (tSl l.length (opsC l)) = [] := by simp [hlr]
  have hvr : vrefs (tSl row.length (nums row)) = [] := by simp [q143]
  have hvs : ∀ σ, vren σ (tSl l.length (opsC l)) = tSl l.length (opsC l) := fun σ => q138 _ (fun b hb => by rw [hvl] at hb; simp at hb)
  have hvt : ∀ σ, vren σ (tSl row.length (nums row)) = tSl row.length (nums row) := fun σ => q138 _ (fun b hb => by rw [hvr] at hb; simp at hb)
  refine y264 (len := row.length) (fun i X => ∃ (p : Nat) (v : List Value) (st : AS), X = ([tSl l.length (opsC l), tSl row.length (nums row), .pointer (some ⟨p, 0, none⟩), tSl row.length (nums row), .int .i64 row.length, .int .i64 i], st) ∧
      FSt H0 st.H ∧ H0.length ≤ p ∧ st.H[p]? = some (.cells v y1 true) ∧ TOk PP y1 v ∧ (y243 l row 0 u row ↔ y243 l row i v (row.drop i))) _ ?_ ?_ ?_ row.length 0 _ (by omega)
      ⟨p, u, st, rfl, hst, hp, hpg, hu, Iff.rfl⟩
  · rintro k X ⟨p, v, st, rfl, h1, h2, h3, h4, h5⟩
    have hrefs : lrefs [tSl l.length (opsC l), tSl row.length (nums row), .pointer (some ⟨p, 0, none⟩), tSl row.length (nums row), .int .i64 row.length, .int .i64 k] = [p] := by simp [hlr, q143]
    obtain ⟨σ, g1, g2, g3⟩ := gc_flat H0.length [tSl l.length (opsC l), tSl row.length (nums row), .pointer (some ⟨p, 0, none⟩), tSl row.length (nums row), .int .i64 row.length, .int .i64 k] st (fun r hr => by
      rw [hrefs] at hr
      simp at hr
      subst hr
      exact ⟨_, _, _, h3, (q100 h4).2.1⟩)
    rw [hrefs] at g3
    obtain ⟨a1, a2⟩ := g3 p (by simp)
    refine ⟨σ p, v, _, Prod.ext ?_ rfl, h1.gc _, a1 h2, a2 _ h3, h4, h5⟩
    rw [g1]
    simp [lren, hvs, hvt, vren]
  · rintro i X hi ⟨p, v, ⟨H, e⟩, rfl, h1, h2, h3, h4, h5⟩
    simp only at h1 h3
    obtain ⟨v1, v2, v3⟩ := q100 h4
    have vn := y112 h4
    have hi' : ((i : Int) < (row.length : Int)) := by omega
    have hrr : Rd H (tSl row.length (nums row)) row.length (nums row) := .tree _ _
    have hix := hrr.index (P := PP) q180 q236 (k := .i64) (i := (i : Int)) (by omega) hi'
    have hld := hrr.load1 (by omega) (off := i) (x := .int .i64 row[i]) (by simp [nums, hi]) e
    simp at hix
    have hw' : IntKind.i64.wrap ((i : Int) + 1) = ((i + 1 : Nat) : Int) := by rw [y150 (by omega)]; omega
    have hdr : row.drop i = row[i] :: row.drop (i + 1) := List.drop_eq_getElem_cons hi
    rw [hdr] at h5
    generalize hn : row[i] = n at hld h5 hdr
    have hll := fun st => (Rd.tree (H := []) l.length (opsC l)).len (P := PP) y40 st
    have hpl := y270 (H := H) (v := tSl row.length (nums row)) (l := row) (.tree _ _) (by rw [hvr]; simp) hrm n
    -- the way out
    have bad : ¬ y243 l row i v (n :: row.drop (i + 1)) → twainref37_Fits.loop3s (acall PP TT) loopG H0.length ([tSl l.length (opsC l), tSl row.length (nums row), .pointer (some ⟨p, 0, none⟩), tSl row.length (nums row), .int .i64 row.length, .int .i64 i], ⟨H, e⟩) = some (.inr (.ret, [tSl l.length (opsC l), tSl row.length (nums row), .bool false], ⟨H, e⟩)) →
        ∃ r, twainref37_Fits.loop3s (acall PP TT) loopG H0.length ([tSl l.length (opsC l), tSl row.length (nums row), .pointer (some ⟨p, 0, none⟩), tSl row.length (nums row), .int .i64 row.length, .int .i64 i], ⟨H, e⟩) = some (.inr r) ∧ ((∃ st : AS, r = (.ret, [tSl l.length (opsC l), tSl row.length (nums row), .bool false], st) ∧ FSt H0 st.H ∧ ¬ y243 l row 0 u row) ∨
       (∃ st : AS, r = (.exit 0, [tSl l.length (opsC l), tSl row.length (nums row), unk], st) ∧ FSt H0 st.H ∧ y243 l row 0 u row)) :=
      fun hb hr => ⟨_, hr, .inl ⟨_, rfl, h1, fun hc => hb (h5.1 hc)⟩⟩
    by_cases hneg : n < 0
    · refine .inl (bad (fun ⟨x, h0, _⟩ => by omega) ?_)
      simp only [twainref37_Fits.loop3s, twainref37_Fits.loop3, List.getD_cons_zero, List.getD_cons_succ, q65, Option.bind_some, hi', decide_true, y23, hix, hld, hneg, twainref37_Fits.j1]
    by_cases hge : (l.length : Int) ≤ n
    · refine .inl (bad (fun ⟨x, h0, hx, _⟩ => by have := q12 hx; omega) ?_)
      simp only [twainref37_Fits.loop3s, twainref37_Fits.loop3, List.getD_cons_zero, List.getD_cons_succ, q65, Option.bind_some, hi', decide_true, y23, hix, hld, hneg, decide_false, q23, hll, y153, hge, twainref37_Fits.j1]
    by_cases hpi : y34 row n 0 = (i : Int)
    case neg =>
      refine .inl (bad (fun ⟨x, h0, hx, hq, _⟩ => hpi hq) ?_)
      simp only [twainref37_Fits.loop3s, twainref37_Fits.loop3, List.getD_cons_zero, List.getD_cons_succ, q65, Option.bind_some, hi', decide_true, y23, hix, hld, hneg, decide_false, q23, hll, y153, hge, hpl, q169, hpi, Bool.not_false, q42, twainref37_Fits.j1]
    obtain ⟨m, rfl⟩ : ∃ m : Nat, n = (m : Int) := ⟨n.toNat, by omega⟩
    obtain ⟨x, hx⟩ : ∃ x, l[m]? = some x := ⟨_, List.getElem?_eq_getElem (by omega)⟩
    have hxo := hl x (List.mem_of_getElem? hx)
    obtain ⟨c1, c2, c3⟩ := q87 hxo
    have cn := y171 hxo
    have hm' : ((m : Int) < (l.length : Int)) := by omega
    have hrd : Rd H (tSl l.length (opsC l)) l.length (opsC l) := .tree _ _
    have hixm := hrd.index (P := PP) y40 y87 (k := .i64) (i := (m : Int)) (by omega) hm'
    simp at hixm
    have hldm := y289 hrd hl hx e
    have hstb : q71 ⟨H ++ [Blk.cells qz_twainref36_Op y2 true], e⟩ H.length 0 (opc x) = some ⟨H ++ [Blk.cells (opc x) y2 true], e⟩ := by
      rw [y94]
      simp [q71, cn, q50, c1, q9, c2, escOf]
    have hxg : (H ++ [Blk.cells (opc x) y2 true])[H.length]? = some (.cells (opc x) y2 true) := by rw [q101]; rfl
    have hpg1 : (H ++ [Blk.cells (opc x) y2 true])[p]? = some (.cells v y1 true) := by rw [List.getElem?_append_left (q12 h3)]; exact h3
    have hpx : p ≠ H.length := by have := q12 h3; omega
    have hx0 : ∀ H' : List Blk, H'[H.length]? = some (.cells (opc x) y2 true) → y76 H' H.length 0 = some (.bool x.w) := fun H' h => by simp [y76, h, opc]
    have hxv : ∀ H' : List Blk, H'[H.length]? = some (.cells (opc x) y2 true) → q35 H' H.length 1 16 = some x.v := fun H' h => by
      simp only [q35, h]
      rw [if_pos (by omega), opc_v hxo]
    have htv : v.take 16 = v := List.take_of_length_le (by omega)
    have hlp : q35 (H ++ [Blk.cells (opc x) y2 true]) p 0 16 = some v := by simp [q35, hpg1, vn, htv]
    have hneq := y122 (ox := .tmp 48) (oy := .tmp 49) qflat_api_Sector hxo.v h4
    have hstep := fits_step (row := row) (v := v) (rs := row.drop (i + 1)) hx hpi
    cases hw : x.w with
    | false =>
      have hx0' := hx0 _ hxg
      rw [hw] at hx0'
      by_cases hval : x.v = v
      case neg =>
        refine .inl ⟨_, ?_, .inl ⟨⟨H ++ [Blk.cells (opc x) y2 true], e⟩, rfl, h1.app _, fun hc => hval ((hstep.1 (h5.1 hc)).1 hw)⟩⟩
        simp only [twainref37_Fits.loop3s, twainref37_Fits.loop3, List.getD_cons_zero, List.getD_cons_succ, q65, Option.bind_some, hi', decide_true, y23, hix, hld, hneg, decide_false, q23, hll, y153, hge, hpl, q169, hpi, Bool.not_true, q42, twainref37_Fits.j1, twainref37_Fits.j2, hixm, hldm, y38, y56 q38, q54 cn, hstb, q59, y55, hx0', q187, Bool.not_false, q58, q61, hxv _ hxg, hlp, Option.map_some, hneq, hval, twainref37_Fits.j3]
      have hneq' : aBin PP .neq y1 (.tmp 48) (.tmp 49) (.agg x.v.toArray) (.agg v.toArray) = some (.bool false) := by rw [hneq]; simp [hval]
      obtain ⟨r, hin, hr⟩ := y361 hl hm hrm hxo h4 (i := i) (p := p) (xb := H.length) (st := ⟨H ++ [Blk.cells (opc x) y2 true], e⟩) (h1.app _) h2 hpg1 h1.len hxg
      rcases hr with ⟨t, st', rfl, hf, k, y, hy, ha, hb⟩ | ⟨p', st', rfl, hf, hp', hpg', hall⟩
      · refine .inl ⟨_, ?_, .inl ⟨st', rfl, hf, fun hc => hb ((hstep.1 (h5.1 hc)).2.1 k y hy ha)⟩⟩
        simp only [twainref37_Fits.loop3s, twainref37_Fits.loop3, List.getD_cons_zero, List.getD_cons_succ, q65, Option.bind_some, hi', decide_true, y23, hix, hld, hneg, decide_false, q23, hll, y153, hge, hpl, q169, hpi, Bool.not_true, q42, twainref37_Fits.j1, twainref37_Fits.j2, hixm, hldm, y38, y56 q38, q54 cn, hstb, q59, y55, hx0', q187, Bool.not_false, q58, q61, hxv _ hxg, hlp, Option.map_some, hneq', twainref37_Fits.j3, twainref37_Fits.j4, twainref37_Fits.j5, hin]
      · refine .inr ⟨([tSl l.length (opsC l), tSl row.length (nums row), .pointer (some ⟨p', 0, none⟩), tSl row.length (nums row), .int .i64 row.length, .int .i64 ((i + 1 : Nat) : Int)], st'), ?_, p', v, st', rfl, hf, hp', hpg', h4, ?_⟩
        · simp only [twainref37_Fits.loop3s, twainref37_Fits.loop3, List.getD_cons_zero, List.getD_cons_succ, q65, Option.bind_some, hi', decide_true, y23, hix, hld, hneg, decide_false, q23, hll, y153, hge, hpl, q169, hpi, Bool.not_true, q42, twainref37_Fits.j1, twainref37_Fits.j2, hixm, hldm, y38, y56 q38, q54 cn, hstb, q59, y55, hx0', q187, Bool.not_false, q58, q61, hxv _ hxg, hlp, Option.map_some, hneq', twainref37_Fits.j3, twainref37_Fits.j4, twainref37_Fits.j5, hin, if_true, twainref37_Fits.j10, q108, hw']
        · rw [h5, hstep, hw]
          simp only [Bool.false_eq_true, if_false]
          exact ⟨fun h => h.2.2, fun h => ⟨fun _ => hval, hall, h⟩⟩
    | true =>
      have hx0' := hx0 _ hxg
      rw [hw] at hx0'
      obtain ⟨w1, w2, w3⟩ := q100 hxo.v
      have wn := y112 hxo.v
      have hst2 : q71 ⟨H ++ [Blk.cells (opc x) y2 true], e⟩ p 0 x.v = some ⟨(H ++ [Blk.cells (opc x) y2 true]).set p (.cells x.v y1 true), e⟩ := by
        simp [q71, hpg1, vn, wn, w1, w2, q9, escOf]
      have hplt : p < (H ++ [Blk.cells (opc x) y2 true]).length := q12 hpg1
      have hpg2 : ((H ++ [Blk.cells (opc x) y2 true]).set p (.cells x.v y1 true))[p]? = some (.cells x.v y1 true) := List.getElem?_set_self hplt
      have hxg2 : ((H ++ [Blk.cells (opc x) y2 true]).set p (.cells x.v y1 true))[H.length]? = some (.cells (opc x) y2 true) := by rw [List.getElem?_set_ne hpx]; exact hxg
      obtain ⟨r, hin, hr⟩ := y361 hl hm hrm hxo hxo.v (i := i) (p := p) (xb := H.length) (st := ⟨(H ++ [Blk.cells (opc x) y2 true]).set p (.cells x.v y1 true), e⟩) ((h1.app _).set h2 _) h2 hpg2 h1.len hxg2
      rcases hr with ⟨t, st', rfl, hf, k, y, hy, ha, hb⟩ | ⟨p', st', rfl, hf, hp', hpg', hall⟩
      · refine .inl ⟨_, ?_, .inl ⟨st', rfl, hf, fun hc => hb ((hstep.1 (h5.1 hc)).2.1 k y hy ha)⟩⟩
        simp only [twainref37_Fits.loop3s, twainref37_Fits.loop3, List.getD_cons_zero, List.getD_cons_succ, q65, Option.bind_some, hi', decide_true, y23, hix, hld, hneg, decide_false, q23, hll, y153, hge, hpl, q169, hpi, Bool.not_true, q42, twainref37_Fits.j1, twainref37_Fits.j2, hixm, hldm, y38, y56 q38, q54 cn, hstb, q59, y55, hx0', q187, q58, q61, hxv _ hxg, Option.map_some, twainref37_Fits.j3, twainref37_Fits.j4, q54 wn, hst2, twainref37_Fits.j5, hin]
      · refine .inr ⟨([tSl l.length (opsC l), tSl row.length (nums row), .pointer (some ⟨p', 0, none⟩), tSl row.length (nums row), .int .i64 row.length, .int .i64 ((i + 1 : Nat) : Int)], st'), ?_, p', x.v, st', rfl, hf, hp', hpg', hxo.v, ?_⟩
        · simp only [twainref37_Fits.loop3s, twainref37_Fits.loop3, List.getD_cons_zero, List.getD_cons_succ, q65, Option.bind_some, hi', decide_true, y23, hix, hld, hneg, decide_false, q23, hll, y153, hge, hpl, q169, hpi, Bool.not_true, q42, twainref37_Fits.j1, twainref37_Fits.j2, hixm, hldm, y38, y56 q38, q54 cn, hstb, q59, y55, hx0', q187, q58, q61, hxv _ hxg, Option.map_some, twainref37_Fits.j3, twainref37_Fits.j4, q54 wn, hst2, twainref37_Fits.j5, hin, if_true, twainref37_Fits.j10, q108, hw']
        · rw [h5, hstep, hw]
          simp only [if_true]
          exact ⟨fun h => h.2.2, fun h => ⟨fun hc => absurd hc (by simp), hall, h⟩⟩
  · rintro X ⟨p, v, st, rfl, h1, h2, h3, h4, h5⟩
    refine ⟨_, ?_, .inr ⟨st, rfl, h1, ?_⟩⟩
    · simp [twainref37_Fits.loop3s, twainref37_Fits.loop3, q65, y193]
    · rw [h5, List.drop_length]; trivial

/-- all stand in the row that must -/
theorem fits_last (hl : OkOps l) (hm : l.length < 2 ^ 62) (hrm : row.length < 2 ^ 62) {H0 : List Blk} {st : AS} (hst : FSt H0 st.H) :
    ∃ r, loopG H0.length (twainref37_Fits.loop21s (acall PP TT) loopG H0.length) ([tSl row.length (nums row), tSl l.length (opsC l), .int .i64 l.length, .int .i64 0], st) = some r ∧
      ((∃ st : AS, r = (.ret, [.bool false], st) ∧ FSt H0 st.H ∧ ∃ (k : Nat) (x : _), l[k]? = some x ∧ mustR x = true ∧ ¬ (k : Int) ∈ row) ∨
       (∃ st : AS, r = (.exit 4, [unk], st) ∧ FSt H0 st.H ∧ ∀ (k : Nat) x, l[k]? = some x → mustR x = true → (k : Int) ∈ row)) := by
  have hlr := q136 hl
  have hvl : vrefs (tSl l.length (opsC l)) = [] := by simp [hlr]
  have hvr : vrefs (tSl row.length (nums row)) = [] := by simp [q143]
  refine y264 (len := l.length) (fun k X => ∃ st : AS, X = ([tSl row.length (nums row), tSl l.length (opsC l), .int .i64 l.length, .int .i64 k], st) ∧
      FSt H0 st.H ∧ ∀ (q : Nat) x, q < k → l[q]? = some x → mustR x = true → (q : Int) ∈ row) _ ?_ ?_ ?_ l.length 0 _ (by omega)
      ⟨st, rfl, hst, fun q x hq => by omega⟩
  · rintro k X ⟨st, rfl, h1, h2⟩
    refine ⟨_, Prod.ext ?_ rfl, h1.gc _, h2⟩
    exact q324 _ _ _ (by simp [hlr, q143])
  · rintro k X hk ⟨⟨H, e⟩, rfl, h1, h2⟩
    simp only at h1
    obtain ⟨y, hy⟩ : ∃ y, l[k]? = some y := ⟨_, List.getElem?_eq_getElem hk⟩
    have hyo := hl y (List.mem_of_getElem? hy)
    obtain ⟨c1, c2, c3⟩ := q87 hyo
    have cn := y171 hyo
    have hk' : ((k : Int) < (l.length : Int)) := by omega
    have hrd : Rd H (tSl l.length (opsC l)) l.length (opsC l) := .tree _ _
    have hix := hrd.index (P := PP) y40 y87 (k := .i64) (i := (k : Int)) (by omega) hk'
    simp at hix
    have hld := y289 hrd hl hy e
    have hstb : q71 ⟨H ++ [Blk.cells qz_twainref36_Op y2 true], e⟩ H.length 0 (opc y) = some ⟨H ++ [Blk.cells (opc y) y2 true], e⟩ := by
      rw [y94]
      simp [q71, cn, q50, c1, q9, c2, escOf]
    have hl2 : q35 (H ++ [Blk.cells (opc y) y2 true]) H.length 0 19 = some (opc y) := by
      rw [q107]; simp [q35, cn, y268 hyo]
    have hw' : IntKind.i64.wrap ((k : Int) + 1) = ((k + 1 : Nat) : Int) := by rw [y150 (by omega)]; omega
    have hpl := y270 (H := H ++ [Blk.cells (opc y) y2 true]) (v := tSl row.length (nums row)) (l := row) (.tree _ _) (by rw [hvr]; simp) hrm (k : Int)
    have hmu := must_ok hyo (H ++ [Blk.cells (opc y) y2 true])
    have hmem := y192 row (k : Int) 0
    by_cases hg : mustR y = true ∧ y34 row (k : Int) 0 < 0
    · refine .inl ⟨_, ?_, .inl ⟨⟨H ++ [Blk.cells (opc y) y2 true], e⟩, rfl, h1.app _, k, y, hy, hg.1, fun hc => by have := hmem.2 hc; omega⟩⟩
      simp only [twainref37_Fits.loop21s, twainref37_Fits.loop21, List.getD_cons_zero, List.getD_cons_succ, q65, Option.bind_some, hk', decide_true, y23, hix, hld, y38, y56 q38, q54 cn, hstb, q61, hl2, Option.map_some, hmu, hg.1, q42, hpl, hg.2, twainref37_Fits.j14]
    · refine .inr ⟨_, ?_, ⟨H ++ [Blk.cells (opc y) y2 true], e⟩, rfl, h1.app _, fun q x hq hx hmx => ?_⟩
      · cases hmy : mustR y with
        | false => simp only [twainref37_Fits.loop21s, twainref37_Fits.loop21, List.getD_cons_zero, List.getD_cons_succ, q65, Option.bind_some, hk', decide_true, y23, hix, hld, y38, y56 q38, q54 cn, hstb, q61, hl2, Option.map_some, hmu, hmy, q42, q23, twainref37_Fits.j14, twainref37_Fits.j15, q108, hw']
        | true =>
          have hng : ¬ y34 row (k : Int) 0 < 0 := fun hc => hg ⟨hmy, hc⟩
          simp only [twainref37_Fits.loop21s, twainref37_Fits.loop21, List.getD_cons_zero, List.getD_cons_succ, q65, Option.bind_some, hk', decide_true, y23, hix, hld, y38, y56 q38, q54 cn, hstb, q61, hl2, Option.map_some, hmu, hmy, q42, hpl, hng, decide_false, q23, twainref37_Fits.j14, twainref37_Fits.j15, q108, hw']
      · by_cases hqk : q = k
        · subst hqk
          rw [hy] at hx; simp at hx; subst hx
          exact hmem.1 (Int.not_lt.1 fun hc => hg ⟨hmx, hc⟩)
        · exact h2 q x (by omega) hx hmx
  · rintro X ⟨st, rfl, h1, h2⟩
    refine ⟨_, ?_, .inr ⟨st, rfl, h1, fun k x hx hmx => h2 k x (q12 hx) hx hmx⟩⟩
    simp [twainref37_Fits.loop21s, twainref37_Fits.loop21, q65, y193]

/-- a result that is no row -/
theorem fin_one {n0 : Nat} {st : AS} {v : Value} (hw : noSl v = true) (hv : vrefs v = []) :
    ∃ H' e, fin PP false n0 [v] st = some (v, H', e) ∧ (∀ r, r < n0 → H'[r]? = st.H[r]?) ∧ (n0 ≤ st.H.length → n0 ≤ H'.length) := by
  unfold fin q151
  simp only [Bool.false_eq_true, if_false, frzL, y107 n0 8 v st.H hw]
  obtain ⟨σ, _, h2, _, h4⟩ := q275 n0 [v] ⟨st.H, st.esc⟩
  rw [q324 n0 [v] ⟨st.H, st.esc⟩ (by simp [hv])]
  exact ⟨_, _, rfl, fun r hr => (h2 r hr).2, h4⟩

/-- an order is right -/
def FitsDoc (l : List (Rw (List Value))) (u : List Value) (row : List Int) : Prop := y243 l row 0 u row ∧ ∀ (k : Nat) x, l[k]? = some x → mustR x = true → (k : Int) ∈ row

theorem fits_ok (hl : OkOps l) (hm : l.length < 2 ^ 62) (hrm : row.length < 2 ^ 62) (H0 : List Blk) {u : List Value} (hu : TOk PP y1 u) :
    ∃ (b : Bool) (H' : List Blk) (e : Option Nat), acall PP TT y137 [tSl l.length (opsC l), .agg u.toArray, tSl row.length (nums row)] H0 = some (.bool b, H', e) ∧ FSt H0 H' ∧ (b = true ↔ FitsDoc l u row) := by
  obtain ⟨u1, u2, q320⟩ := q100 hu
  have un := y112 hu
  have htu : u.take 16 = u := List.take_of_length_le (by omega)
  have hlu : q35 (H0 ++ [Blk.cells u y1 true]) H0.length 0 16 = some u := by
    rw [q107]; simp [q35, un, htu]
  have hstb : q71 ⟨H0 ++ [Blk.cells u y1 true] ++ [Blk.cells qz_api_Sector y1 true], none⟩ (H0 ++ [Blk.cells u y1 true]).length 0 u = some ⟨H0 ++ [Blk.cells u y1 true] ++ [Blk.cells u y1 true], none⟩ := by
    rw [y94]
    simp [q71, un, q130, u1, q9, u2, escOf]
  have hf0 : FSt H0 (H0 ++ [Blk.cells u y1 true] ++ [Blk.cells u y1 true]) := ((FSt.refl H0).app _).app _
  have hln := fun st => (Rd.tree (H := []) row.length (nums row)).len (P := PP) q180 st
  have hll := fun st => (Rd.tree (H := []) l.length (opsC l)).len (P := PP) y40 st
  obtain ⟨r, hlp, hr⟩ := fits_outer hl hm hrm (H0 := H0) hu (p := (H0 ++ [Blk.cells u y1 true]).length) (st := ⟨H0 ++ [Blk.cells u y1 true] ++ [Blk.cells u y1 true], none⟩) hf0 (by simp) (by rw [q101]; rfl)
  have out : ∀ (b : Bool) (st : AS), FSt H0 st.H → ∃ H' e, fin PP false H0.length [.bool b] st = some (.bool b, H', e) ∧ FSt H0 H' := fun b st hf => by
    obtain ⟨H', e, h1, h2, h3⟩ := fin_one (n0 := H0.length) (st := st) (v := .bool b) rfl rfl
    exact ⟨H', e, h1, fun j hj => by rw [h2 j hj]; exact hf.pre j hj, h3 hf.len⟩
  rcases hr with ⟨st, rfl, hf, hbad⟩ | ⟨st, rfl, hf, hgood⟩
  · obtain ⟨H', e, hfin, hf'⟩ := out false st hf
    refine ⟨false, H', e, ?_, hf', by simp; exact fun h => hbad h.1⟩
    rw [y22, twainref37_Fits.eq]
    simp only [twainref37_Fits.sh, y56 u1, Option.bind_some, q61, hlu, Option.map_some, y117, y56 y118, q54 un, hstb, hln, hlp, List.getD_cons_zero, List.getD_cons_succ]
    exact hfin
  · obtain ⟨r, hlp2, hr⟩ := fits_last (row := row) hl hm hrm hf
    rcases hr with ⟨st2, rfl, hf2, k, x, hx, hmx, hn⟩ | ⟨st2, rfl, hf2, hall⟩
    · obtain ⟨H', e, hfin, hf'⟩ := out false st2 hf2
      refine ⟨false, H', e, ?_, hf', by simp; exact fun h => hn (h.2 k x hx hmx)⟩
      rw [y22, twainref37_Fits.eq]
      simp only [twainref37_Fits.sh, y56 u1, Option.bind_some, q61, hlu, Option.map_some, y117, y56 y118, q54 un, hstb, hln, hlp, List.getD_cons_zero, List.getD_cons_succ, if_true, twainref37_Fits.j12, hll, hlp2]
      exact hfin
    · obtain ⟨H', e, hfin, hf'⟩ := out true st2 hf2
      refine ⟨true, H', e, ?_, hf', by simp; exact ⟨hgood, hall⟩⟩
      rw [y22, twainref37_Fits.eq]
      simp only [twainref37_Fits.sh, y56 u1, Option.bind_some, q61, hlu, Option.map_some, y117, y56 y118, q54 un, hstb, hln, hlp, List.getD_cons_zero, List.getD_cons_succ, if_true, twainref37_Fits.j12, hll, hlp2, twainref37_Fits.j17]
      exact hfin

end
end Go.Proofs.Ytfinilnkempofaa

end
section
namespace Go.Proofs.Ytfinilnkempofaa
open Go Go.Am Go.Reg

/-- a row of numbers, as the machine's cells -/
def rowC (row : List Nat) : List Value := nums (row.map fun (n : Nat) => (n : Int))
theorem q352 (row : List Nat) : (rowC row).length = row.length := by simp [rowC, nums]
theorem rowC_snoc (row : List Nat) (i : Nat) : rowC (row ++ [i]) = rowC row ++ [.int .i64 (i : Int)] := by simp [rowC, nums]

/-- the row so far, in its cell -/
def RowV (lo : Nat) (H : List Blk) (rv : Value) (row : List Nat) : Prop :=
  (rv = .slice none 0 0 ∧ row = []) ∨ ∃ (b : Nat) (cs : List Value), rv = .slice (some ⟨b, 0, none⟩) row.length UNK ∧ H[b]? = some (.cells cs t_int true) ∧ cs.take row.length = rowC row ∧ row.length ≤ cs.length ∧ lo ≤ b

/-- what a hunt leaves as it is -/
def Keep (H H' : List Blk) (rc : Nat) : Prop := H.length ≤ H'.length ∧ ∀ (i : Nat) (cs : List Value) (t : TypeId) (o : Bool), H[i]? = some (.cells cs t o) → t ≠ t_int → i ≠ rc → H'[i]? = some (.cells cs t o)

theorem Keep.refl (H : List Blk) (rc : Nat) : Keep H H rc := ⟨Nat.le_refl _, fun _ _ _ _ h _ _ => h⟩
theorem Keep.trans {H H' H'' : List Blk} {rc : Nat} (h : Keep H H' rc) (h' : Keep H' H'' rc) : Keep H H'' rc := ⟨Nat.le_trans h.1 h'.1, fun i cs t o hi ht hr => h'.2 i cs t o (h.2 i cs t o hi ht hr) ht hr⟩
theorem Keep.app (H L : List Blk) (rc : Nat) : Keep H (H ++ L) rc := ⟨by simp, fun i cs t o hi _ _ => by rw [List.getElem?_append_left (q12 hi)]; exact hi⟩
theorem Keep.low {H L H' : List Blk} {rc : Nat} (h : Keep (H ++ L) H' rc) : Keep H H' rc := (Keep.app H L rc).trans h

/-- where the hunt's things lie -/
structure Pl where
  lo : Nat
  hb : Nat
  ab : Nat
  mb : Nat
  hc : Nat
  rc : Nat
  fc : Nat
  v : Value
  av : Value
  M : Nat
  A : List Nat

/-- the hunt, as it lies in memory -/
structure Fx (p : Pl) (H : List Blk) (row : List Nat) (T : List (Nat × List Value)) : Prop where
  hu : Hu H p.hb p.ab p.mb p.v p.av p.M p.A
  at_ : ∀ r ∈ vrefs p.av, ∃ cs o, H[r]? = some (.cells cs y37 o)
  hc : H[p.hc]? = some (.cells [.pointer (some ⟨p.hb, 0, none⟩)] q88 true)
  fc : H[p.fc]? = some (.cells [.func (.func q26) #[] #[.pointer (some ⟨p.hc, 0, none⟩), .pointer (some ⟨p.rc, 0, none⟩), .pointer (some ⟨p.fc, 0, none⟩)]] y196 true)
  rc : ∃ rv, H[p.rc]? = some (.cells [rv] y28 true) ∧ RowV p.lo H rv row
  mb : ∃ es ck, H[p.mb]? = some (.map es ck) ∧ Keys PP y6 es (T.map fun e => stc e.1 e.2) ∧ (∀ e ∈ es, e.val = .bool true)
  ok : ∀ e ∈ T, e.1 < 2 ^ 64
  lo : p.lo ≤ H.length

theorem Rd.keep {H H' : List Blk} {v : Value} {n : Nat} {cs : List Value} (h : Rd H v n cs) (hk : ∀ r ∈ vrefs v, H'[r]? = H[r]?) : Rd H' v n cs := by
  cases h with
  | tree => exact .tree _ _
  | nil => exact .nil
  | own hb ho hc => exact .own (by rw [hk _ (by simp)]; exact hb) ho hc

/-- all but the row and what was tried stays -/
theorem Fx.keep {p : Pl} {H H' : List Blk} {row row' : List Nat} {T T' : List (Nat × List Value)} (h : Fx p H row T) (hk : Keep H H' p.rc) (hr : ∃ rv, H'[p.rc]? = some (.cells [rv] y28 true) ∧ RowV p.lo H' rv row')
    (hm : ∃ es ck, H'[p.mb]? = some (.map es ck) ∧ Keys PP y6 es (T'.map fun e => stc e.1 e.2) ∧ (∀ e ∈ es, e.val = .bool true)) (hok : ∀ e ∈ T', e.1 < 2 ^ 64) : Fx p H' row' T' := by
  obtain ⟨rv0, hrc, _⟩ := h.rc
  have ne : ∀ (i : Nat) (cs : List Value) (t : TypeId) (o : Bool), H[i]? = some (.cells cs t o) → t ≠ y28 → i ≠ p.rc := fun i cs t o hi ht he => by
    subst he; rw [hrc] at hi; simp at hi; exact ht hi.2.1.symm
  have get : ∀ (i : Nat) (cs : List Value) (t : TypeId) (o : Bool), H[i]? = some (.cells cs t o) → t ≠ t_int → t ≠ y28 → H'[i]? = some (.cells cs t o) := fun i cs t o hi h3 h31 => hk.2 i cs t o hi h3 (ne i cs t o hi h31)
  refine ⟨⟨get _ _ _ _ h.hu.hunt (by decide) (by decide), Rd.keep h.hu.rd (fun r hr => ?_), h.hu.refs, h.hu.m, h.hu.a⟩, fun r hr => ?_, get _ _ _ _ h.hc (by decide) (by decide), get _ _ _ _ h.fc (by decide) (by decide), hr, hm, hok, Nat.le_trans h.lo hk.1⟩
  · obtain ⟨cs, o, hc⟩ := h.at_ r hr
    rw [hc]; exact get _ _ _ _ hc (by decide) (by decide)
  · obtain ⟨cs, o, hc⟩ := h.at_ r hr
    exact ⟨cs, o, get _ _ _ _ hc (by decide) (by decide)⟩

theorem Fx.app {p : Pl} {H : List Blk} {row : List Nat} {T : List (Nat × List Value)} (h : Fx p H row T) (L : List Blk) : Fx p (H ++ L) row T := by
  obtain ⟨rv, h1, h2⟩ := h.rc
  obtain ⟨es, ck, h3, h4, h5⟩ := h.mb
  refine h.keep (.app H L _) ⟨rv, by rw [List.getElem?_append_left (q12 h1)]; exact h1, ?_⟩ ⟨es, ck, by rw [List.getElem?_append_left (q12 h3)]; exact h3, h4, h5⟩ h.ok
  rcases h2 with h2 | ⟨b, cs, e1, e2, e3, e4⟩
  · exact .inl h2
  · exact .inr ⟨b, cs, e1, by rw [List.getElem?_append_left (q12 e2)]; exact e2, e3, e4⟩

theorem build92 {n : Int} {u : List Value} (hu : TOk PP y1 u) : q89 PP y6 [(0, .int .u64 n), (1, .agg u.toArray)] = some (.agg (.int .u64 n :: u).toArray) := by
  obtain ⟨u1, _, _⟩ := q100 hu
  match u, y112 hu, u1 with
  | [a0, a1, a2, a3, a4, a5, a6, a7, a8, a9, a10, a11, a12, a13, a14, a15], _, u1 =>
    simp only [allCells_cons, Bool.and_eq_true, allCells_nil] at u1
    obtain ⟨b0, b1, b2, b3, b4, b5, b6, b7, b8, b9, b10, b11, b12, b13, b14, b15, _⟩ := u1
    unfold q89
    have hz : zeroP PP y6 = some (.agg qz_register_state.toArray) := by kernel_rfl
    rw [hz]
    simp only
    rw [if_pos ⟨show q85 qz_register_state = true by kernel_rfl, by simp [Value.cells, b0, b1, b2, b3, b4, b5, b6, b7, b8, b9, b10, b11, b12, b13, b14, b15]⟩]
    refine Eq.trans (b := some (.agg #[.int .u64 n, a0, a1, a2, a3, a4, a5, a6, a7, a8, a9, a10, a11, a12, a13, a14, a15])) ?_ rfl
    kernel_rfl

theorem fn43 (a b c x y : Value) : aFn PP (.func (.func y35) #[] #[a, b, c]) [x, y] = some (y35, [x, y, a, b, c]) := by kernel_rfl
theorem fn42 (a b c x : Value) : aFn PP (.func (.func q26) #[] #[a, b, c]) [x] = some (q26, [x, a, b, c]) := by kernel_rfl

/-- the end of a call behind which an older block names a newer one -/
theorem fin_esc {H : List Blk} {n m : Nat} {b : Bool} (hm : m < n) : fin PP false n [.bool b] ⟨H, some m⟩ = some (.bool b, H, some m) := by
  unfold fin q151
  have h1 : ¬ n ≤ m := by omega
  simp only [Bool.false_eq_true, if_false, frzL, y107 n 8 (.bool b) _ rfl, gc, escOk, h1, decide_false, q182, hm, if_true]
  rfl

theorem gc_esc {vs : List Value} {H : List Blk} {n m : Nat} (hm : m < n) : gc n vs ⟨H, some m⟩ = (vs, ⟨H, some m⟩) := by
  have h1 : ¬ n ≤ m := by omega
  simp [gc, escOk, h1]

section
variable {R : Type} {H : List Blk} {e : Option Nat} {rv : Value} {k : Value → AS → Option R}

/-- one number more in the row -/
theorem row_more {row : List Nat} {i : Nat} {y : Value} {lo : Nat} (hr : RowV lo H rv row) (hy : Rd H y 1 [.int .i64 (i : Int)]) (hm : row.length < 1000) :
    ∃ H2 : List Blk, y16 PP .append #[y28, y28] [rv, y] ⟨H, e⟩ k = k (.slice (some ⟨H.length, 0, none⟩) (row.length + 1) UNK) ⟨H2 ++ [Blk.cells (rowC (row ++ [i])) t_int true], e⟩ ∧ H2.length = H.length ∧
      ∀ j : Nat, H2[j]? = H[j]? ∨ ∃ cs, H[j]? = some (Blk.cells cs t_int true) := by
  have hs := hy.src (size := 1) (by simp) (by simp)
  rcases hr with ⟨rfl, rfl⟩ | ⟨b, cs, rfl, hb, hc, hl, _⟩
  · refine ⟨H, ?_, rfl, fun j => .inl rfl⟩
    simp only [y16, y143, q180, q236, qby_int, qz_int, Option.getD_some, hs]
    simp [Value.cells, aRow, q79, rowC, nums]
  · refine ⟨H.set b .dead, ?_, by simp, fun j => ?_⟩
    · have h1 : (row.length + 1) * 8 ≤ 140737488355328 := by omega
      simp only [y16, y143, q180, q236, qby_int, qz_int, Option.getD_some, hs]
      simp [Value.cells, h1, hb, hl, aRow, q79, hc, rowC_snoc]
    · by_cases hj : b = j
      · subst hj; exact .inr ⟨cs, hb⟩
      · exact .inl (List.getElem?_set_ne hj)

end

theorem slice31 {H : List Blk} {e : Option Nat} {b n len : Nat} {cs : List Value} {o : Bool} (hb : H[b]? = some (.cells cs t_int o)) (hn : n ≤ len) (hl : len < 2 ^ 40) :
    q196 PP y28 (.slice (some ⟨b, 0, none⟩) len UNK) none (some (.int .i64 (n : Int))) none ⟨H, e⟩ = some (.slice (some ⟨b, 0, none⟩) n UNK) := by
  have h1 : len < UNK := by unfold UNK; omega
  simp [q196, q180, q236, q174, hb, hn, h1, y78]

theorem escOf_le1 {m b r : Nat} (h : m ≤ b) : ∃ m', escOf (some m) b [r] = some m' ∧ m' ≤ b := by
  simp only [escOf]
  split
  · exact ⟨min m b, rfl, by omega⟩
  · exact ⟨m, rfl, h⟩

theorem join_le {m rc : Nat} (h : m ≤ rc) (e : Option Nat) : ∃ m', y8 (some m) e = some m' ∧ m' ≤ rc := by
  cases e with
  | none => exact ⟨m, rfl, h⟩
  | some b => exact ⟨min m b, rfl, by omega⟩

theorem next43 {p : Pl} {l : List (Rw (List Value))} {H : List Blk} {d i sb : Nat} {u0 val : List Value} {row : List Nat} {T : List (Nat × List Value)} (h : Fx p H row T) (hsb : H[sb]? = some (.cells (stc d u0) y6 true)) (hd : d < 2 ^ 64) (hi : i < 64) (hval : TOk PP y1 val) (hrl : row.length < 900)
    (IH : ∀ H6, Fx p H6 (row ++ [i]) T → ∃ (b : Bool) (H' : List Blk) (e : Option Nat) (row' : List Nat) (T' : List (Nat × List Value)), acall PP TT q26 [.agg (stc (d ||| 2 ^ i) val).toArray, .pointer (some ⟨p.hc, 0, none⟩), .pointer (some ⟨p.rc, 0, none⟩), .pointer (some ⟨p.fc, 0, none⟩)] H6 = some (.bool b, H', e) ∧
      Keep H6 H' p.rc ∧ Fx p H' row' T' ∧ Tells l (d ||| 2 ^ i) val (row ++ [i]) T b row' T') :
    ∃ (b : Bool) (H' : List Blk) (m : Nat) (row' : List Nat) (T' : List (Nat × List Value)), acall PP TT y35 [.int .i64 i, .agg val.toArray, .pointer (some ⟨p.rc, 0, none⟩), .pointer (some ⟨p.fc, 0, none⟩), .pointer (some ⟨sb, 0, none⟩)] H = some (.bool b, H', some m) ∧ m ≤ p.rc ∧
      Keep H H' p.rc ∧ Fx p H' row' T' ∧ (b = true → ∃ r, row' = row ++ (i :: r) ∧ Comp l (ins d.testBit i) val r) ∧ (b = false → row' = row ∧ Dead l (ins d.testBit i) val ∧ ∀ e ∈ T', e ∈ T ∨ Dead l e.1.testBit e.2) := by
  obtain ⟨v1, v2, v3⟩ := q100 hval
  have vn := y112 hval
  have htv : val.take 16 = val := List.take_of_length_le (by omega)
  obtain ⟨rv, hrc, hrv⟩ := h.rc
  have hrcl := q12 hrc
  have h2 := h.app ([Blk.cells val y1 true] ++ [Blk.cells [.int .i64 (i : Int)] t_int true])
  obtain ⟨rv2, hrc2, hrv2⟩ := h2.rc
  have hrc2' : (H ++ ([Blk.cells val y1 true] ++ [Blk.cells [.int .i64 (i : Int)] t_int true]))[p.rc]? = some (.cells [rv] y28 true) := by rw [List.getElem?_append_left hrcl]; exact hrc
  have hrveq : rv2 = rv := by rw [hrc2'] at hrc2; simp at hrc2; exact hrc2.symm
  subst hrveq
  have hlen2 : (H ++ ([Blk.cells val y1 true] ++ [Blk.cells [.int .i64 (i : Int)] t_int true])).length = H.length + 2 := by simp
  generalize hH2 : H ++ ([Blk.cells val y1 true] ++ [Blk.cells [.int .i64 (i : Int)] t_int true]) = H2 at *
  have hy : Rd H2 (.slice (some ⟨H.length + 1, 0, none⟩) 1 1) 1 [.int .i64 (i : Int)] := .own (bs := [.int .i64 (i : Int)]) (t := t_int) (own := true) (by rw [← hH2, y105]; rfl) (by simp) (by simp)
  have hbx : H2[H.length]? = some (.cells val y1 true) := by rw [← hH2, q101]; rfl
  -- the row's new block
  obtain ⟨H3, happ, hl3, hj3⟩ := row_more (R := Value × List Blk × Option Nat) (e := none) (k := fun x4 s5 => (q43 1 s5 (.pointer (some ⟨p.rc, 0, none⟩)) x4).bind fun s6 =>
    (aLoad false 1 s6 (.pointer (some ⟨p.fc, 0, none⟩))).bind fun x7 =>
    (y3 PP y6 (.pointer (some ⟨sb, 0, none⟩)) 0).bind fun x8 =>
    (aLoad false 1 s6 x8).bind fun x9 =>
    (aBin PP .shl y37 (.const (.int .u64 1)) (.tmp 15) (.int .u64 1) (.int .i64 i)).bind fun x10 =>
    (aBin PP .or y37 (.tmp 14) (.tmp 16) x9 x10).bind fun x11 =>
    (aLoad true 16 s6 (.pointer (some ⟨H.length, 0, none⟩))).bind fun x12 =>
    (q89 PP y6 [(0, x11), (1, x12)]).bind fun x13 =>
    (aFn PP x7 [x13]).bind fun g15 =>
    (acall PP TT g15.1 g15.2 s6.H).bind fun r14 =>
    bcase r14.1 (
    fin PP false H.length [.bool true] (AS.mk r14.2.1 (y8 s6.esc r14.2.2))) (
    (aLoad false 1 (AS.mk r14.2.1 (y8 s6.esc r14.2.2)) (.pointer (some ⟨p.rc, 0, none⟩))).bind fun x16 =>
    (aLoad false 1 (AS.mk r14.2.1 (y8 s6.esc r14.2.2)) (.pointer (some ⟨p.rc, 0, none⟩))).bind fun x17 =>
    (aLen PP y28 x17 (AS.mk r14.2.1 (y8 s6.esc r14.2.2))).bind fun x18 =>
    (aBin PP .sub t_int (.tmp 23) (.const (.int .i64 1)) x18 (.int .i64 1)).bind fun x19 =>
    (q196 PP y28 x16 none (some x19) none (AS.mk r14.2.1 (y8 s6.esc r14.2.2))).bind fun x20 =>
    (q43 1 (AS.mk r14.2.1 (y8 s6.esc r14.2.2)) (.pointer (some ⟨p.rc, 0, none⟩)) x20).bind fun s21 =>
    fin PP false H.length [.bool false] s21)) hrv2 hy (by omega)
  have h3c : ∀ (j : Nat) (cs : List Value) (t : TypeId) (o : Bool), H2[j]? = some (.cells cs t o) → t ≠ t_int → H3[j]? = some (.cells cs t o) := fun j cs t o hj ht => by
    rcases hj3 j with h | ⟨cs', h⟩
    · rw [h]; exact hj
    · rw [hj] at h; simp at h; exact absurd h.2.1 ht
  have h3rc := h3c _ _ _ _ hrc2' (by decide)
  -- what is stored
  let x4 : Value := .slice (some ⟨H2.length, 0, none⟩) (row.length + 1) UNK
  let H4 : List Blk := (H3 ++ [Blk.cells (rowC (row ++ [i])) t_int true]).set p.rc (.cells [x4] y28 true)
  have hrcl3 : p.rc < H3.length := by omega
  have hstore : q43 1 ⟨H3 ++ [Blk.cells (rowC (row ++ [i])) t_int true], none⟩ (.pointer (some ⟨p.rc, 0, none⟩)) x4 = some ⟨H4, some p.rc⟩ := by
    have hg : (H3 ++ [Blk.cells (rowC (row ++ [i])) t_int true])[p.rc]? = some (.cells [rv2] y28 true) := by rw [List.getElem?_append_left hrcl3]; exact h3rc
    have hlt : p.rc < H2.length := by omega
    show q71 _ _ _ [x4] = _
    simp [q71, hg, x4, q49, escOf, hlt, minO, H4]
  have hkeep : Keep H2 H4 p.rc := ⟨by simp [H4]; omega, fun j cs t o hj ht hne => by
    show ((H3 ++ [Blk.cells (rowC (row ++ [i])) t_int true]).set p.rc _)[j]? = _
    rw [List.getElem?_set_ne (Ne.symm hne), List.getElem?_append_left (by have := q12 hj; omega)]
    exact h3c j cs t o hj ht⟩
  have hrc4 : H4[p.rc]? = some (.cells [x4] y28 true) := by
    show ((H3 ++ [Blk.cells (rowC (row ++ [i])) t_int true]).set p.rc _)[p.rc]? = _
    rw [List.getElem?_set_self (by simp; omega)]
  have hne3 : H2.length ≠ p.rc := by omega
  have hnb4 : H4[H2.length]? = some (.cells (rowC (row ++ [i])) t_int true) := by
    show ((H3 ++ [Blk.cells (rowC (row ++ [i])) t_int true]).set p.rc _)[H2.length]? = _
    rw [List.getElem?_set_ne (Ne.symm hne3), ← hl3]
    simp
  have hfx4 : Fx p H4 (row ++ [i]) T := by
    obtain ⟨es, ck, hm1, hm2, hm3⟩ := h2.mb
    refine h2.keep hkeep ⟨x4, hrc4, .inr ⟨H2.length, rowC (row ++ [i]), by simp [x4], hnb4, ?_, by simp [q352], h2.lo⟩⟩ ⟨es, ck, ?_, hm2, hm3⟩ h2.ok
    · exact List.take_of_length_le (by simp [q352])
    · have hmr : p.mb ≠ p.rc := fun he => by rw [he, hrc2'] at hm1; simp at hm1
      show ((H3 ++ [Blk.cells (rowC (row ++ [i])) t_int true]).set p.rc _)[p.mb]? = _
      rw [List.getElem?_set_ne (Ne.symm hmr), List.getElem?_append_left (by have := q12 hm1; omega)]
      rcases hj3 p.mb with hh | ⟨cs', hh⟩
      · rw [hh]; exact hm1
      · rw [hm1] at hh; simp at hh
  have hsb2 : H2[sb]? = some (.cells (stc d u0) y6 true) := by rw [← hH2, List.getElem?_append_left (q12 hsb)]; exact hsb
  have hsbne : sb ≠ p.rc := fun he => by rw [he, hrc2'] at hsb2; simp [y6, y28] at hsb2
  have hsb4 := hkeep.2 _ _ _ _ hsb2 (by decide) hsbne
  have hbne : H.length ≠ p.rc := by omega
  have hbx4 := hkeep.2 _ _ _ _ hbx (by decide) hbne
  have hfc4 := hfx4.fc
  have hbit : (2 : Nat) ^ i < 2 ^ 64 := Nat.pow_lt_pow_right (by decide) hi
  have hor := bin_or (P := PP) (t := y37) (ox := .tmp 14) (oy := .tmp 16) hd hbit
  have hl0 : y76 H4 sb 0 = some (.int .u64 (d : Int)) := by simp [y76, hsb4, stc]
  have hlv : q35 H4 H.length 0 16 = some val := by simp [q35, hbx4, vn, htv]
  have hlf : y76 H4 p.fc 0 = some (.func (.func q26) #[] #[.pointer (some ⟨p.hc, 0, none⟩), .pointer (some ⟨p.rc, 0, none⟩), .pointer (some ⟨p.fc, 0, none⟩)]) := by simp [y76, hfc4]
  have hb92 : q89 PP y6 [(0, .int .u64 ((d ||| 2 ^ i : Nat) : Int)), (1, .agg val.toArray)] = some (.agg (stc (d ||| 2 ^ i) val).toArray) := build92 hval
  obtain ⟨b, H', e', row', T', hcall, hk', hfx', htell⟩ := IH H4 hfx4
  obtain ⟨m, hm, hmle⟩ := join_le (Nat.le_refl p.rc) e'
  have hkall : Keep H H' p.rc := by
    refine Keep.low (L := [Blk.cells val y1 true] ++ [Blk.cells [.int .i64 (i : Int)] t_int true]) ?_
    rw [hH2]; exact hkeep.trans hk'
  have hbits := q346 d i
  have hload : y76 (H ++ [Blk.cells val y1 true]) p.rc 0 = some rv2 := by
    simp [y76, List.getElem?_append_left hrcl, hrc]
  have hbsl := bsl31_1 (i : Int) (H ++ [Blk.cells val y1 true]) none
  have hassoc : H ++ [Blk.cells val y1 true] ++ [Blk.cells [.int .i64 (i : Int)] t_int true] = H2 := by rw [← hH2, List.append_assoc]
  rw [hassoc] at hbsl
  simp only [List.length_append, List.length_cons, List.length_nil, Nat.zero_add] at hbsl
  cases b with
  | true =>
    refine ⟨true, H', m, row', T', ?_, hmle, hkall, hfx', fun _ => ?_, by simp⟩
    · rw [y22, P_register_hunt_find_1_1.eq]
      simp only [P_register_hunt_find_1_1.sh, y56 v1, Option.bind_some, y55, hload, hbsl]
      refine Eq.trans happ ?_
      rw [show (Value.slice (some ⟨H2.length, 0, none⟩) (row.length + 1) UNK) = x4 from rfl, hstore]
      simp only [Option.bind_some, y55, q61, hlf, y42, hl0, bin_bit hi, hor, hlv, Option.map_some, hb92, fn42, hcall, hm, y23]
      exact fin_esc (by omega)
    · obtain ⟨r, hr1, hr2⟩ := htell.found rfl
      exact ⟨r, by rw [hr1]; simp, by rw [← hbits]; exact hr2⟩
  | false =>
    obtain ⟨hrow, hdead, hT⟩ := htell.not rfl
    subst hrow
    obtain ⟨rv', hrc', hrv'⟩ := hfx'.rc
    rcases hrv' with ⟨_, he⟩ | ⟨b', cs', rfl, hb', htk', hle', hlo'⟩
    · simp at he
    have hlr : (row ++ [i]).length = row.length + 1 := by simp
    rw [hlr] at htk' hle'
    have hrcl' := q12 hrc'
    let x20 : Value := .slice (some ⟨b', 0, none⟩) row.length UNK
    let H5 : List Blk := H'.set p.rc (.cells [x20] y28 true)
    obtain ⟨m2, hm2, hm2le⟩ := escOf_le1 (r := b') hmle
    have hst5 : q43 1 ⟨H', some m⟩ (.pointer (some ⟨p.rc, 0, none⟩)) x20 = some ⟨H5, some m2⟩ := by
      show q71 _ _ _ [x20] = _
      simp [q71, hrc', x20, q49, hm2, H5]
    have hb'ne : b' ≠ p.rc := fun he => by rw [he, hrc'] at hb'; simp [t_int, y28] at hb'
    have hk5 : Keep H' H5 p.rc := ⟨by simp [H5], fun j cs t o hj ht hne => by
      show (H'.set p.rc _)[j]? = _
      rw [List.getElem?_set_ne (Ne.symm hne)]; exact hj⟩
    have hrc5 : H5[p.rc]? = some (.cells [x20] y28 true) := by
      show (H'.set p.rc _)[p.rc]? = _
      rw [List.getElem?_set_self hrcl']
    have hb5 : H5[b']? = some (.cells cs' t_int true) := by
      show (H'.set p.rc _)[b']? = _
      rw [List.getElem?_set_ne (Ne.symm hb'ne)]; exact hb'
    refine ⟨false, H5, m2, row, T', ?_, hm2le, hkall.trans hk5, ?_, by simp, fun _ => ⟨rfl, by rw [← hbits]; exact hdead, hT⟩⟩
    · have hlr' : y76 H' p.rc 0 = some (.slice (some ⟨b', 0, none⟩) (row.length + 1) UNK) := by simp [y76, hrc', hlr]
      have hlen' : ∀ st, aLen PP y28 (.slice (some ⟨b', 0, none⟩) (row.length + 1) UNK) st = some (.int .i64 ((row.length + 1 : Nat) : Int)) := fun st => by simp [aLen, q180]
      have hsub : aBin PP .sub t_int (.tmp 23) (.const (.int .i64 1)) (.int .i64 ((row.length + 1 : Nat) : Int)) (.int .i64 1) = some (.int .i64 (row.length : Int)) := by
        have h1 : ((row.length + 1 : Nat) : Int) - 1 = (row.length : Int) := by omega
        rw [y321, h1, y150 (by omega)]
      have hsl := slice31 (e := some m) hb' (n := row.length) (len := row.length + 1) (by omega) (by omega)
      rw [y22, P_register_hunt_find_1_1.eq]
      simp only [P_register_hunt_find_1_1.sh, y56 v1, Option.bind_some, y55, hload, hbsl]
      refine Eq.trans happ ?_
      rw [show (Value.slice (some ⟨H2.length, 0, none⟩) (row.length + 1) UNK) = x4 from rfl, hstore]
      simp only [Option.bind_some, y55, q61, hlf, y42, hl0, bin_bit hi, hor, hlv, Option.map_some, hb92, fn42, hcall, hm, q23, hlr', hlen', hsub, hsl]
      rw [show (Value.slice (some ⟨b', 0, none⟩) row.length UNK) = x20 from rfl, hst5]
      simp only [Option.bind_some]
      exact fin_esc (by omega)
    · obtain ⟨es, ck, hm1, hmk, hmv⟩ := hfx'.mb
      refine hfx'.keep hk5 ⟨x20, hrc5, .inr ⟨b', cs', rfl, hb5, ?_, by omega, hlo'⟩⟩ ⟨es, ck, ?_, hmk, hmv⟩ hfx'.ok
      · have := congrArg (List.take row.length) htk'
        rw [List.take_take, Nat.min_eq_left (by omega), rowC_snoc] at this
        rw [this, List.take_append_of_le_length (by simp [q352]), List.take_of_length_le (by simp [q352])]
      · have hmr : p.mb ≠ p.rc := fun he => by rw [he, hrc'] at hm1; simp at hm1
        show (H'.set p.rc _)[p.mb]? = _
        rw [List.getElem?_set_ne (Ne.symm hmr)]; exact hm1

/-- what stands in the hunt, of the ops -/
structure Cx (p : Pl) (l : List (Rw (List Value))) : Prop where
  v : vrefs p.v = []
  ok : OkOps l
  len : l.length ≤ 60
  rd : ∀ H, Rd H p.v l.length (opsC l)
  aLen : p.A.length = l.length
  m : ∀ k, p.M.testBit k = true ↔ ∃ x, l[k]? = some x ∧ mustR x = true
  a : ∀ (i : Nat) x, l[i]? = some x → ∀ k, (p.A.getD i 0).testBit k = true ↔ ∃ y, l[k]? = some y ∧ k ≠ i ∧ y159 y x = true

theorem may_can {p : Pl} {l : List (Rw (List Value))} (c : Cx p l) {H : List Blk} (hA : ∀ x ∈ p.A, x < 2 ^ 64) {d i : Nat} (hd : d < 2 ^ 64) {x : Rw (List Value)} (hx : l[i]? = some x) : mayB p.A d i = true ↔ y175 l d.testBit i := by
  have hi := q12 hx
  have ha : p.A.getD i 0 < 2 ^ 64 := by
    rw [List.getD, List.getElem?_eq_getElem (by rw [c.aLen]; exact hi)]
    exact hA _ (List.getElem_mem _)
  simp only [mayB, Bool.and_eq_true, Bool.not_eq_true', decide_eq_true_eq, y276 ha hd]
  constructor
  · rintro ⟨h1, h2⟩
    exact ⟨h1, fun k y x' hy hx' hk hah => by rw [hx] at hx'; simp at hx'; subst hx'; exact h2 k ((c.a i x hx k).2 ⟨y, hy, hk, hah⟩)⟩
  · rintro ⟨h1, h2⟩
    refine ⟨h1, fun k hk => ?_⟩
    obtain ⟨y, hy, hne, hah⟩ := (c.a i x hx k).1 hk
    exact h2 k y x hy hx hne hah

theorem all_must {p : Pl} {l : List (Rw (List Value))} (c : Cx p l) (hM : p.M < 2 ^ 64) {d : Nat} (hd : d < 2 ^ 64) : y149 p.M d = 0 ↔ q329 l d.testBit := by
  rw [y276 hM hd]
  constructor
  · intro h k x hx hm; exact h k ((c.m k).2 ⟨x, hx, hm⟩)
  · intro h k hk
    obtain ⟨x, hx, hm⟩ := (c.m k).1 hk
    exact h k x hx hm

noncomputable def qfs_register_state : Array Field := match PP.underlying y6 with | some (.struct fs) => fs | _ => #[]
theorem y260 : PP.underlying y6 = some (.struct qfs_register_state) := by kernel_rfl
theorem q149 : qfs_register_state.size = 2 := by kernel_rfl
theorem q233 : (qfs_register_state[0]?).map (·.type) = some y37 := by kernel_rfl
theorem y235 : (qfs_register_state[1]?).map (·.type) = some y1 := by kernel_rfl

theorem stc_tok {d : Nat} {u : List Value} (hd : d < 2 ^ 64) (hu : TOk PP y1 u) : TOk PP y6 (stc d u) := by
  have hint : TOk PP y37 [.int .u64 (d : Int)] := by
    refine .int _ (k := .u64) qu_uint64 ⟨?_, ?_⟩
    · have h0 : IntKind.u64.min = 0 := by kernel_rfl
      rw [h0]; omega
    · have h1 : IntKind.u64.max = 18446744073709551615 := by kernel_rfl
      rw [h1]; omega
  clear hd
  have := TOk.struct (P := PP) (t := y6) [[.int .u64 (d : Int)], u] y260 q149.symm (fun i f q hi hq => by
    rcases i with _ | _ | n
    · have h0 := q233
      rw [hi] at h0
      simp only [Option.map_some, Option.some.injEq] at h0
      rw [h0]
      simp only [List.getElem?_cons_zero, Option.some.injEq] at hq
      subst hq
      exact hint
    · have h0 := y235
      rw [hi] at h0
      simp only [Option.map_some, Option.some.injEq] at h0
      rw [h0]
      simp only [List.getElem?_cons_succ, List.getElem?_cons_zero, Option.some.injEq] at hq
      subst hq
      exact hu
    · have := q51 hi
      rw [q149] at this
      omega)
  simpa [stc] using this

theorem stc_inj {d d' : Nat} {u u' : List Value} : stc d u = stc d' u' ↔ d = d' ∧ u = u' := by
  simp only [stc, List.cons.injEq, Value.int.injEq, true_and]
  constructor
  · rintro ⟨h1, h2⟩; exact ⟨by omega, h2⟩
  · rintro ⟨rfl, h2⟩; exact ⟨rfl, h2⟩

theorem qz_bool : zeroP PP y180 = some (.bool false) := by kernel_rfl
theorem q146 : PP.underlying y79 = some (.map y6 y180) := by kernel_rfl

open Classical in
/-- was a state tried? -/
theorem tried_ok {H : List Blk} {e : Option Nat} {mb ck : Nat} {es : List MapEntry} {T : List (Nat × List Value)} (hm : H[mb]? = some (.map es ck)) (hk : Keys PP y6 es (T.map fun e => stc e.1 e.2)) (hv : ∀ e ∈ es, e.val = .bool true) {d : Nat} {u : List Value} (hd : d < 2 ^ 64) (hu : TOk PP y1 u) :
    q147 PP y79 (.map (some mb)) (.agg (stc d u).toArray) false ⟨H, e⟩ = some (.bool (decide ((d, u) ∈ T))) := by
  have h := q262 (P := PP) q146 qz_bool rfl qflat_register_state.flat (st := ⟨H, e⟩) hm hk (stc_tok hd hu) false
  rw [qflat_register_state.argV] at h
  rw [h]
  have hlen : es.length = T.length := by have := congrArg List.length hk.keys; simpa using this
  cases hf : (T.map fun e => stc e.1 e.2).findIdx? fun k => decide (k = stc d u) with
  | none =>
    rw [List.findIdx?_eq_none_iff] at hf
    have : ¬ (d, u) ∈ T := fun hc => by
      have := hf (stc d u) (List.mem_map.2 ⟨(d, u), hc, rfl⟩)
      simp at this
    simp [this]
  | some i =>
    rw [List.findIdx?_eq_some_iff_getElem] at hf
    obtain ⟨hi, hp, _⟩ := hf
    simp only [List.length_map] at hi
    simp only [List.getElem_map, decide_eq_true_eq, stc_inj] at hp
    have hin : (d, u) ∈ T := by
      have : T[i] = (d, u) := Prod.ext hp.1 hp.2
      rw [← this]; exact List.getElem_mem hi
    have hei : es[i]? = some es[i] := List.getElem?_eq_getElem (by omega)
    simp only [hei, Option.map_some, hv _ (List.getElem_mem _), hin, decide_true]
    rfl

end Go.Proofs.Ytfinilnkempofaa

end
section
namespace Go.Proofs.Ytfinilnkempofaa
open Go Go.Am Go.Reg

attribute [local simp] y56 y55 q61 q54 y185 y164 q150 q107 y167 y94 q213 y189 y236 q187 y193
  q108 y321 q203 q204 q169 q65 bin_leq q223 y153 y256 q271 fin_flat' flatV noSl q252 q42 y247
  q59 q58 q104 y104 q64 q97 q99 q73 y86 y51 q103 q72 y42 q75 y38 q63 y117 q38 q62 y118 q50 y127 q130

/-- what holds ahead of each round over the writes -/
structure Rn (p : Pl) (l : List (Rw (List Value))) (H2 : List Blk) (d : Nat) (u : List Value) (row : List Nat) (T : List (Nat × List Value)) (i : Nat) (st : AS) (T' : List (Nat × List Value)) : Prop where
  fx : Fx p st.H row T'
  keep : Keep H2 st.H p.rc
  t : ∀ e ∈ T', e ∈ T ∨ Dead l e.1.testBit e.2
  esc : (st.esc = none ∧ st.H = H2) ∨ ∃ m, st.esc = some m ∧ m ≤ p.rc
  dead : ∀ (n : Nat) (x : Rw (List Value)), n < i → l[n]? = some x → x.w = true → y175 l d.testBit n → Dead l (ins d.testBit n) x.v

theorem from_ok {p : Pl} {l : List (Rw (List Value))} (c : Cx p l) : ∀ (k : Nat) (H : List Blk) (d : Nat) (u : List Value) (row : List Nat) (T : List (Nat × List Value)), Fx p H row T → d < 2 ^ 64 → TOk PP y1 u →
    row.length ≤ cnt l.length d.testBit → l.length < cnt l.length d.testBit + k → Inv l T (cnt l.length d.testBit) →
    ∃ (b : Bool) (H' : List Blk) (e : Option Nat) (row' : List Nat) (T' : List (Nat × List Value)), acall PP TT q26 [.agg (stc d u).toArray, .pointer (some ⟨p.hc, 0, none⟩), .pointer (some ⟨p.rc, 0, none⟩), .pointer (some ⟨p.fc, 0, none⟩)] H = some (.bool b, H', e) ∧
      Keep H H' p.rc ∧ Fx p H' row' T' ∧ Tells l d u row T b row' T'
  | 0, H, d, u, row, T, _, _, _, _, hk, _ => by have := cnt_le d.testBit l.length; omega
  | k + 1, H, d, u, row, T, h, hd, hu, hrl, hk, hinv => by
    obtain ⟨s1, s2, s3, s4⟩ := y346 (d := d) hu
    have un := y112 hu
    have hcl := cnt_le d.testBit l.length
    have hll := c.len
    have htu : u.take 16 = u := List.take_of_length_le (by omega)
    have hts : (stc d u).take 17 = stc d u := List.take_of_length_le (by omega)
    -- what the calls see of the hunt
    have look : ∀ {H : List Blk} {row : List Nat} {T : List (Nat × List Value)}, Fx p H row T → y76 H p.hc 0 = some (.pointer (some ⟨p.hb, 0, none⟩)) ∧ y76 H p.hb 0 = some p.v ∧ y76 H p.hb 1 = some (.int .u64 (p.M : Int)) ∧ y76 H p.hb 3 = some (.map (some p.mb)) := fun h =>
      ⟨by simp [y76, h.hc], by simp [y76, h.hu.hunt], by simp [y76, h.hu.hunt], by simp [y76, h.hu.hunt]⟩
    have h1 := h.app [Blk.cells (stc d u) y6 true]
    obtain ⟨k1, k2, k3, k4⟩ := look h1
    have kd : y76 (H ++ [Blk.cells (stc d u) y6 true]) H.length 0 = some (.int .u64 (d : Int)) := by simp [y76, stc]
    have ks : q35 (H ++ [Blk.cells (stc d u) y6 true]) H.length 0 17 = some (stc d u) := by simp [q35, s3, hts]
    have hln := y365 (P := PP) (t := y37) (ox := .tmp 14) (oy := .tmp 16) h.hu.m hd
    have hz : decide (((y149 p.M d : Nat) : Int) = 0) = decide (y149 p.M d = 0) := by
      rw [Bool.eq_iff_iff]; simp only [decide_eq_true_eq]; exact Int.natCast_eq_zero
    have ham := all_must c h.hu.m hd
    by_cases hall : y149 p.M d = 0
    · refine ⟨true, H, none, row, T, ?_, .refl _ _, h, fun _ => ⟨[], by simp, .done (ham.1 hall)⟩, by simp⟩
      rw [y22, P_register_hunt_find_1.eq]
      simp only [P_register_hunt_find_1.sh, y56 s1, Option.bind_some, y55, k1, k3, kd, aNil, y51, y42, hln, q204, hz, hall, decide_true, y23]
      simp
    have hna : ¬ q329 l d.testBit := fun hc => hall (ham.2 hc)
    obtain ⟨es, ck, hm1, hm2, hm3⟩ := h.mb
    have hmbl := q12 hm1
    have hm1' : (H ++ [Blk.cells (stc d u) y6 true])[p.mb]? = some (.map es ck) := by rw [List.getElem?_append_left hmbl]; exact hm1
    have htr := tried_ok (e := none) hm1' hm2 hm3 hd hu
    by_cases hin : (d, u) ∈ T
    · have hdead : Dead l d.testBit u := by
        rcases hinv _ hin with hx | hx
        · exact hx
        · simp at hx
      refine ⟨false, H, none, row, T, ?_, .refl _ _, h, by simp, fun _ => ⟨rfl, hdead, fun e he => .inl he⟩⟩
      rw [y22, P_register_hunt_find_1.eq]
      simp only [P_register_hunt_find_1.sh, y56 s1, Option.bind_some, y55, q61, k1, k3, k4, kd, ks, aNil, y51, q72, y42, hln, q204, hz, hall, decide_false, q23, Option.map_some, htr, hin, decide_true, y23]
      simp
    -- it is marked as tried
    have hnk : stc d u ∉ T.map fun e => stc e.1 e.2 := fun hc => by
      obtain ⟨e, he, hee⟩ := List.mem_map.1 hc
      rw [stc_inj] at hee
      exact hin (by rw [← hee.1, ← hee.2]; exact he)
    have hup := update_new (P := PP) q146 qflat_register_state.flat (st := ⟨H ++ [Blk.cells (stc d u) y6 true], none⟩) hm1' hm2 (stc_tok hd hu) hnk (.bool true)
    rw [qflat_register_state.argV] at hup
    let Hm : List Blk := H.set p.mb (.map (es ++ [{ key := .agg (stc d u).toArray, val := .bool true, born := ck }]) (ck + 1))
    have hset : (H ++ [Blk.cells (stc d u) y6 true]).set p.mb (.map (es ++ [{ key := .agg (stc d u).toArray, val := .bool true, born := ck }]) (ck + 1)) = Hm ++ [Blk.cells (stc d u) y6 true] := by
      rw [List.set_append_left _ _ hmbl]
    have hup' : y75 PP y79 (.map (some p.mb)) (.agg (stc d u).toArray) (.bool true) ⟨H ++ [Blk.cells (stc d u) y6 true], none⟩ = some ⟨Hm ++ [Blk.cells (stc d u) y6 true], none⟩ := by
      rw [hup]; simp only [hset]; rfl
    have hHml : Hm.length = H.length := by simp [Hm]
    have hkm : Keep H Hm p.rc := ⟨by omega, fun i cs t o hi _ _ => by
      have : p.mb ≠ i := fun he => by subst he; rw [hm1] at hi; simp at hi
      show (H.set p.mb _)[i]? = _
      rw [List.getElem?_set_ne this]; exact hi⟩
    obtain ⟨rv, hrc, hrv⟩ := h.rc
    have hrcl := q12 hrc
    have hfm : Fx p Hm row (T ++ [(d, u)]) := by
      refine h.keep hkm ⟨rv, ?_, ?_⟩ ⟨_, _, by show (H.set p.mb _)[p.mb]? = _; rw [List.getElem?_set_self hmbl], ?_, ?_⟩ (fun e he => ?_)
      · have : p.mb ≠ p.rc := fun he => by rw [he, hrc] at hm1; simp at hm1
        show (H.set p.mb _)[p.rc]? = _
        rw [List.getElem?_set_ne this]; exact hrc
      · rcases hrv with hrv | ⟨b, cs, e1, e2, e3, e4⟩
        · exact .inl hrv
        · refine .inr ⟨b, cs, e1, ?_, e3, e4⟩
          have : p.mb ≠ b := fun he => by rw [← he, hm1] at e2; simp at e2
          show (H.set p.mb _)[b]? = _
          rw [List.getElem?_set_ne this]; exact e2
      · simp only [List.map_append, List.map_cons, List.map_nil]
        exact hm2.snoc (stc_tok hd hu) (by rw [qflat_register_state.argV])
      · intro e he
        rw [List.mem_append] at he
        rcases he with he | he
        · exact hm3 e he
        · simp at he; subst he; rfl
      · rw [List.mem_append] at he
        rcases he with he | he
        · exact h.ok e he
        · simp at he; subst he; exact hd
    have hf2 := hfm.app [Blk.cells (stc d u) y6 true]
    have hk2 : Keep H (Hm ++ [Blk.cells (stc d u) y6 true]) p.rc := hkm.trans (.app _ _ _)
    have hinv2 : Inv l (T ++ [(d, u)]) (cnt l.length d.testBit + 1) := hinv.up rfl
    have hsb2 : (Hm ++ [Blk.cells (stc d u) y6 true])[H.length]? = some (.cells (stc d u) y6 true) := by rw [← hHml, q101]; rfl
    obtain ⟨ri, rb, hread, hrt, hrf⟩ := read_ok hf2.hu c.v c.ok (by omega) c.aLen c.rd hd hu
    obtain ⟨q1, q2, q3, q4⟩ := look hf2
    have hsbc : ∀ {H' : List Blk}, H'[H.length]? = some (.cells (stc d u) y6 true) → q35 H' H.length 0 17 = some (stc d u) ∧ q35 H' H.length 1 16 = some u := fun hh => by
      refine ⟨by simp [q35, hh, s3, hts], ?_⟩
      simp only [q35, hh]
      rw [if_pos (by omega)]
      have : (stc d u).drop 1 = u := rfl
      rw [this, htu]
    -- the state one further on
    have further : ∀ (i : Nat) (x : Rw (List Value)) (val : List Value) (H0 : List Blk) (T0 : List (Nat × List Value)), l[i]? = some x → y175 l d.testBit i → TOk PP y1 val → Fx p H0 row T0 → (∀ e ∈ T0, e ∈ T ++ [(d, u)] ∨ Dead l e.1.testBit e.2) → H0[H.length]? = some (.cells (stc d u) y6 true) →
        ∃ (b : Bool) (H' : List Blk) (m : Nat) (row' : List Nat) (T' : List (Nat × List Value)), acall PP TT y35 [.int .i64 i, .agg val.toArray, .pointer (some ⟨p.rc, 0, none⟩), .pointer (some ⟨p.fc, 0, none⟩), .pointer (some ⟨H.length, 0, none⟩)] H0 = some (.bool b, H', some m) ∧ m ≤ p.rc ∧
          Keep H0 H' p.rc ∧ Fx p H' row' T' ∧ (b = true → ∃ r, row' = row ++ (i :: r) ∧ Comp l (ins d.testBit i) val r) ∧ (b = false → row' = row ∧ Dead l (ins d.testBit i) val ∧ ∀ e ∈ T', e ∈ T0 ∨ Dead l e.1.testBit e.2) := by
      intro i x val H0 T0 hx hcan hval hf0 ht0 hs0
      have hil := q12 hx
      refine next43 hf0 hs0 hd (by omega) hval (by omega) (fun H6 hf6 => ?_)
      have hci := cnt_ins hcan.1 l.length hil
      have hbi := q346 d i
      refine from_ok c k H6 (d ||| 2 ^ i) val (row ++ [i]) T0 hf6 (Nat.or_lt_two_pow hd (Nat.pow_lt_pow_right (by decide) (by omega))) hval ?_ ?_ ?_
      · rw [hbi, hci]; simp; omega
      · rw [hbi, hci]; omega
      · rw [hbi, hci]; exact hinv2.more ht0
    cases rb with
    | true =>
      obtain ⟨x, hx, hxw, hxv, hmay⟩ := hrt rfl
      have hcan := (may_can c (H := H) h.hu.a hd hx).1 hmay
      obtain ⟨b, H', m, row', T', hcall, hmle, hk', hf', ht', hn'⟩ := further ri x u _ _ hx hcan hu hf2 (fun e he => .inl he) hsb2
      refine ⟨b, H', some m, row', T', ?_, hk2.trans hk', hf', fun hb => ?_, fun hb => ?_⟩
      · rw [y22, P_register_hunt_find_1.eq]
        simp only [P_register_hunt_find_1.sh, y56 s1, Option.bind_some, y55, q61, k1, k3, k4, kd, ks, aNil, y51, q72, y42, q75, hln, q204, hz, hall, decide_false, q23, Option.map_some, htr, hin, hup', q1, (hsbc hsb2).1, (hsbc hsb2).2, hread, q42, ext20, ext21, y23, fn43, hcall]
        exact fin_esc (by omega)
      · obtain ⟨r, hr1, hr2⟩ := ht' hb
        exact ⟨ri :: r, hr1, .step hx hcan (fun _ => hxv) (by rw [if_neg (by simp [hxw])]; exact hr2)⟩
      · obtain ⟨hr1, hr2, hr3⟩ := hn' hb
        have hdd := dead_read hx hxw hcan.1 hr2
        refine ⟨hr1, hdd, fun e he => ?_⟩
        rcases hr3 e he with he | he
        · rw [List.mem_append] at he
          rcases he with he | he
          · exact .inl he
          · simp at he; subst he; exact .inr hdd
        · exact .inr he
    | false =>
      have nor : ∀ (i : Nat) (x : Rw (List Value)), l[i]? = some x → y175 l d.testBit i → (x.w = false → x.v = u) → x.w = true := fun i x hx hcan hv => by
        cases hw : x.w with
        | true => rfl
        | false =>
          have := hrf rfl i x hx hw (hv hw)
          rw [(may_can c (H := H) h.hu.a hd hx).2 hcan] at this
          simp at this
      have hrl2 : p.rc < H.length := hrcl
      let vs : Nat → List Value := fun i => [.pointer (some ⟨p.hc, 0, none⟩), .pointer (some ⟨H.length, 0, none⟩), .func (.func y35) #[] #[.pointer (some ⟨p.rc, 0, none⟩), .pointer (some ⟨p.fc, 0, none⟩), .pointer (some ⟨H.length, 0, none⟩)], p.v, .int .i64 l.length, .int .i64 i]
      have hhcl := q12 h.hc
      have hfcl := q12 h.fc
      -- what is struck ahead of a round
      have hgc : ∀ (i : Nat) (L : List Blk), gc H.length (vs i) ⟨Hm ++ (.cells (stc d u) y6 true :: L), none⟩ = (vs i, ⟨Hm ++ [Blk.cells (stc d u) y6 true], none⟩) := fun i L => by
        rw [← hHml]
        refine gc_one ?_ ?_ s2 ?_
        · intro r hr
          simp [vs, vrefs, arefs, c.v] at hr
          omega
        · simp [vs, hHml]
        · simp [vs, vrefs, arefs, c.v]
      have hstruck : ∀ (i : Nat) (st : AS) (L : List Blk), ((st.esc = none ∧ st.H = Hm ++ [Blk.cells (stc d u) y6 true]) ∨ ∃ m, st.esc = some m ∧ m ≤ p.rc) → ∃ st' : AS, gc H.length (vs i) ⟨st.H ++ L, st.esc⟩ = (vs i, st') ∧ ((st' = st) ∨ (st' = ⟨st.H ++ L, st.esc⟩ ∧ ∃ m, st.esc = some m ∧ m ≤ p.rc)) := fun i st L hst => by
        rcases hst with ⟨he, hh⟩ | ⟨m, he, hm⟩
        · refine ⟨st, ?_, .inl rfl⟩
          rw [he, hh, List.append_assoc]
          rw [show [Blk.cells (stc d u) y6 true] ++ L = .cells (stc d u) y6 true :: L from rfl, hgc]
          cases st; simp_all
        · refine ⟨⟨st.H ++ L, st.esc⟩, ?_, .inr ⟨rfl, m, he, hm⟩⟩
          rw [he, gc_esc (by omega)]
      obtain ⟨r, hr1, hr2⟩ := q142 (n0 := H.length) (step := P_register_hunt_find_1.loop11s (acall PP TT) loopG H.length) (len := l.length) (fun i (s : AS × List (Nat × List Value)) => (vs i, s.1))
        (fun i (s : AS × List (Nat × List Value)) => Rn p l (Hm ++ [Blk.cells (stc d u) y6 true]) d u row (T ++ [(d, u)]) i s.1 s.2)
        (fun r => (∃ (H' : List Blk) (m : Nat) (row' : List Nat) (T' : List (Nat × List Value)), r = (.ret, [.bool true], ⟨H', some m⟩) ∧ m ≤ p.rc ∧ Keep (Hm ++ [Blk.cells (stc d u) y6 true]) H' p.rc ∧ Fx p H' row' T' ∧ ∃ q, row' = row ++ q ∧ Comp l d.testBit u q) ∨
          (∃ (st : AS) (T' : List (Nat × List Value)), r = (.exit 0, [unk], st) ∧ Rn p l (Hm ++ [Blk.cells (stc d u) y6 true]) d u row (T ++ [(d, u)]) l.length st T'))
        (fun i s hi hok => by
          obtain ⟨st, T0⟩ := s
          simp only at hok ⊢
          have hi' : ((i : Int) < (l.length : Int)) := by omega
          obtain ⟨x, hx⟩ : ∃ x, l[i]? = some x := ⟨_, List.getElem?_eq_getElem hi⟩
          have hxo := c.ok x (List.mem_of_getElem? hx)
          obtain ⟨c1, c2, c3⟩ := q87 hxo
          have cn := y171 hxo
          have xn := y112 hxo.v
          have hix := (c.rd st.H).index (P := PP) q57 y89 (k := .i64) (i := (i : Int)) (by omega) hi'
          simp at hix
          have hld := q282 (c.rd st.H) c.ok hx st.esc
          have hw' : IntKind.i64.wrap ((i : Int) + 1) = ((i + 1 : Nat) : Int) := by rw [y150 (by omega)]; omega
          obtain ⟨sh, se⟩ := st
          simp only at hix hld hok
          have hsl : (Hm ++ [Blk.cells (stc d u) y6 true]).length ≤ sh.length := hok.keep.1
          have hl1 : (Hm ++ [Blk.cells (stc d u) y6 true]).length = H.length + 1 := by simp [hHml]
          have hslt : H.length < sh.length := by omega
          have hs0 := hok.keep.2 _ _ _ _ hsb2 (by decide) (by omega)
          -- the op, in a box of its own
          have hfx := hok.fx.app [Blk.cells (opc x) y4 true]
          have hsx : (sh ++ [Blk.cells (opc x) y4 true])[H.length]? = some (.cells (stc d u) y6 true) := by rw [List.getElem?_append_left hslt]; exact hs0
          obtain ⟨e1, e2, e3, e4⟩ := look hfx
          obtain ⟨t1, t2⟩ := hsbc hsx
          have hbx0 : y76 (sh ++ [Blk.cells (opc x) y4 true]) sh.length 0 = some (.bool x.w) := by simp [y76, opc]
          have hbxv : q35 (sh ++ [Blk.cells (opc x) y4 true]) sh.length 1 16 = some x.v := by
            simp [q35, cn, opc, xn]
          have hstb : q71 ⟨sh ++ [Blk.cells qz_history_Op y4 true], se⟩ sh.length 0 (opc x) = some ⟨sh ++ [Blk.cells (opc x) y4 true], se⟩ := by
            rw [y94]
            simp [q71, cn, y127, c1, q9, c2, escOf]
          have hmay := may_ok hfx.hu hd hu (i := i) (by rw [c.aLen]; exact hi) (by omega)
          -- nothing comes of it: the next round
          have skip : (P_register_hunt_find_1.loop11s (acall PP TT) loopG H.length (vs i, ⟨sh, se⟩) = some (.inl (vs (i + 1), ⟨sh ++ [Blk.cells (opc x) y4 true], se⟩))) → ¬ (x.w = true ∧ y175 l d.testBit i) →
              ∃ (X : List Value × AS) (s' : AS × List (Nat × List Value)), P_register_hunt_find_1.loop11s (acall PP TT) loopG H.length (vs i, ⟨sh, se⟩) = some (.inl X) ∧ gc H.length X.1 X.2 = (vs (i + 1), s'.1) ∧ Rn p l (Hm ++ [Blk.cells (stc d u) y6 true]) d u row (T ++ [(d, u)]) (i + 1) s'.1 s'.2 := fun hstep hno => by
            obtain ⟨st', hg, hst'⟩ := hstruck (i + 1) ⟨sh, se⟩ [Blk.cells (opc x) y4 true] hok.esc
            refine ⟨_, (st', T0), hstep, hg, ?_⟩
            have hd' : ∀ (n : Nat) (y : Rw (List Value)), n < i + 1 → l[n]? = some y → y.w = true → y175 l d.testBit n → Dead l (ins d.testBit n) y.v := fun n y hn hy hw hcan => by
              by_cases hni : n = i
              · subst hni
                rw [hx] at hy; simp at hy; subst hy
                exact absurd ⟨hw, hcan⟩ hno
              · exact hok.dead n y (by omega) hy hw hcan
            rcases hst' with rfl | ⟨rfl, hm⟩
            · exact ⟨hok.fx, hok.keep, hok.t, hok.esc, hd'⟩
            · exact ⟨hfx, hok.keep.trans (.app _ _ _), hok.t, .inr hm, hd'⟩
          cases hxw : x.w with
          | false =>
            refine .inr (skip ?_ (by simp [hxw]))
            simp only [P_register_hunt_find_1.loop11s, P_register_hunt_find_1.loop11, vs, List.getD_cons_zero, List.getD_cons_succ, q65, Option.bind_some, hi', decide_true, y23, hix, hld, q63, y56 q62, q54 cn, hstb, q64, y55, hbx0, hxw, q23]
            simp [P_register_hunt_find_1.j1, P_register_hunt_find_1.j2, hw']
          | true =>
            cases hmb : mayB p.A d i with
            | false =>
              have hnc : ¬ y175 l d.testBit i := fun hc => by
                rw [(may_can c (H := H) h.hu.a hd hx).2 hc] at hmb; simp at hmb
              refine .inr (skip ?_ (by simp [hnc]))
              simp only [P_register_hunt_find_1.loop11s, P_register_hunt_find_1.loop11, vs, List.getD_cons_zero, List.getD_cons_succ, q65, Option.bind_some, hi', decide_true, y23, hix, hld, q63, y56 q62, q54 cn, hstb, q64, y55, q61, hbx0, hxw, e1, t1, Option.map_some, hmay, hmb, q23]
              simp [P_register_hunt_find_1.j1, P_register_hunt_find_1.j2, hw']
            | true =>
              have hcan := (may_can c (H := H) h.hu.a hd hx).1 hmb
              obtain ⟨b, H', m, row', T', hcall, hmle, hk', hf', ht', hn'⟩ := further i x x.v _ T0 hx hcan hxo.v hfx hok.t hsx
              obtain ⟨m2, hm2, hm2le⟩ : ∃ m2, y8 (y8 se none) (some m) = some m2 ∧ m2 ≤ p.rc := by
                rw [q42]
                cases se with
                | none => exact ⟨m, rfl, hmle⟩
                | some a => exact ⟨min a m, rfl, by omega⟩
              cases b with
              | true =>
                refine .inl ⟨(.ret, [.bool true], ⟨H', some m2⟩), ?_, .inl ⟨H', m2, row', T', rfl, hm2le, hok.keep.trans ((Keep.app _ _ _).trans hk'), hf', ?_⟩⟩
                · simp only [P_register_hunt_find_1.loop11s, P_register_hunt_find_1.loop11, vs, List.getD_cons_zero, List.getD_cons_succ, q65, Option.bind_some, hi', decide_true, y23, hix, hld, q63, y56 q62, q54 cn, hstb, q64, q97, y55, q61, hbx0, hbxv, hxw, e1, t1, Option.map_some, hmay, hmb, fn43, hcall, hm2]
                  simp [P_register_hunt_find_1.j1, P_register_hunt_find_1.j2]
                · obtain ⟨r, hq1, hq2⟩ := ht' rfl
                  exact ⟨i :: r, hq1, .step hx hcan (by simp [hxw]) (by rw [if_pos hxw]; exact hq2)⟩
              | false =>
                obtain ⟨hq1, hq2, hq3⟩ := hn' rfl
                subst hq1
                refine .inr ⟨(vs (i + 1), ⟨H', some m2⟩), (⟨H', some m2⟩, T'), ?_, gc_esc (by omega), ⟨hf', hok.keep.trans ((Keep.app _ _ _).trans hk'), fun e he => ?_, .inr ⟨m2, rfl, hm2le⟩, fun n y hn hy hw hcy => ?_⟩⟩
                · simp only [P_register_hunt_find_1.loop11s, P_register_hunt_find_1.loop11, vs, List.getD_cons_zero, List.getD_cons_succ, q65, Option.bind_some, hi', decide_true, y23, hix, hld, q63, y56 q62, q54 cn, hstb, q64, q97, y55, q61, hbx0, hbxv, hxw, e1, t1, Option.map_some, hmay, hmb, fn43, hcall, hm2]
                  simp [P_register_hunt_find_1.j1, P_register_hunt_find_1.j2, hw']
                · rcases hq3 e he with he | he
                  · exact hok.t e he
                  · exact .inr he
                · by_cases hni : n = i
                  · subst hni
                    rw [hx] at hy; simp at hy; subst hy
                    exact hq2
                  · exact hok.dead n y (by omega) hy hw hcy)
        (fun s hok => ⟨(.exit 0, [unk], s.1), by simp [P_register_hunt_find_1.loop11s, P_register_hunt_find_1.loop11, vs], .inr ⟨s.1, s.2, rfl, hok⟩⟩)
        l.length 0 (⟨Hm ++ [Blk.cells (stc d u) y6 true], none⟩, T ++ [(d, u)]) (vs 0, ⟨Hm ++ [Blk.cells (stc d u) y6 true], none⟩) (by omega)
        ⟨hf2, .refl _ _, fun e he => .inl he, .inl ⟨rfl, rfl⟩, fun n x hn => by omega⟩ (by simpa using hgc 0 [])
      have hlen := fun (st : AS) => (c.rd H).len (P := PP) q57 st
      simp only [vs] at hr1
      have h0 : ((0 : Nat) : Int) = 0 := rfl
      rw [h0] at hr1
      rcases hr2 with ⟨H', m, row', T', rfl, hmle, hk', hf', q, hq1, hq2⟩ | ⟨st, T', rfl, hok⟩
      · refine ⟨true, H', some m, row', T', ?_, hk2.trans hk', hf', fun _ => ⟨q, hq1, hq2⟩, by simp⟩
        rw [y22, P_register_hunt_find_1.eq]
        simp only [P_register_hunt_find_1.sh, y56 s1, Option.bind_some, y55, q61, k1, k3, k4, kd, ks, aNil, y86, y51, q72, y42, q75, hln, q204, hz, hall, decide_false, q23, Option.map_some, htr, hin, hup', q1, q2, (hsbc hsb2).1, hread, q42, ext20, ext21, hlen, hr1]
        exact fin_esc (by omega)
      · have hdead : Dead l d.testBit u := dead_none hna (fun n x hx hcan hv => by
          have hw := nor n x hx hcan hv
          rw [if_pos hw]
          exact hok.dead n x (q12 hx) hx hw hcan)
        have htl : ∀ e ∈ T', e ∈ T ∨ Dead l e.1.testBit e.2 := fun e he => by
          rcases hok.t e he with he | he
          · rw [List.mem_append] at he
            rcases he with he | he
            · exact .inl he
            · simp at he; subst he; exact .inr hdead
          · exact .inr he
        obtain ⟨sh, se⟩ := st
        rcases hok.esc with ⟨he, hh⟩ | ⟨m, he, hm⟩
        · simp only at he hh
          subst he; subst hh
          have hfm' : Fx p Hm row T' := by
            obtain ⟨es', ck', g1, g2, g3⟩ := hok.fx.mb
            have hml : p.mb < Hm.length := by omega
            rw [List.getElem?_append_left hml] at g1
            exact hfm.keep (.refl _ _) hfm.rc ⟨es', ck', g1, g2, g3⟩ hok.fx.ok
          refine ⟨false, Hm, none, row, T', ?_, hkm, hfm', by simp, fun _ => ⟨rfl, hdead, htl⟩⟩
          rw [y22, P_register_hunt_find_1.eq]
          simp only [P_register_hunt_find_1.sh, y56 s1, Option.bind_some, y55, q61, k1, k3, k4, kd, ks, aNil, y86, y51, q72, y42, q75, hln, q204, hz, hall, decide_false, q23, Option.map_some, htr, hin, hup', q1, q2, (hsbc hsb2).1, hread, q42, ext20, ext21, hlen, hr1, if_true, P_register_hunt_find_1.j4]
          rw [← hHml]
          exact q271 (by simp) (by simp)
        · simp only at he
          subst he
          refine ⟨false, sh, some m, row, T', ?_, hk2.trans hok.keep, hok.fx, by simp, fun _ => ⟨rfl, hdead, htl⟩⟩
          rw [y22, P_register_hunt_find_1.eq]
          simp only [P_register_hunt_find_1.sh, y56 s1, Option.bind_some, y55, q61, k1, k3, k4, kd, ks, aNil, y86, y51, q72, y42, q75, hln, q204, hz, hall, decide_false, q23, Option.map_some, htr, hin, hup', q1, q2, (hsbc hsb2).1, hread, q42, ext20, ext21, hlen, hr1, if_true, P_register_hunt_find_1.j4]
          exact fin_esc (by omega)

end Go.Proofs.Ytfinilnkempofaa

end
