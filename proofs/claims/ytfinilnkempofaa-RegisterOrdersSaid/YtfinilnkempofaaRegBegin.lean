/- A part of the proof: RegBegin. Its conditions: none. -/
import Derived.Test.YtfinilnkempofaaRegFrom
import Derived.Test.YtfinilnkempofaaAm23
set_option linter.all false
set_option linter.unusedVariables false
set_option linter.unusedSimpArgs false
set_option linter.unnecessarySimpa false
namespace Go.Proofs.Ytfinilnkempofaa
open Go Go.Am Go.Reg

theorem bsl87_1 (n : Int) (H : List Blk) (e : Option Nat) : bsl PP t_L_uint64 1 [0] [.int .u64 n] ⟨H, e⟩ = some (.slice (some ⟨H.length, 0, none⟩) 1 1, ⟨H ++ [.cells [.int .u64 n] t_uint64 true], e⟩) := by kernel_rfl
theorem qby_uint64 : bytesP PP t_uint64 = some 8 := by kernel_rfl
theorem qz_uint64 : zeroP PP t_uint64 = some (.int .u64 0) := by kernel_rfl
theorem build89 (n r : Nat) (cs : List Value) : aBuild PP t_register_hunt [(0, tSl n cs), (3, .map (some r))] = some (.agg #[tSl n cs, .int .u64 0, .slice none 0 0, .map (some r)]) := by kernel_rfl

theorem sets_len (A : List Nat) : (sets A).length = A.length := by simp [sets]
theorem sets_refs (A : List Nat) : lrefs (sets A) = [] := by
  induction A with
  | nil => rfl
  | cons x xs ih => simpa [sets] using ih
theorem sets_snoc (A : List Nat) (x : Nat) : sets (A ++ [x]) = sets A ++ [.int .u64 (x : Int)] := by simp [sets]

/-- the hunt under way -/
structure Bg (H0 : List Blk) (v : Value) (l : List (Rw (List Value))) (im i : Nat) (H : List Blk) (hb mb : Nat) (M : Nat) (A : List Nat) (av : Value) : Prop where
  pre : ∀ j, j < H0.length → H[j]? = H0[j]?
  len : H0.length ≤ H.length
  hbk : H[hb]? = some (.cells [v, .int .u64 (M : Int), av, .map (some mb)] t_register_hunt true)
  mbk : H[mb]? = some (.map [] 0)
  hbn : H0.length ≤ hb
  mbn : H0.length ≤ mb
  av : (av = .slice none 0 0 ∧ A = []) ∨ ∃ ab, H0.length ≤ ab ∧ av = .slice (some ⟨ab, 0, none⟩) A.length UNK ∧ H[ab]? = some (.cells (sets A) t_uint64 true)
  aLen : A.length = i
  m : ∀ k, M.testBit k = true ↔ k < im ∧ ∃ x, l[k]? = some x ∧ mustR x = true
  a : ∀ (j : Nat) x, j < i → l[j]? = some x → ∀ k, (A.getD j 0).testBit k = true ↔ ∃ y, l[k]? = some y ∧ k ≠ j ∧ aheadR y x = true
  mlt : M < 2 ^ 64
  alt : ∀ x ∈ A, x < 2 ^ 64

/-- what a hunt under way leads to -/
theorem Bg.reach {H0 : List Blk} {v : Value} {l : List (Rw (List Value))} {im i : Nat} {H : List Blk} {hb mb M : Nat} {A : List Nat} {av : Value} (h : Bg H0 v l im i H hb mb M A av) (hv : vrefs v = []) {ids : List Nat}
    (hids : ∀ r ∈ ids, r = hb ∨ (∃ x : Rw (List Value), OkRw x ∧ H0.length ≤ r ∧ H[r]? = some (.cells (opc x) t_history_Op true))) :
    ∀ r, Rch H ids r → H0.length ≤ r ∧ (r = hb ∨ r = mb ∨ (∃ ab, av = .slice (some ⟨ab, 0, none⟩) A.length UNK ∧ r = ab) ∨ (∃ x : Rw (List Value), OkRw x ∧ H[r]? = some (.cells (opc x) t_history_Op true))) := by
  intro r hr
  induction hr with
  | here hr =>
    rcases hids _ hr with rfl | ⟨x, hx, hn, hg⟩
    · exact ⟨h.hbn, .inl rfl⟩
    · exact ⟨hn, .inr (.inr (.inr ⟨x, hx, hg⟩))⟩
  | @step r q b hq hb' hrb ih =>
    obtain ⟨_, ih⟩ := ih
    rcases ih with rfl | rfl | ⟨ab, hav, rfl⟩ | ⟨x, hx, hg⟩
    · rw [h.hbk] at hb'
      simp at hb'
      subst hb'
      simp [blkRefs, hv] at hrb
      rcases h.av with ⟨rfl, _⟩ | ⟨ab, hab, rfl, hg⟩
      · simp at hrb
        subst hrb
        exact ⟨h.mbn, .inr (.inl rfl)⟩
      · simp at hrb
        rcases hrb with rfl | rfl
        · exact ⟨hab, .inr (.inr (.inl ⟨_, rfl, rfl⟩))⟩
        · exact ⟨h.mbn, .inr (.inl rfl)⟩
    · rw [h.mbk] at hb'
      simp at hb'
      subst hb'
      simp [blkRefs] at hrb
    · rcases h.av with ⟨rfl, _⟩ | ⟨ab', hab, hav', hg⟩
      · simp at hav
      · rw [hav] at hav'
        simp at hav'
        subst hav'
        rw [hg] at hb'
        simp at hb'
        subst hb'
        simp [blkRefs, sets_refs] at hrb
    · rw [hg] at hb'
      simp at hb'
      subst hb'
      simp [blkRefs, (opc_cells hx).2.1] at hrb

/-- names change, the hunt stays -/
theorem Bg.gc {H0 : List Blk} {v : Value} {l : List (Rw (List Value))} {im i : Nat} {st : AS} {hb mb M : Nat} {A : List Nat} {av : Value} (h : Bg H0 v l im i st.H hb mb M A av) (hv : vrefs v = []) (vs : List Value) (hm : hb ∈ lrefs vs)
    (hids : ∀ r ∈ lrefs vs, r = hb ∨ (∃ x : Rw (List Value), OkRw x ∧ H0.length ≤ r ∧ st.H[r]? = some (.cells (opc x) t_history_Op true))) :
    ∃ σ : Nat → Nat, (Am.gc H0.length vs st).1 = lren σ vs ∧ (∃ mb' av', Bg H0 v l im i (Am.gc H0.length vs st).2.H (σ hb) mb' M A av') ∧
      ∀ (r : Nat) (x : Rw (List Value)), OkRw x → r ∈ lrefs vs → H0.length ≤ r → st.H[r]? = some (.cells (opc x) t_history_Op true) → H0.length ≤ σ r ∧ (Am.gc H0.length vs st).2.H[σ r]? = some (.cells (opc x) t_history_Op true) := by
  obtain ⟨σ, h1, h2, h3, h4⟩ := gc_spec H0.length vs st
  have hr := h.reach hv hids
  have old : ∀ q b, Rch st.H (lrefs vs) q → q < H0.length → st.H[q]? = some b → ∀ x ∈ blkRefs b, x < H0.length := fun q b hq hlt => by have := (hr q hq).1; omega
  have g := fun r hrch hn => h3 r hrch old hn
  have rhb : Rch st.H (lrefs vs) hb := .here hm
  have hvr : vren σ v = v := vren_same v (fun b hb => by rw [hv] at hb; simp at hb)
  have rmb : Rch st.H (lrefs vs) mb := .step rhb h.hbk (by simp [blkRefs])
  obtain ⟨n1, g1⟩ := g hb rhb h.hbn
  obtain ⟨n2, g2⟩ := g mb rmb h.mbn
  refine ⟨σ, h1, ⟨σ mb, vren σ av, ?_⟩, fun r x hx hrm hn hg => ?_⟩
  · refine ⟨fun j hj => by rw [(h2 j hj).2, h.pre j hj], h4 h.len, ?_, ?_, n1, n2, ?_, h.aLen, h.m, h.a, h.mlt, h.alt⟩
    · have := g1 _ h.hbk
      simpa [renBlk, lren, hvr, vren] using this
    · have := g2 _ h.mbk
      simpa [renBlk] using this
    · rcases h.av with ⟨rfl, hA⟩ | ⟨ab, hab, rfl, hg⟩
      · exact .inl ⟨rfl, hA⟩
      · have rab : Rch st.H (lrefs vs) ab := .step rhb h.hbk (by simp [blkRefs])
        obtain ⟨n3, g3⟩ := g ab rab hab
        refine .inr ⟨σ ab, n3, rfl, ?_⟩
        have := g3 _ hg
        rw [this]
        simp only [renBlk]
        rw [lren_same (sets A) (fun b hb => by rw [sets_refs] at hb; simp at hb)]
  · obtain ⟨n5, g5⟩ := g r (.here hrm) hn
    refine ⟨n5, ?_⟩
    rw [g5 _ hg]
    simp only [renBlk]
    rw [lren_same (opc x) (fun b hb => by rw [(opc_cells hx).2.1] at hb; simp at hb)]

theorem Bg.app {H0 : List Blk} {v : Value} {l : List (Rw (List Value))} {im i : Nat} {H : List Blk} {hb mb M : Nat} {A : List Nat} {av : Value} (h : Bg H0 v l im i H hb mb M A av) (L : List Blk) : Bg H0 v l im i (H ++ L) hb mb M A av := by
  refine ⟨fun j hj => by rw [List.getElem?_append_left (by have := h.len; omega)]; exact h.pre j hj, by simp; have := h.len; omega, ?_, ?_, h.hbn, h.mbn, ?_, h.aLen, h.m, h.a, h.mlt, h.alt⟩
  · rw [List.getElem?_append_left (lt_of_get h.hbk)]; exact h.hbk
  · rw [List.getElem?_append_left (lt_of_get h.mbk)]; exact h.mbk
  · rcases h.av with h1 | ⟨ab, h1, h2, h3⟩
    · exact .inl h1
    · exact .inr ⟨ab, h1, h2, by rw [List.getElem?_append_left (lt_of_get h3)]; exact h3⟩

theorem opc_f {x : Rw (List Value)} (h : OkRw x) : (opc x)[17]? = some (.int .i64 x.f) ∧ (opc x)[18]? = some (.int .i64 x.t) ∧ (opc x)[0]? = some (.bool x.w) := by
  have := sec_len h.v
  refine ⟨?_, ?_, rfl⟩
  · simp [opc, this]
  · simp [opc, this]

section
variable {l : List (Rw (List Value))}

/-- what ends ahead of an op -/
theorem begin_inner (hl : OkOps l) (hm : l.length ≤ 60) {H0 : List Blk} {im i M : Nat} {A : List Nat} {x : Rw (List Value)} (hx : l[i]? = some x) {hb mb xb : Nat} {av : Value} {st : AS} (hbg : Bg H0 (tSl l.length (opsC l)) l im i st.H hb mb M A av) (hxb : H0.length ≤ xb) (hxg : st.H[xb]? = some (.cells (opc x) t_history_Op true)) :
    ∃ r, loopG H0.length (register_begin.loop9s (acall PP TT) loopG H0.length) ([tSl l.length (opsC l), .pointer (some ⟨hb, 0, none⟩), .int .i64 i, .pointer (some ⟨xb, 0, none⟩), .int .u64 0, tSl l.length (opsC l), .int .i64 l.length, .int .i64 i, tSl l.length (opsC l), .int .i64 l.length, .int .i64 0], st) = some r ∧
      ∃ (hb mb : Nat) (av : Value) (b : Nat) (st : AS), r = (.exit 2, [tSl l.length (opsC l), .pointer (some ⟨hb, 0, none⟩), .int .u64 (b : Int), tSl l.length (opsC l), .int .i64 l.length, .int .i64 i], st) ∧ Bg H0 (tSl l.length (opsC l)) l im i st.H hb mb M A av ∧ b < 2 ^ 64 ∧
        ∀ k, b.testBit k = true ↔ ∃ y, l[k]? = some y ∧ k ≠ i ∧ aheadR y x = true := by
  have hxo := hl x (List.mem_of_getElem? hx)
  have hil := lt_of_get hx
  obtain ⟨x17, x18, x0⟩ := opc_f hxo
  have hvr : vrefs (tSl l.length (opsC l)) = [] := by simp [opsC_refs hl]
  refine loop_inv (len := l.length) (fun k X => ∃ (hb mb xb : Nat) (av : Value) (b : Nat) (st : AS), X = ([tSl l.length (opsC l), .pointer (some ⟨hb, 0, none⟩), .int .i64 i, .pointer (some ⟨xb, 0, none⟩), .int .u64 (b : Int), tSl l.length (opsC l), .int .i64 l.length, .int .i64 i, tSl l.length (opsC l), .int .i64 l.length, .int .i64 k], st) ∧
      Bg H0 (tSl l.length (opsC l)) l im i st.H hb mb M A av ∧ H0.length ≤ xb ∧ st.H[xb]? = some (.cells (opc x) t_history_Op true) ∧ b < 2 ^ 64 ∧ ∀ q, b.testBit q = true ↔ q < k ∧ ∃ y, l[q]? = some y ∧ q ≠ i ∧ aheadR y x = true) _ ?_ ?_ ?_ l.length 0 _ (by omega)
      ⟨hb, mb, xb, av, 0, st, rfl, hbg, hxb, hxg, by decide, fun q => by simp⟩
  · rintro k X ⟨hb, mb, xb, av, b, st, rfl, h1, h2, h3, h4, h5⟩
    obtain ⟨σ, e1, ⟨mb', av', e2⟩, e3⟩ := h1.gc hvr [tSl l.length (opsC l), .pointer (some ⟨hb, 0, none⟩), .int .i64 i, .pointer (some ⟨xb, 0, none⟩), .int .u64 (b : Int), tSl l.length (opsC l), .int .i64 l.length, .int .i64 i, tSl l.length (opsC l), .int .i64 l.length, .int .i64 k] (by simp [opsC_refs hl])
      (fun r hr => by
        simp [opsC_refs hl] at hr
        rcases hr with rfl | rfl
        · exact .inl rfl
        · exact .inr ⟨x, hxo, h2, h3⟩)
    obtain ⟨e4, e5⟩ := e3 xb x hxo (by simp [opsC_refs hl]) h2 h3
    have hvs : vren σ (tSl l.length (opsC l)) = tSl l.length (opsC l) := vren_same _ (fun b hb => by rw [hvr] at hb; simp at hb)
    refine ⟨σ hb, mb', σ xb, av', b, (gc H0.length [tSl l.length (opsC l), .pointer (some ⟨hb, 0, none⟩), .int .i64 i, .pointer (some ⟨xb, 0, none⟩), .int .u64 (b : Int), tSl l.length (opsC l), .int .i64 l.length, .int .i64 i, tSl l.length (opsC l), .int .i64 l.length, .int .i64 k] st).2, ?_, e2, e4, e5, h4, h5⟩
    refine Prod.ext ?_ rfl
    rw [e1]
    simp [lren, hvs, vren]
  · rintro k X hk ⟨hb, mb, xb, av, b, st, rfl, h1, h2, h3, h4, h5⟩
    obtain ⟨y, hy⟩ : ∃ y, l[k]? = some y := ⟨_, List.getElem?_eq_getElem hk⟩
    have hyo := hl y (List.mem_of_getElem? hy)
    obtain ⟨c1, c2, c3⟩ := opc_cells hyo
    have cn := opc_len hyo
    obtain ⟨y17, y18, y0⟩ := opc_f hyo
    obtain ⟨sh, se⟩ := st
    simp only at h1 h3
    have hk' : ((k : Int) < (l.length : Int)) := by omega
    have hrd : Rd sh (tSl l.length (opsC l)) l.length (opsC l) := .tree _ _
    have hix := hrd.index (P := PP) qu_L_history_Op qsz_history_Op (k := .i64) (i := (k : Int)) (by omega) hk'
    simp at hix
    have hld := op_load40 hrd hl hy se
    have hw' : IntKind.i64.wrap ((k : Int) + 1) = ((k + 1 : Nat) : Int) := by rw [i64_wrap (by omega)]; omega
    have hstb : storeL ⟨sh ++ [Blk.cells qz_history_Op t_history_Op true], se⟩ sh.length 0 (opc y) = some ⟨sh ++ [Blk.cells (opc y) t_history_Op true], se⟩ := by
      rw [storeL_app0]
      simp [storeL, cn, qzl_history_Op, c1, putCells_all, c2, escOf]
    have hy18 : cellAt (sh ++ [Blk.cells (opc y) t_history_Op true]) sh.length 18 = some (.int .i64 y.t) := by simp [cellAt, y18]
    have hx17 : cellAt (sh ++ [Blk.cells (opc y) t_history_Op true]) xb 17 = some (.int .i64 x.f) := by
      simp only [cellAt, List.getElem?_append_left (lt_of_get h3), h3]
      exact x17
    have hor := bin_or (P := PP) (t := t_uint64) (ox := .tmp 59) (oy := .tmp 61) h4 (y := 2 ^ k) (Nat.pow_lt_pow_right (by decide) (by omega))
    have hbk := bin_bit (P := PP) (t := t_uint64) (ox := .const (.int .u64 1)) (oy := .tmp 60) (j := .i64) (i := k) (by omega)
    have hne : decide ((k : Int) = (i : Int)) = decide (k = i) := by
      rw [Bool.eq_iff_iff]; simp only [decide_eq_true_eq]; omega
    by_cases hah : k ≠ i ∧ aheadR y x = true
    · obtain ⟨g1, g2⟩ := hah
      have g2' := g2
      simp only [aheadR, Bool.and_eq_true, decide_eq_true_eq] at g2'
      refine .inr ⟨_, ?_, hb, mb, xb, av, b ||| 2 ^ k, ⟨sh ++ [Blk.cells (opc y) t_history_Op true], se⟩, rfl, h1.app _, h2, by rw [List.getElem?_append_left (lt_of_get h3)]; exact h3, Nat.or_lt_two_pow h4 (Nat.pow_lt_pow_right (by decide) (by omega)), fun q => ?_⟩
      · simp only [register_begin.loop9s, register_begin.loop9, List.getD_cons_zero, List.getD_cons_succ, bin_lss, Option.bind_some, hk', decide_true, bcase_true, hix, hld, qzg_history_Op, box_agg qza_history_Op, store_agg cn, hstb, bin_neq, hne, g1, decide_false, Bool.not_false, qfa_history_Op_3, qfa_history_Op_2, load_one, hy18, hx17, bin_geq, g2'.1, g2'.2]
        simp only [register_begin.j4, register_begin.j5, Option.bind_some, List.getD_cons_zero, List.getD_cons_succ, bcase_true, hbk, hor, bin_add, hw']
      · rw [bits_ins]
        simp only [ins, Bool.or_eq_true, beq_iff_eq, h5]
        constructor
        · rintro (rfl | ⟨hq, hh⟩)
          · exact ⟨by omega, y, hy, g1, g2⟩
          · exact ⟨by omega, hh⟩
        · rintro ⟨hq, hh⟩
          by_cases hqk : q = k
          · exact .inl hqk
          · exact .inr ⟨by omega, hh⟩
    · refine .inr ⟨_, ?_, hb, mb, xb, av, b, ⟨sh ++ [Blk.cells (opc y) t_history_Op true], se⟩, rfl, h1.app _, h2, by rw [List.getElem?_append_left (lt_of_get h3)]; exact h3, h4, fun q => ?_⟩
      · by_cases g1 : k = i
        · subst g1
          simp only [register_begin.loop9s, register_begin.loop9, List.getD_cons_zero, List.getD_cons_succ, bin_lss, Option.bind_some, hk', decide_true, bcase_true, hix, hld, qzg_history_Op, box_agg qza_history_Op, store_agg cn, hstb, bin_neq, Bool.not_true, bcase_false]
          simp only [register_begin.j4, register_begin.j5, Option.bind_some, List.getD_cons_zero, List.getD_cons_succ, bcase_false, bin_add, hw']
        · by_cases g3 : 0 ≤ y.t
          · have g4 : ¬ y.t < x.f := fun hc => hah ⟨g1, by simp [aheadR, g3, hc]⟩
            simp only [register_begin.loop9s, register_begin.loop9, List.getD_cons_zero, List.getD_cons_succ, bin_lss, Option.bind_some, hk', decide_true, bcase_true, hix, hld, qzg_history_Op, box_agg qza_history_Op, store_agg cn, hstb, bin_neq, hne, g1, decide_false, Bool.not_false, qfa_history_Op_3, qfa_history_Op_2, load_one, hy18, hx17, bin_geq, g3, g4]
            simp only [register_begin.j4, register_begin.j5, Option.bind_some, List.getD_cons_zero, List.getD_cons_succ, bcase_false, bin_add, hw']
          · simp only [register_begin.loop9s, register_begin.loop9, List.getD_cons_zero, List.getD_cons_succ, bin_lss, Option.bind_some, hk', decide_true, bcase_true, hix, hld, qzg_history_Op, box_agg qza_history_Op, store_agg cn, hstb, bin_neq, hne, g1, decide_false, Bool.not_false, qfa_history_Op_3, load_one, hy18, bin_geq, g3, bcase_false]
            simp only [register_begin.j4, register_begin.j5, Option.bind_some, List.getD_cons_zero, List.getD_cons_succ, bcase_false, bin_add, hw']
      · rw [h5]
        constructor
        · rintro ⟨hq, hh⟩; exact ⟨by omega, hh⟩
        · rintro ⟨hq, z, hz, hz2, hz3⟩
          refine ⟨?_, z, hz, hz2, hz3⟩
          by_cases hqk : q = k
          · subst hqk
            rw [hy] at hz; simp at hz; subst hz
            exact absurd ⟨hz2, hz3⟩ hah
          · omega
  · rintro X ⟨hb, mb, xb, av, b, st, rfl, h1, h2, h3, h4, h5⟩
    refine ⟨_, ?_, hb, mb, av, b, st, rfl, h1, h4, fun k => ?_⟩
    · simp [register_begin.loop9s, register_begin.loop9, bin_lss, bcase_if]
    · rw [h5]
      constructor
      · rintro ⟨_, hh⟩; exact hh
      · rintro ⟨y, hy, hh⟩; exact ⟨lt_of_get hy, y, hy, hh⟩

/-- one set more -/
theorem app87 {R : Type} {H : List Blk} {e : Option Nat} {k : Value → AS → Option R} {av y : Value} {A : List Nat} {n0 b : Nat} (hav : (av = .slice none 0 0 ∧ A = []) ∨ ∃ ab, n0 ≤ ab ∧ av = .slice (some ⟨ab, 0, none⟩) A.length UNK ∧ H[ab]? = some (.cells (sets A) t_uint64 true))
    (hy : Rd H y 1 [.int .u64 (b : Int)]) (hm : A.length < 1000) :
    ∃ H2 : List Blk, eBuiltin PP .append #[t_L_uint64, t_L_uint64] [av, y] ⟨H, e⟩ k = k (.slice (some ⟨H.length, 0, none⟩) (A.length + 1) UNK) ⟨H2 ++ [Blk.cells (sets (A ++ [b])) t_uint64 true], e⟩ ∧ H2.length = H.length ∧
      ∀ j : Nat, H2[j]? = H[j]? ∨ (n0 ≤ j ∧ ∃ cs, H[j]? = some (Blk.cells cs t_uint64 true)) := by
  have hs := hy.src (size := 1) (by simp) (by simp)
  rcases hav with ⟨rfl, rfl⟩ | ⟨ab, hab, rfl, hg⟩
  · refine ⟨H, ?_, rfl, fun j => .inl rfl⟩
    simp only [eBuiltin, aAppend, qu_L_uint64, qsz_uint64, qby_uint64, qz_uint64, Option.getD_some, hs]
    simp [Value.cells, aRow, newBlk, sets]
  · refine ⟨H.set ab .dead, ?_, by simp, fun j => ?_⟩
    · have h1 : (A.length + 1) * 8 ≤ 140737488355328 := by omega
      have h2 : (sets A).take A.length = sets A := List.take_of_length_le (by simp [sets])
      simp only [eBuiltin, aAppend, qu_L_uint64, qsz_uint64, qby_uint64, qz_uint64, Option.getD_some, hs]
      simp [Value.cells, h1, hg, sets_len, aRow, newBlk, h2, sets_snoc]
    · by_cases hj : ab = j
      · subst hj; exact .inr ⟨hab, _, hg⟩
      · exact .inl (List.getElem?_set_ne hj)

/-- one that must stand in the row -/
theorem Bg.setM {H0 : List Blk} {v : Value} {im i : Nat} {H : List Blk} {hb mb M : Nat} {A : List Nat} {av : Value} (h : Bg H0 v l im i H hb mb M A av) {M' : Nat} (hM' : M' < 2 ^ 64) :
    (∀ j, j < H0.length → (H.set hb (.cells [v, .int .u64 (M' : Int), av, .map (some mb)] t_register_hunt true))[j]? = H0[j]?) ∧ (H.set hb (.cells [v, .int .u64 (M' : Int), av, .map (some mb)] t_register_hunt true))[hb]? = some (.cells [v, .int .u64 (M' : Int), av, .map (some mb)] t_register_hunt true) ∧
    (H.set hb (.cells [v, .int .u64 (M' : Int), av, .map (some mb)] t_register_hunt true))[mb]? = some (.map [] 0) ∧
    ((av = .slice none 0 0 ∧ A = []) ∨ ∃ ab, H0.length ≤ ab ∧ av = .slice (some ⟨ab, 0, none⟩) A.length UNK ∧ (H.set hb (.cells [v, .int .u64 (M' : Int), av, .map (some mb)] t_register_hunt true))[ab]? = some (.cells (sets A) t_uint64 true)) := by
  refine ⟨fun j hj => ?_, List.getElem?_set_self (lt_of_get h.hbk), ?_, ?_⟩
  · rw [List.getElem?_set_ne (by have := h.hbn; omega)]; exact h.pre j hj
  · rw [List.getElem?_set_ne (fun he => by have := h.mbk; rw [← he, h.hbk] at this; simp at this)]; exact h.mbk
  · rcases h.av with h1 | ⟨ab, h1, h2, h3⟩
    · exact .inl h1
    · refine .inr ⟨ab, h1, h2, ?_⟩
      rw [List.getElem?_set_ne (fun he => by rw [← he, h.hbk] at h3; simp [t_register_hunt, t_history_Op, t_uint64, t_L_int, t_int, t_L_history_Op, t_register_state] at h3)]; exact h3

theorem begin_ok (hl : OkOps l) (hm : l.length ≤ 60) (H0 : List Blk) :
    ∃ (H : List Blk) (e : Option Nat) (hb mb M : Nat) (A : List Nat) (av : Value), acall PP TT n_register_begin [tSl l.length (opsC l)] H0 = some (.pointer (some ⟨hb, 0, none⟩), H, e) ∧ Bg H0 (tSl l.length (opsC l)) l l.length l.length H hb mb M A av := by
  have hvr : vrefs (tSl l.length (opsC l)) = [] := by simp [opsC_refs hl]
  have hvs : ∀ σ, vren σ (tSl l.length (opsC l)) = tSl l.length (opsC l) := fun σ => vren_same _ (fun b hb => by rw [hvr] at hb; simp at hb)
  let st0 : AS := ⟨H0 ++ [Blk.map [] 0, Blk.cells [tSl l.length (opsC l), .int .u64 0, .slice none 0 0, .map (some H0.length)] t_register_hunt true], none⟩
  have hbg0 : Bg H0 (tSl l.length (opsC l)) l 0 0 st0.H (H0.length + 1) H0.length 0 [] (.slice none 0 0) := by
    refine ⟨fun j hj => by show (H0 ++ _)[j]? = _; rw [List.getElem?_append_left hj], by simp [st0], ?_, ?_, by omega, by omega, .inl ⟨rfl, rfl⟩, rfl, fun k => by simp, fun j x hj => by omega, by decide, fun x hx => by simp at hx⟩
    · show (H0 ++ _)[H0.length + 1]? = _
      rw [get_app]; rfl
    · show (H0 ++ _)[H0.length]? = _
      rw [get_app0]; rfl
  obtain ⟨r, hr1, hr2⟩ := loop_inv (n0 := H0.length) (step := register_begin.loop3s (acall PP TT) loopG H0.length) (len := l.length)
    (fun i X => ∃ (hb mb M : Nat) (A : List Nat) (av : Value) (st : AS), X = ([tSl l.length (opsC l), .pointer (some ⟨hb, 0, none⟩), tSl l.length (opsC l), .int .i64 l.length, .int .i64 i], st) ∧ Bg H0 (tSl l.length (opsC l)) l i i st.H hb mb M A av)
    (fun r => ∃ (hb mb M : Nat) (A : List Nat) (av : Value) (st : AS), r = (.exit 0, [.pointer (some ⟨hb, 0, none⟩)], st) ∧ Bg H0 (tSl l.length (opsC l)) l l.length l.length st.H hb mb M A av)
    (by
      rintro i X ⟨hb, mb, M, A, av, st, rfl, h1⟩
      obtain ⟨σ, e1, ⟨mb', av', e2⟩, _⟩ := h1.gc hvr [tSl l.length (opsC l), .pointer (some ⟨hb, 0, none⟩), tSl l.length (opsC l), .int .i64 l.length, .int .i64 i] (by simp [opsC_refs hl])
        (fun r hr => by simp [opsC_refs hl] at hr; exact .inl hr)
      refine ⟨σ hb, mb', M, A, av', _, ?_, e2⟩
      refine Prod.ext ?_ rfl
      rw [e1]
      simp [lren, hvs, vren])
    (by
      rintro i X hi ⟨hb, mb, M, A, av, st, rfl, h1⟩
      obtain ⟨x, hx⟩ : ∃ x, l[i]? = some x := ⟨_, List.getElem?_eq_getElem hi⟩
      have hxo := hl x (List.mem_of_getElem? hx)
      obtain ⟨c1, c2, c3⟩ := opc_cells hxo
      have cn := opc_len hxo
      obtain ⟨x17, x18, x0⟩ := opc_f hxo
      obtain ⟨sh, se⟩ := st
      simp only at h1
      have hi' : ((i : Int) < (l.length : Int)) := by omega
      have hrd : Rd sh (tSl l.length (opsC l)) l.length (opsC l) := .tree _ _
      have hix := hrd.index (P := PP) qu_L_history_Op qsz_history_Op (k := .i64) (i := (i : Int)) (by omega) hi'
      simp at hix
      have hld := op_load40 hrd hl hx se
      have hw' : IntKind.i64.wrap ((i : Int) + 1) = ((i + 1 : Nat) : Int) := by rw [i64_wrap (by omega)]; omega
      have hstb : storeL ⟨sh ++ [Blk.cells qz_history_Op t_history_Op true], se⟩ sh.length 0 (opc x) = some ⟨sh ++ [Blk.cells (opc x) t_history_Op true], se⟩ := by
        rw [storeL_app0]
        simp [storeL, cn, qzl_history_Op, c1, putCells_all, c2, escOf]
      have hb1 := h1.app [Blk.cells (opc x) t_history_Op true]
      have hx0 : cellAt (sh ++ [Blk.cells (opc x) t_history_Op true]) sh.length 0 = some (.bool x.w) := by simp [cellAt, x0]
      have hx18 : cellAt (sh ++ [Blk.cells (opc x) t_history_Op true]) sh.length 18 = some (.int .i64 x.t) := by simp [cellAt, x18]
      have hlM : cellAt (sh ++ [Blk.cells (opc x) t_history_Op true]) hb 1 = some (.int .u64 (M : Int)) := by simp [cellAt, hb1.hbk]
      have hpw : (2 : Nat) ^ i < 2 ^ 64 := Nat.pow_lt_pow_right (by decide) (by omega)
      have hor := bin_or (P := PP) (t := t_uint64) (ox := .tmp 31) (oy := .tmp 33) h1.mlt hpw
      have hbk := bin_bit (P := PP) (t := t_uint64) (ox := .const (.int .u64 1)) (oy := .tmp 32) (j := .i64) (i := i) (by omega)
      -- the mask, and the state behind it
      let M' : Nat := if mustR x = true then M ||| 2 ^ i else M
      have hM' : M' < 2 ^ 64 := by
        show (if mustR x = true then M ||| 2 ^ i else M) < _
        split
        · exact Nat.or_lt_two_pow h1.mlt hpw
        · exact h1.mlt
      let sh2 : List Blk := if mustR x = true then (sh ++ [Blk.cells (opc x) t_history_Op true]).set hb (.cells [tSl l.length (opsC l), .int .u64 (M' : Int), av, .map (some mb)] t_register_hunt true) else sh ++ [Blk.cells (opc x) t_history_Op true]
      have hstM : aStore 1 ⟨sh ++ [Blk.cells (opc x) t_history_Op true], se⟩ (.pointer (some ⟨hb, 1, none⟩)) (.int .u64 ((M ||| 2 ^ i : Nat) : Int)) = some ⟨(sh ++ [Blk.cells (opc x) t_history_Op true]).set hb (.cells [tSl l.length (opsC l), .int .u64 ((M ||| 2 ^ i : Nat) : Int), av, .map (some mb)] t_register_hunt true), se⟩ := by
        rw [store_int]
        simp [storeL, hb1.hbk, putCells, escOf]
      have hset := hb1.setM hM'
      have hxb2 : sh2[sh.length]? = some (.cells (opc x) t_history_Op true) := by
        show (if mustR x = true then _ else _ : List Blk)[sh.length]? = _
        have hne : hb ≠ sh.length := by have := lt_of_get h1.hbk; omega
        split
        · rw [List.getElem?_set_ne hne, get_app0]; rfl
        · rw [get_app0]; rfl
      have hbg2 : Bg H0 (tSl l.length (opsC l)) l (i + 1) i sh2 hb mb M' A av := by
        have hbits : ∀ k, M'.testBit k = true ↔ k < i + 1 ∧ ∃ y, l[k]? = some y ∧ mustR y = true := fun k => by
          show (if mustR x = true then M ||| 2 ^ i else M).testBit k = true ↔ _
          split
          · rename_i hmx
            rw [bits_ins]
            simp only [ins, Bool.or_eq_true, beq_iff_eq, h1.m]
            constructor
            · rintro (rfl | ⟨hq, hh⟩)
              · exact ⟨by omega, x, hx, hmx⟩
              · exact ⟨by omega, hh⟩
            · rintro ⟨hq, hh⟩
              by_cases hqk : k = i
              · exact .inl hqk
              · exact .inr ⟨by omega, hh⟩
          · rename_i hmx
            rw [h1.m]
            constructor
            · rintro ⟨hq, hh⟩; exact ⟨by omega, hh⟩
            · rintro ⟨hq, y, hy, hmy⟩
              refine ⟨?_, y, hy, hmy⟩
              by_cases hqk : k = i
              · subst hqk
                rw [hx] at hy; simp at hy; subst hy
                exact absurd hmy hmx
              · omega
        have hlen2 : H0.length ≤ sh2.length := by
          show _ ≤ (if mustR x = true then _ else _ : List Blk).length
          split
          · simp; have := h1.len; omega
          · simp; have := h1.len; omega
        by_cases hmx : mustR x = true
        · have e1 : sh2 = (sh ++ [Blk.cells (opc x) t_history_Op true]).set hb (.cells [tSl l.length (opsC l), .int .u64 (M' : Int), av, .map (some mb)] t_register_hunt true) := if_pos hmx
          rw [e1] at hlen2 ⊢
          exact ⟨hset.1, hlen2, hset.2.1, hset.2.2.1, h1.hbn, h1.mbn, hset.2.2.2, h1.aLen, hbits, h1.a, hM', h1.alt⟩
        · have e1 : sh2 = sh ++ [Blk.cells (opc x) t_history_Op true] := if_neg hmx
          have e2 : M' = M := if_neg hmx
          rw [e2] at hbits ⊢
          rw [e1] at hlen2 ⊢
          exact ⟨hb1.pre, hlen2, hb1.hbk, hb1.mbk, h1.hbn, h1.mbn, hb1.av, h1.aLen, hbits, h1.a, h1.mlt, h1.alt⟩
      obtain ⟨ri, hri1, hb3, mb3, av3, b, st3, rfl, hbg3, hblt, hbb⟩ := begin_inner hl hm hx (st := ⟨sh2, se⟩) hbg2 (by have := h1.len; omega) hxb2
      obtain ⟨sh3, se3⟩ := st3
      simp only at hbg3
      -- the ahead set goes into the row
      have hb4 := hbg3.app [Blk.cells [.int .u64 (b : Int)] t_uint64 true]
      have hy : Rd (sh3 ++ [Blk.cells [.int .u64 (b : Int)] t_uint64 true]) (.slice (some ⟨sh3.length, 0, none⟩) 1 1) 1 [.int .u64 (b : Int)] := .own (bs := [.int .u64 (b : Int)]) (t := t_uint64) (own := true) (by rw [get_app0]; rfl) (by simp) (by simp)
      obtain ⟨H2, happ, hl2, hj2⟩ := app87 (R := AEx × List Value × AS) (e := se3) (k := fun x51 s52 => (aStore 1 s52 (.pointer (some ⟨hb3, 2, none⟩)) x51).bind fun s55 =>
        some (AEx.normal, [tSl l.length (opsC l), .pointer (some ⟨hb3, 0, none⟩), tSl l.length (opsC l), .int .i64 l.length, .int .i64 i], s55)) hb4.av hy (by rw [hbg3.aLen]; omega)
      have h2c : ∀ (j : Nat) (bk : Blk), (sh3 ++ [Blk.cells [.int .u64 (b : Int)] t_uint64 true])[j]? = some bk → (∀ cs, bk ≠ .cells cs t_uint64 true) → H2[j]? = some bk := fun j bk hj hne => by
        rcases hj2 j with h | ⟨_, cs, h⟩
        · rw [h]; exact hj
        · rw [hj] at h; simp at h; exact absurd h (hne cs)
      have hhb2 := h2c _ _ hb4.hbk (by simp [t_register_hunt, t_uint64])
      have hhb2l := lt_of_get hhb2
      have hmb2 := h2c _ _ hb4.mbk (by first | simp | decide)
      let x51 : Value := .slice (some ⟨(sh3 ++ [Blk.cells [.int .u64 (b : Int)] t_uint64 true]).length, 0, none⟩) (A.length + 1) UNK
      let H5 : List Blk := (H2 ++ [Blk.cells (sets (A ++ [b])) t_uint64 true]).set hb3 (.cells [tSl l.length (opsC l), .int .u64 (M' : Int), x51, .map (some mb3)] t_register_hunt true)
      have hst5 : aStore 1 ⟨H2 ++ [Blk.cells (sets (A ++ [b])) t_uint64 true], se3⟩ (.pointer (some ⟨hb3, 2, none⟩)) x51 = some ⟨H5, escOf se3 hb3 [(sh3 ++ [Blk.cells [.int .u64 (b : Int)] t_uint64 true]).length]⟩ := by
        show storeL _ _ _ [x51] = _
        have hg : (H2 ++ [Blk.cells (sets (A ++ [b])) t_uint64 true])[hb3]? = some (.cells [tSl l.length (opsC l), .int .u64 (M' : Int), av3, .map (some mb3)] t_register_hunt true) := by rw [List.getElem?_append_left hhb2l]; exact hhb2
        simp [storeL, hg, putCells, x51, H5]
      have hne5 : hb3 ≠ H2.length := by omega
      have hbg5 : Bg H0 (tSl l.length (opsC l)) l (i + 1) (i + 1) H5 hb3 mb3 M' (A ++ [b]) x51 := by
        have hget : ∀ j, j ≠ hb3 → H5[j]? = (H2 ++ [Blk.cells (sets (A ++ [b])) t_uint64 true])[j]? := fun j hj => List.getElem?_set_ne (Ne.symm hj)
        refine ⟨fun j hj => ?_, ?_, ?_, ?_, hb4.hbn, hb4.mbn, .inr ⟨H2.length, ?_, ?_, ?_⟩, ?_, hb4.m, fun j y hj hy' k => ?_, hM', fun z hz => ?_⟩
        · have h0 := hb4.pre j hj
          rw [hget j (by have := hb4.hbn; omega), List.getElem?_append_left (by have := hb4.len; omega)]
          rcases hj2 j with h | ⟨hn, _⟩
          · rw [h]; exact h0
          · omega
        · have := hb4.len; simp [H5]; simp at hl2 this; omega
        · show ((H2 ++ [Blk.cells (sets (A ++ [b])) t_uint64 true]).set hb3 _)[hb3]? = _
          rw [List.getElem?_set_self (by simp; omega)]
        · rw [hget mb3 (fun he => by rw [he, hhb2] at hmb2; simp at hmb2), List.getElem?_append_left (lt_of_get hmb2)]
          exact hmb2
        · have := hb4.len; omega
        · simp [x51, hl2]
        · rw [hget _ (Ne.symm hne5)]; simp
        · simp [h1.aLen]
        · by_cases hji : j = i
          · subst hji
            have : (A ++ [b]).getD j 0 = b := by simp [List.getD, h1.aLen]
            rw [this]
            rw [hx] at hy'; simp at hy'; subst hy'
            exact hbb k
          · have : (A ++ [b]).getD j 0 = A.getD j 0 := by
              have := h1.aLen
              simp only [List.getD]
              rw [List.getElem?_append_left (by omega)]
            rw [this]
            exact h1.a j y (by omega) hy' k
        · rw [List.mem_append] at hz
          rcases hz with hz | hz
          · exact h1.alt z hz
          · simp at hz; subst hz; exact hblt
      refine .inr ⟨_, ?_, hb3, mb3, M', A ++ [b], x51, ⟨H5, escOf se3 hb3 [(sh3 ++ [Blk.cells [.int .u64 (b : Int)] t_uint64 true]).length]⟩, rfl, hbg5⟩
      have hlen0 : ∀ st, aLen PP t_L_history_Op (tSl l.length (opsC l)) st = some (.int .i64 l.length) := fun st => hrd.len (P := PP) qu_L_history_Op st
      have hla : cellAt sh3 hb3 2 = some av3 := by simp [cellAt, hbg3.hbk]
      have hbs := bsl87_1 (b : Int) sh3 se3
      -- from the mask on
      have hrest : register_begin.j2 (acall PP TT) loopG H0.length (tSl l.length (opsC l)) (.pointer (some ⟨hb, 0, none⟩)) (.int .i64 i) (.pointer (some ⟨sh.length, 0, none⟩)) (tSl l.length (opsC l)) (.int .i64 l.length) (.int .i64 i) ⟨sh2, se⟩ =
          some (AEx.normal, [tSl l.length (opsC l), .pointer (some ⟨hb3, 0, none⟩), tSl l.length (opsC l), .int .i64 l.length, .int .i64 i], ⟨H5, escOf se3 hb3 [(sh3 ++ [Blk.cells [.int .u64 (b : Int)] t_uint64 true]).length]⟩) := by
        simp only [register_begin.j2, hlen0, Option.bind_some, hri1, if_true, List.getD_cons_zero, List.getD_cons_succ, register_begin.j7, aNil, qfa_register_hunt_2, load_one, hla, hbs]
        rw [happ]
        rw [show (Value.slice (some ⟨(sh3 ++ [Blk.cells [.int .u64 (b : Int)] t_uint64 true]).length, 0, none⟩) (A.length + 1) UNK) = x51 from rfl, hst5]
        rfl
      have hmust : register_begin.loop3s (acall PP TT) loopG H0.length ([tSl l.length (opsC l), .pointer (some ⟨hb, 0, none⟩), tSl l.length (opsC l), .int .i64 l.length, .int .i64 i], ⟨sh, se⟩) =
          (register_begin.j2 (acall PP TT) loopG H0.length (tSl l.length (opsC l)) (.pointer (some ⟨hb, 0, none⟩)) (.int .i64 i) (.pointer (some ⟨sh.length, 0, none⟩)) (tSl l.length (opsC l)) (.int .i64 l.length) (.int .i64 i) ⟨sh2, se⟩).bind fun r56 =>
            match r56.1 with
            | .normal => register_begin.j8 (acall PP TT) loopG H0.length (r56.2.1.getD 0 unk) (r56.2.1.getD 1 unk) (r56.2.1.getD 2 unk) (r56.2.1.getD 3 unk) (r56.2.1.getD 4 unk) r56.2.2
            | .exit i => some (.inr (.exit i, [(r56.2.1.getD 1 unk)], r56.2.2))
            | .ret => some (.inr (.ret, [(r56.2.1.getD 1 unk)], r56.2.2)) := by
        by_cases hmx : mustR x = true
        · have e1 : sh2 = (sh ++ [Blk.cells (opc x) t_history_Op true]).set hb (.cells [tSl l.length (opsC l), .int .u64 (M' : Int), av, .map (some mb)] t_register_hunt true) := if_pos hmx
          have e2 : M' = M ||| 2 ^ i := if_pos hmx
          rw [e2] at e1
          rw [← e1] at hstM
          cases hxw : x.w with
          | false =>
            simp only [register_begin.loop3s, register_begin.loop3, List.getD_cons_zero, List.getD_cons_succ, bin_lss, Option.bind_some, hi', decide_true, bcase_true, hix, hld, qzg_history_Op, box_agg qza_history_Op, store_agg cn, hstb, qfa_history_Op_0, load_one, hx0, hxw, un_not, Bool.not_false]
            simp only [register_begin.j1, Option.bind_some, List.getD_cons_zero, List.getD_cons_succ, bcase_true, aNil, qfa_register_hunt_1, load_one, hlM, hbk, hor, hstM]
            congr 1
          | true =>
            have ht : 0 ≤ x.t := by simpa [mustR, hxw] using hmx
            simp only [register_begin.loop3s, register_begin.loop3, List.getD_cons_zero, List.getD_cons_succ, bin_lss, Option.bind_some, hi', decide_true, bcase_true, hix, hld, qzg_history_Op, box_agg qza_history_Op, store_agg cn, hstb, qfa_history_Op_0, qfa_history_Op_3, load_one, hx0, hx18, hxw, un_not, Bool.not_true, bcase_false, bin_geq, ht]
            simp only [register_begin.j1, Option.bind_some, List.getD_cons_zero, List.getD_cons_succ, bcase_true, aNil, qfa_register_hunt_1, load_one, hlM, hbk, hor, hstM]
            congr 1
        · have e1 : sh2 = sh ++ [Blk.cells (opc x) t_history_Op true] := if_neg hmx
          have hxw : x.w = true := by cases hw : x.w <;> simp_all [mustR]
          have ht : ¬ 0 ≤ x.t := fun hc => hmx (by simp [mustR, hc])
          rw [e1]
          simp only [register_begin.loop3s, register_begin.loop3, List.getD_cons_zero, List.getD_cons_succ, bin_lss, Option.bind_some, hi', decide_true, bcase_true, hix, hld, qzg_history_Op, box_agg qza_history_Op, store_agg cn, hstb, qfa_history_Op_0, qfa_history_Op_3, load_one, hx0, hx18, hxw, un_not, Bool.not_true, bcase_false, bin_geq, ht, decide_false]
          simp only [register_begin.j1, Option.bind_some, List.getD_cons_zero, List.getD_cons_succ, bcase_false]
          congr 1
      rw [hmust, hrest]
      simp only [Option.bind_some, List.getD_cons_zero, List.getD_cons_succ, register_begin.j8, bin_add, hw'])
    (by
      rintro X ⟨hb, mb, M, A, av, st, rfl, h1⟩
      exact ⟨_, by simp [register_begin.loop3s, register_begin.loop3, bin_lss, bcase_if], hb, mb, M, A, av, st, rfl, h1⟩)
    l.length 0 ([tSl l.length (opsC l), .pointer (some ⟨H0.length + 1, 0, none⟩), tSl l.length (opsC l), .int .i64 l.length, .int .i64 0], st0) (by omega) ⟨_, _, _, _, _, st0, rfl, hbg0⟩
  obtain ⟨hb, mb, M, A, av, st, rfl, hbg⟩ := hr2
  obtain ⟨σ, e1, ⟨mb', av', e2⟩, _⟩ := hbg.gc hvr [.pointer (some ⟨hb, 0, none⟩)] (by simp) (fun r hr => by simp at hr; exact .inl hr)
  have hfin : fin PP false H0.length [.pointer (some ⟨hb, 0, none⟩)] st = some (.pointer (some ⟨σ hb, 0, none⟩), (gc H0.length [.pointer (some ⟨hb, 0, none⟩)] st).2.H, escBelow H0.length (gc H0.length [.pointer (some ⟨hb, 0, none⟩)] st).2.esc) := by
    unfold fin endFrz
    have h0 : frzL (frz PP H0.length 8) [.pointer (some ⟨hb, 0, none⟩)] st.H = ([.pointer (some ⟨hb, 0, none⟩)], st.H) := frzL_noSl _ _ _ _ rfl
    simp only [Bool.false_eq_true, if_false, h0]
    have e1' : (gc H0.length [.pointer (some ⟨hb, 0, none⟩)] ⟨st.H, st.esc⟩).1 = [.pointer (some ⟨σ hb, 0, none⟩)] := e1
    rw [e1']
    rfl
  refine ⟨_, escBelow H0.length (gc H0.length [.pointer (some ⟨hb, 0, none⟩)] st).2.esc, σ hb, mb', M, A, av', ?_, e2⟩
  have hlen0 : ∀ st, aLen PP t_L_history_Op (tSl l.length (opsC l)) st = some (.int .i64 l.length) := fun st => (Rd.tree (H := H0) l.length (opsC l)).len (P := PP) qu_L_history_Op st
  have hca : allCells [tSl l.length (opsC l), .int .u64 0, .slice none 0 0, .map (some H0.length)] = true := by simp
  have hbox := box_agg (H := H0 ++ [Blk.map [] 0]) (e := none) (t := t_register_hunt) hca
  rw [acall_eq, register_begin.eq]
  simp only [register_begin.sh, build89, Option.bind_some, newBlk_bare]
  have hb' : aBox t_register_hunt (.agg #[tSl l.length (opsC l), .int .u64 0, .slice none 0 0, .map (some H0.length)]) ⟨H0 ++ [Blk.map [] 0], none⟩ = some (.pointer (some ⟨H0.length + 1, 0, none⟩), st0) := by
    rw [hbox]
    simp [st0]
  rw [hb']
  simp only [Option.bind_some, hlen0, hr1, if_true, List.getD_cons_zero, register_begin.j10, hfin]

end

end Go.Proofs.Ytfinilnkempofaa
