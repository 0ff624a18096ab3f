/- A part of the proof: RegBegin, RegOrder, RegComp. Its conditions: none. -/
import Derived.Test.YtfinilnkempofaaRegProg
import Derived.Test.YtfinilnkempofaaAm23
set_option linter.all false
set_option linter.unusedVariables false
set_option linter.unusedSimpArgs false
set_option linter.unnecessarySimpa false
section
namespace Go.Proofs.Ytfinilnkempofaa
open Go Go.Am Go.Reg

theorem bsl87_1 (n : Int) (H : List Blk) (e : Option Nat) : bsl PP y132 1 [0] [.int .u64 n] ⟨H, e⟩ = some (.slice (some ⟨H.length, 0, none⟩) 1 1, ⟨H ++ [.cells [.int .u64 n] y37 true], e⟩) := by kernel_rfl
theorem y366 : y131 PP y37 = some 8 := by kernel_rfl
theorem qz_uint64 : zeroP PP y37 = some (.int .u64 0) := by kernel_rfl
theorem build89 (n r : Nat) (cs : List Value) : q89 PP y10 [(0, tSl n cs), (3, .map (some r))] = some (.agg #[tSl n cs, .int .u64 0, .slice none 0 0, .map (some r)]) := by kernel_rfl

theorem sets_len (A : List Nat) : (sets A).length = A.length := by simp [sets]
theorem sets_refs (A : List Nat) : lrefs (sets A) = [] := by
  induction A with
  | nil => rfl
  | cons x xs ih => simpa [sets] using ih
theorem sets_snoc (A : List Nat) (x : Nat) : sets (A ++ [x]) = sets A ++ [.int .u64 (x : Int)] := by simp [sets]

/-- the hunt under way -/
structure Bg (H0 : List Blk) (v : Value) (l : List (Rw (List Value))) (im i : Nat) (H : List Blk) (hb mb : Nat) (M : Nat) (A : List Nat) (av : Value) : Prop where
  pre : ∀ j, j < H0.length → H[j]? = H0[j]?
  len : H0.length ≤ H.length
  hbk : H[hb]? = some (.cells [v, .int .u64 (M : Int), av, .map (some mb)] y10 true)
  mbk : H[mb]? = some (.map [] 0)
  hbn : H0.length ≤ hb
  mbn : H0.length ≤ mb
  av : (av = .slice none 0 0 ∧ A = []) ∨ ∃ ab, H0.length ≤ ab ∧ av = .slice (some ⟨ab, 0, none⟩) A.length UNK ∧ H[ab]? = some (.cells (sets A) y37 true)
  aLen : A.length = i
  m : ∀ k, M.testBit k = true ↔ k < im ∧ ∃ x, l[k]? = some x ∧ mustR x = true
  a : ∀ (j : Nat) x, j < i → l[j]? = some x → ∀ k, (A.getD j 0).testBit k = true ↔ ∃ y, l[k]? = some y ∧ k ≠ j ∧ y159 y x = true
  mlt : M < 2 ^ 64
  alt : ∀ x ∈ A, x < 2 ^ 64

/-- what a hunt under way leads to -/
theorem Bg.reach {H0 : List Blk} {v : Value} {l : List (Rw (List Value))} {im i : Nat} {H : List Blk} {hb mb M : Nat} {A : List Nat} {av : Value} (h : Bg H0 v l im i H hb mb M A av) (hv : vrefs v = []) {ids : List Nat}
    (hids : ∀ r ∈ ids, r = hb ∨ (∃ x : Rw (List Value), OkRw x ∧ H0.length ≤ r ∧ H[r]? = some (.cells (opc x) y4 true))) :
    ∀ r, Rch H ids r → H0.length ≤ r ∧ (r = hb ∨ r = mb ∨ (∃ ab, av = .slice (some ⟨ab, 0, none⟩) A.length UNK ∧ r = ab) ∨ (∃ x : Rw (List Value), OkRw x ∧ H[r]? = some (.cells (opc x) y4 true))) := by
  intro r hr
  induction hr with
  | here hr =>
    rcases hids _ hr with rfl | ⟨x, hx, hn, hg⟩
    · exact ⟨h.hbn, .inl rfl⟩
    · exact ⟨hn, .inr (.inr (.inr ⟨x, hx, hg⟩))⟩
  | @step r q b hq hb' hrb ih =>
    obtain ⟨_, ih⟩ := ih
    rcases ih with rfl | rfl | ⟨ab, hav, rfl⟩ | ⟨x, hx, hg⟩
    · rw [h.hbk] at hb'
      simp at hb'
      subst hb'
      simp [q40, hv] at hrb
      rcases h.av with ⟨rfl, _⟩ | ⟨ab, hab, rfl, hg⟩
      · simp at hrb
        subst hrb
        exact ⟨h.mbn, .inr (.inl rfl)⟩
      · simp at hrb
        rcases hrb with rfl | rfl
        · exact ⟨hab, .inr (.inr (.inl ⟨_, rfl, rfl⟩))⟩
        · exact ⟨h.mbn, .inr (.inl rfl)⟩
    · rw [h.mbk] at hb'
      simp at hb'
      subst hb'
      simp [q40] at hrb
    · rcases h.av with ⟨rfl, _⟩ | ⟨ab', hab, hav', hg⟩
      · simp at hav
      · rw [hav] at hav'
        simp at hav'
        subst hav'
        rw [hg] at hb'
        simp at hb'
        subst hb'
        simp [q40, sets_refs] at hrb
    · rw [hg] at hb'
      simp at hb'
      subst hb'
      simp [q40, (q87 hx).2.1] at hrb

/-- names change, the hunt stays -/
theorem Bg.gc {H0 : List Blk} {v : Value} {l : List (Rw (List Value))} {im i : Nat} {st : AS} {hb mb M : Nat} {A : List Nat} {av : Value} (h : Bg H0 v l im i st.H hb mb M A av) (hv : vrefs v = []) (vs : List Value) (hm : hb ∈ lrefs vs)
    (hids : ∀ r ∈ lrefs vs, r = hb ∨ (∃ x : Rw (List Value), OkRw x ∧ H0.length ≤ r ∧ st.H[r]? = some (.cells (opc x) y4 true))) :
    ∃ σ : Nat → Nat, (Am.gc H0.length vs st).1 = lren σ vs ∧ (∃ mb' av', Bg H0 v l im i (Am.gc H0.length vs st).2.H (σ hb) mb' M A av') ∧
      ∀ (r : Nat) (x : Rw (List Value)), OkRw x → r ∈ lrefs vs → H0.length ≤ r → st.H[r]? = some (.cells (opc x) y4 true) → H0.length ≤ σ r ∧ (Am.gc H0.length vs st).2.H[σ r]? = some (.cells (opc x) y4 true) := by
  obtain ⟨σ, h1, h2, h3, h4⟩ := q275 H0.length vs st
  have hr := h.reach hv hids
  have old : ∀ q b, Rch st.H (lrefs vs) q → q < H0.length → st.H[q]? = some b → ∀ x ∈ q40 b, x < H0.length := fun q b hq hlt => by have := (hr q hq).1; omega
  have g := fun r hrch hn => h3 r hrch old hn
  have rhb : Rch st.H (lrefs vs) hb := .here hm
  have hvr : vren σ v = v := q138 v (fun b hb => by rw [hv] at hb; simp at hb)
  have rmb : Rch st.H (lrefs vs) mb := .step rhb h.hbk (by simp [q40])
  obtain ⟨n1, g1⟩ := g hb rhb h.hbn
  obtain ⟨n2, g2⟩ := g mb rmb h.mbn
  refine ⟨σ, h1, ⟨σ mb, vren σ av, ?_⟩, fun r x hx hrm hn hg => ?_⟩
  · refine ⟨fun j hj => by rw [(h2 j hj).2, h.pre j hj], h4 h.len, ?_, ?_, n1, n2, ?_, h.aLen, h.m, h.a, h.mlt, h.alt⟩
    · have := g1 _ h.hbk
      simpa [q129, lren, hvr, vren] using this
    · have := g2 _ h.mbk
      simpa [q129] using this
    · rcases h.av with ⟨rfl, hA⟩ | ⟨ab, hab, rfl, hg⟩
      · exact .inl ⟨rfl, hA⟩
      · have rab : Rch st.H (lrefs vs) ab := .step rhb h.hbk (by simp [q40])
        obtain ⟨n3, g3⟩ := g ab rab hab
        refine .inr ⟨σ ab, n3, rfl, ?_⟩
        have := g3 _ hg
        rw [this]
        simp only [q129]
        rw [y108 (sets A) (fun b hb => by rw [sets_refs] at hb; simp at hb)]
  · obtain ⟨n5, g5⟩ := g r (.here hrm) hn
    refine ⟨n5, ?_⟩
    rw [g5 _ hg]
    simp only [q129]
    rw [y108 (opc x) (fun b hb => by rw [(q87 hx).2.1] at hb; simp at hb)]

theorem Bg.app {H0 : List Blk} {v : Value} {l : List (Rw (List Value))} {im i : Nat} {H : List Blk} {hb mb M : Nat} {A : List Nat} {av : Value} (h : Bg H0 v l im i H hb mb M A av) (L : List Blk) : Bg H0 v l im i (H ++ L) hb mb M A av := by
  refine ⟨fun j hj => by rw [List.getElem?_append_left (by have := h.len; omega)]; exact h.pre j hj, by simp; have := h.len; omega, ?_, ?_, h.hbn, h.mbn, ?_, h.aLen, h.m, h.a, h.mlt, h.alt⟩
  · rw [List.getElem?_append_left (q12 h.hbk)]; exact h.hbk
  · rw [List.getElem?_append_left (q12 h.mbk)]; exact h.mbk
  · rcases h.av with h1 | ⟨ab, h1, h2, h3⟩
    · exact .inl h1
    · exact .inr ⟨ab, h1, h2, by rw [List.getElem?_append_left (q12 h3)]; exact h3⟩

theorem opc_f {x : Rw (List Value)} (h : OkRw x) : (opc x)[17]? = some (.int .i64 x.f) ∧ (opc x)[18]? = some (.int .i64 x.t) ∧ (opc x)[0]? = some (.bool x.w) := by
  have := y112 h.v
  refine ⟨?_, ?_, rfl⟩
  · simp [opc, this]
  · simp [opc, this]

section
variable {l : List (Rw (List Value))}

/-- what ends ahead of an op -/
theorem begin_inner (hl : OkOps l) (hm : l.length ≤ 60) {H0 : List Blk} {im i M : Nat} {A : List Nat} {x : Rw (List Value)} (hx : l[i]? = some x) {hb mb xb : Nat} {av : Value} {st : AS} (hbg : Bg H0 (tSl l.length (opsC l)) l im i st.H hb mb M A av) (hxb : H0.length ≤ xb) (hxg : st.H[xb]? = some (.cells (opc x) y4 true)) :
    ∃ r, loopG H0.length (register_begin.loop9s (acall PP TT) loopG H0.length) ([tSl l.length (opsC l), .pointer (some ⟨hb, 0, none⟩), .int .i64 i, .pointer (some ⟨xb, 0, none⟩), .int .u64 0, tSl l.length (opsC l), .int .i64 l.length, .int .i64 i, tSl l.length (opsC l), .int .i64 l.length, .int .i64 0], st) = some r ∧
      ∃ (hb mb : Nat) (av : Value) (b : Nat) (st : AS), r = (.exit 2, [tSl l.length (opsC l), .pointer (some ⟨hb, 0, none⟩), .int .u64 (b : Int), tSl l.length (opsC l), .int .i64 l.length, .int .i64 i], st) ∧ Bg H0 (tSl l.length (opsC l)) l im i st.H hb mb M A av ∧ b < 2 ^ 64 ∧
        ∀ k, b.testBit k = true ↔ ∃ y, l[k]? = some y ∧ k ≠ i ∧ y159 y x = true := by
  have hxo := hl x (List.mem_of_getElem? hx)
  have hil := q12 hx
  obtain ⟨x17, x18, x0⟩ := opc_f hxo
  have hvr : vrefs (tSl l.length (opsC l)) = [] := by simp [q136 hl]
  refine y264 (len := l.length) (fun k X => ∃ (hb mb xb : Nat) (av : Value) (b : Nat) (st : AS), X = ([tSl l.length (opsC l), .pointer (some ⟨hb, 0, none⟩), .int .i64 i, .pointer (some ⟨xb, 0, none⟩), .int .u64 (b : Int), tSl l.length (opsC l), .int .i64 l.length, .int .i64 i, tSl l.length (opsC l), .int .i64 l.length, .int .i64 k], st) ∧
      Bg H0 (tSl l.length (opsC l)) l im i st.H hb mb M A av ∧ H0.length ≤ xb ∧ st.H[xb]? = some (.cells (opc x) y4 true) ∧ b < 2 ^ 64 ∧ ∀ q, b.testBit q = true ↔ q < k ∧ ∃ y, l[q]? = some y ∧ q ≠ i ∧ y159 y x = true) _ ?_ ?_ ?_ l.length 0 _ (by omega)
      ⟨hb, mb, xb, av, 0, st, rfl, hbg, hxb, hxg, by decide, fun q => by simp⟩
  · rintro k X ⟨hb, mb, xb, av, b, st, rfl, h1, h2, h3, h4, h5⟩
    obtain ⟨σ, e1, ⟨mb', av', e2⟩, e3⟩ := h1.gc hvr [tSl l.length (opsC l), .pointer (some ⟨hb, 0, none⟩), .int .i64 i, .pointer (some ⟨xb, 0, none⟩), .int .u64 (b : Int), tSl l.length (opsC l), .int .i64 l.length, .int .i64 i, tSl l.length (opsC l), .int .i64 l.length, .int .i64 k] (by simp [q136 hl])
      (fun r hr => by
        simp [q136 hl] at hr
        rcases hr with rfl | rfl
        · exact .inl rfl
        · exact .inr ⟨x, hxo, h2, h3⟩)
    obtain ⟨e4, e5⟩ := e3 xb x hxo (by simp [q136 hl]) h2 h3
    have hvs : vren σ (tSl l.length (opsC l)) = tSl l.length (opsC l) := q138 _ (fun b hb => by rw [hvr] at hb; simp at hb)
    refine ⟨σ hb, mb', σ xb, av', b, (gc H0.length [tSl l.length (opsC l), .pointer (some ⟨hb, 0, none⟩), .int .i64 i, .pointer (some ⟨xb, 0, none⟩), .int .u64 (b : Int), tSl l.length (opsC l), .int .i64 l.length, .int .i64 i, tSl l.length (opsC l), .int .i64 l.length, .int .i64 k] st).2, ?_, e2, e4, e5, h4, h5⟩
    refine Prod.ext ?_ rfl
    rw [e1]
    simp [lren, hvs, vren]
  · rintro k X hk ⟨hb, mb, xb, av, b, st, rfl, h1, h2, h3, h4, h5⟩
    obtain ⟨y, hy⟩ : ∃ y, l[k]? = some y := ⟨_, List.getElem?_eq_getElem hk⟩
    have hyo := hl y (List.mem_of_getElem? hy)
    obtain ⟨c1, c2, c3⟩ := q87 hyo
    have cn := y171 hyo
    obtain ⟨y17, y18, y0⟩ := opc_f hyo
    obtain ⟨sh, se⟩ := st
    simp only at h1 h3
    have hk' : ((k : Int) < (l.length : Int)) := by omega
    have hrd : Rd sh (tSl l.length (opsC l)) l.length (opsC l) := .tree _ _
    have hix := hrd.index (P := PP) q57 y89 (k := .i64) (i := (k : Int)) (by omega) hk'
    simp at hix
    have hld := q282 hrd hl hy se
    have hw' : IntKind.i64.wrap ((k : Int) + 1) = ((k + 1 : Nat) : Int) := by rw [y150 (by omega)]; omega
    have hstb : q71 ⟨sh ++ [Blk.cells qz_history_Op y4 true], se⟩ sh.length 0 (opc y) = some ⟨sh ++ [Blk.cells (opc y) y4 true], se⟩ := by
      rw [y94]
      simp [q71, cn, y127, c1, q9, c2, escOf]
    have hy18 : y76 (sh ++ [Blk.cells (opc y) y4 true]) sh.length 18 = some (.int .i64 y.t) := by simp [y76, y18]
    have hx17 : y76 (sh ++ [Blk.cells (opc y) y4 true]) xb 17 = some (.int .i64 x.f) := by
      simp only [y76, List.getElem?_append_left (q12 h3), h3]
      exact x17
    have hor := bin_or (P := PP) (t := y37) (ox := .tmp 59) (oy := .tmp 61) h4 (y := 2 ^ k) (Nat.pow_lt_pow_right (by decide) (by omega))
    have hbk := bin_bit (P := PP) (t := y37) (ox := .const (.int .u64 1)) (oy := .tmp 60) (j := .i64) (i := k) (by omega)
    have hne : decide ((k : Int) = (i : Int)) = decide (k = i) := by
      rw [Bool.eq_iff_iff]; simp only [decide_eq_true_eq]; omega
    by_cases hah : k ≠ i ∧ y159 y x = true
    · obtain ⟨g1, g2⟩ := hah
      have g2' := g2
      simp only [y159, Bool.and_eq_true, decide_eq_true_eq] at g2'
      refine .inr ⟨_, ?_, hb, mb, xb, av, b ||| 2 ^ k, ⟨sh ++ [Blk.cells (opc y) y4 true], se⟩, rfl, h1.app _, h2, by rw [List.getElem?_append_left (q12 h3)]; exact h3, Nat.or_lt_two_pow h4 (Nat.pow_lt_pow_right (by decide) (by omega)), fun q => ?_⟩
      · simp only [register_begin.loop9s, register_begin.loop9, List.getD_cons_zero, List.getD_cons_succ, q65, Option.bind_some, hk', decide_true, y23, hix, hld, q63, y56 q62, q54 cn, hstb, q169, hne, g1, decide_false, Bool.not_false, q73, q99, y55, hy18, hx17, y153, g2'.1, g2'.2]
        simp only [register_begin.j4, register_begin.j5, Option.bind_some, List.getD_cons_zero, List.getD_cons_succ, y23, hbk, hor, q108, hw']
      · rw [q346]
        simp only [ins, Bool.or_eq_true, beq_iff_eq, h5]
        constructor
        · rintro (rfl | ⟨hq, hh⟩)
          · exact ⟨by omega, y, hy, g1, g2⟩
          · exact ⟨by omega, hh⟩
        · rintro ⟨hq, hh⟩
          by_cases hqk : q = k
          · exact .inl hqk
          · exact .inr ⟨by omega, hh⟩
    · refine .inr ⟨_, ?_, hb, mb, xb, av, b, ⟨sh ++ [Blk.cells (opc y) y4 true], se⟩, rfl, h1.app _, h2, by rw [List.getElem?_append_left (q12 h3)]; exact h3, h4, fun q => ?_⟩
      · by_cases g1 : k = i
        · subst g1
          simp only [register_begin.loop9s, register_begin.loop9, List.getD_cons_zero, List.getD_cons_succ, q65, Option.bind_some, hk', decide_true, y23, hix, hld, q63, y56 q62, q54 cn, hstb, q169, Bool.not_true, q23]
          simp only [register_begin.j4, register_begin.j5, Option.bind_some, List.getD_cons_zero, List.getD_cons_succ, q23, q108, hw']
        · by_cases g3 : 0 ≤ y.t
          · have g4 : ¬ y.t < x.f := fun hc => hah ⟨g1, by simp [y159, g3, hc]⟩
            simp only [register_begin.loop9s, register_begin.loop9, List.getD_cons_zero, List.getD_cons_succ, q65, Option.bind_some, hk', decide_true, y23, hix, hld, q63, y56 q62, q54 cn, hstb, q169, hne, g1, decide_false, Bool.not_false, q73, q99, y55, hy18, hx17, y153, g3, g4]
            simp only [register_begin.j4, register_begin.j5, Option.bind_some, List.getD_cons_zero, List.getD_cons_succ, q23, q108, hw']
          · simp only [register_begin.loop9s, register_begin.loop9, List.getD_cons_zero, List.getD_cons_succ, q65, Option.bind_some, hk', decide_true, y23, hix, hld, q63, y56 q62, q54 cn, hstb, q169, hne, g1, decide_false, Bool.not_false, q73, y55, hy18, y153, g3, q23]
            simp only [register_begin.j4, register_begin.j5, Option.bind_some, List.getD_cons_zero, List.getD_cons_succ, q23, q108, hw']
      · rw [h5]
        constructor
        · rintro ⟨hq, hh⟩; exact ⟨by omega, hh⟩
        · rintro ⟨hq, z, hz, hz2, hz3⟩
          refine ⟨?_, z, hz, hz2, hz3⟩
          by_cases hqk : q = k
          · subst hqk
            rw [hy] at hz; simp at hz; subst hz
            exact absurd ⟨hz2, hz3⟩ hah
          · omega
  · rintro X ⟨hb, mb, xb, av, b, st, rfl, h1, h2, h3, h4, h5⟩
    refine ⟨_, ?_, hb, mb, av, b, st, rfl, h1, h4, fun k => ?_⟩
    · simp [register_begin.loop9s, register_begin.loop9, q65, y193]
    · rw [h5]
      constructor
      · rintro ⟨_, hh⟩; exact hh
      · rintro ⟨y, hy, hh⟩; exact ⟨q12 hy, y, hy, hh⟩

/-- one set more -/
theorem app87 {R : Type} {H : List Blk} {e : Option Nat} {k : Value → AS → Option R} {av y : Value} {A : List Nat} {n0 b : Nat} (hav : (av = .slice none 0 0 ∧ A = []) ∨ ∃ ab, n0 ≤ ab ∧ av = .slice (some ⟨ab, 0, none⟩) A.length UNK ∧ H[ab]? = some (.cells (sets A) y37 true))
    (hy : Rd H y 1 [.int .u64 (b : Int)]) (hm : A.length < 1000) :
    ∃ H2 : List Blk, y16 PP .append #[y132, y132] [av, y] ⟨H, e⟩ k = k (.slice (some ⟨H.length, 0, none⟩) (A.length + 1) UNK) ⟨H2 ++ [Blk.cells (sets (A ++ [b])) y37 true], e⟩ ∧ H2.length = H.length ∧
      ∀ j : Nat, H2[j]? = H[j]? ∨ (n0 ≤ j ∧ ∃ cs, H[j]? = some (Blk.cells cs y37 true)) := by
  have hs := hy.src (size := 1) (by simp) (by simp)
  rcases hav with ⟨rfl, rfl⟩ | ⟨ab, hab, rfl, hg⟩
  · refine ⟨H, ?_, rfl, fun j => .inl rfl⟩
    simp only [y16, y143, q259, y310, y366, qz_uint64, Option.getD_some, hs]
    simp [Value.cells, aRow, q79, sets]
  · refine ⟨H.set ab .dead, ?_, by simp, fun j => ?_⟩
    · have h1 : (A.length + 1) * 8 ≤ 140737488355328 := by omega
      have h2 : (sets A).take A.length = sets A := List.take_of_length_le (by simp [sets])
      simp only [y16, y143, q259, y310, y366, qz_uint64, Option.getD_some, hs]
      simp [Value.cells, h1, hg, sets_len, aRow, q79, h2, sets_snoc]
    · by_cases hj : ab = j
      · subst hj; exact .inr ⟨hab, _, hg⟩
      · exact .inl (List.getElem?_set_ne hj)

/-- one that must stand in the row -/
theorem Bg.setM {H0 : List Blk} {v : Value} {im i : Nat} {H : List Blk} {hb mb M : Nat} {A : List Nat} {av : Value} (h : Bg H0 v l im i H hb mb M A av) {M' : Nat} (hM' : M' < 2 ^ 64) :
    (∀ j, j < H0.length → (H.set hb (.cells [v, .int .u64 (M' : Int), av, .map (some mb)] y10 true))[j]? = H0[j]?) ∧ (H.set hb (.cells [v, .int .u64 (M' : Int), av, .map (some mb)] y10 true))[hb]? = some (.cells [v, .int .u64 (M' : Int), av, .map (some mb)] y10 true) ∧
    (H.set hb (.cells [v, .int .u64 (M' : Int), av, .map (some mb)] y10 true))[mb]? = some (.map [] 0) ∧
    ((av = .slice none 0 0 ∧ A = []) ∨ ∃ ab, H0.length ≤ ab ∧ av = .slice (some ⟨ab, 0, none⟩) A.length UNK ∧ (H.set hb (.cells [v, .int .u64 (M' : Int), av, .map (some mb)] y10 true))[ab]? = some (.cells (sets A) y37 true)) := by
  refine ⟨fun j hj => ?_, List.getElem?_set_self (q12 h.hbk), ?_, ?_⟩
  · rw [List.getElem?_set_ne (by have := h.hbn; omega)]; exact h.pre j hj
  · rw [List.getElem?_set_ne (fun he => by have := h.mbk; rw [← he, h.hbk] at this; simp at this)]; exact h.mbk
  · rcases h.av with h1 | ⟨ab, h1, h2, h3⟩
    · exact .inl h1
    · refine .inr ⟨ab, h1, h2, ?_⟩
      rw [List.getElem?_set_ne (fun he => by rw [← he, h.hbk] at h3; simp [y10, y4, y37, y28, t_int, y9, y6] at h3)]; exact h3

theorem begin_ok (hl : OkOps l) (hm : l.length ≤ 60) (H0 : List Blk) :
    ∃ (H : List Blk) (e : Option Nat) (hb mb M : Nat) (A : List Nat) (av : Value), acall PP TT q125 [tSl l.length (opsC l)] H0 = some (.pointer (some ⟨hb, 0, none⟩), H, e) ∧ Bg H0 (tSl l.length (opsC l)) l l.length l.length H hb mb M A av := by
  have hvr : vrefs (tSl l.length (opsC l)) = [] := by simp [q136 hl]
  have hvs : ∀ σ, vren σ (tSl l.length (opsC l)) = tSl l.length (opsC l) := fun σ => q138 _ (fun b hb => by rw [hvr] at hb; simp at hb)
  let st0 : AS := ⟨H0 ++ [Blk.map [] 0, Blk.cells [tSl l.length (opsC l), .int .u64 0, .slice none 0 0, .map (some H0.length)] y10 true], none⟩
  have hbg0 : Bg H0 (tSl l.length (opsC l)) l 0 0 st0.H (H0.length + 1) H0.length 0 [] (.slice none 0 0) := by
    refine ⟨fun j hj => by show (H0 ++ _)[j]? = _; rw [List.getElem?_append_left hj], by simp [st0], ?_, ?_, by omega, by omega, .inl ⟨rfl, rfl⟩, rfl, fun k => by simp, fun j x hj => by omega, by decide, fun x hx => by simp at hx⟩
    · show (H0 ++ _)[H0.length + 1]? = _
      rw [y105]; rfl
    · show (H0 ++ _)[H0.length]? = _
      rw [q101]; rfl
  obtain ⟨r, hr1, hr2⟩ := y264 (n0 := H0.length) (step := register_begin.loop3s (acall PP TT) loopG H0.length) (len := l.length)
    (fun i X => ∃ (hb mb M : Nat) (A : List Nat) (av : Value) (st : AS), X = ([tSl l.length (opsC l), .pointer (some ⟨hb, 0, none⟩), tSl l.length (opsC l), .int .i64 l.length, .int .i64 i], st) ∧ Bg H0 (tSl l.length (opsC l)) l i i st.H hb mb M A av)
    (fun r => ∃ (hb mb M : Nat) (A : List Nat) (av : Value) (st : AS), r = (.exit 0, [.pointer (some ⟨hb, 0, none⟩)], st) ∧ Bg H0 (tSl l.length (opsC l)) l l.length l.length st.H hb mb M A av)
    (by
      rintro i X ⟨hb, mb, M, A, av, st, rfl, h1⟩
      obtain ⟨σ, e1, ⟨mb', av', e2⟩, _⟩ := h1.gc hvr [tSl l.length (opsC l), .pointer (some ⟨hb, 0, none⟩), tSl l.length (opsC l), .int .i64 l.length, .int .i64 i] (by simp [q136 hl])
        (fun r hr => by simp [q136 hl] at hr; exact .inl hr)
      refine ⟨σ hb, mb', M, A, av', _, ?_, e2⟩
      refine Prod.ext ?_ rfl
      rw [e1]
      simp [lren, hvs, vren])
    (by
      rintro i X hi ⟨hb, mb, M, A, av, st, rfl, h1⟩
      obtain ⟨x, hx⟩ : ∃ x, l[i]? = some x := ⟨_, List.getElem?_eq_getElem hi⟩
      have hxo := hl x (List.mem_of_getElem? hx)
      obtain ⟨c1, c2, c3⟩ := q87 hxo
      have cn := y171 hxo
      obtain ⟨x17, x18, x0⟩ := opc_f hxo
      obtain ⟨sh, se⟩ := st
      simp only at h1
      have hi' : ((i : Int) < (l.length : Int)) := by omega
      have hrd : Rd sh (tSl l.length (opsC l)) l.length (opsC l) := .tree _ _
      have hix := hrd.index (P := PP) q57 y89 (k := .i64) (i := (i : Int)) (by omega) hi'
      simp at hix
      have hld := q282 hrd hl hx se
      have hw' : IntKind.i64.wrap ((i : Int) + 1) = ((i + 1 : Nat) : Int) := by rw [y150 (by omega)]; omega
      have hstb : q71 ⟨sh ++ [Blk.cells qz_history_Op y4 true], se⟩ sh.length 0 (opc x) = some ⟨sh ++ [Blk.cells (opc x) y4 true], se⟩ := by
        rw [y94]
        simp [q71, cn, y127, c1, q9, c2, escOf]
      have hb1 := h1.app [Blk.cells (opc x) y4 true]
      have hx0 : y76 (sh ++ [Blk.cells (opc x) y4 true]) sh.length 0 = some (.bool x.w) := by simp [y76, x0]
      have hx18 : y76 (sh ++ [Blk.cells (opc x) y4 true]) sh.length 18 = some (.int .i64 x.t) := by simp [y76, x18]
      have hlM : y76 (sh ++ [Blk.cells (opc x) y4 true]) hb 1 = some (.int .u64 (M : Int)) := by simp [y76, hb1.hbk]
      have hpw : (2 : Nat) ^ i < 2 ^ 64 := Nat.pow_lt_pow_right (by decide) (by omega)
      have hor := bin_or (P := PP) (t := y37) (ox := .tmp 31) (oy := .tmp 33) h1.mlt hpw
      have hbk := bin_bit (P := PP) (t := y37) (ox := .const (.int .u64 1)) (oy := .tmp 32) (j := .i64) (i := i) (by omega)
      -- the mask, and the state behind it
      let M' : Nat := if mustR x = true then M ||| 2 ^ i else M
      have hM' : M' < 2 ^ 64 := by
        show (if mustR x = true then M ||| 2 ^ i else M) < _
        split
        · exact Nat.or_lt_two_pow h1.mlt hpw
        · exact h1.mlt
      let sh2 : List Blk := if mustR x = true then (sh ++ [Blk.cells (opc x) y4 true]).set hb (.cells [tSl l.length (opsC l), .int .u64 (M' : Int), av, .map (some mb)] y10 true) else sh ++ [Blk.cells (opc x) y4 true]
      have hstM : q43 1 ⟨sh ++ [Blk.cells (opc x) y4 true], se⟩ (.pointer (some ⟨hb, 1, none⟩)) (.int .u64 ((M ||| 2 ^ i : Nat) : Int)) = some ⟨(sh ++ [Blk.cells (opc x) y4 true]).set hb (.cells [tSl l.length (opsC l), .int .u64 ((M ||| 2 ^ i : Nat) : Int), av, .map (some mb)] y10 true), se⟩ := by
        rw [store_int]
        simp [q71, hb1.hbk, q49, escOf]
      have hset := hb1.setM hM'
      have hxb2 : sh2[sh.length]? = some (.cells (opc x) y4 true) := by
        show (if mustR x = true then _ else _ : List Blk)[sh.length]? = _
        have hne : hb ≠ sh.length := by have := q12 h1.hbk; omega
        split
        · rw [List.getElem?_set_ne hne, q101]; rfl
        · rw [q101]; rfl
      have hbg2 : Bg H0 (tSl l.length (opsC l)) l (i + 1) i sh2 hb mb M' A av := by
        have hbits : ∀ k, M'.testBit k = true ↔ k < i + 1 ∧ ∃ y, l[k]? = some y ∧ mustR y = true := fun k => by
          show (if mustR x = true then M ||| 2 ^ i else M).testBit k = true ↔ _
          split
          · rename_i hmx
            rw [q346]
            simp only [ins, Bool.or_eq_true, beq_iff_eq, h1.m]
            constructor
            · rintro (rfl | ⟨hq, hh⟩)
              · exact ⟨by omega, x, hx, hmx⟩
              · exact ⟨by omega, hh⟩
            · rintro ⟨hq, hh⟩
              by_cases hqk : k = i
              · exact .inl hqk
              · exact .inr ⟨by omega, hh⟩
          · rename_i hmx
            rw [h1.m]
            constructor
            · rintro ⟨hq, hh⟩; exact ⟨by omega, hh⟩
            · rintro ⟨hq, y, hy, hmy⟩
              refine ⟨?_, y, hy, hmy⟩
              by_cases hqk : k = i
              · subst hqk
                rw [hx] at hy; simp at hy; subst hy
                exact absurd hmy hmx
              · omega
        have hlen2 : H0.length ≤ sh2.length := by
          show _ ≤ (if mustR x = true then _ else _ : List Blk).length
          split
          · simp; have := h1.len; omega
          · simp; have := h1.len; omega
        by_cases hmx : mustR x = true
        · have e1 : sh2 = (sh ++ [Blk.cells (opc x) y4 true]).set hb (.cells [tSl l.length (opsC l), .int .u64 (M' : Int), av, .map (some mb)] y10 true) := if_pos hmx
          rw [e1] at hlen2 ⊢
          exact ⟨hset.1, hlen2, hset.2.1, hset.2.2.1, h1.hbn, h1.mbn, hset.2.2.2, h1.aLen, hbits, h1.a, hM', h1.alt⟩
        · have e1 : sh2 = sh ++ [Blk.cells (opc x) y4 true] := if_neg hmx
          have e2 : M' = M := if_neg hmx
          rw [e2] at hbits ⊢
          rw [e1] at hlen2 ⊢
          exact ⟨hb1.pre, hlen2, hb1.hbk, hb1.mbk, h1.hbn, h1.mbn, hb1.av, h1.aLen, hbits, h1.a, h1.mlt, h1.alt⟩
      obtain ⟨ri, hri1, hb3, mb3, av3, b, st3, rfl, hbg3, hblt, hbb⟩ := begin_inner hl hm hx (st := ⟨sh2, se⟩) hbg2 (by have := h1.len; omega) hxb2
      obtain ⟨sh3, se3⟩ := st3
      simp only at hbg3
      -- the ahead set goes into the row
      have hb4 := hbg3.app [Blk.cells [.int .u64 (b : Int)] y37 true]
      have hy : Rd (sh3 ++ [Blk.cells [.int .u64 (b : Int)] y37 true]) (.slice (some ⟨sh3.length, 0, none⟩) 1 1) 1 [.int .u64 (b : Int)] := .own (bs := [.int .u64 (b : Int)]) (t := y37) (own := true) (by rw [q101]; rfl) (by simp) (by simp)
      obtain ⟨H2, happ, hl2, hj2⟩ := app87 (R := AEx × List Value × AS) (e := se3) (k := fun x51 s52 => (q43 1 s52 (.pointer (some ⟨hb3, 2, none⟩)) x51).bind fun s55 =>
        some (AEx.normal, [tSl l.length (opsC l), .pointer (some ⟨hb3, 0, none⟩), tSl l.length (opsC l), .int .i64 l.length, .int .i64 i], s55)) hb4.av hy (by rw [hbg3.aLen]; omega)
      have h2c : ∀ (j : Nat) (bk : Blk), (sh3 ++ [Blk.cells [.int .u64 (b : Int)] y37 true])[j]? = some bk → (∀ cs, bk ≠ .cells cs y37 true) → H2[j]? = some bk := fun j bk hj hne => by
        rcases hj2 j with h | ⟨_, cs, h⟩
        · rw [h]; exact hj
        · rw [hj] at h; simp at h; exact absurd h (hne cs)
      have hhb2 := h2c _ _ hb4.hbk (by simp [y10, y37])
      have hhb2l := q12 hhb2
      have hmb2 := h2c _ _ hb4.mbk (by first | simp | decide)
      let x51 : Value := .slice (some ⟨(sh3 ++ [Blk.cells [.int .u64 (b : Int)] y37 true]).length, 0, none⟩) (A.length + 1) UNK
      let H5 : List Blk := (H2 ++ [Blk.cells (sets (A ++ [b])) y37 true]).set hb3 (.cells [tSl l.length (opsC l), .int .u64 (M' : Int), x51, .map (some mb3)] y10 true)
      have hst5 : q43 1 ⟨H2 ++ [Blk.cells (sets (A ++ [b])) y37 true], se3⟩ (.pointer (some ⟨hb3, 2, none⟩)) x51 = some ⟨H5, escOf se3 hb3 [(sh3 ++ [Blk.cells [.int .u64 (b : Int)] y37 true]).length]⟩ := by
        show q71 _ _ _ [x51] = _
        have hg : (H2 ++ [Blk.cells (sets (A ++ [b])) y37 true])[hb3]? = some (.cells [tSl l.length (opsC l), .int .u64 (M' : Int), av3, .map (some mb3)] y10 true) := by rw [List.getElem?_append_left hhb2l]; exact hhb2
        simp [q71, hg, q49, x51, H5]
      have hne5 : hb3 ≠ H2.length := by omega
      have hbg5 : Bg H0 (tSl l.length (opsC l)) l (i + 1) (i + 1) H5 hb3 mb3 M' (A ++ [b]) x51 := by
        have hget : ∀ j, j ≠ hb3 → H5[j]? = (H2 ++ [Blk.cells (sets (A ++ [b])) y37 true])[j]? := fun j hj => List.getElem?_set_ne (Ne.symm hj)
        refine ⟨fun j hj => ?_, ?_, ?_, ?_, hb4.hbn, hb4.mbn, .inr ⟨H2.length, ?_, ?_, ?_⟩, ?_, hb4.m, fun j y hj hy' k => ?_, hM', fun z hz => ?_⟩
        · have h0 := hb4.pre j hj
          rw [hget j (by have := hb4.hbn; omega), List.getElem?_append_left (by have := hb4.len; omega)]
          rcases hj2 j with h | ⟨hn, _⟩
          · rw [h]; exact h0
          · omega
        · have := hb4.len; simp [H5]; simp at hl2 this; omega
        · show ((H2 ++ [Blk.cells (sets (A ++ [b])) y37 true]).set hb3 _)[hb3]? = _
          rw [List.getElem?_set_self (by simp; omega)]
        · rw [hget mb3 (fun he => by rw [he, hhb2] at hmb2; simp at hmb2), List.getElem?_append_left (q12 hmb2)]
          exact hmb2
        · have := hb4.len; omega
        · simp [x51, hl2]
        · rw [hget _ (Ne.symm hne5)]; simp
        · simp [h1.aLen]
        · by_cases hji : j = i
          · subst hji
            have : (A ++ [b]).getD j 0 = b := by simp [List.getD, h1.aLen]
            rw [this]
            rw [hx] at hy'; simp at hy'; subst hy'
            exact hbb k
          · have : (A ++ [b]).getD j 0 = A.getD j 0 := by
              have := h1.aLen
              simp only [List.getD]
              rw [List.getElem?_append_left (by omega)]
            rw [this]
            exact h1.a j y (by omega) hy' k
        · rw [List.mem_append] at hz
          rcases hz with hz | hz
          · exact h1.alt z hz
          · simp at hz; subst hz; exact hblt
      refine .inr ⟨_, ?_, hb3, mb3, M', A ++ [b], x51, ⟨H5, escOf se3 hb3 [(sh3 ++ [Blk.cells [.int .u64 (b : Int)] y37 true]).length]⟩, rfl, hbg5⟩
      have hlen0 : ∀ st, aLen PP y9 (tSl l.length (opsC l)) st = some (.int .i64 l.length) := fun st => hrd.len (P := PP) q57 st
      have hla : y76 sh3 hb3 2 = some av3 := by simp [y76, hbg3.hbk]
      have hbs := bsl87_1 (b : Int) sh3 se3
      -- from the mask on
      have hrest : register_begin.j2 (acall PP TT) loopG H0.length (tSl l.length (opsC l)) (.pointer (some ⟨hb, 0, none⟩)) (.int .i64 i) (.pointer (some ⟨sh.length, 0, none⟩)) (tSl l.length (opsC l)) (.int .i64 l.length) (.int .i64 i) ⟨sh2, se⟩ =
          some (AEx.normal, [tSl l.length (opsC l), .pointer (some ⟨hb3, 0, none⟩), tSl l.length (opsC l), .int .i64 l.length, .int .i64 i], ⟨H5, escOf se3 hb3 [(sh3 ++ [Blk.cells [.int .u64 (b : Int)] y37 true]).length]⟩) := by
        simp only [register_begin.j2, hlen0, Option.bind_some, hri1, if_true, List.getD_cons_zero, List.getD_cons_succ, register_begin.j7, aNil, q103, y55, hla, hbs]
        rw [happ]
        rw [show (Value.slice (some ⟨(sh3 ++ [Blk.cells [.int .u64 (b : Int)] y37 true]).length, 0, none⟩) (A.length + 1) UNK) = x51 from rfl, hst5]
        rfl
      have hmust : register_begin.loop3s (acall PP TT) loopG H0.length ([tSl l.length (opsC l), .pointer (some ⟨hb, 0, none⟩), tSl l.length (opsC l), .int .i64 l.length, .int .i64 i], ⟨sh, se⟩) =
          (register_begin.j2 (acall PP TT) loopG H0.length (tSl l.length (opsC l)) (.pointer (some ⟨hb, 0, none⟩)) (.int .i64 i) (.pointer (some ⟨sh.length, 0, none⟩)) (tSl l.length (opsC l)) (.int .i64 l.length) (.int .i64 i) ⟨sh2, se⟩).bind fun r56 =>
            match r56.1 with
            | .normal => register_begin.j8 (acall PP TT) loopG H0.length (r56.2.1.getD 0 unk) (r56.2.1.getD 1 unk) (r56.2.1.getD 2 unk) (r56.2.1.getD 3 unk) (r56.2.1.getD 4 unk) r56.2.2
            | .exit i => some (.inr (.exit i, [(r56.2.1.getD 1 unk)], r56.2.2))
            | .ret => some (.inr (.ret, [(r56.2.1.getD 1 unk)], r56.2.2)) := by
        by_cases hmx : mustR x = true
        · have e1 : sh2 = (sh ++ [Blk.cells (opc x) y4 true]).set hb (.cells [tSl l.length (opsC l), .int .u64 (M' : Int), av, .map (some mb)] y10 true) := if_pos hmx
          have e2 : M' = M ||| 2 ^ i := if_pos hmx
          rw [e2] at e1
          rw [← e1] at hstM
          cases hxw : x.w with
          | false =>
            simp only [register_begin.loop3s, register_begin.loop3, List.getD_cons_zero, List.getD_cons_succ, q65, Option.bind_some, hi', decide_true, y23, hix, hld, q63, y56 q62, q54 cn, hstb, q64, y55, hx0, hxw, q187, Bool.not_false]
            simp only [register_begin.j1, Option.bind_some, List.getD_cons_zero, List.getD_cons_succ, y23, aNil, y51, y55, hlM, hbk, hor, hstM]
            congr 1
          | true =>
            have ht : 0 ≤ x.t := by simpa [mustR, hxw] using hmx
            simp only [register_begin.loop3s, register_begin.loop3, List.getD_cons_zero, List.getD_cons_succ, q65, Option.bind_some, hi', decide_true, y23, hix, hld, q63, y56 q62, q54 cn, hstb, q64, q73, y55, hx0, hx18, hxw, q187, Bool.not_true, q23, y153, ht]
            simp only [register_begin.j1, Option.bind_some, List.getD_cons_zero, List.getD_cons_succ, y23, aNil, y51, y55, hlM, hbk, hor, hstM]
            congr 1
        · have e1 : sh2 = sh ++ [Blk.cells (opc x) y4 true] := if_neg hmx
          have hxw : x.w = true := by cases hw : x.w <;> simp_all [mustR]
          have ht : ¬ 0 ≤ x.t := fun hc => hmx (by simp [mustR, hc])
          rw [e1]
          simp only [register_begin.loop3s, register_begin.loop3, List.getD_cons_zero, List.getD_cons_succ, q65, Option.bind_some, hi', decide_true, y23, hix, hld, q63, y56 q62, q54 cn, hstb, q64, q73, y55, hx0, hx18, hxw, q187, Bool.not_true, q23, y153, ht, decide_false]
          simp only [register_begin.j1, Option.bind_some, List.getD_cons_zero, List.getD_cons_succ, q23]
          congr 1
      rw [hmust, hrest]
      simp only [Option.bind_some, List.getD_cons_zero, List.getD_cons_succ, register_begin.j8, q108, hw'])
    (by
      rintro X ⟨hb, mb, M, A, av, st, rfl, h1⟩
      exact ⟨_, by simp [register_begin.loop3s, register_begin.loop3, q65, y193], hb, mb, M, A, av, st, rfl, h1⟩)
    l.length 0 ([tSl l.length (opsC l), .pointer (some ⟨H0.length + 1, 0, none⟩), tSl l.length (opsC l), .int .i64 l.length, .int .i64 0], st0) (by omega) ⟨_, _, _, _, _, st0, rfl, hbg0⟩
  obtain ⟨hb, mb, M, A, av, st, rfl, hbg⟩ := hr2
  obtain ⟨σ, e1, ⟨mb', av', e2⟩, _⟩ := hbg.gc hvr [.pointer (some ⟨hb, 0, none⟩)] (by simp) (fun r hr => by simp at hr; exact .inl hr)
  have hfin : fin PP false H0.length [.pointer (some ⟨hb, 0, none⟩)] st = some (.pointer (some ⟨σ hb, 0, none⟩), (gc H0.length [.pointer (some ⟨hb, 0, none⟩)] st).2.H, q182 H0.length (gc H0.length [.pointer (some ⟨hb, 0, none⟩)] st).2.esc) := by
    unfold fin q151
    have h0 : frzL (frz PP H0.length 8) [.pointer (some ⟨hb, 0, none⟩)] st.H = ([.pointer (some ⟨hb, 0, none⟩)], st.H) := y219 _ _ _ _ rfl
    simp only [Bool.false_eq_true, if_false, h0]
    have e1' : (gc H0.length [.pointer (some ⟨hb, 0, none⟩)] ⟨st.H, st.esc⟩).1 = [.pointer (some ⟨σ hb, 0, none⟩)] := e1
    rw [e1']
    rfl
  refine ⟨_, q182 H0.length (gc H0.length [.pointer (some ⟨hb, 0, none⟩)] st).2.esc, σ hb, mb', M, A, av', ?_, e2⟩
  have hlen0 : ∀ st, aLen PP y9 (tSl l.length (opsC l)) st = some (.int .i64 l.length) := fun st => (Rd.tree (H := H0) l.length (opsC l)).len (P := PP) q57 st
  have hca : q16 [tSl l.length (opsC l), .int .u64 0, .slice none 0 0, .map (some H0.length)] = true := by simp
  have hbox := y56 (H := H0 ++ [Blk.map [] 0]) (e := none) (t := y10) hca
  rw [y22, register_begin.eq]
  simp only [register_begin.sh, build89, Option.bind_some, y189]
  have hb' : aBox y10 (.agg #[tSl l.length (opsC l), .int .u64 0, .slice none 0 0, .map (some H0.length)]) ⟨H0 ++ [Blk.map [] 0], none⟩ = some (.pointer (some ⟨H0.length + 1, 0, none⟩), st0) := by
    rw [hbox]
    simp [st0]
  rw [hb']
  simp only [Option.bind_some, hlen0, hr1, if_true, List.getD_cons_zero, register_begin.j10, hfin]

end

end Go.Proofs.Ytfinilnkempofaa

end
section
namespace Go.Proofs.Ytfinilnkempofaa
open Go Go.Am Go.Reg

theorem build92b {u : List Value} (hu : TOk PP y1 u) : q89 PP y6 [(1, .agg u.toArray)] = some (.agg (stc 0 u).toArray) := by
  obtain ⟨u1, _, _⟩ := q100 hu
  match u, y112 hu, u1 with
  | [a0, a1, a2, a3, a4, a5, a6, a7, a8, a9, a10, a11, a12, a13, a14, a15], _, u1 =>
    simp only [allCells_cons, Bool.and_eq_true, allCells_nil] at u1
    obtain ⟨b0, b1, b2, b3, b4, b5, b6, b7, b8, b9, b10, b11, b12, b13, b14, b15, _⟩ := u1
    unfold q89
    have hz : zeroP PP y6 = some (.agg qz_register_state.toArray) := by kernel_rfl
    rw [hz]
    simp only
    rw [if_pos ⟨show q85 qz_register_state = true by kernel_rfl, by simp [Value.cells, b0, b1, b2, b3, b4, b5, b6, b7, b8, b9, b10, b11, b12, b13, b14, b15]⟩]
    refine Eq.trans (b := some (.agg #[.int .u64 0, a0, a1, a2, a3, a4, a5, a6, a7, a8, a9, a10, a11, a12, a13, a14, a15])) ?_ rfl
    kernel_rfl

theorem rowC_noSl (r : List Nat) : (rowC r).all noSl = true := nums_noSl _
theorem q192 (r : List Nat) : lrefs (rowC r) = [] := q143 _

/-- results that are values of their own -/
theorem q264 {n0 : Nat} {st : AS} {v v' w : Value} {H2 : List Blk} (hf : frz PP n0 8 v st.H = (v', H2)) (hw : noSl w = true) (hv : vrefs v' = []) (hw2 : vrefs w = []) :
    ∃ H' e, fin PP false n0 [v, w] st = some (.tuple #[v', w], H', e) ∧ ∀ r, r < n0 → H'[r]? = H2[r]? := by
  unfold fin q151
  simp only [Bool.false_eq_true, if_false, frzL, hf, y107 n0 8 w H2 hw]
  have := q324 n0 [v', w] ⟨H2, st.esc⟩ (by simp [hv, hw2])
  obtain ⟨σ, _, h2, _⟩ := q275 n0 [v', w] ⟨H2, st.esc⟩
  rw [this]
  exact ⟨_, _, rfl, fun r hr => (h2 r hr).2⟩

/-- blocks that stay: all but rows of numbers and maps -/
def KeepL (H H' : List Blk) : Prop := ∀ (i : Nat) (cs : List Value) (t : TypeId) (o : Bool), H[i]? = some (.cells cs t o) → t ≠ t_int → H'[i]? = some (.cells cs t o)

theorem KeepL.refl (H : List Blk) : KeepL H H := fun _ _ _ _ h _ => h
theorem KeepL.trans {H H' H'' : List Blk} (h : KeepL H H') (h' : KeepL H' H'') : KeepL H H'' := fun i cs t o hi ht => h' i cs t o (h i cs t o hi ht) ht

/-- a row of the call's own -/
theorem frz_rowq {n0 b c q : Nat} {H : List Blk} {cs : List Value} {r : List Nat} (hb : H[b]? = some (.cells cs t_int true)) (hn : n0 ≤ b) (hc : cs.take r.length = rowC r) (hl : r.length ≤ cs.length) :
    frz PP n0 (q + 1) (.slice (some ⟨b, 0, none⟩) r.length c) H = (tSl r.length (rowC r), H.set b .dead) := by
  have h1 : 0 + r.length * 1 ≤ cs.length := by omega
  simp only [frz, hb, q236]
  rw [if_pos ⟨hn, h1⟩]
  simp only [List.drop_zero, Nat.mul_one, hc]
  rw [y219 _ _ _ _ (rowC_noSl r)]

theorem frz_row {n0 b c : Nat} {H : List Blk} {cs : List Value} {r : List Nat} (hb : H[b]? = some (.cells cs t_int true)) (hn : n0 ≤ b) (hc : cs.take r.length = rowC r) (hl : r.length ≤ cs.length) :
    frz PP n0 8 (.slice (some ⟨b, 0, none⟩) r.length c) H = (tSl r.length (rowC r), H.set b .dead) := frz_rowq (q := 7) hb hn hc hl

section
variable {l : List (Rw (List Value))}

theorem find_ok (hl : OkOps l) (hm : l.length ≤ 60) {H0 H : List Blk} {hb mb M : Nat} {A : List Nat} {av : Value} (h : Bg H0 (tSl l.length (opsC l)) l l.length l.length H hb mb M A av) {u : List Value} (hu : TOk PP y1 u) :
    ∃ (b : Bool) (out : Value) (H' : List Blk) (e : Option Nat), acall PP TT y84 [.pointer (some ⟨hb, 0, none⟩), .agg u.toArray] H = some (.tuple #[out, .bool b], H', e) ∧ KeepL H H' ∧
      (b = true → ∃ r, out = tSl r.length (rowC r) ∧ Comp l (fun _ => false) u r) ∧ (b = false → out = tSl 0 [] ∧ Dead l (fun _ => false) u) := by
  obtain ⟨u1, u2, q320⟩ := q100 hu
  have un := y112 hu
  have htu : u.take 16 = u := List.take_of_length_le (by omega)
  obtain ⟨ab, hab⟩ : ∃ ab, ∀ r ∈ vrefs av, r = ab := by
    rcases h.av with ⟨rfl, _⟩ | ⟨ab, _, rfl, _⟩
    · exact ⟨0, fun r hr => by simp at hr⟩
    · exact ⟨ab, fun r hr => by simpa using hr⟩
  let fv : Value := .func (.func q26) #[] #[.pointer (some ⟨H.length, 0, none⟩), .pointer (some ⟨H.length + 2, 0, none⟩), .pointer (some ⟨H.length + 3, 0, none⟩)]
  let L : List Blk := [Blk.cells [.pointer (some ⟨hb, 0, none⟩)] q88 true, Blk.cells u y1 true, Blk.cells [.slice none 0 0] y28 true, Blk.cells [fv] y196 true]
  let p : Pl := { lo := H.length, hb := hb, ab := ab, mb := mb, hc := H.length, rc := H.length + 2, fc := H.length + 3, v := tSl l.length (opsC l), av := av, M := M, A := A }
  have hrdA : Rd H av A.length (sets A) := by
    rcases h.av with ⟨rfl, rfl⟩ | ⟨ab, _, rfl, hg⟩
    · exact .nil
    · exact .own hg (by simp) (by rw [List.drop_zero, List.take_of_length_le (by simp [sets_len])])
  have c : Cx p l := ⟨by simp [p, q136 hl], hl, hm, fun _ => .tree _ _, h.aLen, fun k => by
      rw [show p.M = M from rfl, h.m]
      exact ⟨fun ⟨_, hh⟩ => hh, fun ⟨x, hx, hh⟩ => ⟨q12 hx, x, hx, hh⟩⟩, fun i x hx k => h.a i x (q12 hx) hx k⟩
  have hfx : Fx p (H ++ L) [] [] := by
    refine ⟨⟨?_, hrdA.app, hab, h.mlt, h.alt⟩, fun r hr => ?_, ?_, ?_, ⟨.slice none 0 0, ?_, .inl ⟨rfl, rfl⟩⟩, ⟨[], 0, ?_, .nil, fun e he => by simp at he⟩, fun e he => by simp at he, by simp [p]⟩
    · show (H ++ L)[hb]? = _
      rw [List.getElem?_append_left (q12 h.hbk)]; exact h.hbk
    · rcases h.av with ⟨h1, _⟩ | ⟨ab', _, h1, hg⟩
      · have : p.av = av := rfl
        rw [this, h1] at hr; simp at hr
      · have : p.av = av := rfl
        rw [this, h1] at hr; simp at hr
        subst hr
        exact ⟨_, _, by rw [List.getElem?_append_left (q12 hg)]; exact hg⟩
    · show (H ++ L)[H.length]? = _
      rw [q101]; rfl
    · show (H ++ L)[H.length + 3]? = _
      rw [y105]; rfl
    · show (H ++ L)[H.length + 2]? = _
      rw [y105]; rfl
    · show (H ++ L)[mb]? = _
      rw [List.getElem?_append_left (q12 h.mbk)]; exact h.mbk
  have hz0 : (0 : Nat).testBit = fun _ => false := by funext k; simp
  have hc0 : cnt l.length (0 : Nat).testBit = 0 := by
    rw [hz0]
    generalize l.length = n
    induction n with
    | zero => rfl
    | succ n ih => simp [cnt, ih]
  obtain ⟨b, H', e, row', T', hcall, hkeep, hfx', htell⟩ := from_ok c (l.length + 1) (H ++ L) 0 u [] [] hfx (by decide) hu (by simp) (by omega) (fun e he => by simp at he)
  obtain ⟨rv, hrc, hrv⟩ := hfx'.rc
  have hcall' : acall PP TT q26 [.agg (stc 0 u).toArray, .pointer (some ⟨H.length, 0, none⟩), .pointer (some ⟨H.length + 2, 0, none⟩), .pointer (some ⟨H.length + 3, 0, none⟩)] (H ++ L) = some (.bool b, H', e) := hcall
  have hkl : ∀ H3 : List Blk, (∀ r, r < H.length → H3[r]? = H'[r]?) → KeepL H H3 := fun H3 h3 i cs t o hi ht => by
    have hlt := q12 hi
    rw [h3 i hlt]
    exact hkeep.low.2 i cs t o hi ht (by simp only [p]; omega)
  have hst : q43 1 ⟨H ++ [Blk.cells [.pointer (some ⟨hb, 0, none⟩)] q88 true, Blk.cells u y1 true, Blk.cells [.slice none 0 0] y28 true, Blk.cells [.nilFunc] y196 true], none⟩ (.pointer (some ⟨H.length + 3, 0, none⟩)) fv = some ⟨H ++ L, none⟩ := by
    show q71 _ _ _ [fv] = _
    rw [y167]
    simp [q71, q49, L, fv, lrefs, vrefs, arefs, escOf, cellV]
    omega
  have hlf : y76 (H ++ L) (H.length + 3) 0 = some fv := by rw [y185]; rfl
  have hlu : q35 (H ++ L) (H.length + 1) 0 16 = some u := by
    rw [q150]
    simp [q35, L, un, htu]
  have hlr : y76 H' (H.length + 2) 0 = some rv := by
    have : H'[H.length + 2]? = some (.cells [rv] y28 true) := hrc
    simp [y76, this]
  have hstart : ∀ (K : Option (Value × List Blk × Option Nat)), (P_register_hunt_find.sh (acall PP TT) loopG H.length (.pointer (some ⟨hb, 0, none⟩)) (.agg u.toArray) ⟨H, none⟩ = K) ↔ (bcase (.bool (!b)) (fin PP false H.length [.slice none 0 0, .bool false] ⟨H', y8 none e⟩) ((aLoad false 1 ⟨H', y8 none e⟩ (.pointer (some ⟨H.length + 2, 0, none⟩))).bind fun x12 => fin PP false H.length [x12, .bool true] ⟨H', y8 none e⟩) = K) := by
    intro K
    simp only [P_register_hunt_find.sh, box_ptr, y56 u1, Option.bind_some, qzg_L_int, qzg_Fd15f66, box_slice, box_nilFunc, List.append_assoc, List.cons_append, List.nil_append, List.length_append, List.length_cons, List.length_nil, Nat.zero_add, Nat.reduceAdd]
    rw [show (Value.func (.func q26) #[] #[.pointer (some ⟨H.length, 0, none⟩), .pointer (some ⟨H.length + 2, 0, none⟩), .pointer (some ⟨H.length + 3, 0, none⟩)]) = fv from rfl, hst]
    simp only [Option.bind_some, y55, q61, hlf, hlu, Option.map_some, build92b hu, fv, fn42, hcall', q187]
  cases b with
  | true =>
    obtain ⟨r, hr1, hr2⟩ := htell.found rfl
    simp only [List.nil_append] at hr1
    subst hr1
    rcases hrv with ⟨rfl, rfl⟩ | ⟨b', cs', rfl, hb', htk, hle, hlo⟩
    · obtain ⟨H3, e3, hf, h3⟩ := q264 (n0 := H.length) (st := ⟨H', y8 none e⟩) (v := .slice none 0 0) (v' := tSl 0 []) (w := .bool true) (H2 := H') rfl rfl rfl rfl
      refine ⟨true, _, H3, e3, ?_, hkl _ h3, fun _ => ⟨[], rfl, by rw [← hz0]; exact hr2⟩, by simp⟩
      rw [y22, P_register_hunt_find.eq, hstart]
      simp only [Bool.not_true, q23, y55, hlr, Option.bind_some]
      exact hf
    · obtain ⟨H3, e3, hf, h3⟩ := q264 (n0 := H.length) (st := ⟨H', y8 none e⟩) (w := .bool true) (frz_row (c := UNK) hb' hlo htk hle) rfl (by simp [q192]) rfl
      refine ⟨true, _, H3, e3, ?_, hkl _ (fun r hr => by rw [h3 r hr, List.getElem?_set_ne]; have : H.length ≤ b' := hlo; omega), fun _ => ⟨row', rfl, by rw [← hz0]; exact hr2⟩, by simp⟩
      rw [y22, P_register_hunt_find.eq, hstart]
      simp only [Bool.not_true, q23, y55, hlr, Option.bind_some]
      exact hf
  | false =>
    obtain ⟨_, hd, _⟩ := htell.not rfl
    obtain ⟨H3, e3, hf, h3⟩ := q264 (n0 := H.length) (st := ⟨H', y8 none e⟩) (v := .slice none 0 0) (v' := tSl 0 []) (w := .bool false) (H2 := H') rfl rfl rfl rfl
    refine ⟨false, _, H3, e3, ?_, hkl _ h3, by simp, fun _ => ⟨rfl, by rw [← hz0]; exact hd⟩⟩
    rw [y22, P_register_hunt_find.eq, hstart]
    simp only [Bool.not_false, y23]
    exact hf

/-- what is told of a row: it is complete; of none: there is none -/
structure Told (l : List (Rw (List Value))) (u : List Value) (b : Bool) (out : Value) : Prop where
  yes : b = true → ∃ r, out = tSl r.length (rowC r) ∧ Comp l (fun _ => false) u r
  no : b = false → out = tSl 0 [] ∧ Dead l (fun _ => false) u

theorem sec_lit {u : List Value} (hu : TOk PP y1 u) : u.all lit = true := by
  obtain ⟨ps, rfl, hl, hp⟩ := hu.array_inv q277
  have qu_uint8 : PP.underlying q175 = some (.int .u8) := by kernel_rfl
  clear hl hu
  induction ps with
  | nil => rfl
  | cons p ps ih =>
    have := ih (fun x hx => hp x (by simp [hx]))
    obtain ⟨n, rfl, _⟩ := (hp p (by simp)).int_inv qu_uint8
    simp [this, lit]

theorem order_ok (hl : OkOps l) (hm : l.length ≤ 60) (H : List Blk) {u : List Value} (hu : TOk PP y1 u) :
    ∃ (b : Bool) (out : Value) (H' : List Blk) (e : Option Nat), acall PP TT q113 [tSl l.length (opsC l), .agg u.toArray] H = some (.tuple #[out, .bool b], H', e) ∧ KeepL H H' ∧ Told l u b out := by
  obtain ⟨u1, u2, q320⟩ := q100 hu
  have un := y112 hu
  have htu : u.take 16 = u := List.take_of_length_le (by omega)
  obtain ⟨H2, e2, hb, mb, M, A, av, hbeg, hbg⟩ := begin_ok hl hm (H ++ [Blk.cells u y1 true])
  obtain ⟨b, out, H3, e3, hfind, hk, hyes, hno⟩ := find_ok hl hm hbg hu
  have hpre : H2[H.length]? = some (.cells u y1 true) := by
    rw [hbg.pre H.length (by simp), q101]; rfl
  have hlu : q35 H2 H.length 0 16 = some u := by simp [q35, hpre, un, htu]
  have hlu1 : q35 (H ++ [Blk.cells u y1 true]) H.length 0 16 = some u := by
    rw [q107]; simp [q35, un, htu]
  have hv : frz PP H.length 8 out H3 = (out, H3) ∧ vrefs out = [] := by
    cases b with
    | true => obtain ⟨r, rfl, _⟩ := hyes rfl; exact ⟨rfl, by simp [q192]⟩
    | false => obtain ⟨rfl, _⟩ := hno rfl; exact ⟨rfl, rfl⟩
  obtain ⟨H4, e4, hfin, h4⟩ := q264 (n0 := H.length) (st := ⟨H3, y8 (y8 none e2) e3⟩) (w := .bool b) hv.1 rfl hv.2 rfl
  refine ⟨b, out, H4, e4, ?_, fun i cs t o hi ht => ?_, hyes, hno⟩
  · rw [y22, register_Order.eq, register_Order.sh]
    have hlt : ¬ (60 : Int) < (l.length : Int) := by omega
    simp only [y56 u1, Option.bind_some, (Rd.tree (H := H) l.length (opsC l)).len q57, q223, hlt, decide_false, q23, q61, hlu1, hlu, Option.map_some, hbeg, veq_agg u (sec_lit hu), hfind, ext20, ext21, beq_self_eq_true, Bool.and_self, if_true]
    exact hfin
  · have hlt := q12 hi
    rw [h4 i hlt]
    refine hk i cs t o ?_ ht
    rw [hbg.pre i (by simp; omega), List.getElem?_append_left hlt]
    exact hi

theorem sec_noSl {u : List Value} (hu : TOk PP y1 u) : u.all noSl = true := by
  have h := sec_lit hu
  rw [List.all_eq_true] at h ⊢
  intro x hx
  have := h x hx
  cases x <;> simp_all [lit, noSl]

theorem jz (l : List (Rw (List Value))) (H : List Blk) {u : List Value} (hu : TOk PP y1 u) : jFrz PP 0 [tSl l.length (opsC l), .agg u.toArray] ⟨H, none⟩ true = ([tSl l.length (opsC l), .agg u.toArray], ⟨H, none⟩) := by
  unfold jFrz
  simp only [q126 0 8 [tSl l.length (opsC l), .agg u.toArray] H (by simp [flatV, tSl, sec_noSl hu])]

theorem right_ok (hl : OkOps l) (hm : l.length ≤ 60) (H : List Blk) {u : List Value} (hu : TOk PP y1 u) :
    ∃ (b : Bool) (out : Value) (H' : List Blk) (e : Option Nat), acall PP TT y97 [tSl l.length (opsC l), .agg u.toArray] H = some (.tuple #[.bool b, .int .i64 0], H', e) ∧ KeepL H H' ∧ Told l u b out := by
  obtain ⟨u1, u2, q320⟩ := q100 hu
  have un := y112 hu
  have htu : u.take 16 = u := List.take_of_length_le (by omega)
  obtain ⟨b, out, H2, e2, hord, hk, htold⟩ := order_ok hl hm (H ++ [Blk.cells u y1 true]) hu
  have hlu1 : q35 (H ++ [Blk.cells u y1 true]) H.length 0 16 = some u := by
    rw [q107]; simp [q35, un, htu]
  obtain ⟨H4, e4, hfin, h4⟩ := q264 (n0 := H.length) (st := ⟨H2, y8 none e2⟩) (v := .bool b) (w := .int .i64 0) (y107 _ _ _ _ rfl) rfl rfl rfl
  refine ⟨b, out, H4, e4, ?_, fun i cs t o hi ht => ?_, htold⟩
  · rw [y22, register_Right.eq]
    try rw [jz l H hu]
    rw [register_Right.sh]
    have hlt : ¬ (60 : Int) < (l.length : Int) := by omega
    simp only [y56 u1, Option.bind_some, (Rd.tree (H := H) l.length (opsC l)).len q57, q223, hlt, decide_false, q23, q61, hlu1, Option.map_some, hord, ext20, ext21, List.getD_cons_zero, List.getD_cons_succ]
    exact hfin
  · have hlt := q12 hi
    rw [h4 i hlt]
    refine hk i cs t o ?_ ht
    rw [List.getElem?_append_left hlt]
    exact hi

end

end Go.Proofs.Ytfinilnkempofaa

end
section
namespace Go.Proofs.Ytfinilnkempofaa
open Go Go.Am Go.Reg

theorem place_app (n : Int) (ys : List Int) : ∀ (xs : List Int) (i : Nat), ¬ n ∈ xs → y34 (xs ++ n :: ys) n i = ((i + xs.length : Nat) : Int)
  | [], i, _ => by simp [y34]
  | x :: xs, i, h => by
    have h1 : ¬ x = n := fun hc => h (by simp [hc])
    have ih := place_app n ys xs (i + 1) (fun hc => h (by simp [hc]))
    simp only [List.cons_append, y34, if_neg h1, ih, List.length_cons]
    omega

theorem place_lt (k : Int) (ys : List Int) : ∀ (xs : List Int) (i : Nat), k ∈ xs → (i : Int) ≤ y34 (xs ++ ys) k i ∧ y34 (xs ++ ys) k i < ((i + xs.length : Nat) : Int)
  | [], i, h => by simp at h
  | x :: xs, i, h => by
    simp only [List.cons_append, y34, List.length_cons]
    by_cases h1 : x = k
    · rw [if_pos h1]; omega
    · rw [if_neg h1]
      have ih := place_lt k ys xs (i + 1) (by
        rcases List.mem_cons.1 h with h | h
        · exact absurd h.symm h1
        · exact h)
      omega

section
variable {l : List (Rw (List Value))}

def ints (r : List Nat) : List Int := r.map fun (n : Nat) => (n : Int)

theorem comp_go : ∀ (r done : List Nat) (u : List Value), Comp l (inRow (ints done)) u r → y243 l (ints (done ++ r)) done.length u (ints r) ∧ q329 l (inRow (ints (done ++ r)))
  | [], done, u, h => by
    cases h with
    | done h => exact ⟨trivial, by simpa using h⟩
  | n :: r, done, u, h => by
    cases h with
    | @step _ _ _ x _ hx hc hv h =>
      have hnd : ¬ (n : Int) ∈ ints done := by simpa [inRow] using hc.1
      have hrow : ints (done ++ n :: r) = ints done ++ (n : Int) :: ints r := by simp [ints]
      have hpi : y34 (ints (done ++ n :: r)) (n : Int) 0 = (done.length : Int) := by
        rw [hrow, place_app _ _ _ _ hnd]; simp [ints]
      have hD : ins (inRow (ints done)) n = inRow (ints (done ++ [n])) := by rw [← inRow_ins]; simp [ints]
      rw [hD] at h
      obtain ⟨ih1, ih2⟩ := comp_go r (done ++ [n]) _ h
      have happ : done ++ [n] ++ r = done ++ n :: r := by simp
      rw [happ] at ih1 ih2
      refine ⟨?_, ih2⟩
      show y243 l (ints (done ++ n :: r)) done.length u ((n : Int) :: ints r)
      rw [fits_step hx hpi]
      refine ⟨hv, fun k y hy ha => ?_, by simpa using ih1⟩
      by_cases hkn : k = n
      · subst hkn; rw [hpi]; omega
      · have hk := hc.2 k y x hy hx hkn ha
        have hk' : (k : Int) ∈ ints done := by simpa [inRow] using hk
        have := place_lt (k : Int) ((n : Int) :: ints r) (ints done) 0 hk'
        rw [hrow]
        simp only [ints, List.length_map] at this ⊢
        omega

theorem comp_len : ∀ (r : List Nat) (D : Nat → Bool) (u : List Value), Comp l D u r → r.length + cnt l.length D ≤ l.length
  | [], D, u, _ => by have := cnt_le D l.length; simpa using this
  | n :: r, D, u, h => by
    cases h with
    | @step _ _ _ x _ hx hc hv h =>
      have := comp_len r _ _ h
      rw [cnt_ins hc.1 _ (q12 hx)] at this
      simp only [List.length_cons]
      omega

theorem q345 : inRow [] = fun _ => false := by funext k; simp [inRow]

/-- an order that is complete fits -/
theorem comp_fits {u : List Value} {r : List Nat} (h : Comp l (fun _ => false) u r) : FitsDoc l u (ints r) := by
  have h' : Comp l (inRow (ints [])) u r := by rw [show ints [] = [] from rfl, q345]; exact h
  obtain ⟨h1, h2⟩ := comp_go r [] u h'
  refine ⟨by simpa using h1, fun k x hx hm => ?_⟩
  have := h2 k x hx hm
  simpa [inRow] using this

/-- three results, of which none leads anywhere -/
theorem fin_three {n0 : Nat} {st : AS} {v v' : Value} {b c : Bool} (hf : frz PP n0 8 v st.H = (v', st.H)) (hv : vrefs v' = []) :
    ∃ H' e, fin PP false n0 [v, .bool b, .bool c] st = some (.tuple #[v', .bool b, .bool c], H', e) ∧ (∀ r, r < n0 → H'[r]? = st.H[r]?) ∧ (n0 ≤ st.H.length → n0 ≤ H'.length) := by
  unfold fin q151
  simp only [Bool.false_eq_true, if_false, frzL, hf, y107 n0 8 (.bool b) st.H rfl, y107 n0 8 (.bool c) st.H rfl]
  obtain ⟨σ, _, h2, _, h4⟩ := q275 n0 [v', .bool b, .bool c] ⟨st.H, st.esc⟩
  rw [q324 n0 [v', .bool b, .bool c] ⟨st.H, st.esc⟩ (by simp [hv])]
  exact ⟨_, _, rfl, fun r hr => (h2 r hr).2, h4⟩

/-- the document's order -/
theorem doc_order (hl : OkOps l) (hm : l.length < 1000) (H0 : List Blk) {u : List Value} (hu : TOk PP y1 u) :
    ∃ (b kn : Bool) (out : Value) (H' : List Blk) (e : Option Nat), acall PP TT y114 [tSl l.length (opsC l), .agg u.toArray] H0 = some (.tuple #[out, .bool b, .bool kn], H', e) ∧ FSt H0 H' ∧
      (b = true → ∃ r, Comp l (fun _ => false) u r) ∧ (b = false → kn = true → Dead l (fun _ => false) u) := by
  obtain ⟨u1, u2, q320⟩ := q100 hu
  have un := y112 hu
  have htu : u.take 16 = u := List.take_of_length_le (by omega)
  have hvl : vrefs (tSl l.length (opsC l)) = [] := by simp [q136 hl]
  have hsp : (H0 ++ [Blk.cells u y1 true] ++ [Blk.cells [.int .i64 20000] t_int true])[(H0 ++ [Blk.cells u y1 true]).length]? = some (.cells [.int .i64 20000] t_int true) := by rw [q101]; rfl
  obtain ⟨b, s', out, hcall, hsays, hout⟩ := search_ok hvl hl hm (fun H => .tree _ _) (l.length + 1) (H0 ++ [Blk.cells u y1 true] ++ [Blk.cells [.int .i64 20000] t_int true]) (.slice none 0 0) [] u (H0 ++ [Blk.cells u y1 true]).length 20000
    (by omega) (by simp) hu .nil (by simp) hsp (by omega) (by omega)
  have hst : q43 1 ⟨H0 ++ [Blk.cells u y1 true] ++ [Blk.cells [.int .i64 0] t_int true], none⟩ (.pointer (some ⟨(H0 ++ [Blk.cells u y1 true]).length, 0, none⟩)) (.int .i64 20000) = some ⟨H0 ++ [Blk.cells u y1 true] ++ [Blk.cells [.int .i64 20000] t_int true], none⟩ := by
    rw [store_int, y94]
    simp [q71, q49, escOf]
  have hlu : q35 (H0 ++ [Blk.cells u y1 true] ++ [Blk.cells [.int .i64 20000] t_int true]) H0.length 0 16 = some u := by
    simp only [q35, List.append_assoc, q101]
    simp [un, htu]
  have qzg_int : (zeroP PP t_int).getD unk = .int .i64 0 := by kernel_rfl
  have hlen0 : (H0 ++ [Blk.cells u y1 true]).length < (H0 ++ [Blk.cells u y1 true] ++ [Blk.cells [.int .i64 20000] t_int true]).length := by simp
  have hls : y76 ((H0 ++ [Blk.cells u y1 true] ++ [Blk.cells [.int .i64 20000] t_int true]).set (H0 ++ [Blk.cells u y1 true]).length (.cells [.int .i64 s'] t_int true)) (H0 ++ [Blk.cells u y1 true]).length 0 = some (.int .i64 s') := by
    simp only [y76, List.getElem?_set_self hlen0]
    rfl
  have hf1 : FSt H0 ((H0 ++ [Blk.cells u y1 true] ++ [Blk.cells [.int .i64 20000] t_int true]).set (H0 ++ [Blk.cells u y1 true]).length (.cells [.int .i64 s'] t_int true)) := (((FSt.refl H0).app _).app _).set (by simp) _
  obtain ⟨out', ho1, ho2⟩ : ∃ out', (∀ H, frz PP H0.length 8 out H = (out', H)) ∧ vrefs out' = [] := by
    rcases hout with rfl | ⟨n, cs, rfl, hcs⟩
    · exact ⟨tSl 0 [], fun H => rfl, rfl⟩
    · exact ⟨tSl n cs, fun H => y107 _ _ _ _ rfl, by simp [hcs]⟩
  have hno : ∀ (kn : Bool), (b = false → kn = true → 0 < s') → b = false → kn = true → Dead l (fun _ => false) u := fun kn h hb hk => by
    have := hsays.not hb (h hb hk)
    rwa [q345] at this
  have hye : b = true → ∃ r, Comp l (fun _ => false) u r := fun hb => by
    have := hsays.found hb
    rwa [q345] at this
  cases b with
  | true =>
    obtain ⟨H', e, hfin, h1, h2⟩ := fin_three (n0 := H0.length) (b := true) (c := true) (st := ⟨_, none⟩) (ho1 ((H0 ++ [Blk.cells u y1 true] ++ [Blk.cells [.int .i64 20000] t_int true]).set (H0 ++ [Blk.cells u y1 true]).length (.cells [.int .i64 s'] t_int true))) ho2
    refine ⟨true, true, out', H', e, ?_, ⟨fun j hj => by rw [h1 j hj]; exact hf1.pre j hj, h2 hf1.len⟩, hye, fun h => by simp at h⟩
    rw [y22, twainref37_Order.eq]
    simp only [twainref37_Order.sh, y56 u1, Option.bind_some, qzg_int, box_int, hst, q61, hlu, Option.map_some, hcall, ext20, ext21, y23, q42]
    exact hfin
  | false =>
    obtain ⟨H', e, hfin, h1, h2⟩ := fin_three (n0 := H0.length) (b := false) (c := decide (0 < s')) (st := ⟨_, none⟩) (ho1 ((H0 ++ [Blk.cells u y1 true] ++ [Blk.cells [.int .i64 20000] t_int true]).set (H0 ++ [Blk.cells u y1 true]).length (.cells [.int .i64 s'] t_int true))) ho2
    refine ⟨false, decide (0 < s'), out', H', e, ?_, ⟨fun j hj => by rw [h1 j hj]; exact hf1.pre j hj, h2 hf1.len⟩, hye, hno _ (fun _ h => by simpa using h)⟩
    rw [y22, twainref37_Order.eq]
    simp only [twainref37_Order.sh, y56 u1, Option.bind_some, qzg_int, box_int, hst, q61, hlu, Option.map_some, hcall, ext20, ext21, q23, q42, y55, hls, q223]
    exact hfin

theorem bin_neqB (ox oy : Operand) (a b : Bool) : aBin PP .neq y180 ox oy (.bool a) (.bool b) = some (.bool (a != b)) := by cases a <;> cases b <;> kernel_rfl

end
end Go.Proofs.Ytfinilnkempofaa

end
