/- A part of the proof: Gt8, Gt9. Its conditions: none. -/
import Derived.Test.YtfinilnkempofaaGt4
import Derived.Test.YtfinilnkempofaaGh0
set_option linter.all false
set_option linter.unusedVariables false
set_option linter.unusedSimpArgs false
set_option linter.unnecessarySimpa false
section
namespace Go.Proofs.Ytfinilnkempofaa
open Go Go.Am Go.Reg
namespace GH

abbrev opsA (l : List Ev) (at_ : Int) : List Hop := opsL (y72 l) l at_ l.length

theorem opD_t {E : Nat → Int} {l : List Ev} {at_ : Int} {n : Nat} {h : Hop} (hd : opD E l at_ n = some h) : h.t = E n := by
  unfold opD at hd
  split at hd
  · simp at hd
  · split at hd
    · split at hd
      · simp at hd; subst hd; rfl
      · split at hd
        · simp at hd
        · split at hd
          · simp at hd; subst hd; rfl
          · simp at hd
    · simp at hd
theorem opsL_t (E : Nat → Int) (l : List Ev) (at_ : Int) : ∀ n, ∀ x ∈ opsL E l at_ n, ∃ k, x.t = E k
  | 0, x, hx => by simp [opsL] at hx
  | n + 1, x, hx => by
    simp only [opsL] at hx
    cases hd : opD E l at_ n with
    | none => rw [hd] at hx; exact opsL_t E l at_ n x hx
    | some z =>
      rw [hd] at hx
      rcases List.mem_append.1 hx with hx | hx
      · exact opsL_t E l at_ n x hx
      · simp at hx; subst hx; exact ⟨n, opD_t hd⟩

section
variable {l : List Ev}

theorem opsA_ok (hl : OkEvs l) (h8 : l.length ≤ 8) (at_ : Int) : OkHops (opsA l at_) ∧ y261 (opsA l at_) ∧ (opsA l at_).length ≤ 59 := by
  have hE : ∀ n, isI (y72 l n) := fun n => (y212 (by omega) n).1
  obtain ⟨h1, h2⟩ := opsL_ok (E := y72 l) hl (by omega) hE at_ l.length
  have h3 := y322 (y72 l) l at_ l.length
  refine ⟨h1, fun x hx => ?_, Nat.le_trans h2 (by omega)⟩
  obtain ⟨k, hk⟩ := opsL_t (y72 l) l at_ l.length x hx
  have h4 := h3.1 x hx
  have h5 := (y212 (l := l) (by omega) k).2
  exact ⟨h4.1, by omega, by omega, by omega⟩

def imgH (l : List Ev) (b : List Int) (s : Nat) : Prop := Holds (opsA l s) (secI b s)
def ImgOk (l : List Ev) (b : List Int) : Prop := b.length % 16 = 0 ∧ ∀ s, s < b.length / 16 → imgH l b s

theorem arr_byt {c : List Int} (h : 16 ≤ c.length) : aArr PP y1 (tSl c.length (byt c)) = some (tPtr 0 (byt c).toArray) := by
  show aArr PP y1 (.iface c.length (.tuple (byt c).toArray)) = _
  simp only [aArr, q197]
  rw [if_pos ⟨by omega, h⟩]
theorem ld16 {c : List Int} (h : 16 ≤ c.length) (st : AS) : aLoad true 16 st (tPtr 0 (byt c).toArray) = some (.agg (byt (c.take 16)).toArray) := by
  show tLoad true 16 0 (byt c).toArray = _
  simp only [tLoad, if_true]
  rw [if_pos (by rw [List.size_toArray, y363]; omega)]
  simp [byt_take]

theorem rem16 (n : Nat) (ox oy : Operand) : aBin PP .rem t_int ox oy (.int .i64 (n : Int)) (.int .i64 16) = some (.int .i64 ((n % 16 : Nat) : Int)) := by
  rw [bin_rem (by decide), Int.tmod_eq_emod_of_nonneg (by omega)]
  rfl
theorem quo16 {n : Nat} (hn : n < 1000000) (ox oy : Operand) : aBin PP .quo t_int ox oy (.int .i64 (n : Int)) (.int .i64 16) = some (.int .i64 ((n / 16 : Nat) : Int)) := by
  rw [bin_quo (by decide), Int.tdiv_eq_ediv_of_nonneg (by omega), q122 ⟨by omega, by omega⟩]
  rfl

theorem gimage_ok (hl : OkEvs l) (h8 : l.length ≤ 8) {b : List Int} (hb : OkB b) (hbl : b.length ≤ 200) :
    ∃ r : Bool, acall PP TT y140 [tSl l.length (evR l), tSl b.length (byt b)] [] = some (.bool r, [], none) ∧ (r = true ↔ ImgOk l b) := by
  have hfin := fun (r : Bool) (H : List Blk) (e : Option Nat) => y318 (P := PP) (H0 := []) (l := H) (vs := [.bool r]) (vs' := [.bool r]) (l' := H) (e := e) (by simp [frzL, frz]) (by simp) (esc0 e)
  have hrem := rem16 b.length (.tmp 10) (.const (.int .i64 16))
  have hbg : ¬ (b.length : Int) > 4096 := by omega
  by_cases hm : b.length % 16 = 0
  · have hm' : ((b.length % 16 : Nat) : Int) = 0 := by omega
    have hquo := quo16 (n := b.length) (by omega) (.tmp 19) (.const (.int .i64 16))
    obtain ⟨q, hq⟩ : ∃ q, b.length / 16 = q := ⟨_, rfl⟩
    have hq16 : b.length = 16 * q := by omega
    rw [hq] at hquo
    obtain ⟨r, hlp, hr⟩ := q173 (n0 := 0) (step := ghost_Image.loop4s (acall PP TT) loopG 0) (len := q) (σ := Unit)
      (fun s _ => ([tSl l.length (evR l), tSl b.length (byt b), .int .i64 q, .int .i64 s], ⟨[], none⟩))
      (fun s _ => ∀ i, i < s → imgH l b i)
      (fun r => (r = (.exit 0, [unk], ⟨[], none⟩) ∧ ∀ i, i < q → imgH l b i) ∨ ((∃ H e, r = (.ret, [.bool false], ⟨H, e⟩)) ∧ ¬ ∀ i, i < q → imgH l b i))
      (fun s _ hs ho => by
        have hs' : ((s : Int) < (q : Int)) := by omega
        have w1 : IntKind.i64.wrap ((s : Int) * 16) = ((16 * s : Nat) : Int) := by rw [q122 ⟨by omega, by omega⟩]; omega
        have hw := q69 (n := s) (by omega)
        have hsl := fun st => sl_byt (b := b) (i := 16 * s) (by omega) hb.1 st
        have hdl : b.length - 16 * s = (b.drop (16 * s)).length := by simp
        have hd16 : 16 ≤ (b.drop (16 * s)).length := by simp; omega
        rw [hdl] at hsl
        have har := arr_byt hd16
        have hld := fun st => ld16 hd16 st
        have hse : secI b s = (b.drop (16 * s)).take 16 := by unfold secI; rw [if_pos (by omega)]
        rw [← hse] at hld
        have hvl := y182 b s
        have hvb := y327 hb s
        obtain ⟨hA, hsm, hm⟩ := opsA_ok hl h8 (s : Int)
        obtain ⟨ok, H', e, hr, _, hi⟩ := holds_ok hl (by omega) (at_ := (s : Int)) ⟨by omega, by omega⟩ rfl hA hsm hm hvl hvb [.cells (byt (secI b s)) y1 true]
        have hii : ok = true ↔ imgH l b s := hi
        have hb0 := q269 [] none
        have hs0 := y210 hvl [] none
        have hl1 := q160 hvl none (show ([Blk.cells (byt (secI b s)) y1 true])[0]? = some (.cells (byt (secI b s)) y1 true) from rfl)
        simp only [List.length_nil, List.nil_append] at hb0 hs0
        have e0 : aBin PP .eql y162 (.tmp 37) (.const (.int .i64 0)) (.int .i64 0) (.int .i64 0) = some (.bool true) := by kernel_rfl
        cases ok with
        | true =>
          refine .inr ⟨[tSl l.length (evR l), tSl b.length (byt b), .int .i64 q, .int .i64 ((s + 1 : Nat) : Int)], ⟨H', y8 none e⟩, (), ?_, gc0 (by simp [q22, q36]), fun i hi => ?_⟩
          · simp only [ghost_Image.loop4s, ghost_Image.loop4, ghost_Image.j3, ghost_Image.j4, Option.bind_some, List.getD_cons_zero, List.getD_cons_succ, q65, hs', decide_true, y23, q203, w1, hsl, har, hld, hb0, hs0, hl1, hr, ext20, ext21, e0, q187, Bool.not_true, q23, q108, hw]
          · by_cases h : i = s
            · subst h; exact hii.1 rfl
            · exact ho i (by omega)
        | false =>
          refine .inl ⟨(.ret, [.bool false], ⟨H', y8 none e⟩), ?_, .inr ⟨⟨_, _, rfl⟩, fun h => ?_⟩⟩
          · simp only [ghost_Image.loop4s, ghost_Image.loop4, ghost_Image.j3, ghost_Image.j4, Option.bind_some, List.getD_cons_zero, List.getD_cons_succ, q65, hs', decide_true, y23, q203, w1, hsl, har, hld, hb0, hs0, hl1, hr, ext20, ext21, e0, q187, Bool.not_false]
          · exact absurd (hii.2 (h s (by omega))) (by simp))
      (fun _ ho => ⟨_, by simp only [ghost_Image.loop4s, ghost_Image.loop4, mach, Nat.reduceAdd, Nat.reduceLeDiff, Int.reduceEq, Int.reduceLT, Int.reduceLE, show ¬ ((q : Int) < (q : Int)) from Int.lt_irrefl _], .inl ⟨rfl, ho⟩⟩)
      q 0 () [tSl l.length (evR l), tSl b.length (byt b), .int .i64 q, .int .i64 0] ⟨[], none⟩ (by omega) (fun i hi => by omega) (gc0 (by simp [q22, q36]))
    rcases hr with ⟨rfl, hall⟩ | ⟨⟨H, e, rfl⟩, hnot⟩
    · refine ⟨true, ?_, fun _ => ⟨hm, by rw [hq]; exact hall⟩, fun _ => rfl⟩
      rw [y22, ghost_Image.eq]
      simp only [ghost_Image.sh, ghost_Image.j0, ghost_Image.j1, ghost_Image.j6, mach, Nat.reduceAdd, Nat.reduceLeDiff, Int.reduceEq, Int.reduceLT, Int.reduceLE, q206, hrem, hm', hbg, hquo, hlp, decide_true, Bool.not_true, decide_false]
      exact hfin true [] none
    · refine ⟨false, ?_, fun h => by simp at h, fun h => absurd (by have := h.2; rw [hq] at this; exact this) hnot⟩
      rw [y22, ghost_Image.eq]
      simp only [ghost_Image.sh, ghost_Image.j0, ghost_Image.j1, ghost_Image.j6, mach, Nat.reduceAdd, Nat.reduceLeDiff, Int.reduceEq, Int.reduceLT, Int.reduceLE, q206, hrem, hm', hbg, hquo, hlp, decide_true, Bool.not_true, decide_false]
      exact hfin false H e
  · have hm' : ¬ ((b.length % 16 : Nat) : Int) = 0 := by omega
    refine ⟨false, ?_, fun h => by simp at h, fun h => absurd h.1 hm⟩
    rw [y22, ghost_Image.eq]
    simp only [ghost_Image.sh, ghost_Image.j0, ghost_Image.j1, mach, Nat.reduceAdd, Nat.reduceLeDiff, Int.reduceEq, Int.reduceLT, Int.reduceLE, q206, hrem, hm']
    exact hfin false [] none

/-! ### The document's -/
def bFr (l : List Ev) (b : List Int) (kn : Bool) (s k : Nat) : List Value := [tSl l.length (evR l), tSl b.length (byt b), .bool kn, .int .i64 s, .pointer (some ⟨0, 0, none⟩), .int .i64 k]

theorem fill_loop {b : List Int} (hb : OkB b) (hbl : b.length ≤ 200) {s : Nat} (hs : 16 * (s + 1) ≤ b.length) (kn : Bool) :
    loopG 0 (twainref49_Image.loop9s (acall PP TT) loopG 0) (bFr l b kn s 0, ⟨[.cells (byt z16) y1 true], none⟩) =
      some (.exit 2, [tSl l.length (evR l), tSl b.length (byt b), .bool kn, .int .i64 s, .pointer (some ⟨0, 0, none⟩)], ⟨[.cells (byt (secI b s)) y1 true], none⟩) := by
  have hse : secI b s = (b.drop (16 * s)).take 16 := by unfold secI; rw [if_pos hs]
  have hX := y182 b s
  obtain ⟨r, hlp, rfl⟩ := q173 (n0 := 0) (step := twainref49_Image.loop9s (acall PP TT) loopG 0) (len := 16) (σ := Unit)
    (fun k _ => (bFr l b kn s k, ⟨[.cells (byt ((secI b s).take k ++ List.replicate (16 - k) 0)) y1 true], none⟩))
    (fun _ _ => True) (fun r => r = (.exit 2, [tSl l.length (evR l), tSl b.length (byt b), .bool kn, .int .i64 s, .pointer (some ⟨0, 0, none⟩)], ⟨[.cells (byt (secI b s)) y1 true], none⟩))
    (fun k _ hk _ => by
      have hk' : ((k : Int) < 16) := by omega
      obtain ⟨x, hx⟩ : ∃ x, (secI b s)[k]? = some x := ⟨_, List.getElem?_eq_getElem (by omega)⟩
      have hbx : b[16 * s + k]? = some x := by
        rw [hse, List.getElem?_take, if_pos hk, List.getElem?_drop] at hx; exact hx
      have hbl2 := q12 hbx
      have w3 : IntKind.i64.wrap (16 * (s : Int)) = ((16 * s : Nat) : Int) := by rw [q122 ⟨by omega, by omega⟩]; omega
      have w4 : IntKind.i64.wrap (((16 * s : Nat) : Int) + (k : Int)) = ((16 * s + k : Nat) : Int) := by rw [q122 ⟨by omega, by omega⟩]; omega
      have w5 := q69 (n := k) (by omega)
      have hix := ix_byt hbl2
      have hld := fun st => ld_byt hbx st
      have hsx := ix_sec (bk := 0) (o := 0) hk
      rw [Nat.zero_add] at hsx
      have hst := fill_step hX hx
      have hln : (byt ((secI b s).take k ++ List.replicate (16 - k) 0)).length = 16 := by rw [y363]; simp; omega
      have hput := q295 (cs := byt ((secI b s).take k ++ List.replicate (16 - k) 0)) (k := k) (v := .int .u8 x) (by omega)
      rw [hst] at hput
      have hsto : q43 1 ⟨[.cells (byt ((secI b s).take k ++ List.replicate (16 - k) 0)) y1 true], none⟩ (.pointer (some ⟨0, k, none⟩)) (.int .u8 x) = some ⟨[.cells (byt ((secI b s).take (k + 1) ++ List.replicate (16 - (k + 1)) 0)) y1 true], none⟩ := by
        rw [store_int]
        simp only [q71, List.getElem?_cons_zero]
        rw [if_pos ⟨by simp only [List.length_cons, List.length_nil]; omega, rfl⟩, hput]
        rfl
      refine .inr ⟨bFr l b kn s (k + 1), ⟨[.cells (byt ((secI b s).take (k + 1) ++ List.replicate (16 - (k + 1)) 0)) y1 true], none⟩, (), ?_, ?_, trivial⟩
      · simp only [twainref49_Image.loop9s, twainref49_Image.loop9, bFr, Option.bind_some, List.getD_cons_zero, List.getD_cons_succ, q65, hk', decide_true, y23, q203, w3, q108, w4, hix, hld, hsx, hsto, w5]
      · exact y115 (H0 := []) [[]] [0] [0] rfl rfl (by simp [bFr, q22, q36]) (by simp [y14, q36]) (by simp [bFr, lren, vren, rn, renum, y70, q41, q22, q36]) (by simp [y24, q55, q36]))
    (fun _ _ => ⟨_, by simp only [twainref49_Image.loop9s, twainref49_Image.loop9, bFr, mach, Nat.reduceAdd, Nat.reduceLeDiff, Int.reduceEq, Int.reduceLT, Int.reduceLE, show ¬ (((16 : Nat) : Int) < 16) by decide]; rfl, by simp [List.take_of_length_le (Nat.le_of_eq hX)]⟩)
    16 0 () (bFr l b kn s 0) ⟨[.cells (byt z16) y1 true], none⟩ (by omega) trivial
    (y115 (H0 := []) [[]] [0] [0] rfl rfl (by simp [bFr, q22, q36]) (by simp [y14, q36]) (by simp [bFr, lren, vren, rn, renum, y70, q41, q22, q36]) (by simp [y24, q55, q36, z16]))
  exact hlp

theorem rimage_ok (hl : OkEvs l) (h8 : l.length ≤ 8) {b : List Int} (hb : OkB b) (hbl : b.length ≤ 200) :
    ∃ fits whole : Bool, acall PP TT q115 [tSl l.length (evR l), tSl b.length (byt b)] [] = some (.tuple #[.bool fits, .bool whole], [], none) ∧ (whole = true → (fits = true ↔ ImgOk l b)) := by
  have hfin := fun (r w : Bool) (H : List Blk) (e : Option Nat) => y318 (P := PP) (H0 := []) (l := H) (vs := [.bool r, .bool w]) (vs' := [.bool r, .bool w]) (l' := H) (e := e) (by simp [frzL, frz]) (by simp) (esc0 e)
  have hrem := rem16 b.length (.tmp 14) (.const (.int .i64 16))
  have hbg : ¬ (b.length : Int) > 4096 := by omega
  by_cases hm : b.length % 16 = 0
  · have hm' : ((b.length % 16 : Nat) : Int) = 0 := by omega
    obtain ⟨q, hq⟩ : ∃ q, b.length / 16 = q := ⟨_, rfl⟩
    have hq16 : b.length = 16 * q := by omega
    obtain ⟨r, hlp, hr⟩ := q173 (n0 := 0) (step := twainref49_Image.loop5s (acall PP TT) loopG 0) (len := q) (σ := Bool)
      (fun s kn => ([tSl l.length (evR l), tSl b.length (byt b), .bool kn, .int .i64 s], ⟨[], none⟩))
      (fun s kn => kn = true → ∀ i, i < s → imgH l b i)
      (fun r => (∃ kn, r = (.exit 0, [unk, unk, .bool kn], ⟨[], none⟩) ∧ (kn = true → ∀ i, i < q → imgH l b i)) ∨ ((∃ x H e, r = (.ret, [.bool false, .bool true, x], ⟨H, e⟩)) ∧ ¬ ∀ i, i < q → imgH l b i))
      (fun s kn hs ho => by
        have w1 : IntKind.i64.wrap (16 * (s : Int)) = ((16 * s : Nat) : Int) := by rw [q122 ⟨by omega, by omega⟩]; omega
        have hs' : ((16 * s : Nat) : Int) < (b.length : Int) := by omega
        have hw := q69 (n := s) (by omega)
        have hvl := y182 b s
        have hvb := y327 hb s
        obtain ⟨hA, hsm, hm⟩ := opsA_ok hl h8 (s : Int)
        obtain ⟨ok, k2, H', e, hr, _, hi⟩ := y355 hl (by omega) (at_ := (s : Int)) ⟨by omega, by omega⟩ rfl hA hsm hm hvl hvb [.cells (byt (secI b s)) y1 true]
        have hii : k2 = true → (ok = true ↔ imgH l b s) := hi
        have hb0 := q269 [] none
        have hl1 := q160 hvl none (show ([Blk.cells (byt (secI b s)) y1 true])[0]? = some (.cells (byt (secI b s)) y1 true) from rfl)
        have hfl := fill_loop (l := l) hb hbl (s := s) (by omega) kn
        simp only [List.length_nil, List.nil_append] at hb0
        simp only [bFr, Int.ofNat_zero] at hfl
        have e0 : aBin PP .eql t_int (.tmp 50) (.const (.int .i64 0)) (.int .i64 0) (.int .i64 0) = some (.bool true) := by kernel_rfl
        by_cases hbad : k2 = true ∧ ok = false
        · obtain ⟨rfl, rfl⟩ := hbad
          refine .inl ⟨(.ret, [.bool false, .bool true, .bool kn], ⟨H', y8 none e⟩), ?_, .inr ⟨⟨_, _, _, rfl⟩, fun h => ?_⟩⟩
          · simp only [twainref49_Image.loop5s, twainref49_Image.loop5, twainref49_Image.j5, twainref49_Image.j6, twainref49_Image.j7, twainref49_Image.j8, Option.bind_some, List.getD_cons_zero, List.getD_cons_succ, q203, w1, q206, q65, hs', decide_true, y23, hb0, hfl, if_true, hl1, hr, ext30, ext31, ext32, e0, q187, Bool.not_false]
          · exact absurd ((hii rfl).2 (h s hs)) (by simp)
        · refine .inr ⟨[tSl l.length (evR l), tSl b.length (byt b), .bool (kn && k2), .int .i64 ((s + 1 : Nat) : Int)], ⟨H', y8 none e⟩, kn && k2, ?_, gc0 (by simp [q22, q36]), fun hk i hi => ?_⟩
          · cases k2 with
            | false => cases kn <;> simp only [twainref49_Image.loop5s, twainref49_Image.loop5, twainref49_Image.j5, twainref49_Image.j6, twainref49_Image.j7, twainref49_Image.j8, Option.bind_some, List.getD_cons_zero, List.getD_cons_succ, q203, w1, q206, q65, hs', decide_true, y23, q23, hb0, hfl, if_true, hl1, hr, ext30, ext31, ext32, e0, q108, hw, Bool.and_false]
            | true =>
              have hok : ok = true := by
                cases ok with
                | true => rfl
                | false => exact absurd ⟨rfl, rfl⟩ hbad
              subst hok
              cases kn <;> simp only [twainref49_Image.loop5s, twainref49_Image.loop5, twainref49_Image.j5, twainref49_Image.j6, twainref49_Image.j7, twainref49_Image.j8, Option.bind_some, List.getD_cons_zero, List.getD_cons_succ, q203, w1, q206, q65, hs', decide_true, y23, q23, hb0, hfl, if_true, hl1, hr, ext30, ext31, ext32, e0, q187, Bool.not_true, q108, hw, Bool.and_true]
          · simp only [Bool.and_eq_true] at hk
            by_cases h : i = s
            · subst h
              have hok : ok = true := by
                cases ok with
                | true => rfl
                | false => exact absurd ⟨hk.2, rfl⟩ hbad
              exact (hii hk.2).1 hok
            · exact ho hk.1 i (by omega))
      (fun kn ho => by
        have w1 : IntKind.i64.wrap (16 * (q : Int)) = ((16 * q : Nat) : Int) := by rw [q122 ⟨by omega, by omega⟩]; omega
        have hs' : ¬ ((16 * q : Nat) : Int) < (b.length : Int) := by omega
        exact ⟨_, by simp only [twainref49_Image.loop5s, twainref49_Image.loop5, Option.bind_some, List.getD_cons_zero, List.getD_cons_succ, q203, w1, q206, q65, hs', decide_false, q23], .inl ⟨kn, rfl, ho⟩⟩)
      q 0 true [tSl l.length (evR l), tSl b.length (byt b), .bool true, .int .i64 0] ⟨[], none⟩ (by omega) (fun _ i hi => by omega) (gc0 (by simp [q22, q36]))
    rcases hr with ⟨kn, rfl, hall⟩ | ⟨⟨x, H, e, rfl⟩, hnot⟩
    · refine ⟨true, kn, ?_, fun h => ⟨fun _ => ⟨hm, by rw [hq]; exact hall h⟩, fun _ => rfl⟩⟩
      rw [y22, twainref49_Image.eq]
      simp only [twainref49_Image.sh, twainref49_Image.j0, twainref49_Image.j1, twainref49_Image.j10, mach, Nat.reduceAdd, Nat.reduceLeDiff, Int.reduceEq, Int.reduceLT, Int.reduceLE, q206, hrem, hm', hbg, hlp, decide_true, Bool.not_true, decide_false]
      exact hfin true kn [] none
    · refine ⟨false, true, ?_, fun _ => ⟨fun h => by simp at h, fun h => absurd (by have := h.2; rw [hq] at this; exact this) hnot⟩⟩
      rw [y22, twainref49_Image.eq]
      simp only [twainref49_Image.sh, twainref49_Image.j0, twainref49_Image.j1, twainref49_Image.j10, mach, Nat.reduceAdd, Nat.reduceLeDiff, Int.reduceEq, Int.reduceLT, Int.reduceLE, q206, hrem, hm', hbg, hlp, decide_true, Bool.not_true, decide_false]
      exact hfin false true H e
  · have hm' : ¬ ((b.length % 16 : Nat) : Int) = 0 := by omega
    refine ⟨false, true, ?_, fun _ => ⟨fun h => by simp at h, fun h => absurd h.1 hm⟩⟩
    rw [y22, twainref49_Image.eq]
    simp only [twainref49_Image.sh, twainref49_Image.j0, twainref49_Image.j1, mach, Nat.reduceAdd, Nat.reduceLeDiff, Int.reduceEq, Int.reduceLT, Int.reduceLE, q206, hrem, hm']
    exact hfin false true [] none
end
end GH
end Go.Proofs.Ytfinilnkempofaa

end
section
namespace Go.Proofs.Ytfinilnkempofaa
open Go Go.Am Go.Reg
namespace GH

theorem neq_self {L : List (List Int)} (hL : OkSecs L) {v : List Int} (hv : v ∈ L) (ox oy : Operand) : aBin PP .neq y1 ox oy (.agg (byt v).toArray) (.agg (byt v).toArray) = some (.bool false) := by
  have := y122 (ox := ox) (oy := oy) flatSec (y255 (hL v hv).1 (hL v hv).2) (y255 (hL v hv).1 (hL v hv).2)
  rw [this]; simp

theorem alike_ok {L : List (List Int)} (hL : OkSecs L) (hm : L.length ≤ 60000) (H : List Blk) : acall PP TT q111 [tSl L.length (secR L), tSl L.length (secR L)] H = some (.bool true, H, none) := by
  have hlast : ¬ ((L.length : Int) < (L.length : Int)) := Int.lt_irrefl _
  obtain ⟨q, hlp, rfl⟩ := q173 (n0 := H.length) (step := twainlaw49_alike.loop4s (acall PP TT) loopG H.length) (len := L.length) (σ := Unit)
    (fun n _ => ([tSl L.length (secR L), tSl L.length (secR L), .int .i64 L.length, .int .i64 n], ⟨H, none⟩))
    (fun _ _ => True) (fun q => q = (.exit 0, [unk], ⟨H, none⟩))
    (fun n _ hn _ => by
      have hn' : ((n : Int) < (L.length : Int)) := by omega
      obtain ⟨v, hv⟩ : ∃ v, L[n]? = some v := ⟨_, List.getElem?_eq_getElem hn⟩
      have hix := ix_secs hn
      have hld := fun st => ld_secs hL hv st
      have hw := q69 (n := n) (by omega)
      have hne := neq_self hL (List.mem_of_getElem? hv) (.tmp 19) (.tmp 23)
      refine .inr ⟨[tSl L.length (secR L), tSl L.length (secR L), .int .i64 L.length, .int .i64 ((n + 1 : Nat) : Int)], ⟨H, none⟩, (), ?_, y208 (by simp [y66]), trivial⟩
      simp only [twainlaw49_alike.loop4s, twainlaw49_alike.loop4, mach, Nat.reduceAdd, Nat.reduceLeDiff, Int.reduceEq, Int.reduceLT, Int.reduceLE, hn', hix, hld, hne, hw])
    (fun _ _ => ⟨_, by simp only [twainlaw49_alike.loop4s, twainlaw49_alike.loop4, mach, Nat.reduceAdd, Nat.reduceLeDiff, Int.reduceEq, Int.reduceLT, Int.reduceLE, hlast], rfl⟩)
    L.length 0 () [tSl L.length (secR L), tSl L.length (secR L), .int .i64 L.length, .int .i64 0] ⟨H, none⟩ (by omega) trivial (y208 (by simp [y66]))
  rw [y22, twainlaw49_alike.eq]
  have hnn : ¬ ((L.length : Int) ≠ (L.length : Int)) := fun h => h rfl
  simp only [twainlaw49_alike.sh, twainlaw49_alike.j2, ln_secs, mach, Nat.reduceAdd, Nat.reduceLeDiff, Int.reduceEq, Int.reduceLT, Int.reduceLE, hnn, hlp]
  exact q153 rfl rfl

/-- the play's beginning -/
def endC (at_ : Int) (v b : List Int) : List Value := .int .i64 at_ :: (byt v ++ [tSl b.length (byt b)])

theorem u8_of {r : List Value} (h : TOk PP q175 r) : ∃ n, (0 ≤ n ∧ n < 256) ∧ r = [.int .u8 n] := by
  obtain ⟨n, rfl, hn⟩ := h.int_inv u_uint8
  rw [u8_min, u8_max] at hn
  exact ⟨n, by omega, rfl⟩
theorem sec_of {r : List Value} (h : TOk PP y1 r) : ∃ v, OkSec v ∧ r = byt v := by
  obtain ⟨ps, rfl, hl, hp⟩ := h.array_inv q197
  have key : ∀ ps : List (List Value), (∀ p ∈ ps, TOk PP q175 p) → ∃ v : List Int, (∀ b ∈ v, 0 ≤ b ∧ b < 256) ∧ v.length = ps.length ∧ ps.flatten = byt v := by
    intro ps
    induction ps with
    | nil => intro _; exact ⟨[], fun b hb => by simp at hb, rfl, rfl⟩
    | cons p ps ih =>
      intro hp
      obtain ⟨v, h1, h2, h3⟩ := ih (fun x hx => hp x (by simp [hx]))
      obtain ⟨n, hn, rfl⟩ := u8_of (hp p (by simp))
      refine ⟨n :: v, fun b hb => ?_, by simp [h2], by simp [h3, byt]⟩
      rcases List.mem_cons.1 hb with rfl | hb
      · exact hn
      · exact h1 b hb
  obtain ⟨v, h1, h2, h3⟩ := key ps hp
  exact ⟨v, ⟨by omega, h1⟩, h3⟩

theorem end_of {r : List Value} (h : TOk PP q21 r) : ∃ at_ v b, isI at_ ∧ OkSec v ∧ (∀ x ∈ b, 0 ≤ x ∧ x < 256) ∧ r = endC at_ v b := by
  obtain ⟨ps, rfl, hp⟩ := h.struct_inv y279
  rw [q279] at hp
  match ps, hp with
  | [a, c, d], ⟨ha, hc, hd, _⟩ =>
    obtain ⟨at_, h1, rfl⟩ := q172 ha
    obtain ⟨v, h2, rfl⟩ := sec_of hc
    obtain ⟨b, h3, rfl⟩ := bytes_of hd
    exact ⟨at_, v, b, h1, h2, h3, by simp [endC]⟩

theorem gtells_law {l : List Ev} (hlT : EvTs l) (hm : l.length < 9223372036854775808) {at_ : Int} (hat : isI at_) {v : List Int} (hv : OkSec v) {b : List Int} (hbb : ∀ x ∈ b, 0 ≤ x ∧ x < 256) :
    y166 (acall PP TT y99 [tSl l.length (evR l), .agg (endC at_ v b).toArray] []) = true := by
  have hvl : (byt v).length = 16 := by simp [byt, hv.1]
  have hel : (endC at_ v b).length = 18 := by simp [endC, hvl]
  have hec : q16 (endC at_ v b) = true := by
    have := y74 v
    unfold q16 at this ⊢
    simp only [endC, List.all_cons, List.all_append, this]
    simp
  have hb0 : aBox q21 (.agg (endC at_ v b).toArray) ⟨[], none⟩ = some (.pointer (some ⟨0, 0, none⟩), ⟨[.cells (endC at_ v b) q21 true], none⟩) := y56 (H := []) hec
  have h0 : (endC at_ v b)[0]? = some (.int .i64 at_) := rfl
  have h1 : ((endC at_ v b).drop 1).take 16 = byt v := by simp only [endC, List.drop_succ_cons, List.drop_zero]; rw [List.take_left' hvl]
  have h17 : (endC at_ v b)[17]? = some (tSl b.length (byt b)) := by
    simp only [endC, List.getElem?_cons_succ]
    rw [List.getElem?_append_right (by omega)]
    simp [hvl]
  have ld0 : ∀ (L : List Blk), aLoad false 1 ⟨.cells (endC at_ v b) q21 true :: L, none⟩ (.pointer (some ⟨0, 0, none⟩)) = some (.int .i64 at_) := fun L => by
    rw [y55]; simp only [y76, List.getElem?_cons_zero, h0]
  have ld1 : ∀ (L : List Blk), aLoad true 16 ⟨.cells (endC at_ v b) q21 true :: L, none⟩ (.pointer (some ⟨0, 1, none⟩)) = some (.agg (byt v).toArray) := fun L => by
    rw [q61]; simp only [q35, List.getElem?_cons_zero]
    rw [if_pos (by omega), h1]; rfl
  have ld2 : ∀ (L : List Blk), aLoad false 1 ⟨.cells (endC at_ v b) q21 true :: L, none⟩ (.pointer (some ⟨0, 17, none⟩)) = some (tSl b.length (byt b)) := fun L => by
    rw [y55]; simp only [y76, List.getElem?_cons_zero, h17]
  have hb1 := q269 [.cells (endC at_ v b) q21 true] none
  have hs1 := y210 hv.1 [.cells (endC at_ v b) q21 true] none
  simp only [List.length_cons, List.length_nil, Nat.zero_add, List.cons_append, List.nil_append] at hb1 hs1
  have hvi := q132 .i64 at_
  have hva : veq (.agg (byt v).toArray) (.agg (byt v).toArray) = true := veq_agg _ (by
    simp only [byt, List.all_map, List.all_eq_true]
    intro x _; rfl)
  have hvs : veq (tSl b.length (byt b)) (tSl b.length (byt b)) = true := veq_tree _ _ (by
    simp only [byt, List.all_map, List.all_eq_true]
    intro x _; rfl)
  have hln := fun st => q206 b st
  have hlr := fun st => q287 l st
  rw [y22, twainlaw49_GhostTells.eq]
  cases hf : fewB l with
  | false =>
    simp only [twainlaw49_GhostTells.sh, twainlaw49_GhostTells.j0, hb0, hb1, hs1, q106, y102, q105, Nat.zero_add, ld0, ld1, ld2, hvi, hva, hvs, q131, few_ok l hm, hf, twainlaw49_lives.eq, mach, Nat.reduceAdd, Nat.reduceLeDiff, Int.reduceEq, Int.reduceLT, Int.reduceLE]
    exact q302
  | true =>
    have hl := few_ok2 hlT hf
    have h100 := few_len hf
    have h6 : l.length < 60000 := Nat.lt_of_le_of_lt h100 (by decide)
    have hfw := fun H => few_ok l hm H
    clear hm
    by_cases h8 : (l.length : Int) > 8
    · simp only [twainlaw49_GhostTells.sh, twainlaw49_GhostTells.j0, hb0, hb1, hs1, q106, y102, q105, Nat.zero_add, ld0, ld1, ld2, hvi, hva, hvs, q131, hfw, hf, hlr, h8, twainlaw49_lives.eq, mach, Nat.reduceAdd, Nat.reduceLeDiff, Int.reduceEq, Int.reduceLT, Int.reduceLE]
      exact q302
    by_cases h2 : (b.length : Int) > 200
    · simp only [twainlaw49_GhostTells.sh, twainlaw49_GhostTells.j0, hb0, hb1, hs1, q106, y102, q105, Nat.zero_add, ld0, ld1, ld2, hvi, hva, hvs, q131, hfw, hf, hlr, h8, hln, h2, twainlaw49_lives.eq, mach, Nat.reduceAdd, Nat.reduceLeDiff, Int.reduceEq, Int.reduceLT, Int.reduceLE]
      exact q302
    have h8' : l.length ≤ 8 := by omega
    have hbl : b.length ≤ 200 := by omega
    have hob : OkB b := ⟨by omega, hbb⟩
    have hraw := fun H => raw_ok (l := l) h6 H
    obtain ⟨hA, hsm, hA59⟩ := opsA_ok hl h8' at_
    obtain ⟨ok, H2, e2, hho, hk2, hi2⟩ := holds_ok hl h6 hat rfl hA hsm hA59 hv.1 hv.2 [.cells (endC at_ v b) q21 true, .cells (byt v) y1 true]
    obtain ⟨ok3, kn3, H3, e3, hrh, _, hi3⟩ := y355 hl h6 hat rfl hA hsm hA59 hv.1 hv.2 H2
    have hsame : kn3 = true → ok3 = ok := fun h => by
      have := hi3 h
      cases ok3 <;> cases ok <;> simp_all
    have hld6 := q160 hv.1 none (show [Blk.cells (endC at_ v b) q21 true, .cells (byt v) y1 true][1]? = some (.cells (byt v) y1 true) from rfl)
    have hld7 := q160 hv.1 (y8 none e2) (hk2 1 (byt v) y1 true rfl (by decide))
    have hc7 : q35 H2 1 0 16 = some (byt v) := by
      have := hk2 1 (byt v) y1 true rfl (by decide)
      simp only [q35, this]
      rw [if_pos (by omega)]
      simp [List.take_of_length_le, hvl]
    have hgv := gvalues_ok hl h6 hat rfl hA hsm hA59
    obtain ⟨out, kn4, hrv, hout, hkn4⟩ := rvalues_ok hl h6 hat rfl hA hsm hA59
    obtain ⟨hall, _, hvn⟩ := q268 hA (opsA l at_).length
    have hkl := keepH_len (opsA l at_) (valsN (opsA l at_) (opsA l at_).length)
    have hal := alike_ok (keepH_ok (A := opsA l at_) hall) (by omega) []
    obtain ⟨r5, hgi, hi5⟩ := gimage_ok hl h8' hob hbl
    obtain ⟨f6, w6, hri, hi6⟩ := rimage_ok hl h8' hob hbl
    have hsame6 : w6 = true → f6 = r5 := fun h => by
      have := hi6 h
      cases f6 <;> cases r5 <;> simp_all
    have hg1 : ∀ (H : List Blk) (e : Option Nat) (x : Value), vrefs x = [] → jGc 0 ([tSl l.length (evR l), x, .int .i64 at_, tSl b.length (byt b), tSl l.length (evR l)], ⟨H, e⟩) true = ([tSl l.length (evR l), x, .int .i64 at_, tSl b.length (byt b), tSl l.length (evR l)], ⟨[], none⟩) := fun H e x hx => gc0 (by simp [q22, q36, hx])
    have hg2 : ∀ (H : List Blk) (e : Option Nat) (x : Value), vrefs x = [] → jGc 0 ([tSl l.length (evR l), x, tSl b.length (byt b), tSl l.length (evR l)], ⟨H, e⟩) true = ([tSl l.length (evR l), x, tSl b.length (byt b), tSl l.length (evR l)], ⟨[], none⟩) := fun H e x hx => gc0 (by simp [q22, q36, hx])
    have hg1 := fun (H : List Blk) (e : Option Nat) => hg1 H e unk rfl
    have hg2 := fun (H : List Blk) (e : Option Nat) => hg2 H e unk rfl
    generalize keepH (opsA l at_) (valsN (opsA l at_) (opsA l at_).length) = KK at hgv hal hkn4 hkl
    have hneq : ¬ ((0 : Int) ≠ 0) := fun h => h rfl
    have first : ∀ (kn3 : Bool), (kn3 = true → ok3 = ok) → acall PP TT q76 [tSl l.length (evR l), .int .i64 at_, .agg (byt v).toArray] H2 = some (.tuple #[.bool ok3, .int .i64 0, .bool kn3], H3, e3) →
        y166 (twainlaw49_GhostTells.sh (acall PP TT) loopG ([] : List Blk).length (tSl l.length (evR l)) (.agg (endC at_ v b).toArray) ⟨[], none⟩) = y166 (twainlaw49_GhostTells.j3 (acall PP TT) loopG 0 (tSl l.length (evR l)) (.int .i64 at_) (tSl b.length (byt b)) (tSl l.length (evR l)) ⟨[], none⟩) := fun kn3 hs hrh => by
      cases kn3 with
      | true =>
        have := hs rfl
        subst this
        simp only [twainlaw49_GhostTells.sh, twainlaw49_GhostTells.j0, twainlaw49_GhostTells.j1, twainlaw49_GhostTells.j2, hb0, hb1, hs1, q106, y102, q105, Nat.zero_add, ld0, ld1, ld2, hvi, hva, hvs, q131, hfw, hf, hlr, h8, hln, h2, hraw, hvl, List.take_of_length_le, hho, hc7, hrh, bin_neqB, bne_self_eq_false, hneq, hg1, mach, Nat.reduceAdd, Nat.reduceLeDiff, Int.reduceEq, Int.reduceLT, Int.reduceLE]
      | false =>
        simp only [twainlaw49_GhostTells.sh, twainlaw49_GhostTells.j0, twainlaw49_GhostTells.j1, twainlaw49_GhostTells.j2, hb0, hb1, hs1, q106, y102, q105, Nat.zero_add, ld0, ld1, ld2, hvi, hva, hvs, q131, hfw, hf, hlr, h8, hln, h2, hraw, hvl, List.take_of_length_le, hho, hc7, hrh, hneq, hg1, mach, Nat.reduceAdd, Nat.reduceLeDiff, Int.reduceEq, Int.reduceLT, Int.reduceLE]
    rw [first kn3 hsame hrh]
    have second : y166 (twainlaw49_GhostTells.j3 (acall PP TT) loopG 0 (tSl l.length (evR l)) (.int .i64 at_) (tSl b.length (byt b)) (tSl l.length (evR l)) ⟨[], none⟩) = y166 (twainlaw49_GhostTells.j5 (acall PP TT) loopG 0 (tSl l.length (evR l)) (tSl b.length (byt b)) (tSl l.length (evR l)) ⟨[], none⟩) := by
      cases kn4 with
      | true =>
        have := hkn4 rfl
        subst this
        simp only [twainlaw49_GhostTells.j3, twainlaw49_GhostTells.j4, hgv, hrv, hal, hg2, mach, Nat.reduceAdd, Nat.reduceLeDiff, Int.reduceEq, Int.reduceLT, Int.reduceLE]
      | false =>
        simp only [twainlaw49_GhostTells.j3, twainlaw49_GhostTells.j4, hgv, hrv, hg2, mach, Nat.reduceAdd, Nat.reduceLeDiff, Int.reduceEq, Int.reduceLT, Int.reduceLE]
    rw [second]
    cases w6 with
    | false =>
      simp only [twainlaw49_GhostTells.j5, hri, twainlaw49_lives.eq, mach, Nat.reduceAdd, Nat.reduceLeDiff, Int.reduceEq, Int.reduceLT, Int.reduceLE]
      exact q302
    | true =>
      have := hsame6 rfl
      subst this
      simp only [twainlaw49_GhostTells.j5, hri, hgi, twainlaw49_lives.eq, eql_bool, mach, Nat.reduceAdd, Nat.reduceLeDiff, Int.reduceEq, Int.reduceLT, Int.reduceLE]
      exact q302
end GH
end Go.Proofs.Ytfinilnkempofaa

end
