/- A part of the proof: HistConv, HistConv2, HistPlain, HistArgs. Its conditions: none. -/
import Derived.Test.YtfinilnkempofaaHistOps
set_option linter.all false
set_option linter.unusedVariables false
set_option linter.unusedSimpArgs false
set_option linter.unnecessarySimpa false
section
namespace Go.Proofs.Ytfinilnkempofaa
open Go Go.Am

/-- is event n odd? -/
def oddB (l : List Ev) (n : Nat) : Bool := match l[n]? with
  | none => false
  | some x => if x.kind = 0 then decide (0 ≤ y138 l n)
    else if x.kind = 1 then decide (y138 l n < 0) || !decide (y72 l (y138 l n).toNat = (n : Int))
    else false
def anyN (p : Nat → Bool) : Nat → Bool
  | 0 => false
  | n + 1 => anyN p n || p n
theorem y290 {p : Nat → Bool} : ∀ {n : Nat}, anyN p n = false ↔ ∀ i, i < n → p i = false
  | 0 => by simp [anyN]
  | n + 1 => by
    simp only [anyN, Bool.or_eq_false_iff, y290]
    constructor
    · rintro ⟨h1, h2⟩ i hi
      by_cases h : i = n
      · subst h; exact h2
      · exact h1 i (by omega)
    · intro h
      exact ⟨fun i hi => h i (by omega), h n (by omega)⟩
theorem q350 {p : Nat → Bool} {n i : Nat} (hi : i < n) (h : p i = true) : anyN p n = true := by
  cases hb : anyN p n with
  | true => rfl
  | false => rw [y290.1 hb i hi] at h; simp at h

section
variable {l : List Ev} {H : List Blk}

theorem gc_box (vs : List Value) (hv : lrefs vs = []) (G : List Blk) : gc H.length vs ⟨H ++ G, none⟩ = (vs, ⟨H, none⟩) := q261 hv rfl

theorem rodd_ok (hl : OkEvs l) (hm : l.length < 60000) (H : List Blk) : acall PP TT y145 [tSl l.length (evR l)] H = some (.bool (anyN (oddB l) l.length), H, none) := by
  have hlast : ¬ ((l.length : Int) < (l.length : Int)) := Int.lt_irrefl _
  obtain ⟨r, hlp, hr⟩ := q173 (n0 := H.length) (step := twainref36_Odd.loop2s (acall PP TT) loopG H.length) (len := l.length) (σ := Unit)
    (fun n _ => ([tSl l.length (evR l), tSl l.length (evR l), .int .i64 l.length, .int .i64 n], ⟨H, none⟩))
    (fun n _ => ∀ i, i < n → oddB l i = false)
    (fun r => (r = (.exit 0, [unk], ⟨H, none⟩) ∧ anyN (oddB l) l.length = false) ∨ (∃ G e, r = (.ret, [.bool true], ⟨H ++ G, e⟩) ∧ escOk H.length e = true ∧ anyN (oddB l) l.length = true))
    (fun n _ hn ho => by
      obtain ⟨x, hx⟩ : ∃ x, l[n]? = some x := ⟨_, List.getElem?_eq_getElem hn⟩
      have hn' : ((n : Int) < (l.length : Int)) := by omega
      have hix := y348 hn
      have hld := fun st => q272 hx st
      have hw := q69 (n := n) (by omega)
      have f0 : (evc x)[0]? = some (.int .i64 x.kind) := by simp [evc]
      have hak := fun H => asked_ok hl (by omega) hn H
      have hai := askedI_isI (l := l) (by omega) n
      have next : oddB l n = false → ∀ vs st, twainref36_Odd.loop2s (acall PP TT) loopG H.length ([tSl l.length (evR l), tSl l.length (evR l), .int .i64 l.length, .int .i64 n], ⟨H, none⟩) = some (.inl (vs, st)) → vs = [tSl l.length (evR l), tSl l.length (evR l), .int .i64 l.length, .int .i64 ((n + 1 : Nat) : Int)] → (∃ G, st = ⟨H ++ G, none⟩) →
          ∃ vs st, ∃ s' : Unit, twainref36_Odd.loop2s (acall PP TT) loopG H.length ([tSl l.length (evR l), tSl l.length (evR l), .int .i64 l.length, .int .i64 n], ⟨H, none⟩) = some (.inl (vs, st)) ∧ gc H.length vs st = ([tSl l.length (evR l), tSl l.length (evR l), .int .i64 l.length, .int .i64 ((n + 1 : Nat) : Int)], ⟨H, none⟩) ∧ ∀ i, i < n + 1 → oddB l i = false := by
        rintro hb vs st hs rfl ⟨G, rfl⟩
        refine ⟨_, _, (), hs, q261 (by simp [q22]) rfl, fun i hi => ?_⟩
        by_cases h : i = n
        · subst h; exact hb
        · exact ho i (by omega)
      have hob : oddB l n = (if x.kind = 0 then decide (0 ≤ y138 l n) else if x.kind = 1 then decide (y138 l n < 0) || !decide (y72 l (y138 l n).toNat = (n : Int)) else false) := by simp [oddB, hx]
      by_cases k0 : x.kind = 0
      · by_cases ha : 0 ≤ y138 l n
        · refine .inl ⟨_, ?_, .inr ⟨[.cells (evc x) y5 true], none, rfl, rfl, q350 hn (by rw [hob]; simp [k0, ha])⟩⟩
          simp only [twainref36_Odd.loop2s, twainref36_Odd.loop2, twainref36_Odd.j1, twainref36_Odd.j2, twainref36_Odd.j3, twainref36_Odd.j4, mach, Nat.reduceAdd, Nat.reduceLeDiff, Int.reduceEq, Int.reduceLT, Int.reduceLE, hn', hix, hld, q19, q17, q18, y63, q34, y25, q9, f0, q20, hak, k0, ha]
        · refine .inr (next (by rw [hob]; simp [k0, ha]) _ ⟨H ++ [.cells (evc x) y5 true], none⟩ ?_ rfl ⟨_, rfl⟩)
          have hnc : ((0 : Int) = 1) = False := by simp
          simp only [twainref36_Odd.loop2s, twainref36_Odd.loop2, twainref36_Odd.j1, twainref36_Odd.j2, twainref36_Odd.j3, twainref36_Odd.j4, mach, Nat.reduceAdd, Nat.reduceLeDiff, Int.reduceEq, Int.reduceLT, Int.reduceLE, hn', hix, hld, q19, q17, q18, y63, q34, y25, q9, f0, q20, hak, k0, ha, hw, hnc]
      · by_cases k1 : x.kind = 1
        · by_cases ha : y138 l n < 0
          · refine .inl ⟨_, ?_, .inr ⟨[.cells (evc x) y5 true], none, rfl, rfl, q350 hn (by rw [hob]; simp [k1, ha])⟩⟩
            simp only [twainref36_Odd.loop2s, twainref36_Odd.loop2, twainref36_Odd.j1, twainref36_Odd.j2, twainref36_Odd.j3, twainref36_Odd.j4, mach, Nat.reduceAdd, Nat.reduceLeDiff, Int.reduceEq, Int.reduceLT, Int.reduceLE, hn', hix, hld, q19, q17, q18, y63, q34, y25, q9, f0, q20, hak, k0, k1, ha]
          · obtain ⟨m, hAm⟩ : ∃ m : Nat, y138 l n = (m : Int) := ⟨(y138 l n).toNat, by omega⟩
            have hed := fun H => ended_ok hl (by omega) (from_ := m) (by omega) H
            have hmn : (y138 l n).toNat = m := by omega
            rw [hmn] at hob
            rw [hAm] at hak
            have hm0 : ¬ ((m : Int) < 0) := by omega
            by_cases he : y72 l m = (n : Int)
            · refine .inr (next (by rw [hob]; simp [k1, he, hAm, hm0]) _ ⟨H ++ [.cells (evc x) y5 true], none⟩ ?_ rfl ⟨_, rfl⟩)
              simp only [twainref36_Odd.loop2s, twainref36_Odd.loop2, twainref36_Odd.j1, twainref36_Odd.j2, twainref36_Odd.j3, twainref36_Odd.j4, mach, Nat.reduceAdd, Nat.reduceLeDiff, Int.reduceEq, Int.reduceLT, Int.reduceLE, hn', hix, hld, q19, q17, q18, y63, q34, y25, q9, f0, q20, hak, hed, k0, k1, hm0, he, hw]
            · refine .inl ⟨_, ?_, .inr ⟨[.cells (evc x) y5 true], none, rfl, rfl, q350 hn (by rw [hob]; simp [k1, he])⟩⟩
              simp only [twainref36_Odd.loop2s, twainref36_Odd.loop2, twainref36_Odd.j1, twainref36_Odd.j2, twainref36_Odd.j3, twainref36_Odd.j4, mach, Nat.reduceAdd, Nat.reduceLeDiff, Int.reduceEq, Int.reduceLT, Int.reduceLE, hn', hix, hld, q19, q17, q18, y63, q34, y25, q9, f0, q20, hak, hed, k0, k1, hm0, he]
        · refine .inr (next (by rw [hob]; simp [k0, k1]) _ ⟨H ++ [.cells (evc x) y5 true], none⟩ ?_ rfl ⟨_, rfl⟩)
          simp only [twainref36_Odd.loop2s, twainref36_Odd.loop2, twainref36_Odd.j1, twainref36_Odd.j2, twainref36_Odd.j3, twainref36_Odd.j4, mach, Nat.reduceAdd, Nat.reduceLeDiff, Int.reduceEq, Int.reduceLT, Int.reduceLE, hn', hix, hld, q19, q17, q18, y63, q34, y25, q9, f0, q20, hak, k0, k1, hw])
    (fun _ ho => ⟨_, by simp only [twainref36_Odd.loop2s, twainref36_Odd.loop2, mach, Nat.reduceAdd, Nat.reduceLeDiff, Int.reduceEq, Int.reduceLT, Int.reduceLE, hlast], .inl ⟨rfl, y290.2 ho⟩⟩)
    l.length 0 () _ _ (by omega) (fun i hi => by omega) (y208 (H := H) (vs := [tSl l.length (evR l), tSl l.length (evR l), .int .i64 l.length, .int .i64 0]) (by simp [q22]))
  rw [y22, twainref36_Odd.eq]
  rcases hr with ⟨rfl, h⟩ | ⟨G, e, rfl, he, h⟩
  · simp only [twainref36_Odd.sh, q287, mach, Nat.reduceAdd, Nat.reduceLeDiff, Int.reduceEq, Int.reduceLT, Int.reduceLE, hlp, twainref36_Odd.j6, h]
    exact q153 rfl rfl
  · simp only [twainref36_Odd.sh, q287, mach, Nat.reduceAdd, Nat.reduceLeDiff, Int.reduceEq, Int.reduceLT, Int.reduceLE, hlp, h]
    exact y90 rfl rfl he

/-! ### Few -/

def fewB (l : List Ev) : Bool := decide (l.length ≤ 100) && l.all fun x => decide (x.d.length ≤ 300) && decide (x.rd.length ≤ 300)

theorem few_ok (l : List Ev) (hm : l.length < 9223372036854775808) (H : List Blk) : acall PP TT y123 [tSl l.length (evR l)] H = some (.bool (fewB l), H, none) := by
  have hlast : ¬ ((l.length : Int) < (l.length : Int)) := Int.lt_irrefl _
  rw [y22, twainlaw36_Few.eq]
  by_cases hc : (100 : Int) < (l.length : Int)
  · have hb : fewB l = false := by
      have : ¬ l.length ≤ 100 := by omega
      simp [fewB, this]
    simp only [twainlaw36_Few.sh, q287, mach, Nat.reduceAdd, Nat.reduceLeDiff, Int.reduceEq, Int.reduceLT, Int.reduceLE, hc, hb]
    exact q153 rfl rfl
  · have hle : l.length ≤ 100 := by omega
    obtain ⟨r, hlp, hr⟩ := q173 (n0 := H.length) (step := twainlaw36_Few.loop4s (acall PP TT) loopG H.length) (len := l.length) (σ := Unit)
      (fun n _ => ([tSl l.length (evR l), .int .i64 l.length, .int .i64 n], ⟨H, none⟩))
      (fun n _ => ∀ x ∈ l.take n, x.d.length ≤ 300 ∧ x.rd.length ≤ 300)
      (fun r => (r = (.exit 0, [unk], ⟨H, none⟩) ∧ fewB l = true) ∨ (∃ G e, r = (.ret, [.bool false], ⟨H ++ G, e⟩) ∧ escOk H.length e = true ∧ fewB l = false))
      (fun n _ hn ho => by
        obtain ⟨x, hx⟩ : ∃ x, l[n]? = some x := ⟨_, List.getElem?_eq_getElem hn⟩
        have hn' : ((n : Int) < (l.length : Int)) := by omega
        have hix := y348 hn
        have hld := fun st => q272 hx st
        have hw := q69 (n := n) (by omega)
        have f6 : (evc x)[6]? = some (tSl x.rd.length (byt x.rd)) := by simp [evc]
        have f7 : (evc x)[7]? = some (tSl x.d.length (byt x.d)) := by simp [evc]
        have hxm := List.mem_of_getElem? hx
        by_cases hd : (300 : Int) < (x.d.length : Int)
        · refine .inl ⟨_, ?_, .inr ⟨[.cells (evc x) y5 true], none, rfl, rfl, ?_⟩⟩
          · simp only [twainlaw36_Few.loop4s, twainlaw36_Few.loop4, twainlaw36_Few.j1, twainlaw36_Few.j2, mach, Nat.reduceAdd, Nat.reduceLeDiff, Int.reduceEq, Int.reduceLT, Int.reduceLE, hn', hix, hld, q19, q17, q18, y63, q34, y25, q9, f6, f7, y43, y130, q27, q206, hd]
          · simp only [fewB, Bool.and_eq_false_iff, List.all_eq_false]
            exact .inr ⟨x, hxm, by simp; omega⟩
        · by_cases hr : (300 : Int) < (x.rd.length : Int)
          · refine .inl ⟨_, ?_, .inr ⟨[.cells (evc x) y5 true], none, rfl, rfl, ?_⟩⟩
            · simp only [twainlaw36_Few.loop4s, twainlaw36_Few.loop4, twainlaw36_Few.j1, twainlaw36_Few.j2, mach, Nat.reduceAdd, Nat.reduceLeDiff, Int.reduceEq, Int.reduceLT, Int.reduceLE, hn', hix, hld, q19, q17, q18, y63, q34, y25, q9, f6, f7, y43, y130, q27, q206, hd, hr]
            · simp only [fewB, Bool.and_eq_false_iff, List.all_eq_false]
              exact .inr ⟨x, hxm, by simp; omega⟩
          · refine .inr ⟨[tSl l.length (evR l), .int .i64 l.length, .int .i64 ((n + 1 : Nat) : Int)], ⟨H ++ [.cells (evc x) y5 true], none⟩, (), ?_, q261 (by simp [q22]) rfl, ?_⟩
            · simp only [twainlaw36_Few.loop4s, twainlaw36_Few.loop4, twainlaw36_Few.j1, twainlaw36_Few.j2, mach, Nat.reduceAdd, Nat.reduceLeDiff, Int.reduceEq, Int.reduceLT, Int.reduceLE, hn', hix, hld, q19, q17, q18, y63, q34, y25, q9, f6, f7, y43, y130, q27, q206, hd, hr, hw]
            · intro y hy
              rw [List.take_add_one, hx] at hy
              simp only [Option.toList_some, List.mem_append, List.mem_singleton] at hy
              rcases hy with hy | rfl
              · exact ho y hy
              · omega)
      (fun _ ho => ⟨_, by simp only [twainlaw36_Few.loop4s, twainlaw36_Few.loop4, mach, Nat.reduceAdd, Nat.reduceLeDiff, Int.reduceEq, Int.reduceLT, Int.reduceLE, hlast], .inl ⟨rfl, by
        rw [List.take_length] at ho
        simp only [fewB, Bool.and_eq_true, decide_eq_true_eq, List.all_eq_true]
        exact ⟨hle, fun x hx => ho x hx⟩⟩⟩)
      l.length 0 () _ _ (by omega) (fun x hx => by simp at hx) (y208 (H := H) (vs := [tSl l.length (evR l), .int .i64 l.length, .int .i64 0]) (by simp [q22]))
    rcases hr with ⟨rfl, h⟩ | ⟨G, e, rfl, he, h⟩
    · simp only [twainlaw36_Few.sh, q287, mach, Nat.reduceAdd, Nat.reduceLeDiff, Int.reduceEq, Int.reduceLT, Int.reduceLE, hc, hlp, twainlaw36_Few.j4, h]
      exact q153 rfl rfl
    · simp only [twainlaw36_Few.sh, q287, mach, Nat.reduceAdd, Nat.reduceLeDiff, Int.reduceEq, Int.reduceLT, Int.reduceLE, hc, hlp, h]
      exact y90 rfl rfl he

end
end Go.Proofs.Ytfinilnkempofaa

end
section
namespace Go.Proofs.Ytfinilnkempofaa
open Go Go.Am

theorem bsl_wev (x : Ev) (H : List Blk) (e : Option Nat) : bsl PP q25 1 [0] [.agg (evc x).toArray] ⟨H, e⟩ = some (.slice (some ⟨H.length, 0, none⟩) 1 1, ⟨H ++ [.cells (evc x) q10 true], e⟩) := by
  unfold bsl
  have hfl : frzL (frz PP 0 8) [Value.agg (evc x).toArray] H = ([Value.agg (evc x).toArray], H) := q126 _ _ _ _ (by simp [flatV, evc_flat])
  simp only [hfl]
  refine Eq.trans (b := some (aRow q10 (evc x) 1 1 ⟨H, e⟩)) ?_ rfl
  clear hfl
  kernel_rfl

theorem evR_snoc (l : List Ev) (x : Ev) : evR l ++ evc x = evR (l ++ [x]) := by simp [evR, evs]
theorem evR_flat (l : List Ev) : (evR l).all noSl = true := (q211 l).fflat
theorem evR_len (l : List Ev) : (evR l).length = l.length * 8 := by
  have := (q211 l).flen
  simpa [evR, evs_len] using this

section
variable {l : List Ev} {H : List Blk}

theorem push_ev_nil {L : List Blk} {e : Option Nat} {x : Ev} {R : Type} {F : Value → AS → Option R} :
    ((bsl PP q25 1 [0] [.agg (evc x).toArray] ⟨H ++ L, e⟩).bind fun q => y16 PP .append #[q25, q25] [.slice none 0 0, q.1] q.2 F) = F (.slice (some ⟨H.length + (L.length + 1), 0, none⟩) 1 UNK) ⟨H ++ (L ++ [.cells (evc x) q10 true, .cells (evc x) q10 true]), e⟩ :=
  q358 q212 (y63 x) (bsl_wev x)
theorem push_ev {A : List Ev} (hm : A.length ≤ 65535) {L : List Blk} {e : Option Nat} {x : Ev} {R : Type} {F : Value → AS → Option R} (hk : L[0]? = some (.cells (evR A) q10 true)) :
    ((bsl PP q25 1 [0] [.agg (evc x).toArray] ⟨H ++ L, e⟩).bind fun q => y16 PP .append #[q25, q25] [.slice (some ⟨H.length, 0, none⟩) A.length UNK, q.1] q.2 F) = F (.slice (some ⟨H.length + (L.length + 1), 0, none⟩) (A.length + 1) UNK) ⟨H ++ (L.set 0 .dead ++ [.cells (evc x) q10 true, .cells (evR (A ++ [x])) q10 true]), e⟩ := by
  rw [← evR_snoc]
  exact y239 q212 (y63 x) (bsl_wev x) hk (evR_len A) hm

def rowW (n0 : Nat) (A : List Ev) : Value := match A with | [] => .slice none 0 0 | _ :: tl => .slice (some ⟨n0, 0, none⟩) (tl.length + 1) UNK
def blkW (A : List Ev) : List Blk := match A with | [] => [] | a :: tl => [.cells (evR (a :: tl)) q10 true]

theorem y198 {α : Type} {l : List α} {n : Nat} {x : α} (hx : l[n]? = some x) : l.take (n + 1) = l.take n ++ [x] := by
  rw [List.take_add_one, hx]; rfl

theorem raw_ok (hm : l.length < 60000) (H : List Blk) : acall PP TT q123 [tSl l.length (evR l)] H = some (tSl l.length (evR l), H, none) := by
  have hlast : ¬ ((l.length : Int) < (l.length : Int)) := Int.lt_irrefl _
  obtain ⟨r, hlp, hr⟩ := q173 (n0 := H.length) (step := twainlaw36_Raw.loop3s (acall PP TT) loopG H.length) (len := l.length) (σ := Unit)
    (fun n _ => ([rowW H.length (l.take n), tSl l.length (evR l), .int .i64 l.length, .int .i64 n], ⟨H ++ blkW (l.take n), none⟩))
    (fun _ _ => True) (fun r => r = (.exit 0, [rowW H.length l], ⟨H ++ blkW l, none⟩))
    (fun n _ hn _ => by
      obtain ⟨x, hx⟩ : ∃ x, l[n]? = some x := ⟨_, List.getElem?_eq_getElem hn⟩
      have hn' : ((n : Int) < (l.length : Int)) := by omega
      have hix := y348 hn
      have hld := fun st => q272 hx st
      have hw := q69 (n := n) (by omega)
      have htk : (evc x).take 8 = evc x := List.take_of_length_le (by simp [y63])
      have hlen : (l.take n).length ≤ 65535 := by simp; omega
      rw [y198 hx]
      generalize l.take n = A at hlen
      refine .inr ?_
      cases A with
      | nil =>
        refine ⟨[.slice (some ⟨H.length + 2, 0, none⟩) 1 UNK, tSl l.length (evR l), .int .i64 l.length, .int .i64 ((n + 1 : Nat) : Int)], ⟨H ++ [.cells (evc x) y5 true, .cells (evc x) q10 true, .cells (evc x) q10 true], none⟩, (), ?_, ?_, trivial⟩
        · simp only [twainlaw36_Raw.loop3s, twainlaw36_Raw.loop3, rowW, blkW, mach, Nat.reduceAdd, Nat.reduceLeDiff, Int.reduceEq, Int.reduceLT, Int.reduceLE, hn', hix, hld, q19, q17, q18, y63, q34, y25, q9, htk, push_ev_nil, hw, List.append_nil]
        · exact y115 [[], [], []] [2] [2] rfl rfl (by simp [q22]) (by simp [y14, y25]) (by simp [rowW, lren, vren, q117, y70, q41, q22]) (by simp [blkW, y24, q55, y25, evR, evs])
      | cons a tl =>
        have hpn := fun (L : List Blk) (e : Option Nat) (R : Type) (F : Value → AS → Option R) (hk : L[0]? = some (.cells (evR (a :: tl)) q10 true)) => push_ev (H := H) hlen (L := L) (e := e) (x := x) (F := F) hk
        simp only [List.length_cons] at hpn
        refine ⟨[.slice (some ⟨H.length + 3, 0, none⟩) (tl.length + 1 + 1) UNK, tSl l.length (evR l), .int .i64 l.length, .int .i64 ((n + 1 : Nat) : Int)], ⟨H ++ [.dead, .cells (evc x) y5 true, .cells (evc x) q10 true, .cells (evR (a :: tl ++ [x])) q10 true], none⟩, (), ?_, ?_, trivial⟩
        · simp only [twainlaw36_Raw.loop3s, twainlaw36_Raw.loop3, rowW, blkW, mach, Nat.reduceAdd, Nat.reduceLeDiff, Int.reduceEq, Int.reduceLT, Int.reduceLE, hn', hix, hld, q19, q17, q18, y63, q34, y25, q9, htk, hpn, hw, List.append_nil, List.set_cons_zero]
        · exact y115 [[], [], [], []] [3] [3] rfl rfl (by simp [q22]) (by simp [y14, y106, y25, q22]) (by simp [rowW, lren, vren, q117, y70, q41, q22]) (by simp [blkW, y24, q55, q22]))
    (fun _ _ => ⟨_, by simp only [twainlaw36_Raw.loop3s, twainlaw36_Raw.loop3, mach, Nat.reduceAdd, Nat.reduceLeDiff, Int.reduceEq, Int.reduceLT, Int.reduceLE, hlast, List.take_length], rfl⟩)
    l.length 0 () [.slice none 0 0, tSl l.length (evR l), .int .i64 l.length, .int .i64 0] ⟨H, none⟩ (by omega) trivial (by
      have := y208 (H := H) (vs := [.slice none 0 0, tSl l.length (evR l), .int .i64 l.length, .int .i64 0]) (by simp [q22])
      simpa [rowW, blkW] using this)
  subst hr
  rw [y22, twainlaw36_Raw.eq]
  simp only [twainlaw36_Raw.sh, q287, mach, Nat.reduceAdd, Nat.reduceLeDiff, Int.reduceEq, Int.reduceLT, Int.reduceLE, hlp, twainlaw36_Raw.j2]
  cases l with
  | nil =>
    have := fin_nil (P := PP) (H0 := H) (l := []) (e := none) rfl
    simpa [rowW, blkW, evR, evs] using this
  | cons a tl => exact q232 (sz := 8) rfl y249 (evR_len _) (evR_flat _) (q22 _) rfl

end

section
variable {A B : List Hop} {H : List Blk}

theorem ix_pop {k : Nat} (hk : k < A.length) : q15 PP y9 (tSl A.length (hopR A)) (.int .i64 (k : Int)) = some (tPtr (k * 19) (hopR A).toArray) := y177 y158 q178 hk
theorem ix_rop {k : Nat} (hk : k < A.length) : q15 PP y7 (tSl A.length (hopR A)) (.int .i64 (k : Int)) = some (tPtr (k * 19) (hopR A).toArray) := y177 q156 y125 hk
theorem ln_pop (A : List Hop) (st : AS) : aLen PP y9 (tSl A.length (hopR A)) st = some (.int .i64 A.length) := y237 y158
theorem ln_rop (A : List Hop) (st : AS) : aLen PP y7 (tSl A.length (hopR A)) st = some (.int .i64 A.length) := y237 q156
theorem y265 (hA : OkHops A) {k : Nat} {x : Hop} (hx : A[k]? = some x) (st : AS) : aLoad true 19 st (tPtr (k * 19) (hopR A).toArray) = some (.agg (opk x).toArray) := y344 (y350 hA) (by simp [hx])

theorem conv_ok (hA : OkHops A) (hm : A.length < 60000) (H : List Blk) : acall PP TT q145 [tSl A.length (hopR A)] H = some (tSl A.length (hopR A), H, none) := by
  have hlast : ¬ ((A.length : Int) < (A.length : Int)) := Int.lt_irrefl _
  obtain ⟨r, hlp, hr⟩ := q173 (n0 := H.length) (step := twainlaw36_Ops.loop3s (acall PP TT) loopG H.length) (len := A.length) (σ := Unit)
    (fun n _ => ([rowH H.length (A.take n), tSl A.length (hopR A), .int .i64 A.length, .int .i64 n], ⟨H ++ blkH y2 (A.take n), none⟩))
    (fun _ _ => True) (fun r => r = (.exit 0, [rowH H.length A], ⟨H ++ blkH y2 A, none⟩))
    (fun n _ hn _ => by
      obtain ⟨x, hx⟩ : ∃ x, A[n]? = some x := ⟨_, List.getElem?_eq_getElem hn⟩
      have hxo := hA x (List.mem_of_getElem? hx)
      have hn' : ((n : Int) < (A.length : Int)) := by omega
      have hix := ix_pop hn
      have hld := fun st => y265 hA hx st
      have hw := q69 (n := n) (by omega)
      have hxl := y126 hxo.v.1
      have htk : (opk x).take 19 = opk x := List.take_of_length_le (by omega)
      have hlen : (A.take n).length ≤ 65535 := by simp; omega
      have hBo : OkHops (A.take n) := fun y hy => hA y (List.mem_of_mem_take hy)
      rw [y198 hx]
      generalize A.take n = B at hlen hBo
      refine .inr ?_
      cases B with
      | nil =>
        have hpn := fun (L : List Blk) (e : Option Nat) (R : Type) (F : Value → AS → Option R) => y232 (H := H) (L := L) (e := e) (x := x) hxo.v.1 (F := F)
        refine ⟨[.slice (some ⟨H.length + 2, 0, none⟩) 1 UNK, tSl A.length (hopR A), .int .i64 A.length, .int .i64 ((n + 1 : Nat) : Int)], ⟨H ++ [.cells (opk x) y4 true, .cells (opk x) y2 true, .cells (opk x) y2 true], none⟩, (), ?_, ?_, trivial⟩
        · simp only [twainlaw36_Ops.loop3s, twainlaw36_Ops.loop3, rowH, blkH, mach, Nat.reduceAdd, Nat.reduceLeDiff, Int.reduceEq, Int.reduceLT, Int.reduceLE, hn', hix, hld, q45, q46, q44, hxl, y60, q39, q9, htk, hpn, hw, List.append_nil]
        · exact y115 [[], [], []] [2] [2] rfl rfl (by simp [q29]) (by simp [y14, q39]) (by simp [rowH, lren, vren, q117, y70, q41, q29]) (by simp [blkH, y24, q55, q39, hopR])
      | cons a tl =>
        have hpn := fun (L : List Blk) (e : Option Nat) (R : Type) (F : Value → AS → Option R) (hk : L[0]? = some (.cells (hopR (a :: tl)) y2 true)) => push_rop (H := H) hBo hlen (L := L) (e := e) (x := x) hxo.v.1 (F := F) hk
        simp only [List.length_cons] at hpn
        refine ⟨[.slice (some ⟨H.length + 3, 0, none⟩) (tl.length + 1 + 1) UNK, tSl A.length (hopR A), .int .i64 A.length, .int .i64 ((n + 1 : Nat) : Int)], ⟨H ++ [.dead, .cells (opk x) y4 true, .cells (opk x) y2 true, .cells (hopR (a :: tl ++ [x])) y2 true], none⟩, (), ?_, ?_, trivial⟩
        · simp only [twainlaw36_Ops.loop3s, twainlaw36_Ops.loop3, rowH, blkH, mach, Nat.reduceAdd, Nat.reduceLeDiff, Int.reduceEq, Int.reduceLT, Int.reduceLE, hn', hix, hld, q45, q46, q44, hxl, y60, q39, q9, htk, hpn, hw, List.append_nil, List.set_cons_zero]
        · exact y115 [[], [], [], []] [3] [3] rfl rfl (by simp [q29]) (by simp [y14, y106, q39, q29]) (by simp [rowH, lren, vren, q117, y70, q41, q29]) (by simp [blkH, y24, q55, q29]))
    (fun _ _ => ⟨_, by simp only [twainlaw36_Ops.loop3s, twainlaw36_Ops.loop3, mach, Nat.reduceAdd, Nat.reduceLeDiff, Int.reduceEq, Int.reduceLT, Int.reduceLE, hlast, List.take_length], rfl⟩)
    A.length 0 () [.slice none 0 0, tSl A.length (hopR A), .int .i64 A.length, .int .i64 0] ⟨H, none⟩ (by omega) trivial (by
      have := y208 (H := H) (vs := [.slice none 0 0, tSl A.length (hopR A), .int .i64 A.length, .int .i64 0]) (by simp [q29])
      simpa [rowH, blkH] using this)
  subst hr
  rw [y22, twainlaw36_Ops.eq]
  simp only [twainlaw36_Ops.sh, ln_pop, mach, Nat.reduceAdd, Nat.reduceLeDiff, Int.reduceEq, Int.reduceLT, Int.reduceLE, hlp, twainlaw36_Ops.j2]
  cases A with
  | nil =>
    have := fin_nil (P := PP) (H0 := H) (l := []) (e := none) rfl
    simpa [rowH, blkH, hopR] using this
  | cons a tl => exact q232 (sz := 19) rfl y125 (q166 hA) (y246 _) (q29 _) rfl

theorem flatOp : FlatAgg PP y2 := ⟨by kernel_rfl, by kernel_rfl, by kernel_rfl⟩
theorem tokOp {x : Hop} (h : OkHop x) : TOk PP y2 (opk x) := by
  have := TOk.struct' (P := PP) (ps := [[.bool x.w], byt x.v, [.int .i64 x.f], [.int .i64 x.t]]) q286 y294 ⟨.bool x.w u_bool, y255 h.v.1 h.v.2, y319 h.f, y319 h.t, trivial⟩
  simpa [opk] using this

/-- the very same rows are told so -/
theorem same_ok (hA : OkHops A) (hm : A.length < 60000) (H : List Blk) : acall PP TT y135 [tSl A.length (hopR A), tSl A.length (hopR A)] H = some (.bool true, H, none) := by
  have hlast : ¬ ((A.length : Int) < (A.length : Int)) := Int.lt_irrefl _
  obtain ⟨r, hlp, hr⟩ := q173 (n0 := H.length) (step := twainref36_Same.loop4s (acall PP TT) loopG H.length) (len := A.length) (σ := Unit)
    (fun n _ => ([tSl A.length (hopR A), tSl A.length (hopR A), .int .i64 A.length, .int .i64 n], ⟨H, none⟩))
    (fun _ _ => True) (fun r => r = (.exit 0, [unk], ⟨H, none⟩))
    (fun n _ hn _ => by
      obtain ⟨x, hx⟩ : ∃ x, A[n]? = some x := ⟨_, List.getElem?_eq_getElem hn⟩
      have hxo := hA x (List.mem_of_getElem? hx)
      have hn' : ((n : Int) < (A.length : Int)) := by omega
      have hix := ix_rop hn
      have hld := fun st => y265 hA hx st
      have hw := q69 (n := n) (by omega)
      have hne := y122 (ox := .tmp 19) (oy := .tmp 23) flatOp (tokOp hxo) (tokOp hxo)
      simp only [decide_true, Bool.not_true] at hne
      refine .inr ⟨[tSl A.length (hopR A), tSl A.length (hopR A), .int .i64 A.length, .int .i64 ((n + 1 : Nat) : Int)], ⟨H, none⟩, (), ?_, y208 (by simp [q29]), trivial⟩
      simp only [twainref36_Same.loop4s, twainref36_Same.loop4, mach, Nat.reduceAdd, Nat.reduceLeDiff, Int.reduceEq, Int.reduceLT, Int.reduceLE, hn', hix, hld, hne, hw])
    (fun _ _ => ⟨_, by simp only [twainref36_Same.loop4s, twainref36_Same.loop4, mach, Nat.reduceAdd, Nat.reduceLeDiff, Int.reduceEq, Int.reduceLT, Int.reduceLE, hlast], rfl⟩)
    A.length 0 () _ _ (by omega) trivial (y208 (H := H) (vs := [tSl A.length (hopR A), tSl A.length (hopR A), .int .i64 A.length, .int .i64 0]) (by simp [q29]))
  subst hr
  rw [y22, twainref36_Same.eq]
  simp only [twainref36_Same.sh, ln_rop, mach, Nat.reduceAdd, Nat.reduceLeDiff, Int.reduceEq, Int.reduceLT, Int.reduceLE, hlp, twainref36_Same.j2]
  exact q153 rfl rfl

theorem ints_same (L : List Int) (hm : L.length < 60000) (H : List Blk) : acall PP TT y134 [tSl L.length (intsH L), tSl L.length (intsH L)] H = some (.bool true, H, none) := by
  have hlast : ¬ ((L.length : Int) < (L.length : Int)) := Int.lt_irrefl _
  obtain ⟨r, hlp, hr⟩ := q173 (n0 := H.length) (step := twainref01_Ints.loop4s (acall PP TT) loopG H.length) (len := L.length) (σ := Unit)
    (fun n _ => ([tSl L.length (intsH L), tSl L.length (intsH L), .int .i64 L.length, .int .i64 n], ⟨H, none⟩))
    (fun _ _ => True) (fun r => r = (.exit 0, [unk], ⟨H, none⟩))
    (fun n _ hn _ => by
      obtain ⟨x, hx⟩ : ∃ x, L[n]? = some x := ⟨_, List.getElem?_eq_getElem hn⟩
      have hn' : ((n : Int) < (L.length : Int)) := by omega
      have hix : q15 PP y28 (tSl L.length (intsH L)) (.int .i64 (n : Int)) = some (tPtr n (intsH L).toArray) := by
        have := y177 (row := intsH L) (j := .i64) y338 sz_int hn
        simpa using this
      have hld : ∀ st, aLoad false 1 st (tPtr n (intsH L).toArray) = some (.int .i64 x) := fun st => by
        show tLoad false 1 n (intsH L).toArray = _
        simp [tLoad, hx]
      have hw := q69 (n := n) (by omega)
      refine .inr ⟨[tSl L.length (intsH L), tSl L.length (intsH L), .int .i64 L.length, .int .i64 ((n + 1 : Nat) : Int)], ⟨H, none⟩, (), ?_, y208 (by simp [q118]), trivial⟩
      simp only [twainref01_Ints.loop4s, twainref01_Ints.loop4, mach, Nat.reduceAdd, Nat.reduceLeDiff, Int.reduceEq, Int.reduceLT, Int.reduceLE, hn', hix, hld, hw])
    (fun _ _ => ⟨_, by simp only [twainref01_Ints.loop4s, twainref01_Ints.loop4, mach, Nat.reduceAdd, Nat.reduceLeDiff, Int.reduceEq, Int.reduceLT, Int.reduceLE, hlast], rfl⟩)
    L.length 0 () _ _ (by omega) trivial (y208 (H := H) (vs := [tSl L.length (intsH L), tSl L.length (intsH L), .int .i64 L.length, .int .i64 0]) (by simp [q118]))
  subst hr
  have hln : ∀ st, aLen PP y28 (tSl L.length (intsH L)) st = some (.int .i64 L.length) := fun st => y237 y338
  rw [y22, twainref01_Ints.eq]
  simp only [twainref01_Ints.sh, hln, mach, Nat.reduceAdd, Nat.reduceLeDiff, Int.reduceEq, Int.reduceLT, Int.reduceLE, hlp, twainref01_Ints.j2]
  exact q153 rfl rfl

end
end Go.Proofs.Ytfinilnkempofaa

end
section
namespace Go.Proofs.Ytfinilnkempofaa
open Go Go.Am

def askP (w t : Int) (x : Ev) : Bool := decide (x.kind = 0) && decide (x.who = w) && decide (x.ticket = t)
def askO (l : List Ev) (n : Nat) (w t : Int) : Option Nat := (l.take n).findIdx? (askP w t)

theorem q348 {l : List Ev} {n : Nat} {x : Ev} (hx : l[n]? = some x) (w t : Int) : askO l (n + 1) w t = match askO l n w t with | some i => some i | none => if askP w t x = true then some n else none := by
  unfold askO
  rw [y198 hx, List.findIdx?_append]
  have hlen : (l.take n).length = n := by have := q12 hx; simp; omega
  cases (l.take n).findIdx? (askP w t) with
  | some i => rfl
  | none =>
    cases hp : askP w t x with
    | true => simp [List.findIdx?_cons, hp, hlen]
    | false => simp [List.findIdx?_cons, hp]

theorem askedI_eq {l : List Ev} {n : Nat} {y : Ev} (hy : l[n]? = some y) : y138 l n = match askO l n y.who y.ticket with | some i => (i : Int) | none => -1 := by
  unfold y138
  rw [hy]
  rfl

theorem askO_lt {l : List Ev} {n : Nat} {w t : Int} {i : Nat} (h : askO l n w t = some i) : i < n := by
  unfold askO at h
  have := (List.findIdx?_eq_some_iff_findIdx_eq.1 h).1
  simp at this
  omega

theorem lookA_snoc (A : List ((Int × Int) × Nat)) (w t : Int) (n : Nat) (w' t' : Int) : lookA (A ++ [((w, t), n)]) w' t' = match lookA A w' t' with | some i => some i | none => if (w, t) = (w', t') then some n else none := by
  unfold lookA
  rw [List.find?_append]
  cases hf : A.find? fun p => decide (p.1 = (w', t')) with
  | some p => simp
  | none =>
    by_cases h : (w, t) = (w', t') <;> simp [h]

theorem lookE_snoc (E : List (Nat × Nat)) (m n i : Nat) : lookE (E ++ [(m, n)]) i = match lookE E i with | some k => some k | none => if m = i then some n else none := by
  unfold lookE
  rw [List.find?_append]
  cases hf : E.find? fun p => decide (p.1 = i) with
  | some p => simp
  | none =>
    by_cases h : m = i <;> simp [h]

/-- what the pairs know, so far -/
structure Knows (l : List Ev) (n : Nat) (s : PS) : Prop where
  a : ∀ w t, lookA s.A w t = askO l n w t
  e : ∀ i, (∀ k, lookE s.E i = some k → k < n ∧ endsB l i k = true ∧ ∀ j, j < k → endsB l i j = false) ∧ (lookE s.E i = none → ∀ j, j < n → endsB l i j = false)
  o : s.odd = anyN (oddB l) n

theorem y227 {l : List Ev} {i k : Nat} (hk : k < l.length) (h1 : endsB l i k = true) (h2 : ∀ j, j < k → endsB l i j = false) : y72 l i = (k : Int) := by
  have hik : i < k := by
    unfold endsB at h1
    split at h1
    · rename_i x hx
      simp only [Bool.and_eq_true, decide_eq_true_eq] at h1
      have h3 := h1.2
      rw [askedI_eq hx] at h3
      split at h3
      · rename_i j hj
        have := askO_lt hj
        omega
      · omega
    · simp at h1
  exact q305 _ _ _ (fun j _ hj => h2 j hj) h1 (by omega) (by omega)

theorem endedI_none {l : List Ev} {i : Nat} (h : ∀ j, j < l.length → endsB l i j = false) : y72 l i = -1 :=
  q265 _ _ (fun j h1 h2 => by
    by_cases hj : j < l.length
    · exact h j hj
    · unfold endsB
      rw [List.getElem?_eq_none (by omega)])

theorem knows {l : List Ev} : ∀ n, n ≤ l.length → Knows l n (pairS l n)
  | 0, _ => ⟨fun w t => rfl, fun i => ⟨fun k h => by simp [pairS, lookE] at h, fun _ j hj => by omega⟩, rfl⟩
  | n + 1, hn => by
    have ih := knows (l := l) n (by omega)
    obtain ⟨x, hx⟩ : ∃ x, l[n]? = some x := ⟨_, List.getElem?_eq_getElem (by omega)⟩
    have hs : pairS l (n + 1) = pstep (pairS l n) n x := by simp [pairS, hx]
    rw [hs]
    generalize pairS l n = s at ih
    have hak : y138 l n = match lookA s.A x.who x.ticket with | some i => (i : Int) | none => -1 := by rw [askedI_eq hx, ih.a]
    have hob : oddB l n = (if x.kind = 0 then decide (0 ≤ y138 l n) else if x.kind = 1 then decide (y138 l n < 0) || !decide (y72 l (y138 l n).toNat = (n : Int)) else false) := by simp [oddB, hx]
    have hany : anyN (oddB l) (n + 1) = (anyN (oddB l) n || oddB l n) := rfl
    -- what ends with this event
    have hen : ∀ i, endsB l i n = (decide (x.kind = 1) && decide (y138 l n = (i : Int))) := fun i => by simp [endsB, hx]
    have keepE : (∀ i, endsB l i n = false) → ∀ i, (∀ k, lookE s.E i = some k → k < n + 1 ∧ endsB l i k = true ∧ ∀ j, j < k → endsB l i j = false) ∧ (lookE s.E i = none → ∀ j, j < n + 1 → endsB l i j = false) := fun hno i => by
      refine ⟨fun k hk => ?_, fun h j hj => ?_⟩
      · have := (ih.e i).1 k hk
        exact ⟨by omega, this.2⟩
      · by_cases hjn : j = n
        · subst hjn; exact hno i
        · exact (ih.e i).2 h j (by omega)
    have keepA : x.kind ≠ 0 → ∀ w t, lookA s.A w t = askO l (n + 1) w t := fun hk w t => by
      rw [ih.a, q348 hx]
      have : askP w t x = false := by simp [askP, hk]
      rw [this]
      cases askO l n w t <;> rfl
    by_cases k0 : x.kind = 0
    · have hno : ∀ i, endsB l i n = false := fun i => by rw [hen]; simp [k0]
      cases hf : lookA s.A x.who x.ticket with
      | some m =>
        have hp : pstep s n x = ⟨s.A, s.E, true⟩ := by simp [pstep, k0, hf]
        rw [hp]
        rw [hf] at hak
        refine ⟨fun w t => ?_, keepE hno, ?_⟩
        · simp only
          rw [ih.a, q348 hx]
          cases hq : askO l n w t with
          | some i => rfl
          | none =>
            have : askP w t x = false := by
              cases hh : askP w t x with
              | false => rfl
              | true =>
                simp only [askP, Bool.and_eq_true, decide_eq_true_eq] at hh
                obtain ⟨⟨_, h1⟩, h2⟩ := hh
                subst h1 h2
                rw [← ih.a, hf] at hq; simp at hq
            rw [this]; rfl
        · simp only
          rw [hany, hob, hak]
          simp [k0]
      | none =>
        have hp : pstep s n x = ⟨s.A ++ [((x.who, x.ticket), n)], s.E, s.odd⟩ := by simp [pstep, k0, hf]
        rw [hp]
        rw [hf] at hak
        refine ⟨fun w t => ?_, keepE hno, ?_⟩
        · simp only
          rw [lookA_snoc, ih.a, q348 hx]
          cases hq : askO l n w t with
          | some i => rfl
          | none =>
            by_cases hwt : (x.who, x.ticket) = (w, t)
            · simp only [Prod.mk.injEq] at hwt
              simp [hwt.1, hwt.2, askP, k0]
            · have : askP w t x = false := by
                simp only [Prod.mk.injEq] at hwt
                cases hh : askP w t x with
                | false => rfl
                | true =>
                  simp only [askP, Bool.and_eq_true, decide_eq_true_eq] at hh
                  exact absurd ⟨hh.1.2, hh.2⟩ hwt
              rw [this]
              simp only [hwt, if_false, Bool.false_eq_true]
        · simp only
          rw [hany, hob, hak, ih.o]
          simp [k0]
    · by_cases k1 : x.kind = 1
      · cases hf : lookA s.A x.who x.ticket with
        | none =>
          have hp : pstep s n x = ⟨s.A, s.E, true⟩ := by simp [pstep, k0, k1, hf]
          rw [hp]
          rw [hf] at hak
          refine ⟨keepA k0, keepE (fun i => by
            have : ¬ ((-1 : Int) = (i : Int)) := by omega
            rw [hen, hak]; simp [this]), ?_⟩
          simp only
          rw [hany, hob, hak]
          simp [k1]
        | some m =>
          rw [hf] at hak
          have hmn : m < n := by
            have := ih.a x.who x.ticket
            rw [hf] at this
            exact askO_lt this.symm
          have hen' : ∀ i, endsB l i n = decide (m = i) := fun i => by
            rw [hen, hak]; simp [k1]; omega
          have htn : (y138 l n).toNat = m := by rw [hak]; simp
          have hneg : ¬ y138 l n < 0 := by rw [hak]; simp only; omega
          cases hg : lookE s.E m with
          | some q =>
            have hp : pstep s n x = ⟨s.A, s.E, true⟩ := by simp [pstep, k0, k1, hf, hg]
            rw [hp]
            obtain ⟨hq1, hq2, hq3⟩ := (ih.e m).1 q hg
            refine ⟨keepA k0, fun i => ⟨fun k hk => ?_, fun h j hj => ?_⟩, ?_⟩
            · have := (ih.e i).1 k hk
              exact ⟨by omega, this.2⟩
            · simp only at h
              by_cases hjn : j = n
              · subst hjn
                rw [hen']
                by_cases hmi : m = i
                · subst hmi; rw [hg] at h; simp at h
                · simp [hmi]
              · exact (ih.e i).2 h j (by omega)
            · simp only
              rw [hany, hob, htn, y227 (by omega) hq2 hq3]
              have h9 : ¬ ((q : Int) = (n : Int)) := by omega
              simp [k1, h9]
          | none =>
            have hp : pstep s n x = ⟨s.A, s.E ++ [(m, n)], s.odd⟩ := by simp [pstep, k0, k1, hf, hg]
            rw [hp]
            have hfirst := (ih.e m).2 hg
            refine ⟨keepA k0, fun i => ⟨fun k hk => ?_, fun h j hj => ?_⟩, ?_⟩
            · simp only at hk
              rw [lookE_snoc] at hk
              cases hq : lookE s.E i with
              | some k' =>
                rw [hq] at hk
                simp at hk; subst hk
                have := (ih.e i).1 k' hq
                exact ⟨by omega, this.2⟩
              | none =>
                rw [hq] at hk
                by_cases hmi : m = i
                · subst hmi
                  simp at hk; subst hk
                  exact ⟨by omega, by rw [hen']; simp, hfirst⟩
                · simp [hmi] at hk
            · simp only at h
              rw [lookE_snoc] at h
              cases hq : lookE s.E i with
              | some k' => rw [hq] at h; simp at h
              | none =>
                rw [hq] at h
                by_cases hmi : m = i
                · simp [hmi] at h
                · by_cases hjn : j = n
                  · subst hjn; rw [hen']; simp [hmi]
                  · exact (ih.e i).2 hq j (by omega)
            · simp only
              rw [hany, hob, htn, y227 (by omega) (by rw [hen']; simp) hfirst, ih.o]
              simp [k1, hneg]
      · have hp : pstep s n x = s := by simp [pstep, k0, k1]
        rw [hp]
        refine ⟨keepA k0, keepE (fun i => by rw [hen]; simp [k1]), ?_⟩
        rw [hany, hob, ih.o]
        simp [k0, k1]

theorem toI_ended (l : List Ev) (i : Nat) : toI (pairS l l.length) i = y72 l i := by
  have h := (knows (l := l) l.length (Nat.le_refl _)).e i
  unfold toI
  cases hk : lookE (pairS l l.length).E i with
  | some k =>
    obtain ⟨h1, h2, h3⟩ := h.1 k hk
    rw [y227 h1 h2 h3]
  | none => rw [endedI_none (h.2 hk)]

theorem odd_eq (l : List Ev) : (pairS l l.length).odd = anyN (oddB l) l.length := (knows (l := l) l.length (Nat.le_refl _)).o

theorem open_eq {l : List Ev} (hm : l.length < 1000000) : q235 l = q205 l := by
  funext n
  unfold q235 q205
  cases hx : l[n]? with
  | none => rfl
  | some x =>
    simp only
    rw [toI_ended]
    have := y212 (l := l) hm n
    congr 1
    rw [decide_eq_decide]
    omega

theorem ops_eq (l : List Ev) (at_ : Int) (n : Nat) : opsL (toI (pairS l l.length)) l at_ n = opsL (y72 l) l at_ n := by
  have : toI (pairS l l.length) = y72 l := funext (toI_ended l)
  rw [this]

end Go.Proofs.Ytfinilnkempofaa

end
section
namespace Go.Proofs.Ytfinilnkempofaa
open Go Go.Am

theorem eql_true (ox oy : Operand) : aBin PP .eql y180 ox oy (.bool true) (.bool true) = some (.bool true) := by kernel_rfl
theorem eql_false (ox oy : Operand) : aBin PP .eql y180 ox oy (.bool false) (.bool false) = some (.bool true) := by kernel_rfl
theorem eql_bool (b : Bool) (ox oy : Operand) : aBin PP .eql y180 ox oy (.bool b) (.bool b) = some (.bool true) := by
  cases b
  · exact eql_false ox oy
  · exact eql_true ox oy

/-- an event of the right kinds -/
structure EvT (x : Ev) : Prop where
  kind : isI x.kind
  who : isI x.who
  ticket : isI x.ticket
  rk : isI x.rk
  off : isI x.off
  len : isI x.len
  rd : ∀ b ∈ x.rd, 0 ≤ b ∧ b < 256
  d : ∀ b ∈ x.d, 0 ≤ b ∧ b < 256
def EvTs (l : List Ev) : Prop := ∀ x ∈ l, EvT x

theorem few_ok2 {l : List Ev} (hl : EvTs l) (hf : fewB l = true) : OkEvs l := fun x hx => by
  have h := hl x hx
  simp only [fewB, Bool.and_eq_true, decide_eq_true_eq, List.all_eq_true] at hf
  have h2 := hf.2 x hx
  exact ⟨h.kind, h.who, h.ticket, h.rk, h.off, h.len, ⟨by omega, h.rd⟩, ⟨by omega, h.d⟩⟩

theorem q172 {r : List Value} (h : TOk PP t_int r) : ∃ n, isI n ∧ r = [.int .i64 n] := by
  obtain ⟨n, rfl, hn⟩ := h.int_inv u_int
  rw [i64_min, i64_max] at hn
  exact ⟨n, by unfold isI; omega, rfl⟩

theorem bytes_of {r : List Value} (h : TOk PP y48 r) : ∃ b : List Int, (∀ x ∈ b, 0 ≤ x ∧ x < 256) ∧ r = [tSl b.length (byt b)] := by
  obtain ⟨rows, rfl, _, hr⟩ := h.slice_inv y218
  have key : ∀ rows : List (List Value), (∀ r ∈ rows, TOk PP q175 r) → ∃ b : List Int, (∀ x ∈ b, 0 ≤ x ∧ x < 256) ∧ rows.length = b.length ∧ rows.flatten = byt b := by
    intro rows
    induction rows with
    | nil => intro _; exact ⟨[], fun x hx => by simp at hx, rfl, rfl⟩
    | cons r rs ih =>
      intro hr
      obtain ⟨b, h1, h2, h3⟩ := ih (fun x hx => hr x (by simp [hx]))
      obtain ⟨n, rfl, hn⟩ := (hr r (by simp)).int_inv u_uint8
      rw [u8_min, u8_max] at hn
      refine ⟨n :: b, fun x hx => ?_, by simp [h2], by simp [h3, byt]⟩
      rcases List.mem_cons.1 hx with rfl | hx
      · omega
      · exact h1 x hx
  obtain ⟨b, h1, h2, h3⟩ := key rows hr
  exact ⟨b, h1, by rw [h2, h3]⟩

theorem ev_of {r : List Value} (h : TOk PP y5 r) : ∃ x, EvT x ∧ r = evc x := by
  obtain ⟨ps, rfl, hp⟩ := h.struct_inv q253
  rw [q248] at hp
  match ps, hp with
  | [a, b, c, d, e], ⟨ha, hb, hc, hd, he, _⟩ =>
    obtain ⟨kind, k1, rfl⟩ := q172 ha
    obtain ⟨who, k2, rfl⟩ := q172 hb
    obtain ⟨ticket, k3, rfl⟩ := q172 hc
    obtain ⟨qs, rfl, hq⟩ := hd.struct_inv y343
    rw [y349] at hq
    obtain ⟨dd, k8, rfl⟩ := bytes_of he
    match qs, hq with
    | [f, g, i], ⟨hf, hg, hi, _⟩ =>
      obtain ⟨rk, k4, rfl⟩ := q172 hf
      obtain ⟨rd, k7, rfl⟩ := bytes_of hi
      obtain ⟨ss, rfl, hs⟩ := hg.struct_inv us_api_Span
      rw [ty_api_Span] at hs
      match ss, hs with
      | [u, v], ⟨hu, hv, _⟩ =>
        obtain ⟨off, k5, rfl⟩ := q172 hu
        obtain ⟨len, k6, rfl⟩ := q172 hv
        exact ⟨⟨kind, who, ticket, rk, off, len, rd, dd⟩, ⟨k1, k2, k3, k4, k5, k6, k7, k8⟩, rfl⟩

theorem evs_of : ∀ (rows : List (List Value)), (∀ r ∈ rows, TOk PP y5 r) → ∃ l, EvTs l ∧ rows = evs l
  | [], _ => ⟨[], fun x hx => by simp at hx, rfl⟩
  | r :: rs, h => by
    obtain ⟨l, h1, h2⟩ := evs_of rs (fun x hx => h x (by simp [hx]))
    obtain ⟨x, h3, rfl⟩ := ev_of (h r (by simp))
    refine ⟨x :: l, fun y hy => ?_, by rw [h2]; rfl⟩
    rcases List.mem_cons.1 hy with rfl | hy
    · exact h3
    · exact h1 y hy

theorem maxLen_lt : maxLen < 9223372036854775808 := by decide

theorem evs_arg {w : List Value} (h : TOk PP q13 w) : ∃ l, EvTs l ∧ l.length < 9223372036854775808 ∧ argV PP q13 w = tSl l.length (evR l) := by
  obtain ⟨rows, rfl, hm, hr⟩ := h.slice_inv y96
  obtain ⟨l, h1, rfl⟩ := evs_of rows hr
  refine ⟨l, h1, ?_, ?_⟩
  · rw [evs_len] at hm
    exact Nat.lt_of_le_of_lt hm maxLen_lt
  · unfold argV
    rw [y96, evs_len]
    rfl

section
variable {l : List Ev}

theorem few_len (h : fewB l = true) : l.length ≤ 100 := by
  simp only [fewB, Bool.and_eq_true, decide_eq_true_eq] at h
  exact h.1

end
end Go.Proofs.Ytfinilnkempofaa

end
