/- A part of the proof: Gh0, Gh1, Gh1r, Gt1, Gt2, Gt3. Its conditions: none. -/
import Derived.Test.YtfinilnkempofaaRegBegin
import Derived.Test.YtfinilnkempofaaHistConv
import Derived.Test.YtfinilnkempofaaAm23
set_option linter.all false
set_option linter.unusedVariables false
set_option linter.unusedSimpArgs false
set_option linter.unnecessarySimpa false
section
namespace Go.Proofs.Ytfinilnkempofaa
open Go Go.Am Go.Reg
namespace GH

def rw1 (x : Hop) : Rw (List Value) := ⟨x.w, byt x.v, x.f, x.t⟩
theorem opc_rw (x : Hop) : opc (rw1 x) = opk x := rfl
theorem opsC_rw (A : List Hop) : opsC (A.map rw1) = hopR A := by
  simp only [opsC, hopR, List.map_map]
  rfl
theorem ok_rw {x : Hop} (h : OkHop x) : OkRw (rw1 x) := by
  have hf := h.f
  have ht := h.t
  unfold isI at hf ht
  refine ⟨y255 h.v.1 h.v.2, ?_, ?_⟩ <;> rw [i64_min, i64_max] <;> simp only [rw1] <;> omega
theorem ok_rws {A : List Hop} (h : OkHops A) : OkOps (A.map rw1) := fun y hy => by
  obtain ⟨x, hx, rfl⟩ := List.mem_map.1 hy
  exact ok_rw (h x hx)

end GH
end Go.Proofs.Ytfinilnkempofaa

end
section
namespace Go.Proofs.Ytfinilnkempofaa
open Go Go.Am Go.Reg
namespace GH

theorem esc0 (e : Option Nat) : escOk ([] : List Blk).length e = true := by cases e <;> simp [escOk]
theorem gc0 {vs : List Value} {H : List Blk} {e : Option Nat} (h : lrefs vs = []) : gc 0 vs ⟨H, e⟩ = (vs, ⟨[], none⟩) := q261 (H0 := []) (l := H) h (esc0 e)

def fromA (A : List Hop) (i : Nat) : Int := match A[i]? with | some x => x.f | none => 0
def froms (A : List Hop) (r : List Nat) : List Int := r.map (fromA A)

section
variable {A : List Hop} {H : List Blk}

theorem ix_int {fs : List Int} {k : Nat} (hk : k < fs.length) : q15 PP y28 (tSl fs.length (intsH fs)) (.int .i64 (k : Int)) = some (tPtr k (intsH fs).toArray) := by
  have := y177 (P := PP) (t := y28) (row := intsH fs) (j := .i64) y338 sz_int hk
  simpa using this
theorem ints_rows (fs : List Int) : RowsOf 1 (fs.map fun n => [Value.int .i64 n]) := by
  refine ⟨fun r hr => ?_, fun r hr => ?_, fun r hr => ?_, fun r hr => ?_⟩ <;> obtain ⟨x, _, rfl⟩ := List.mem_map.1 hr <;> rfl
theorem q340 (fs : List Int) : (fs.map fun n => [Value.int .i64 n]).flatten = intsH fs := by
  induction fs with
  | nil => rfl
  | cons x xs ih => simpa using ih
theorem ld_int {fs : List Int} {k : Nat} {n : Int} (hk : fs[k]? = some n) (st : AS) : aLoad false 1 st (tPtr k (intsH fs).toArray) = some (.int .i64 n) := by
  have := y259 (n := 1) (st := st) (k := k) (off := 0) (r := [.int .i64 n]) (v := .int .i64 n) (ints_rows fs) (by simp [hk]) rfl
  rw [q340] at this
  simpa using this
theorem ln_int (fs : List Int) (st : AS) : aLen PP y28 (tSl fs.length (intsH fs)) st = some (.int .i64 fs.length) := y237 y338
theorem pop_f (hA : OkHops A) {k : Nat} {x : Hop} (hx : A[k]? = some x) (st : AS) : aLoad false 1 st (tPtr (k * 19 + 17) (hopR A).toArray) = some (.int .i64 x.f) := by
  refine y259 (r := opk x) (y350 hA) (by simp [hx]) ?_
  have h := (hA x (List.mem_of_getElem? hx)).v.1
  simp only [opk, List.getElem?_cons_succ]
  rw [List.getElem?_append_right (by simp [byt, h])]
  simp [byt, h]

/-- the loop of the order's times -/
theorem times_loop (hA : OkHops A) (hm : A.length < 60000) {r : List Nat} (hr : ∀ i ∈ r, i < A.length) (hrl : r.length < 60000) {vs : List Value} {st : AS}
    (hg : gc H.length vs st = ([tSl A.length (hopR A), .slice none 0 0, tSl r.length (rowC r), .int .i64 r.length, .int .i64 0], ⟨H, none⟩)) :
    loopG H.length (ghost_Order.loop7s (acall PP TT) loopG H.length) (vs, st) = some (.exit 0, [rowO H.length (froms A r)], ⟨H ++ blkO (froms A r), none⟩) := by
  have hlast : ¬ ((r.length : Int) < (r.length : Int)) := Int.lt_irrefl _
  have hrc : rowC r = intsH (r.map fun (n : Nat) => (n : Int)) := rfl
  have hrn : (r.map fun (n : Nat) => (n : Int)).length = r.length := by simp
  obtain ⟨q, hlp, rfl⟩ := q173 (n0 := H.length) (step := ghost_Order.loop7s (acall PP TT) loopG H.length) (len := r.length) (σ := Unit)
    (fun n _ => ([tSl A.length (hopR A), rowO H.length (froms A (r.take n)), tSl r.length (rowC r), .int .i64 r.length, .int .i64 n], ⟨H ++ blkO (froms A (r.take n)), none⟩))
    (fun _ _ => True) (fun q => q = (.exit 0, [rowO H.length (froms A r)], ⟨H ++ blkO (froms A r), none⟩))
    (fun n _ hn _ => by
      have hn' : ((n : Int) < (r.length : Int)) := by omega
      obtain ⟨i, hi⟩ : ∃ i, r[n]? = some i := ⟨_, List.getElem?_eq_getElem hn⟩
      have him := hr i (List.mem_of_getElem? hi)
      obtain ⟨x, hx⟩ : ∃ x, A[i]? = some x := ⟨_, List.getElem?_eq_getElem him⟩
      have hix : q15 PP y28 (tSl r.length (rowC r)) (.int .i64 (n : Int)) = some (tPtr n (rowC r).toArray) := by
        have := ix_int (fs := r.map fun (n : Nat) => (n : Int)) (k := n) (by simpa using hn)
        rw [hrn] at this
        exact this
      have hld : ∀ st, aLoad false 1 st (tPtr n (rowC r).toArray) = some (.int .i64 (i : Int)) := fun st => ld_int (fs := r.map fun (n : Nat) => (n : Int)) (by simp [hi]) st
      have hix2 := ix_pop (A := A) him
      have hlf := fun st => pop_f hA hx st
      have hw := q69 (n := n) (by omega)
      have htk : froms A (r.take (n + 1)) = froms A (r.take n) ++ [x.f] := by
        rw [y198 hi]
        simp [froms, fromA, hx]
      have hlen : (froms A (r.take n)).length ≤ 65535 := by simp [froms]; omega
      refine .inr ?_
      rw [htk]
      generalize froms A (r.take n) = B at hlen
      cases B with
      | nil =>
        refine ⟨[tSl A.length (hopR A), .slice (some ⟨H.length + 1, 0, none⟩) 1 UNK, tSl r.length (rowC r), .int .i64 r.length, .int .i64 ((n + 1 : Nat) : Int)], ⟨H ++ [.cells [.int .i64 x.f] t_int true, .cells [.int .i64 x.f] t_int true], none⟩, (), ?_, ?_, trivial⟩
        · have hp0 := fun (e : Option Nat) (v : Int) (R : Type) (F : Value → AS → Option R) => y228 (H := H) (L := []) (e := e) (v := v) (F := F)
          simp only [List.append_nil, List.nil_append, List.length_nil, Nat.zero_add] at hp0
          simp only [ghost_Order.loop7s, ghost_Order.loop7, rowO, blkO, mach, Nat.reduceAdd, Nat.reduceLeDiff, Int.reduceEq, Int.reduceLT, Int.reduceLE, hn', hix, hld, hix2, q224, hlf, hp0, hw, List.append_nil]
        · exact y115 [[], []] [1] [1] rfl rfl (by simp [q29, q192]) (by simp [y14]) (by simp [rowO, lren, vren, q117, y70, q41, q29, q192]) (by simp [blkO, y24, q55])
      | cons a tl =>
        have hpi := fun (L : List Blk) (e : Option Nat) (v : Int) (R : Type) (F : Value → AS → Option R) (hk : L[0]? = some (.cells (intsH (a :: tl)) t_int true)) => push_int (H := H) (A := a :: tl) (by omega) (e := e) (v := v) (F := F) hk
        simp only [List.length_cons, List.map_cons] at hpi
        refine ⟨[tSl A.length (hopR A), .slice (some ⟨H.length + 2, 0, none⟩) (tl.length + 1 + 1) UNK, tSl r.length (rowC r), .int .i64 r.length, .int .i64 ((n + 1 : Nat) : Int)], ⟨H ++ [.dead, .cells [.int .i64 x.f] t_int true, .cells (intsH (a :: tl ++ [x.f])) t_int true], none⟩, (), ?_, ?_, trivial⟩
        · simp only [ghost_Order.loop7s, ghost_Order.loop7, rowO, blkO, mach, Nat.reduceAdd, Nat.reduceLeDiff, Int.reduceEq, Int.reduceLT, Int.reduceLE, hn', hix, hld, hix2, q224, hlf, hpi, hw, List.append_nil, List.set_cons_zero, List.map_append, List.map_cons, List.map_nil]
        · exact y115 [[], [], []] [2] [2] rfl rfl (by simp [q29, q192]) (by simp [y14, y106, q118]) (by simp [rowO, lren, vren, q117, y70, q41, q29, q192]) (by simp [blkO, y24, q55, q118]))
    (fun _ _ => ⟨_, by simp only [ghost_Order.loop7s, ghost_Order.loop7, mach, Nat.reduceAdd, Nat.reduceLeDiff, Int.reduceEq, Int.reduceLT, Int.reduceLE, hlast, List.take_length], rfl⟩)
    r.length 0 () vs st (by omega) trivial (by rw [hg]; simp [froms, rowO, blkO])
  exact hlp

theorem comp_in {l : List (Rw (List Value))} : ∀ {r : List Nat} {D : Nat → Bool} {u : List Value}, Comp l D u r → ∀ i ∈ r, i < l.length
  | [], _, _, _, i, hi => by simp at hi
  | n :: r, _, _, h, i, hi => by
    cases h with
    | step hx _ _ h =>
      rcases List.mem_cons.1 hi with rfl | hi
      · exact q12 hx
      · exact comp_in h i hi

theorem zTok : TOk PP y1 (byt z16) := y255 z16_n (fun b hb => by simp [z16] at hb; omega)

end

section
variable {l : List Ev}

theorem gorder_ok (hl : OkEvs l) (h6 : l.length < 60000) {at_ : Int} (hat : isI at_) {A : List Hop} (hAe : opsL (y72 l) l at_ l.length = A) (hA : OkHops A) (h60 : A.length ≤ 60) :
    ∃ (b : Bool) (out : Value), acall PP TT q177 [tSl l.length (evR l), .int .i64 at_] [] = some (.tuple #[out, .bool b], [], none) ∧
      (b = true → ∃ r, Comp (A.map rw1) (fun _ => false) (byt z16) r ∧ out = tSl r.length (intsH (froms A r))) ∧ (b = false → out = tSl 0 [] ∧ Dead (A.map rw1) (fun _ => false) (byt z16)) := by
  have hq := fun H => qops_ok hl h6 hat H
  rw [ops_eq, hAe] at hq
  obtain ⟨b, o, H2, e2, hord, _, ht⟩ := order_ok (ok_rws hA) (by simpa using h60) [] zTok
  rw [opsC_rw, List.length_map] at hord
  cases b with
  | false =>
    obtain ⟨rfl, hd⟩ := ht.no rfl
    refine ⟨false, tSl 0 [], ?_, fun h => by simp at h, fun _ => ⟨rfl, hd⟩⟩
    rw [y22, ghost_Order.eq]
    simp only [ghost_Order.sh, hq, q186, hord, mach, Nat.reduceAdd, Nat.reduceLeDiff, Int.reduceEq, Int.reduceLT, Int.reduceLE]
    have := y318 (P := PP) (H0 := []) (l := H2) (vs := [.slice none 0 0, .bool false]) (vs' := [tSl 0 [], .bool false]) (l' := H2) (e := y8 none e2) (by simp [frzL, frz]) (by simp) (esc0 _)
    exact this
  | true =>
    obtain ⟨r, rfl, hc⟩ := ht.yes rfl
    have hin := comp_in hc
    simp only [List.length_map] at hin
    have hrl := comp_len _ _ _ hc
    rw [List.length_map] at hrl
    have hlp := times_loop (H := []) hA (by omega) hin (by omega) (vs := [tSl A.length (hopR A), .slice none 0 0, tSl r.length (rowC r), .int .i64 r.length, .int .i64 0]) (st := ⟨H2, y8 none e2⟩) (gc0 (by simp [q29, q192]))
    have hln : ∀ st, aLen PP y28 (tSl r.length (rowC r)) st = some (.int .i64 r.length) := fun st => y237 y338
    refine ⟨true, _, ?_, fun _ => ⟨r, hc, rfl⟩, fun h => by simp at h⟩
    rw [y22, ghost_Order.eq]
    simp only [List.length_nil, List.nil_append] at hlp
    simp only [ghost_Order.sh, hq, q186, hord, mach, Nat.reduceAdd, Nat.reduceLeDiff, Int.reduceEq, Int.reduceLT, Int.reduceLE, hln, hlp, ghost_Order.j2]
    have hfl : (froms A r).length = r.length := by simp [froms]
    rw [← hfl]
    generalize froms A r = B
    cases B with
    | nil =>
      have := y318 (P := PP) (H0 := []) (l := []) (vs := [.slice none 0 0, .bool true]) (vs' := [tSl 0 [], .bool true]) (l' := []) (e := none) (by simp [frzL, frz]) (by simp) (esc0 _)
      exact this
    | cons a tl =>
      have hf := frz_own0 (P := PP) (H0 := []) (l := [.cells (intsH (a :: tl)) t_int true]) (q := 7) (n := tl.length + 1) (c := UNK) (sz := 1) (cs := intsH (a :: tl)) (t := t_int) rfl sz_int (by simp) (y341 _)
      have := y318 (P := PP) (H0 := []) (l := [.cells (intsH (a :: tl)) t_int true]) (vs := [.slice (some ⟨0, 0, none⟩) (tl.length + 1) UNK, .bool true]) (vs' := [tSl (tl.length + 1) (intsH (a :: tl)), .bool true]) (l' := [.dead]) (e := none) (by
        simp only [frzL]
        rw [show (⟨0, 0, none⟩ : Addr) = ⟨([] : List Blk).length, 0, none⟩ from rfl, hf]
        rfl) (by simp [q118]) (esc0 _)
      exact this
end
end GH
end Go.Proofs.Ytfinilnkempofaa

end
section
namespace Go.Proofs.Ytfinilnkempofaa
open Go Go.Am Go.Reg
namespace GH

theorem opD_f {E : Nat → Int} {l : List Ev} {at_ : Int} {n : Nat} {h : Hop} (hd : opD E l at_ n = some h) : h.f = n := by
  unfold opD at hd
  split at hd
  · simp at hd
  · split at hd
    · split at hd
      · simp at hd; subst hd; rfl
      · split at hd
        · simp at hd
        · split at hd
          · simp at hd; subst hd; rfl
          · simp at hd
    · simp at hd

/-- ops stand in the order of their times -/
def Rising (A : List Hop) (m : Int) : Prop := (∀ x ∈ A, 0 ≤ x.f ∧ x.f < m) ∧ ∀ (i j : Nat) (x y : Hop), A[i]? = some x → A[j]? = some y → x.f = y.f → i = j

theorem y322 (E : Nat → Int) (l : List Ev) (at_ : Int) : ∀ n, Rising (opsL E l at_ n) n
  | 0 => ⟨fun x hx => by simp [opsL] at hx, fun i j x y hx => by simp [opsL] at hx⟩
  | n + 1 => by
    obtain ⟨h1, h2⟩ := y322 E l at_ n
    simp only [opsL]
    cases hd : opD E l at_ n with
    | none => exact ⟨fun x hx => by have := h1 x hx; omega, h2⟩
    | some z =>
      have hz := opD_f hd
      simp only
      generalize opsL E l at_ n = A at h1 h2
      refine ⟨fun x hx => ?_, fun i j x y hx hy he => ?_⟩
      · rcases List.mem_append.1 hx with hx | hx
        · have := h1 x hx; omega
        · simp at hx; subst hx; omega
      · have key : ∀ (i : Nat) (x : Hop), (A ++ [z])[i]? = some x → (A[i]? = some x ∧ x.f < n) ∨ (i = A.length ∧ x.f = n) := fun i x hx => by
          by_cases hi : i < A.length
          · rw [List.getElem?_append_left hi] at hx
            exact .inl ⟨hx, (h1 x (List.mem_of_getElem? hx)).2⟩
          · rw [List.getElem?_append_right (by omega)] at hx
            by_cases h0 : i - A.length = 0
            · rw [h0] at hx; simp at hx; subst hx; exact .inr ⟨by omega, hz⟩
            · rw [List.getElem?_eq_none (by simp; omega)] at hx; simp at hx
        rcases key i x hx with ⟨hx, h3⟩ | ⟨hx, h3⟩ <;> rcases key j y hy with ⟨hy, h4⟩ | ⟨hy, h4⟩
        · exact h2 i j x y hx hy he
        · omega
        · omega
        · omega

end GH
end Go.Proofs.Ytfinilnkempofaa

end
section
namespace Go.Proofs.Ytfinilnkempofaa
open Go Go.Am Go.Reg
namespace GH

/-- a time behind all that happened -/
def endN (A : List Hop) : Nat → Int
  | 0 => 0
  | n + 1 => match A[n]? with
    | some x => mxI (mxI (endN A n) (x.f + 1)) (x.t + 1)
    | none => endN A n

structure SmallH (x : Hop) : Prop where
  f0 : 0 ≤ x.f
  f1 : x.f < 60000
  t0 : -1 ≤ x.t
  t1 : x.t < 60000
def y261 (A : List Hop) : Prop := ∀ x ∈ A, SmallH x

theorem endN_in {A : List Hop} (h : y261 A) : ∀ n, 0 ≤ endN A n ∧ endN A n ≤ 60000
  | 0 => by simp [endN]
  | n + 1 => by
    have ih := endN_in h n
    simp only [endN]
    cases hx : A[n]? with
    | none => exact ih
    | some x =>
      have hs := h x (List.mem_of_getElem? hx)
      have h1 := hs.f0
      have h2 := hs.f1
      have h3 := hs.t0
      have h4 := hs.t1
      simp only [mxI]
      split <;> split <;> omega

/-- a read behind all ops -/
def lastH (A : List Hop) (v : List Int) : Hop := ⟨false, v, endN A A.length, endN A A.length⟩

theorem lastH_ok {A : List Hop} (h : y261 A) {v : List Int} (hv : v.length = 16) (hb : ∀ b ∈ v, 0 ≤ b ∧ b < 256) : OkHop (lastH A v) := by
  have := endN_in h A.length
  exact ⟨⟨hv, hb⟩, by unfold isI lastH; simp only; omega, by unfold isI lastH; simp only; omega⟩

theorem max3 {R : Type} {k : Value → AS → Option R} {j : IntKind} {x y z : Int} {ts : Array TypeId} {st : AS} : y16 PP .max ts [.int j x, .int j y, .int j z] st k = k (.int j (mxI (mxI x y) z)) st := by
  simp [y16, q241, mxI]

section
variable {A : List Hop} {H : List Blk}

theorem opk_17 {x : Hop} (h : x.v.length = 16) : (opk x)[17]? = some (.int .i64 x.f) := by
  simp only [opk, List.getElem?_cons_succ]
  rw [List.getElem?_append_right (by simp [byt, h])]
  simp [byt, h]

theorem end_ok (hA : OkHops A) (hs : y261 A) (hm : A.length < 60000) (H : List Blk) : acall PP TT q188 [tSl A.length (hopR A)] H = some (.int .i64 (endN A A.length), H, none) := by
  have hlast : ¬ ((A.length : Int) < (A.length : Int)) := Int.lt_irrefl _
  obtain ⟨q, hlp, rfl⟩ := q173 (n0 := H.length) (step := ghost_end.loop3s (acall PP TT) loopG H.length) (len := A.length) (σ := Unit)
    (fun n _ => ([.int .i64 (endN A n), tSl A.length (hopR A), .int .i64 A.length, .int .i64 n], ⟨H, none⟩))
    (fun _ _ => True) (fun q => q = (.exit 0, [.int .i64 (endN A A.length)], ⟨H, none⟩))
    (fun n _ hn _ => by
      have hn' : ((n : Int) < (A.length : Int)) := by omega
      obtain ⟨x, hx⟩ : ∃ x, A[n]? = some x := ⟨_, List.getElem?_eq_getElem hn⟩
      have hxo := hA x (List.mem_of_getElem? hx)
      have hxs := hs x (List.mem_of_getElem? hx)
      have hix := ix_pop (A := A) hn
      have hld := fun st => y265 hA hx st
      have hw := q69 (n := n) (by omega)
      have hxl := y126 hxo.v.1
      have h17 := opk_17 hxo.v.1
      have h18 := opk_t hxo.v.1
      have hf0 := hxs.f0
      have hf1 := hxs.f1
      have ht0 := hxs.t0
      have ht1 := hxs.t1
      have w1 : IntKind.i64.wrap (x.f + 1) = x.f + 1 := q122 ⟨by omega, by omega⟩
      have w2 : IntKind.i64.wrap (x.t + 1) = x.t + 1 := q122 ⟨by omega, by omega⟩
      have hnx : endN A (n + 1) = mxI (mxI (endN A n) (x.f + 1)) (x.t + 1) := by simp [endN, hx]
      refine .inr ⟨[.int .i64 (endN A (n + 1)), tSl A.length (hopR A), .int .i64 A.length, .int .i64 ((n + 1 : Nat) : Int)], ⟨H ++ [.cells (opk x) y4 true], none⟩, (), ?_, ?_, trivial⟩
      · rw [hnx]
        simp only [ghost_end.loop3s, ghost_end.loop3, mach, Nat.reduceAdd, Nat.reduceLeDiff, Int.reduceEq, Int.reduceLT, Int.reduceLE, hn', hix, hld, q45, q46, q44, hxl, y60, q39, q9, q315, q53, h17, h18, w1, w2, max3, hw]
      · exact q261 (by simp [q29]) rfl)
    (fun _ _ => ⟨_, by simp only [ghost_end.loop3s, ghost_end.loop3, mach, Nat.reduceAdd, Nat.reduceLeDiff, Int.reduceEq, Int.reduceLT, Int.reduceLE, hlast], rfl⟩)
    A.length 0 () [.int .i64 0, tSl A.length (hopR A), .int .i64 A.length, .int .i64 0] ⟨H, none⟩ (by omega) trivial (by
      have := y208 (H := H) (vs := [.int .i64 0, tSl A.length (hopR A), .int .i64 A.length, .int .i64 0]) (by simp [q29])
      simpa [endN] using this)
  rw [y22, ghost_end.eq]
  simp only [ghost_end.sh, ln_pop, mach, Nat.reduceAdd, Nat.reduceLeDiff, Int.reduceEq, Int.reduceLT, Int.reduceLE, hlp, ghost_end.j2]
  exact q153 rfl rfl

theorem bd_read (v : List Int) (hv : v.length = 16) (a b : Int) : q89 PP y4 [(1, .agg (byt v).toArray), (2, .int .i64 a), (3, .int .i64 b)] = some (.agg (opk ⟨false, v, a, b⟩).toArray) := by
  obtain ⟨a0, a1, a2, a3, a4, a5, a6, a7, a8, a9, a10, a11, a12, a13, a14, a15, rfl⟩ := v16 hv
  clear hv
  kernel_rfl
theorem bd_readr (v : List Int) (hv : v.length = 16) (a b : Int) : q89 PP y2 [(1, .agg (byt v).toArray), (2, .int .i64 a), (3, .int .i64 b)] = some (.agg (opk ⟨false, v, a, b⟩).toArray) := by
  obtain ⟨a0, a1, a2, a3, a4, a5, a6, a7, a8, a9, a10, a11, a12, a13, a14, a15, rfl⟩ := v16 hv
  clear hv
  kernel_rfl

theorem opk_lit (x : Hop) : (opk x).all lit = true := by
  simp only [opk, byt, List.all_cons, List.all_append, List.all_map, lit, List.all_nil, Bool.and_true, Bool.true_and, List.all_eq_true]
  intro b _; rfl
theorem hopR_lit (A : List Hop) : (hopR A).all lit = true := by
  induction A with
  | nil => rfl
  | cons x xs ih => simp only [hopR, List.map_cons, List.flatten_cons, List.all_append, opk_lit] at ih ⊢; simpa using ih
theorem q363 (A : List Hop) : (hopR A).all cellV = true := by
  have := hopR_lit A
  rw [List.all_eq_true] at this ⊢
  intro x hx
  have := this x hx
  cases x <;> simp_all [lit, cellV]

theorem fza_right : (TT y97).fza = true := by kernel_rfl

/-- Right of a row of one's own -/
theorem right_own (hA : OkHops A) (hm : A.length ≤ 60) {H : List Blk} {b c : Nat} (hb : H[b]? = some (.cells (hopR A) y4 true)) :
    ∃ (ok : Bool) (H' : List Blk) (e : Option Nat), acall PP TT y97 [.slice (some ⟨b, 0, none⟩) A.length c, .agg (byt z16).toArray] H = some (.tuple #[.bool ok, .int .i64 0], H', e) ∧ KeepL (H.set b .dead) H' ∧
      (ok = true → ∃ r, Comp (A.map rw1) (fun _ => false) (byt z16) r) ∧ (ok = false → Dead (A.map rw1) (fun _ => false) (byt z16)) := by
  have ha := ok_rws hA
  obtain ⟨ok, o, H', e, hr, hk, ht⟩ := right_ok ha (by simpa using hm) (H.set b .dead) zTok
  rw [opsC_rw, List.length_map] at hr
  refine ⟨ok, H', e, ?_, hk, fun h => ?_, fun h => (ht.no h).2⟩
  · rw [← hr]
    refine acall_fza fza_right ?_ ?_
    · have hf := frz_own (P := PP) (H0 := []) (l := H) (k := b) (cs := hopR A) (t := y4) (q := 7) (n := A.length) (c := c) (sz := 19) hb q178 (q166 hA) (y246 A)
      simp only [List.length_nil, Nat.zero_add, List.nil_append, Nat.reduceAdd] at hf
      have hz := frz_flatV (P := PP) 0 8 (.agg (byt z16).toArray) (H.set b .dead) (by simp [flatV, q194])
      unfold jFrz
      simp only [frzL, hf, hz]
    · have := jz (A.map rw1) (H.set b .dead) zTok
      rw [opsC_rw, List.length_map] at this
      exact this
  · obtain ⟨r, _, hc⟩ := ht.yes h
    exact ⟨r, hc⟩
end
end GH
end Go.Proofs.Ytfinilnkempofaa

end
section
namespace Go.Proofs.Ytfinilnkempofaa
open Go Go.Am Go.Reg
namespace GH

/-- can a read behind all ops tell a value? -/
def Holds (A : List Hop) (v : List Int) : Prop := ∃ r, Comp ((A ++ [lastH A v]).map rw1) (fun _ => false) (byt z16) r

section
variable {A : List Hop} {H : List Blk}

theorem lt_unk {n : Nat} (h : n < 60000) : n < UNK := Nat.lt_of_lt_of_le h (by decide)

theorem tells_ok (hA : OkHops A) (hs : y261 A) (hm : A.length ≤ 59) {v : List Int} (hv : v.length = 16) (hb : ∀ b ∈ v, 0 ≤ b ∧ b < 256) (H : List Blk) :
    ∃ (ok : Bool) (H' : List Blk) (e : Option Nat), acall PP TT y124 [tSl A.length (hopR A), .agg (byt v).toArray] H = some (.bool ok, H', e) ∧ KeepL H H' ∧ (ok = true ↔ Holds A v) := by
  have hlo := lastH_ok hs hv hb
  have hB : OkHops (A ++ [lastH A v]) := hA.snoc hlo
  have he := fun H => end_ok hA hs (by omega) H
  have hsl := fun st => slice_tight (P := PP) (t := y9) (n := A.length) (cs := hopR A) (st := st) (j := .i64) (j' := .i64) y158 q178 (q166 hA) (lt_unk (by omega))
  have hrd : q89 PP y4 [(1, .agg (byt v).toArray), (2, .int .i64 (endN A A.length)), (3, .int .i64 (endN A A.length))] = some (.agg (opk (lastH A v)).toArray) := bd_read v hv _ _
  have hvt := veq_tight A.length (hopR A) (hopR_lit A)
  have hxl : (opk (lastH A v)).length = 19 := y126 hv
  have hbs := fun H e => bsl_pop (x := lastH A v) hv H e
  have hvl : (byt v).length = 16 := by simp [byt, hv]
  generalize hxe : lastH A v = x at hlo hB hrd hxl hbs
  have hsrc : y53 19 (H ++ [Blk.cells (byt v) y1 true, .cells (opk x) y4 true, .cells (opk x) y4 true]) (.slice (some ⟨H.length + 2, 0, none⟩) 1 1) = some (1, opk x) := q328 (k := 2) rfl (by simp [hxl])
  have hlen : (A ++ [x]).length = A.length + 1 := by simp
  have hap : ∀ (R : Type) (F : Value → AS → Option R), y16 PP .append #[y9, y9] [Am.tight (tSl A.length (hopR A)), .slice (some ⟨H.length + 2, 0, none⟩) 1 1] ⟨H ++ [Blk.cells (byt v) y1 true, .cells (opk x) y4 true, .cells (opk x) y4 true], none⟩ F = F (.slice (some ⟨H.length + 3, 0, none⟩) (A.length + 1) UNK) ⟨H ++ [Blk.cells (byt v) y1 true, .cells (opk x) y4 true, .cells (opk x) y4 true, .cells (hopR (A ++ [x])) y4 true], none⟩ := fun R F => by
    rw [app_tight (P := PP) (st := ⟨H ++ _, none⟩) (k := F) y179 hsrc (by omega) (q166 hA) (q363 A) (by omega), y283]
    simp
  obtain ⟨ok, H', e, hr, hk, hy, hn⟩ := right_own hB (by simp; omega) (H := H ++ [Blk.cells (byt v) y1 true, .cells (opk x) y4 true, .cells (opk x) y4 true, .cells (hopR (A ++ [x])) y4 true]) (b := H.length + 3) (c := UNK) (by rw [y105]; rfl)
  rw [hlen] at hr
  have hkeep : ∀ (i : Nat) (cs : List Value) (t : TypeId) (o : Bool), H[i]? = some (.cells cs t o) → t ≠ t_int → H'[i]? = some (.cells cs t o) := fun i cs t o hi ht => by
    have hlt := q12 hi
    refine hk i cs t o ?_ ht
    rw [List.getElem?_set_ne (by omega), List.getElem?_append_left hlt]
    exact hi
  have hrf : lrefs (byt v) = [] := q36 v
  have hcl := y74 v
  have main : acall PP TT y124 [tSl A.length (hopR A), .agg (byt v).toArray] H = fin PP false H.length [.bool ok] ⟨H', y8 none e⟩ := by
    rw [y22, ghost_tells.eq]
    have hb0 : ∀ e : Option Nat, aBox y1 (.agg (byt v).toArray) ⟨H, e⟩ = some (.pointer (some ⟨H.length, 0, none⟩), ⟨H ++ [.cells (byt v) y1 true], e⟩) := fun e => y56 hcl
    have e0 : aBin PP .eql y162 (.tmp 31) (.const (.int .i64 0)) (.int .i64 0) (.int .i64 0) = some (.bool true) := by kernel_rfl
    simp only [ghost_tells.sh, hb0, mach, Nat.reduceAdd, Nat.reduceLeDiff, Int.reduceEq, Int.reduceLT, Int.reduceLE, he, hvl, hrf, List.take_of_length_le, hrd, q45, q46, q44, hxl, y60, q39, q9, ln_pop, hsl, q186, hbs, q132, hvt, q131, hap, hr]
    cases ok
    · simp only [mach, Nat.reduceAdd, Nat.reduceLeDiff, Int.reduceEq, Int.reduceLT, Int.reduceLE]
    · simp only [mach, Nat.reduceAdd, Nat.reduceLeDiff, Int.reduceEq, Int.reduceLT, Int.reduceLE, e0]
  obtain ⟨H4, e4, hfin, h4, _⟩ := fin_one (n0 := H.length) (st := ⟨H', y8 none e⟩) (v := .bool ok) rfl rfl
  refine ⟨ok, H4, e4, by rw [main]; exact hfin, fun i cs t o hi ht => ?_, ?_⟩
  · rw [h4 i (q12 hi)]
    exact hkeep i cs t o hi ht
  · constructor
    · intro h
      obtain ⟨r, hc⟩ := hy h
      exact ⟨r, by rw [hxe]; exact hc⟩
    · rintro ⟨r, hc⟩
      rw [hxe] at hc
      cases ok with
      | true => rfl
      | false => exact absurd hc (hn rfl r)
end
end GH
end Go.Proofs.Ytfinilnkempofaa

end
section
namespace Go.Proofs.Ytfinilnkempofaa
open Go Go.Am Go.Reg
namespace GH

section
variable {l : List Ev} {A : List Hop}

theorem holds_ok (hl : OkEvs l) (h6 : l.length < 60000) {at_ : Int} (hat : isI at_) (hAe : opsL (y72 l) l at_ l.length = A) (hA : OkHops A) (hs : y261 A) (hm : A.length ≤ 59) {v : List Int} (hv : v.length = 16) (hb : ∀ b ∈ v, 0 ≤ b ∧ b < 256) (H : List Blk) :
    ∃ (ok : Bool) (H' : List Blk) (e : Option Nat), acall PP TT q116 [tSl l.length (evR l), .int .i64 at_, .agg (byt v).toArray] H = some (.tuple #[.bool ok, .int .i64 0], H', e) ∧ KeepL H H' ∧ (ok = true ↔ Holds A v) := by
  have hq := fun H => qops_ok hl h6 hat H
  rw [ops_eq, hAe] at hq
  obtain ⟨ok, H2, e, hr, hk, hi⟩ := tells_ok hA hs hm hv hb (H ++ [.cells (byt v) y1 true])
  have hvl : (byt v).length = 16 := by simp [byt, hv]
  have hrf : lrefs (byt v) = [] := q36 v
  have hcl := y74 v
  have hb0 : ∀ e : Option Nat, aBox y1 (.agg (byt v).toArray) ⟨H, e⟩ = some (.pointer (some ⟨H.length, 0, none⟩), ⟨H ++ [.cells (byt v) y1 true], e⟩) := fun e => y56 hcl
  have hlt : ¬ (A.length : Int) > 59 := by omega
  obtain ⟨H4, e4, hfin, h4⟩ := q264 (n0 := H.length) (st := ⟨H2, y8 none e⟩) (v := .bool ok) (w := .int .i64 0) (y107 _ _ _ _ rfl) rfl rfl rfl
  refine ⟨ok, H4, e4, ?_, fun i cs t o hi ht => ?_, hi⟩
  · rw [y22, ghost_Holds.eq]
    simp only [ghost_Holds.sh, hb0, mach, Nat.reduceAdd, Nat.reduceLeDiff, Int.reduceEq, Int.reduceLT, Int.reduceLE, hq, ln_pop, hlt, hvl, List.take_of_length_le, hr]
    exact hfin
  · rw [h4 i (q12 hi)]
    exact hk i cs t o (by rw [List.getElem?_append_left (q12 hi)]; exact hi) ht

theorem bsl_rop0 (H : List Blk) (e : Option Nat) : bsl PP y7 0 [] [] ⟨H, e⟩ = some (.slice (some ⟨H.length, 0, none⟩) 0 0, ⟨H ++ [.cells [] y2 true], e⟩) := by kernel_rfl

theorem last_loop (hA : OkHops A) (hs : y261 A) (hm : A.length < 60000) {v : List Int} (H : List Blk) :
    loopG H.length (twainref49_last.loop3s (acall PP TT) loopG H.length) ([tSl A.length (hopR A), .pointer (some ⟨H.length, 0, none⟩), .int .i64 0, tSl A.length (hopR A), .int .i64 A.length, .int .i64 0], ⟨H ++ [.cells (byt v) y1 true], none⟩) =
      some (.exit 0, [tSl A.length (hopR A), .pointer (some ⟨H.length, 0, none⟩), .int .i64 (endN A A.length)], ⟨H ++ [.cells (byt v) y1 true], none⟩) := by
  have hlast : ¬ ((A.length : Int) < (A.length : Int)) := Int.lt_irrefl _
  have hrf : lrefs (byt v) = [] := q36 v
  obtain ⟨q, hlp, rfl⟩ := q173 (n0 := H.length) (step := twainref49_last.loop3s (acall PP TT) loopG H.length) (len := A.length) (σ := Unit)
    (fun n _ => ([tSl A.length (hopR A), .pointer (some ⟨H.length, 0, none⟩), .int .i64 (endN A n), tSl A.length (hopR A), .int .i64 A.length, .int .i64 n], ⟨H ++ [.cells (byt v) y1 true], none⟩))
    (fun _ _ => True) (fun q => q = (.exit 0, [tSl A.length (hopR A), .pointer (some ⟨H.length, 0, none⟩), .int .i64 (endN A A.length)], ⟨H ++ [.cells (byt v) y1 true], none⟩))
    (fun n _ hn _ => by
      have hn' : ((n : Int) < (A.length : Int)) := by omega
      obtain ⟨x, hx⟩ : ∃ x, A[n]? = some x := ⟨_, List.getElem?_eq_getElem hn⟩
      have hxo := hA x (List.mem_of_getElem? hx)
      have hxs := hs x (List.mem_of_getElem? hx)
      have hix := ix_rop (A := A) hn
      have hld := fun st => y265 hA hx st
      have hw := q69 (n := n) (by omega)
      have hxl := y126 hxo.v.1
      have h17 := opk_17 hxo.v.1
      have h18 := opk_t hxo.v.1
      have hf0 := hxs.f0
      have hf1 := hxs.f1
      have ht0 := hxs.t0
      have ht1 := hxs.t1
      have w1 : IntKind.i64.wrap (x.f + 1) = x.f + 1 := q122 ⟨by omega, by omega⟩
      have w2 : IntKind.i64.wrap (x.t + 1) = x.t + 1 := q122 ⟨by omega, by omega⟩
      have hnx : endN A (n + 1) = mxI (mxI (endN A n) (x.f + 1)) (x.t + 1) := by simp [endN, hx]
      refine .inr ⟨[tSl A.length (hopR A), .pointer (some ⟨H.length, 0, none⟩), .int .i64 (endN A (n + 1)), tSl A.length (hopR A), .int .i64 A.length, .int .i64 ((n + 1 : Nat) : Int)], ⟨H ++ [.cells (byt v) y1 true, .cells (opk x) y2 true], none⟩, (), ?_, ?_, trivial⟩
      · rw [hnx]
        generalize endN A n = en
        by_cases h1 : x.f ≥ en
        · have e1 : mxI en (x.f + 1) = x.f + 1 := by unfold mxI; rw [if_pos (by omega)]
          by_cases h2 : x.t ≥ x.f + 1
          · have e2 : mxI (x.f + 1) (x.t + 1) = x.t + 1 := by unfold mxI; rw [if_pos (by omega)]
            simp only [twainref49_last.loop3s, twainref49_last.loop3, twainref49_last.j1, twainref49_last.j2, mach, Nat.reduceAdd, Nat.reduceLeDiff, Int.reduceEq, Int.reduceLT, Int.reduceLE, hn', hix, hld, y73, y77, q74, hxl, y60, q39, q9, y129, y81, h17, h18, w1, w2, h1, h2, e1, e2, hw]
          · have e2 : mxI (x.f + 1) (x.t + 1) = x.f + 1 := by unfold mxI; rw [if_neg (by omega)]
            simp only [twainref49_last.loop3s, twainref49_last.loop3, twainref49_last.j1, twainref49_last.j2, mach, Nat.reduceAdd, Nat.reduceLeDiff, Int.reduceEq, Int.reduceLT, Int.reduceLE, hn', hix, hld, y73, y77, q74, hxl, y60, q39, q9, y129, y81, h17, h18, w1, w2, h1, h2, e1, e2, hw]
        · have e1 : mxI en (x.f + 1) = en := by unfold mxI; rw [if_neg (by omega)]
          by_cases h2 : x.t ≥ en
          · have e2 : mxI en (x.t + 1) = x.t + 1 := by unfold mxI; rw [if_pos (by omega)]
            simp only [twainref49_last.loop3s, twainref49_last.loop3, twainref49_last.j1, twainref49_last.j2, mach, Nat.reduceAdd, Nat.reduceLeDiff, Int.reduceEq, Int.reduceLT, Int.reduceLE, hn', hix, hld, y73, y77, q74, hxl, y60, q39, q9, y129, y81, h17, h18, w1, w2, h1, h2, e1, e2, hw]
          · have e2 : mxI en (x.t + 1) = en := by unfold mxI; rw [if_neg (by omega)]
            simp only [twainref49_last.loop3s, twainref49_last.loop3, twainref49_last.j1, twainref49_last.j2, mach, Nat.reduceAdd, Nat.reduceLeDiff, Int.reduceEq, Int.reduceLT, Int.reduceLE, hn', hix, hld, y73, y77, q74, hxl, y60, q39, q9, y129, y81, h17, h18, w1, w2, h1, h2, e1, e2, hw]
      · exact y115 [[], []] [0] [0] rfl rfl (by simp [q29]) (by simp [y14, hrf, q39]) (by simp [lren, vren, q86, y70, q41, q29]) (by simp [y24, q55, hrf]))
    (fun _ _ => ⟨_, by simp only [twainref49_last.loop3s, twainref49_last.loop3, mach, Nat.reduceAdd, Nat.reduceLeDiff, Int.reduceEq, Int.reduceLT, Int.reduceLE, hlast], rfl⟩)
    A.length 0 () [tSl A.length (hopR A), .pointer (some ⟨H.length, 0, none⟩), .int .i64 0, tSl A.length (hopR A), .int .i64 A.length, .int .i64 0] ⟨H ++ [.cells (byt v) y1 true], none⟩ (by omega) trivial (by
      exact y115 [[]] [0] [0] rfl rfl (by simp [q29]) (by simp [y14, hrf]) (by simp [lren, vren, q86, y70, q41, q29, endN]) (by simp [y24, q55, hrf]))
  exact hlp

theorem last_ok (hA : OkHops A) (hs : y261 A) (hm : A.length < 60000) {v : List Int} (hv : v.length = 16) (hb : ∀ b ∈ v, 0 ≤ b ∧ b < 256) (H : List Blk) :
    acall PP TT q119 [tSl A.length (hopR A), .agg (byt v).toArray] H = some (tSl (A.length + 1) (hopR (A ++ [lastH A v])), H, none) := by
  have hlo := lastH_ok hs hv hb
  have hB : OkHops (A ++ [lastH A v]) := hA.snoc hlo
  have hrd : q89 PP y2 [(1, .agg (byt v).toArray), (2, .int .i64 (endN A A.length)), (3, .int .i64 (endN A A.length))] = some (.agg (opk (lastH A v)).toArray) := bd_readr v hv _ _
  have hxl : (opk (lastH A v)).length = 19 := y126 hv
  have hbs := fun H e => bsl_rop (x := lastH A v) hv H e
  have hvl : (byt v).length = 16 := by simp [byt, hv]
  have hrf : lrefs (byt v) = [] := q36 v
  have hcl := y74 v
  have hlp := last_loop hA hs hm (v := v) H
  have hb0 : ∀ e : Option Nat, aBox y1 (.agg (byt v).toArray) ⟨H, e⟩ = some (.pointer (some ⟨H.length, 0, none⟩), ⟨H ++ [.cells (byt v) y1 true], e⟩) := fun e => y56 hcl
  generalize lastH A v = x at hlo hB hrd hxl hbs
  have hln : (hopR (A ++ [x])).length = (A.length + 1) * 19 := by have := q166 hB; simpa using this
  rw [y22, twainref49_last.eq]
  cases hA0 : A with
  | nil =>
    subst hA0
    simp only [List.length_nil] at hlp hrd ⊢
    have hap0 : ∀ (R : Type) (F : Value → AS → Option R), y16 PP .append #[y7, y7] [.slice (some ⟨H.length + 1, 0, none⟩) 0 0, tSl 0 (hopR [])] ⟨H ++ [Blk.cells (byt v) y1 true, .cells [] y2 true], none⟩ F = F (.slice (some ⟨H.length + 1, 0, none⟩) 0 0) ⟨H ++ [Blk.cells (byt v) y1 true, .cells [] y2 true], none⟩ := fun R F => app_none y91 (src_tree rfl rfl)
    have hsrc : y53 19 (H ++ [Blk.cells (byt v) y1 true, .cells [] y2 true, .cells (opk x) y2 true]) (.slice (some ⟨H.length + 2, 0, none⟩) 1 1) = some (1, opk x) := q328 (k := 2) rfl (by simp [hxl])
    have hap1 : ∀ (R : Type) (F : Value → AS → Option R), y16 PP .append #[y7, y7] [.slice (some ⟨H.length + 1, 0, none⟩) 0 0, .slice (some ⟨H.length + 2, 0, none⟩) 1 1] ⟨H ++ [Blk.cells (byt v) y1 true, .cells [] y2 true, .cells (opk x) y2 true], none⟩ F = F (.slice (some ⟨H.length + 3, 0, none⟩) 1 UNK) ⟨H ++ [Blk.cells (byt v) y1 true, .cells [] y2 true, .cells (opk x) y2 true, .cells (opk x) y2 true], none⟩ := fun R F => by
      rw [q347 (P := PP) (st := ⟨H ++ _, none⟩) (k := F) (n := 0) (old := []) (o := true) y91 (by rw [y105]; rfl) rfl hsrc (by omega) (by omega) (by omega)]
      simp
    simp only [List.length_nil, Int.ofNat_zero] at hlp
    have hln0 : ∀ st, aLen PP y7 (tSl 0 (hopR [])) st = some (.int .i64 0) := fun st => ln_rop [] st
    have hh : (hopR ([] ++ [x])) = opk x := by simp [hopR]
    rw [hh]
    simp only [twainref49_last.sh, hb0, mach, Nat.reduceAdd, Nat.reduceLeDiff, Int.reduceEq, Int.reduceLT, Int.reduceLE, hln0, hlp, twainref49_last.j4, bsl_rop0, hap0, hvl, List.take_of_length_le, hrd, hbs, hap1]
    exact Go.Am.fin_row (k := 3) (sz := 19) (t := y2) rfl y125 (by simp [hxl]) (y297 x) (q39 x) rfl
  | cons a tl =>
    rw [← hA0]
    have hpos : 0 < A.length := by rw [hA0]; simp
    have hap0 : ∀ (R : Type) (F : Value → AS → Option R), y16 PP .append #[y7, y7] [.slice (some ⟨H.length + 1, 0, none⟩) 0 0, tSl A.length (hopR A)] ⟨H ++ [Blk.cells (byt v) y1 true, .cells [] y2 true], none⟩ F = F (.slice (some ⟨H.length + 2, 0, none⟩) A.length UNK) ⟨H ++ [Blk.cells (byt v) y1 true, .cells [] y2 true, .cells (hopR A) y2 true], none⟩ := fun R F => by
      rw [q347 (P := PP) (st := ⟨H ++ _, none⟩) (k := F) (n := 0) (old := []) (o := true) y91 (by rw [y105]; rfl) rfl (src_tree (q166 hA) (q363 A)) hpos (by omega) (by omega)]
      simp
    have hsrc : y53 19 (H ++ [Blk.cells (byt v) y1 true, .cells [] y2 true, .cells (hopR A) y2 true, .cells (opk x) y2 true]) (.slice (some ⟨H.length + 3, 0, none⟩) 1 1) = some (1, opk x) := q328 (k := 3) rfl (by simp [hxl])
    have hap1 : ∀ (R : Type) (F : Value → AS → Option R), y16 PP .append #[y7, y7] [.slice (some ⟨H.length + 2, 0, none⟩) A.length UNK, .slice (some ⟨H.length + 3, 0, none⟩) 1 1] ⟨H ++ [Blk.cells (byt v) y1 true, .cells [] y2 true, .cells (hopR A) y2 true, .cells (opk x) y2 true], none⟩ F = F (.slice (some ⟨H.length + 4, 0, none⟩) (A.length + 1) UNK) ⟨H ++ [Blk.cells (byt v) y1 true, .cells [] y2 true, .dead, .cells (opk x) y2 true, .cells (hopR (A ++ [x])) y2 true], none⟩ := fun R F => by
      rw [q311 (P := PP) (st := ⟨H ++ _, none⟩) (k := F) (m := A.length) (old := hopR A) y91 (by rw [y105]; rfl) (q166 hA) hsrc (by omega) (by omega), y283, q238]
      simp
    simp only [twainref49_last.sh, hb0, mach, Nat.reduceAdd, Nat.reduceLeDiff, Int.reduceEq, Int.reduceLT, Int.reduceLE, ln_rop, hlp, twainref49_last.j4, bsl_rop0, hap0, hvl, List.take_of_length_le, hrd, hbs, hap1]
    exact Go.Am.fin_row (k := 4) (sz := 19) (t := y2) rfl y125 hln (y246 _) (q29 _) rfl
end
end GH
end Go.Proofs.Ytfinilnkempofaa

end
