/- A part of the proof: Gt4, Gt5, Gt6, Gt7. Its conditions: none. -/
import Derived.Test.YtfinilnkempofaaGh0
set_option linter.all false
set_option linter.unusedVariables false
set_option linter.unusedSimpArgs false
set_option linter.unnecessarySimpa false
section
namespace Go.Proofs.Ytfinilnkempofaa
open Go Go.Am Go.Reg
namespace GH

def OkSec (v : List Int) : Prop := v.length = 16 ∧ ∀ b ∈ v, 0 ≤ b ∧ b < 256
def OkSecs (l : List (List Int)) : Prop := ∀ v ∈ l, OkSec v
def secR (l : List (List Int)) : List Value := (l.map byt).flatten
theorem sec_rows {l : List (List Int)} (h : OkSecs l) : RowsOf 16 (l.map byt) := by
  refine ⟨fun r hr => ?_, fun r hr => ?_, fun r hr => ?_, fun r hr => ?_⟩ <;> obtain ⟨v, hv, rfl⟩ := List.mem_map.1 hr
  · simp [byt, (h v hv).1]
  · exact q36 v
  · exact y74 v
  · exact q194 v
theorem y66 (l : List (List Int)) : lrefs (secR l) = [] := by
  induction l with
  | nil => rfl
  | cons x xs ih => simp only [secR, List.map_cons, List.flatten_cons, lrefs_app, q36] at ih ⊢; simpa using ih
theorem q283 (l : List (List Int)) : (secR l).all noSl = true := by
  induction l with
  | nil => rfl
  | cons x xs ih => simp only [secR, List.map_cons, List.flatten_cons, List.all_append, q194] at ih ⊢; simpa using ih
theorem q184 {l : List (List Int)} (h : OkSecs l) : (secR l).length = l.length * 16 := by
  have := (sec_rows h).flen
  simpa [secR] using this
theorem y241 (l : List (List Int)) (v : List Int) : secR l ++ byt v = secR (l ++ [v]) := by simp [secR]
theorem secR_one (v : List Int) : secR [v] = byt v := by simp [secR]
theorem OkSecs.snoc {l : List (List Int)} {v : List Int} (h : OkSecs l) (hv : OkSec v) : OkSecs (l ++ [v]) := fun y hy => by
  rcases List.mem_append.1 hy with hy | hy
  · exact h y hy
  · simp at hy; subst hy; exact hv
theorem okz : OkSec z16 := ⟨z16_n, fun b hb => by simp [z16] at hb; omega⟩

theorem q322 {v : List Int} (hv : v.length = 16) (H : List Blk) (e : Option Nat) : bsl PP y13 1 [0] [.agg (byt v).toArray] ⟨H, e⟩ = some (.slice (some ⟨H.length, 0, none⟩) 1 1, ⟨H ++ [.cells (byt v) y1 true], e⟩) := by
  obtain ⟨a0, a1, a2, a3, a4, a5, a6, a7, a8, a9, a10, a11, a12, a13, a14, a15, rfl⟩ := v16 hv
  clear hv
  unfold bsl
  have hfl : frzL (frz PP 0 8) [Value.agg (byt [a0, a1, a2, a3, a4, a5, a6, a7, a8, a9, a10, a11, a12, a13, a14, a15]).toArray] H = ([Value.agg (byt [a0, a1, a2, a3, a4, a5, a6, a7, a8, a9, a10, a11, a12, a13, a14, a15]).toArray], H) := q126 _ _ _ _ (by simp [flatV, q194])
  simp only [hfl]
  refine Eq.trans (b := some (aRow y1 (byt [a0, a1, a2, a3, a4, a5, a6, a7, a8, a9, a10, a11, a12, a13, a14, a15]) 1 1 ⟨H, e⟩)) ?_ rfl
  clear hfl
  kernel_rfl

theorem ln_secs (l : List (List Int)) (st : AS) : aLen PP y13 (tSl l.length (secR l)) st = some (.int .i64 l.length) := y237 y144
theorem ix_secs {l : List (List Int)} {k : Nat} (hk : k < l.length) : q15 PP y13 (tSl l.length (secR l)) (.int .i64 (k : Int)) = some (tPtr (k * 16) (secR l).toArray) := y177 y144 y141 hk
theorem ld_secs {l : List (List Int)} (hl : OkSecs l) {k : Nat} {v : List Int} (hv : l[k]? = some v) (st : AS) : aLoad true 16 st (tPtr (k * 16) (secR l).toArray) = some (.agg (byt v).toArray) := y344 (sec_rows hl) (by simp [hv])

/-- the values so far: each that was written, once -/
def valsN (A : List Hop) : Nat → List (List Int)
  | 0 => [z16]
  | n + 1 => match A[n]? with
    | some x => if x.w = true ∧ ¬ x.v ∈ valsN A n then valsN A n ++ [x.v] else valsN A n
    | none => valsN A n

theorem q268 {A : List Hop} (hA : OkHops A) : ∀ n, OkSecs (valsN A n) ∧ 1 ≤ (valsN A n).length ∧ (valsN A n).length ≤ n + 1
  | 0 => ⟨fun v hv => by simp [valsN] at hv; subst hv; exact okz, by simp [valsN], by simp [valsN]⟩
  | n + 1 => by
    obtain ⟨h1, h2, h3⟩ := q268 hA n
    simp only [valsN]
    cases hx : A[n]? with
    | none => exact ⟨h1, h2, by simp only; omega⟩
    | some x =>
      simp only
      split
      · exact ⟨h1.snoc (hA x (List.mem_of_getElem? hx)).v, by simp, by simp; omega⟩
      · exact ⟨h1, h2, by omega⟩

/-! ### The map of what was met -/
def KS (v : List Int) : Value := .agg (byt v).toArray
def VS (_ : List Int) : Value := .bool true
def mapS (l : List (List Int)) : Blk := .map (y58 KS VS 0 l) l.length
theorem KS_refs (v : List Int) : vrefs (KS v) = [] := by simp [KS, q36]
theorem VS_refs (v : List Int) : vrefs (VS v) = [] := by simp [VS]
theorem y353 (l : List (List Int)) : q40 (mapS l) = [] := y195 VS_refs KS_refs 0 l
theorem mapS_ren (σ : Nat → Nat) (l : List (List Int)) : q129 σ (mapS l) = mapS l := by
  simp only [mapS, q129]
  rw [y216 VS_refs KS_refs]
theorem zv_boolv : zeroP PP y180 = some (.bool false) := zv_bool

section
variable {H L : List Blk} {e : Option Nat} {l : List (List Int)} (hl : OkSecs l) {v : List Int} (hv : OkSec v)
include hl hv
theorem lk_met (hb : L[0]? = some (mapS l)) : q147 PP q60 (.map (some H.length)) (.agg (byt v).toArray) false ⟨H ++ L, e⟩ = some (.bool (decide (v ∈ l))) := by
  have := look_ent1 (P := PP) (K := KS) (V := VS) (kc := byt) y178 zv_bool rfl flatSec.flat (st := ⟨H ++ L, e⟩) (r := H.length) (c := l.length) (xs := l) (fun x hx => by rw [flatSec.argV]; rfl) (fun x hx => y255 (hl x hx).1 (hl x hx).2) (by rw [q101]; exact hb) (q := byt v) (y255 hv.1 hv.2) (p := fun x => decide (x = v)) (fun x _ => by
    simp only [decide_eq_true_eq]
    exact ⟨fun h => by rw [h], byt_inj⟩)
  rw [flatSec.argV] at this
  rw [this]
  cases hf : l.find? fun x => decide (x = v) with
  | some x =>
    have h1 := List.find?_some hf
    have h2 := List.mem_of_find?_eq_some hf
    simp at h1; subst h1
    simp [h2, VS]
  | none =>
    rw [List.find?_eq_none] at hf
    have : ¬ v ∈ l := fun hm => by simpa using hf v hm
    simp [this]
theorem up_met (hn : ¬ v ∈ l) (hb : L[0]? = some (mapS l)) : y75 PP q60 (.map (some H.length)) (.agg (byt v).toArray) (.bool true) ⟨H ++ L, e⟩ = some ⟨H ++ L.set 0 (mapS (l ++ [v])), e⟩ := by
  have := upd_ent (P := PP) (K := KS) (V := VS) (kc := byt) y178 flatSec.flat (st := ⟨H ++ L, e⟩) (r := H.length) (xs := l) (fun x hx => by rw [flatSec.argV]; rfl) (fun x hx => y255 (hl x hx).1 (hl x hx).2) (by rw [q101]; exact hb) (x := v) (q := byt v) (v := .bool true) (by rw [flatSec.argV]; rfl) rfl (y255 hv.1 hv.2) (fun y hy he => hn (by rw [← byt_inj he]; exact hy))
  rw [flatSec.argV] at this
  rw [this]
  simp [mapS, escOf]
end

section
variable {A : List Hop}

def capN (k : Nat) : Nat := if k = 1 then 1 else UNK
def vFr (n0 : Nat) (A : List Hop) (l : List (List Int)) (n : Nat) : List Value := [tSl A.length (hopR A), .map (some n0), .slice (some ⟨n0 + 1, 0, none⟩) l.length (capN l.length), tSl A.length (hopR A), .int .i64 A.length, .int .i64 n]
def vHp (l : List (List Int)) : List Blk := [mapS l, .cells (secR l) y1 true]

theorem opk_sec {x : Hop} (h : x.v.length = 16) : ((opk x).drop 1).take 16 = byt x.v := by
  simp only [opk, List.drop_succ_cons, List.drop_zero]
  rw [List.take_left' (by simp [byt, h])]

theorem app_secs {l : List (List Int)} (hl : OkSecs l) (h1 : 1 ≤ l.length) (hm : l.length ≤ 60000) {v : List Int} (hv : v.length = 16) {H : List Blk} {m o : Blk} :
    ∃ d : Blk, (d = .dead ∨ d = .cells (secR l) y1 true) ∧ ∀ (R : Type) (F : Value → AS → Option R), y16 PP .append #[y13, y13] [.slice (some ⟨H.length + 1, 0, none⟩) l.length (capN l.length), .slice (some ⟨H.length + 3, 0, none⟩) 1 1] ⟨H ++ [m, .cells (secR l) y1 true, o, .cells (byt v) y1 true], none⟩ F =
      F (.slice (some ⟨H.length + 4, 0, none⟩) (l.length + 1) UNK) ⟨H ++ [m, d, o, .cells (byt v) y1 true, .cells (secR (l ++ [v])) y1 true], none⟩ := by
  have hsrc : y53 16 (H ++ [m, .cells (secR l) y1 true, o, .cells (byt v) y1 true]) (.slice (some ⟨H.length + 3, 0, none⟩) 1 1) = some (1, byt v) := q328 (k := 3) rfl (by simp [byt, hv])
  have hg : (H ++ [m, .cells (secR l) y1 true, o, .cells (byt v) y1 true])[H.length + 1]? = some (.cells (secR l) y1 true) := by rw [y105]; rfl
  by_cases hc : l.length = 1
  · refine ⟨.cells (secR l) y1 true, .inr rfl, fun R F => ?_⟩
    have hcn : capN l.length = 1 := by simp [capN, hc]
    rw [hcn, q347 (P := PP) (st := ⟨H ++ _, none⟩) (k := F) (n := l.length) (old := secR l) (o := true) y120 hg (q184 hl) hsrc (by omega) (by omega) (by omega), y241]
    simp
  · refine ⟨.dead, .inl rfl, fun R F => ?_⟩
    have hcn : capN l.length = UNK := by simp [capN, hc]
    rw [hcn, q311 (P := PP) (st := ⟨H ++ _, none⟩) (k := F) (m := l.length) (old := secR l) y120 hg (q184 hl) hsrc (by omega) (by omega), y241, q238]
    simp

theorem vals_loop (hA : OkHops A) (hm : A.length ≤ 1000) (H : List Blk) :
    loopG H.length (ghost_Values.loop7s (acall PP TT) loopG H.length) (vFr H.length A [z16] 0, ⟨H ++ vHp [z16], none⟩) =
      some (.exit 0, [tSl A.length (hopR A), .slice (some ⟨H.length + 1, 0, none⟩) (valsN A A.length).length (capN (valsN A A.length).length)], ⟨H ++ vHp (valsN A A.length), none⟩) := by
  have hlast : ¬ ((A.length : Int) < (A.length : Int)) := Int.lt_irrefl _
  obtain ⟨q, hlp, rfl⟩ := q173 (n0 := H.length) (step := ghost_Values.loop7s (acall PP TT) loopG H.length) (len := A.length) (σ := Unit)
    (fun n _ => (vFr H.length A (valsN A n) n, ⟨H ++ vHp (valsN A n), none⟩))
    (fun _ _ => True) (fun q => q = (.exit 0, [tSl A.length (hopR A), .slice (some ⟨H.length + 1, 0, none⟩) (valsN A A.length).length (capN (valsN A A.length).length)], ⟨H ++ vHp (valsN A A.length), none⟩))
    (fun n _ hn _ => by
      have hn' : ((n : Int) < (A.length : Int)) := by omega
      obtain ⟨x, hx⟩ : ∃ x, A[n]? = some x := ⟨_, List.getElem?_eq_getElem hn⟩
      have hxo := hA x (List.mem_of_getElem? hx)
      have hix := ix_pop (A := A) hn
      have hld := fun st => y265 hA hx st
      have hw := q69 (n := n) (by omega)
      have hxl := y126 hxo.v.1
      have hxs := opk_sec hxo.v.1
      have hxw := opk_w x
      have h17 : 1 + 16 ≤ 19 := by omega
      obtain ⟨hlo, h1, h2⟩ := q268 hA n
      have hnx : valsN A (n + 1) = if x.w = true ∧ ¬ x.v ∈ valsN A n then valsN A n ++ [x.v] else valsN A n := by simp [valsN, hx]
      rw [hnx]
      generalize valsN A n = l at hlo h1 h2
      have hlk := fun (L : List Blk) (e : Option Nat) (hb : L[0]? = some (mapS l)) => lk_met (H := H) (e := e) hlo hxo.v hb
      have hbs := fun H e => q322 hxo.v.1 H e
      have same : ∀ k : Nat, gc H.length (vFr H.length A l k) ⟨H ++ (vHp l ++ [.cells (opk x) y4 true]), none⟩ = (vFr H.length A l k, ⟨H ++ vHp l, none⟩) := fun k =>
        y115 [[], [], []] [0, 1] [0, 1] rfl rfl (by simp [vFr, q29]) (by simp [vHp, y14, q39, y353, y66]) (by simp [vFr, lren, vren, q117, q86, y70, q41, q29]) (by simp [vHp, y24, q55, y66, mapS_ren])
      refine .inr ?_
      cases hxb : x.w with
      | false =>
        rw [hxb] at hxw
        simp only [Bool.false_eq_true, false_and, if_false]
        refine ⟨_, _, (), ?_, same (n + 1), trivial⟩
        simp only [ghost_Values.loop7s, ghost_Values.loop7, ghost_Values.j1, ghost_Values.j2, vFr, vHp, mach, Nat.reduceAdd, Nat.reduceLeDiff, Int.reduceEq, Int.reduceLT, Int.reduceLE, hn', hix, hld, q45, q46, q44, hxl, y60, q39, q9, q47, hxw, hw]
      | true =>
        rw [hxb] at hxw
        by_cases hmem : x.v ∈ l
        · simp only [hmem, not_true_eq_false, and_false, if_false]
          refine ⟨_, _, (), ?_, same (n + 1), trivial⟩
          simp only [ghost_Values.loop7s, ghost_Values.loop7, ghost_Values.j1, ghost_Values.j2, vFr, vHp, mach, Nat.reduceAdd, Nat.reduceLeDiff, Int.reduceEq, Int.reduceLT, Int.reduceLE, hn', hix, hld, q45, q46, q44, hxl, y60, q39, q9, q47, y49, hxw, hxs, h17, hlk, hmem, hw]
        · rw [if_pos ⟨rfl, hmem⟩]
          have hup := fun (L : List Blk) (e : Option Nat) (hb : L[0]? = some (mapS l)) => up_met (H := H) (e := e) hlo hxo.v hmem hb
          have hc2 : capN (l ++ [x.v]).length = UNK := by unfold capN; rw [if_neg (by rw [List.length_append, List.length_singleton]; omega)]
          obtain ⟨d, hd, hap⟩ := app_secs hlo h1 (by omega) hxo.v.1 (H := H) (m := mapS (l ++ [x.v])) (o := .cells (opk x) y4 true)
          refine ⟨[tSl A.length (hopR A), .map (some H.length), .slice (some ⟨H.length + 4, 0, none⟩) (l.length + 1) UNK, tSl A.length (hopR A), .int .i64 A.length, .int .i64 ((n + 1 : Nat) : Int)], ⟨H ++ [mapS (l ++ [x.v]), d, .cells (opk x) y4 true, .cells (byt x.v) y1 true, .cells (secR (l ++ [x.v])) y1 true], none⟩, (), ?_, ?_, trivial⟩
          · simp only [ghost_Values.loop7s, ghost_Values.loop7, ghost_Values.j1, ghost_Values.j2, vFr, vHp, mach, Nat.reduceAdd, Nat.reduceLeDiff, Int.reduceEq, Int.reduceLT, Int.reduceLE, hn', hix, hld, q45, q46, q44, hxl, y60, q39, q9, q47, y49, hxw, hxs, h17, hlk, hmem, hup, List.set_cons_zero, hbs, hap, hw]
          · have hdr : q40 d = [] := by
              rcases hd with rfl | rfl
              · exact y106
              · rw [y14, y66]
            have hvf : vFr H.length A (l ++ [x.v]) (n + 1) = [tSl A.length (hopR A), .map (some H.length), .slice (some ⟨H.length + 1, 0, none⟩) (l ++ [x.v]).length UNK, tSl A.length (hopR A), .int .i64 A.length, .int .i64 ((n + 1 : Nat) : Int)] := by
              unfold vFr
              rw [hc2]
            rw [hvf]
            exact y115 [[], [], [], [], []] [0, 4] [0, 4] rfl rfl (by simp [q29]) (by simp [y14, q39, y353, y66, q36, hdr]) (by simp [lren, vren, q117, q86, y70, q41, q29]) (by simp [vHp, y24, q55, y66, mapS_ren]))
    (fun _ _ => ⟨_, by simp only [ghost_Values.loop7s, ghost_Values.loop7, vFr, mach, Nat.reduceAdd, Nat.reduceLeDiff, Int.reduceEq, Int.reduceLT, Int.reduceLE, hlast], rfl⟩)
    A.length 0 () (vFr H.length A [z16] 0) ⟨H ++ vHp [z16], none⟩ (by omega) trivial (by
      exact y115 [[], []] [0, 1] [0, 1] rfl rfl (by simp [vFr, q29]) (by simp [vHp, y14, y353, y66]) (by simp [vFr, lren, vren, q117, q86, y70, q41, q29, valsN]) (by simp [vHp, y24, q55, y66, mapS_ren, valsN]))
  exact hlp
end
end GH
end Go.Proofs.Ytfinilnkempofaa

end
section
namespace Go.Proofs.Ytfinilnkempofaa
open Go Go.Am Go.Reg
namespace GH

open Classical in
/-- those that may be told in the end -/
noncomputable def keepH (A : List Hop) (l : List (List Int)) : List (List Int) := l.filter fun v => decide (Holds A v)

def rowS (l : List (List Int)) : Value := match l with | [] => .slice none 0 0 | _ :: tl => .slice (some ⟨0, 0, none⟩) (tl.length + 1) UNK
def blkS (l : List (List Int)) : List Blk := match l with | [] => [] | a :: tl => [.cells (secR (a :: tl)) y1 true]

theorem q360 {A : List Hop} {l : List (List Int)} {v : List Int} (ok : Bool) (h : ok = true ↔ Holds A v) : keepH A (l ++ [v]) = if ok = true then keepH A l ++ [v] else keepH A l := by
  unfold keepH
  rw [List.filter_append]
  by_cases hb : Holds A v
  · have : ok = true := h.2 hb
    simp [this, hb]
  · have : ¬ ok = true := fun hc => hb (h.1 hc)
    simp [this, hb]

theorem keepH_ok {A : List Hop} {l : List (List Int)} (h : OkSecs l) : OkSecs (keepH A l) := fun v hv => by
  unfold keepH at hv
  exact h v (List.mem_filter.1 hv).1
theorem keepH_len (A : List Hop) (l : List (List Int)) : (keepH A l).length ≤ l.length := List.length_filter_le _ _

/-- a sector is boxed -/
theorem q269 (K : List Blk) (e : Option Nat) : aBox y1 ((zeroP PP y1).getD unk) ⟨K, e⟩ = some (.pointer (some ⟨K.length, 0, none⟩), ⟨K ++ [.cells (byt z16) y1 true], e⟩) := by
  rw [y50, q90]
  exact y56 (y74 z16)
theorem y210 {v : List Int} (hv : v.length = 16) (K : List Blk) (e : Option Nat) : q43 16 ⟨K ++ [.cells (byt z16) y1 true], e⟩ (.pointer (some ⟨K.length, 0, none⟩)) (.agg (byt v).toArray) = some ⟨K ++ [.cells (byt v) y1 true], e⟩ := by
  rw [q54 (by simp [byt, hv]), y94]
  have h1 : (byt v).length = 16 := by simp [byt, hv]
  have h2 : (byt z16).length = 16 := by simp [byt, z16_n]
  simp only [q71, List.getElem?_cons_zero]
  rw [if_pos ⟨by omega, y74 v⟩]
  rw [q9 (by omega)]
  simp [q36, escOf]
theorem q160 {v : List Int} (hv : v.length = 16) {K : List Blk} {k : Nat} {o : Bool} (e : Option Nat) (h : K[k]? = some (.cells (byt v) y1 o)) : aLoad true 16 ⟨K, e⟩ (.pointer (some ⟨k, 0, none⟩)) = some (.agg (byt v).toArray) := by
  have h1 : (byt v).length = 16 := by simp [byt, hv]
  rw [q61]
  simp only [q35, h]
  rw [if_pos (by omega)]
  simp [List.take_of_length_le, h1]

/-- a sector is told, too -/
theorem app_sec0 {l : List (List Int)} (hl : OkSecs l) (hm : l.length ≤ 60000) {v : List Int} (hv : v.length = 16) {K : List Blk} {e : Option Nat} (hk : ∀ b, (blkS l)[0]? = some b → K[0]? = some b) :
    ∃ K2 : List Blk, K2[K.length + 1]? = some (.cells (secR (l ++ [v])) y1 true) ∧ ∀ (R : Type) (F : Value → AS → Option R), y16 PP .append #[y13, y13] [rowS l, .slice (some ⟨K.length, 0, none⟩) 1 1] ⟨K ++ [.cells (byt v) y1 true], e⟩ F =
      F (.slice (some ⟨K.length + 1, 0, none⟩) (l.length + 1) UNK) ⟨K2, e⟩ := by
  have hsrc : y53 16 (K ++ [.cells (byt v) y1 true]) (.slice (some ⟨K.length, 0, none⟩) 1 1) = some (1, byt v) := q328 (k := 0) rfl (by simp [byt, hv])
  cases l with
  | nil =>
    refine ⟨K ++ [.cells (byt v) y1 true] ++ [.cells (byt v) y1 true], ?_, fun R F => ?_⟩
    · rw [List.append_assoc, y105]; simp [secR]
    · rw [show rowS [] = .slice none 0 0 from rfl, app_nil (P := PP) (st := ⟨K ++ _, e⟩) (k := F) y120 hsrc (by omega) (by omega)]
      simp
  | cons a tl =>
    have h0 := hk _ (show (blkS (a :: tl))[0]? = some _ from rfl)
    have hlt := q12 h0
    have hg : (K ++ [.cells (byt v) y1 true])[0]? = some (.cells (secR (a :: tl)) y1 true) := by rw [List.getElem?_append_left hlt]; exact h0
    refine ⟨(K ++ [Blk.cells (byt v) y1 true]).set 0 .dead ++ [.cells (secR (a :: tl ++ [v])) y1 true], ?_, fun R F => ?_⟩
    · rw [List.getElem?_append_right (by simp)]; simp
    · rw [show rowS (a :: tl) = .slice (some ⟨0, 0, none⟩) (a :: tl).length UNK from rfl, q311 (P := PP) (st := ⟨K ++ _, e⟩) (k := F) (m := (a :: tl).length) (old := secR (a :: tl)) y120 hg (q184 hl) hsrc (by omega) (by omega), y241]
      simp

theorem rowS_snoc (l : List (List Int)) (v : List Int) : rowS (l ++ [v]) = .slice (some ⟨0, 0, none⟩) (l.length + 1) UNK ∧ blkS (l ++ [v]) = [.cells (secR (l ++ [v])) y1 true] := by
  cases l <;> simp [rowS, blkS]

/-- what is struck between q114: all but the row -/
theorem gc_rowS {l : List (List Int)} {K : List Blk} {e : Option Nat} (hk : ∀ b, (blkS l)[0]? = some b → K[0]? = some b) {us ws : List Value} (hu : lrefs us = []) (hw : lrefs ws = []) : gc 0 (us ++ rowS l :: ws) ⟨K, e⟩ = (us ++ rowS l :: ws, ⟨blkS l, none⟩) := by
  cases l with
  | nil => exact gc0 (by simp [rowS, hu, hw])
  | cons a tl =>
    have h0 := hk _ (show (blkS (a :: tl))[0]? = some _ from rfl)
    refine gc_row1 (b := 0) (by simp [rowS, hu, hw]) (by simp [rowS, hu, hw]) h0 (y66 _) ?_
    rw [y183]
    simp only [List.map_append, List.map_cons, ← y183]
    rw [q55 hu, q55 hw]
    simp [rowS, vren, renum, y70]
theorem gc_rowS2 {l : List (List Int)} {v : List Int} {K : List Blk} {k : Nat} {e : Option Nat} (hk : K[k]? = some (.cells (secR (l ++ [v])) y1 true)) {us ws : List Value} (hu : lrefs us = []) (hw : lrefs ws = []) :
    gc 0 (us ++ .slice (some ⟨k, 0, none⟩) (l.length + 1) UNK :: ws) ⟨K, e⟩ = (us ++ rowS (l ++ [v]) :: ws, ⟨blkS (l ++ [v]), none⟩) := by
  rw [(rowS_snoc l v).1, (rowS_snoc l v).2]
  refine gc_row1 (b := k) (by simp [hu, hw]) (by simp [hu, hw]) hk (y66 _) ?_
  rw [y183]
  simp only [List.map_append, List.map_cons, ← y183]
  rw [q55 hu, q55 hw]
  simp [vren, renum, y70]

/-- the row becomes a value -/
theorem fin_rowS {l : List (List Int)} (hl : OkSecs l) : fin PP false 0 [rowS l] ⟨blkS l, none⟩ = some (tSl l.length (secR l), [], none) := by
  cases l with
  | nil => exact Go.Am.fin_nil (H0 := []) (l := []) rfl
  | cons a tl => exact q232 (H0 := []) (sz := 16) rfl y141 (q184 hl) (q283 _) (y66 _) rfl

section
variable {A : List Hop}

theorem told_loop (hA : OkHops A) (hs : y261 A) (hm : A.length ≤ 59) {all : List (List Int)} (hall : OkSecs all) (hlen : all.length ≤ 100) {vs : List Value} {st : AS}
    (hg : gc 0 vs st = ([tSl A.length (hopR A), .slice none 0 0, tSl all.length (secR all), .int .i64 all.length, .int .i64 0], ⟨[], none⟩)) :
    loopG 0 (ghost_Values.loop15s (acall PP TT) loopG 0) (vs, st) = some (.exit 2, [rowS (keepH A all)], ⟨blkS (keepH A all), none⟩) := by
  have hlast : ¬ ((all.length : Int) < (all.length : Int)) := Int.lt_irrefl _
  obtain ⟨q, hlp, rfl⟩ := q173 (n0 := 0) (step := ghost_Values.loop15s (acall PP TT) loopG 0) (len := all.length) (σ := Unit)
    (fun n _ => ([tSl A.length (hopR A), rowS (keepH A (all.take n)), tSl all.length (secR all), .int .i64 all.length, .int .i64 n], ⟨blkS (keepH A (all.take n)), none⟩))
    (fun _ _ => True) (fun q => q = (.exit 2, [rowS (keepH A all)], ⟨blkS (keepH A all), none⟩))
    (fun n _ hn _ => by
      have hn' : ((n : Int) < (all.length : Int)) := by omega
      obtain ⟨v, hv⟩ : ∃ v, all[n]? = some v := ⟨_, List.getElem?_eq_getElem hn⟩
      have hvo := hall v (List.mem_of_getElem? hv)
      have hix := ix_secs hn
      have hld := fun st => ld_secs hall hv st
      have hw := q69 (n := n) (by omega)
      have htk : all.take (n + 1) = all.take n ++ [v] := y198 hv
      have hoko : OkSecs (keepH A (all.take n)) := keepH_ok (fun y hy => hall y (List.mem_of_mem_take hy))
      have hlo := keepH_len A (all.take n)
      rw [List.length_take] at hlo
      rw [htk]
      have hks := fun ok h => q360 (A := A) (l := all.take n) (v := v) ok h
      generalize keepH A (all.take n) = out at hoko hlo hks
      obtain ⟨ok, H', e, hr, hk, hi⟩ := tells_ok hA hs hm hvo.1 hvo.2 (blkS out ++ [.cells (byt v) y1 true])
      have hkeep : ∀ b, (blkS out)[0]? = some b → H'[0]? = some b := fun b hb => by
        cases out with
        | nil => simp [blkS] at hb
        | cons a tl =>
          simp [blkS] at hb
          subst hb
          exact hk 0 _ _ _ (by rw [List.getElem?_append_left (by simp [blkS])]; rfl) (by decide)
      have hbox : H'[(blkS out).length]? = some (.cells (byt v) y1 true) := hk _ _ _ _ (by rw [q101]; rfl) (by decide)
      have hl1 := q160 hvo.1 none (show (blkS out ++ [.cells (byt v) y1 true])[(blkS out).length]? = some (.cells (byt v) y1 true) by rw [q101]; rfl)
      have hl2 := q160 hvo.1 (y8 none e) hbox
      obtain ⟨K2, hK2, hap⟩ := app_sec0 hoko (by omega) hvo.1 (e := y8 none e) hkeep
      have hbs := q322 hvo.1 H' (y8 none e)
      rw [hks ok hi]
      refine .inr ?_
      have hb0 := q269 (blkS out) none
      have hs0 := y210 hvo.1 (blkS out) none
      have hgc := gc_rowS (e := y8 none e) hkeep (us := [tSl A.length (hopR A)]) (ws := [tSl all.length (secR all), .int .i64 all.length, .int .i64 ((n + 1 : Nat) : Int)]) (by simp [q29]) (by simp [y66])
      generalize hKe : blkS out = K at hkeep hl1 hb0 hs0 hr hl2 hgc
      cases ok with
      | true =>
        simp only [if_true]
        refine ⟨[tSl A.length (hopR A), .slice (some ⟨H'.length + 1, 0, none⟩) (out.length + 1) UNK, tSl all.length (secR all), .int .i64 all.length, .int .i64 ((n + 1 : Nat) : Int)], ⟨K2, y8 none e⟩, (), ?_, ?_, trivial⟩
        · simp only [ghost_Values.loop15s, ghost_Values.loop15, ghost_Values.j6, Option.bind_some, List.getD_cons_zero, List.getD_cons_succ, q65, hn', decide_true, y23, hix, hld, hb0, hs0, hl1, hr, hl2, hbs, hap, q108, hw]
        · exact gc_rowS2 (us := [tSl A.length (hopR A)]) hK2 (by simp [q29]) (by simp [y66])
      | false =>
        simp only [Bool.false_eq_true, if_false]
        refine ⟨[tSl A.length (hopR A), rowS out, tSl all.length (secR all), .int .i64 all.length, .int .i64 ((n + 1 : Nat) : Int)], ⟨H', y8 none e⟩, (), ?_, ?_, trivial⟩
        · simp only [ghost_Values.loop15s, ghost_Values.loop15, ghost_Values.j6, Option.bind_some, List.getD_cons_zero, List.getD_cons_succ, q65, hn', decide_true, y23, q23, hix, hld, hb0, hs0, hl1, hr, q108, hw]
        · simp only [hKe]; exact hgc)
    (fun _ _ => ⟨_, by simp only [ghost_Values.loop15s, ghost_Values.loop15, mach, Nat.reduceAdd, Nat.reduceLeDiff, Int.reduceEq, Int.reduceLT, Int.reduceLE, hlast, List.take_length], rfl⟩)
    all.length 0 () vs st (by omega) trivial (by rw [hg]; simp [keepH, rowS, blkS])
  exact hlp

theorem gvalues_ok {l : List Ev} (hl : OkEvs l) (h6 : l.length < 60000) {at_ : Int} (hat : isI at_) (hAe : opsL (y72 l) l at_ l.length = A) (hA : OkHops A) (hs : y261 A) (hm : A.length ≤ 59) :
    acall PP TT q127 [tSl l.length (evR l), .int .i64 at_] [] = some (tSl (keepH A (valsN A A.length)).length (secR (keepH A (valsN A A.length))), [], none) := by
  have hq := fun H => qops_ok hl h6 hat H
  rw [ops_eq, hAe] at hq
  obtain ⟨hall, h1, h2⟩ := q268 hA A.length
  have hlp := vals_loop hA (by omega) []
  have hlt : ¬ (A.length : Int) > 59 := by omega
  have hbs := fun H e => q322 z16_n H e
  have hup := fun (e : Option Nat) => up_met (H := []) (L := [mapS []]) (e := e) (l := []) (fun v hv => by simp at hv) okz (by simp) rfl
  have hf : jFrz PP 0 [tSl A.length (hopR A), .slice (some ⟨1, 0, none⟩) (valsN A A.length).length (capN (valsN A A.length).length)] ⟨vHp (valsN A A.length), none⟩ true = ([tSl A.length (hopR A), tSl (valsN A A.length).length (secR (valsN A A.length))], ⟨[mapS (valsN A A.length), .dead], none⟩) := by
    have hf := frz_own (P := PP) (H0 := []) (l := vHp (valsN A A.length)) (k := 1) (cs := secR (valsN A A.length)) (t := y1) (q := 7) (n := (valsN A A.length).length) (c := capN (valsN A A.length).length) (sz := 16) rfl y141 (q184 hall) (q283 _)
    simp only [List.length_nil, Nat.zero_add, List.nil_append, Nat.reduceAdd] at hf
    unfold jFrz
    simp only [frzL, y107 0 8 (tSl A.length (hopR A)) _ rfl, hf]
    rfl
  have hg : gc 0 [tSl A.length (hopR A), .slice none 0 0, tSl (valsN A A.length).length (secR (valsN A A.length)), .int .i64 (valsN A A.length).length, .int .i64 0] ⟨[mapS (valsN A A.length), .dead], none⟩ = ([tSl A.length (hopR A), .slice none 0 0, tSl (valsN A A.length).length (secR (valsN A A.length)), .int .i64 (valsN A A.length).length, .int .i64 0], ⟨[], none⟩) := gc0 (by simp [q29, y66])
  have hlp2 := told_loop hA hs hm hall (by omega) hg
  have hfin := fin_rowS (keepH_ok (A := A) hall)
  have hls := ln_secs (valsN A A.length)
  have hc1 : capN 1 = 1 := rfl
  simp only [vFr, vHp, List.length_nil, List.nil_append, Nat.zero_add, List.length_cons, hc1, secR_one, Int.ofNat_zero] at hlp
  simp only [List.length_nil, List.nil_append] at hup
  rw [y22, ghost_Values.eq]
  simp only [vHp] at hf
  have hm0 : q79 (⟨[], none⟩ : AS) (.map [] 0) = ⟨[mapS []], none⟩ := rfl
  simp only [ghost_Values.sh, hq, mach, Nat.reduceAdd, Nat.reduceLeDiff, Int.reduceEq, Int.reduceLT, Int.reduceLE, ln_pop, hlt, q186, hm0, hup, List.set_cons_zero, hbs, hlp, hf, ghost_Values.j4, hls, hlp2, ghost_Values.j8]
  exact hfin
end
end GH
end Go.Proofs.Ytfinilnkempofaa

end
section
namespace Go.Proofs.Ytfinilnkempofaa
open Go Go.Am Go.Reg
namespace GH

theorem fin_any {n0 : Nat} {st : AS} {vs : List Value} (hf : vs.all flatV = true) (hr : lrefs vs = []) :
    ∃ H' e, fin PP false n0 vs st = some (oneOf vs, H', e) ∧ (∀ r, r < n0 → H'[r]? = st.H[r]?) ∧ (n0 ≤ st.H.length → n0 ≤ H'.length) := by
  unfold fin q151
  simp only [Bool.false_eq_true, if_false, q126 n0 8 vs st.H hf]
  obtain ⟨σ, _, h2, _, h4⟩ := q275 n0 vs ⟨st.H, st.esc⟩
  rw [q324 n0 vs ⟨st.H, st.esc⟩ hr]
  exact ⟨_, _, rfl, fun r hr => (h2 r hr).2, h4⟩

section
variable {l : List Ev} {A : List Hop}

theorem y355 (hl : OkEvs l) (h6 : l.length < 60000) {at_ : Int} (hat : isI at_) (hAe : opsL (y72 l) l at_ l.length = A) (hA : OkHops A) (hs : y261 A) (hm : A.length ≤ 59) {v : List Int} (hv : v.length = 16) (hb : ∀ b ∈ v, 0 ≤ b ∧ b < 256) (H : List Blk) :
    ∃ (ok kn : Bool) (H' : List Blk) (e : Option Nat), acall PP TT q76 [tSl l.length (evR l), .int .i64 at_, .agg (byt v).toArray] H = some (.tuple #[.bool ok, .int .i64 0, .bool kn], H', e) ∧ FSt H H' ∧ (kn = true → (ok = true ↔ Holds A v)) := by
  have hro := fun H => rops_ok hl h6 hat H
  rw [hAe] at hro
  have hB : OkHops (A ++ [lastH A v]) := hA.snoc (lastH_ok hs hv hb)
  have hla := fun H => last_ok hA hs (by omega) hv hb H
  obtain ⟨ok, kn, out, H2, e2, hdoc, hf2, hy, hn⟩ := doc_order (ok_rws hB) (by simp; omega) (H ++ [.cells (byt v) y1 true]) zTok
  rw [opsC_rw, List.length_map, List.length_append, List.length_singleton] at hdoc
  have hvl : (byt v).length = 16 := by simp [byt, hv]
  have hrf : lrefs (byt v) = [] := q36 v
  have hcl := y74 v
  have hb0 : ∀ e : Option Nat, aBox y1 (.agg (byt v).toArray) ⟨H, e⟩ = some (.pointer (some ⟨H.length, 0, none⟩), ⟨H ++ [.cells (byt v) y1 true], e⟩) := fun e => y56 hcl
  have hlt : ¬ (A.length : Int) > 59 := by omega
  obtain ⟨H4, e4, hfin, h4, h5⟩ := fin_any (n0 := H.length) (st := ⟨H2, y8 none e2⟩) (vs := [.bool ok, .int .i64 0, .bool kn]) rfl rfl
  refine ⟨ok, kn, H4, e4, ?_, ⟨fun j hj => ?_, h5 (by have := hf2.len; simp at this; simp only; omega)⟩, fun hk => ⟨fun h => hy h, fun ⟨r, hr⟩ => ?_⟩⟩
  · rw [y22, twainref49_Holds.eq]
    simp only [twainref49_Holds.sh, hb0, mach, Nat.reduceAdd, Nat.reduceLeDiff, Int.reduceEq, Int.reduceLT, Int.reduceLE, hro, ln_rop, hlt, hvl, List.take_of_length_le, hla, q186, hdoc]
    exact hfin
  · rw [h4 j hj]
    simp only
    rw [hf2.pre j (by simp; omega), List.getElem?_append_left hj]
  · cases ok with
    | true => rfl
    | false => exact absurd hr (hn rfl hk r)

/-! ### The first loop -/
def anyV (l : List (List Int)) (v : List Int) (b : Bool) : Nat → Bool
  | 0 => b
  | n + 1 => anyV l v b n || (match l[n]? with | some y => decide (y = v) | none => false)
theorem anyV_take (l : List (List Int)) (v : List Int) (b : Bool) : ∀ n, anyV l v b n = (b || decide (v ∈ l.take n))
  | 0 => by simp [anyV]
  | n + 1 => by
    simp only [anyV, anyV_take l v b n]
    cases hy : l[n]? with
    | none =>
      have : l.take (n + 1) = l.take n := by
        rw [List.take_of_length_le (by have := List.getElem?_eq_none_iff.1 hy; omega), List.take_of_length_le (by have := List.getElem?_eq_none_iff.1 hy; omega)]
      simp [this]
    | some y =>
      rw [y198 hy]
      by_cases h : y = v
      · subst h; simp
      · have : ¬ v = y := fun e => h e.symm
        simp [h, this]

def rFr (l : List Ev) (at_ : Int) (A : List Hop) (all : List (List Int)) (p : Nat) (x : Nat) (b : Bool) (n k : Nat) : List Value :=
  [tSl l.length (evR l), .int .i64 at_, .slice (some ⟨p, 0, none⟩) all.length (capN all.length), .pointer (some ⟨x, 0, none⟩), .bool b, tSl A.length (hopR A), .int .i64 A.length, .int .i64 n, .slice (some ⟨p, 0, none⟩) all.length (capN all.length), .int .i64 all.length, .int .i64 k]

theorem own_ix {all : List (List Int)} {p c k : Nat} (hk : k < all.length) : q15 PP y13 (.slice (some ⟨p, 0, none⟩) all.length c) (.int .i64 (k : Int)) = some (.pointer (some ⟨p, k * 16, none⟩)) := by
  simp only [q15, y144, y141]
  rw [if_pos ⟨by omega, by omega⟩]
  simp [Addr.add]
  omega
theorem own_ld {all : List (List Int)} (hall : OkSecs all) {K : List Blk} {p k : Nat} {v : List Int} (hv : all[k]? = some v) (hb : K[p]? = some (.cells (secR all) y1 true)) (e : Option Nat) : aLoad true 16 ⟨K, e⟩ (.pointer (some ⟨p, k * 16, none⟩)) = some (.agg (byt v).toArray) := by
  have hk := q12 hv
  have hl := q184 hall
  have hm : (k + 1) * 16 ≤ all.length * 16 := Nat.mul_le_mul_right _ hk
  rw [q61]
  simp only [q35, hb]
  rw [if_pos (by omega)]
  have := q216 (all.map byt) (sec_rows hall).len k (byt v) (by simp [hv])
  simp only [secR, this, Option.map_some]
theorem own_ln (n p c : Nat) (st : AS) : aLen PP y13 (.slice (some ⟨p, 0, none⟩) n c) st = some (.int .i64 n) := sl_len y144

theorem met_loop (hA : OkHops A) {all : List (List Int)} (hall : OkSecs all) (h1 : all.length ≤ 1000) {x : Hop} (hx : OkHop x) (b : Bool) {n : Nat} (at_ : Int) {vs : List Value} {st : AS}
    (hg : gc 0 vs st = (rFr l at_ A all 0 1 b n 0, ⟨[.cells (secR all) y1 true, .cells (opk x) y2 true], none⟩)) :
    loopG 0 (twainref49_Values.loop10s (acall PP TT) loopG 0) (vs, st) =
      some (.exit 2, [tSl l.length (evR l), .int .i64 at_, .slice (some ⟨0, 0, none⟩) all.length (capN all.length), .pointer (some ⟨1, 0, none⟩), .bool (b || decide (x.v ∈ all)), tSl A.length (hopR A), .int .i64 A.length, .int .i64 n], ⟨[.cells (secR all) y1 true, .cells (opk x) y2 true], none⟩) := by
  have hlast : ¬ ((all.length : Int) < (all.length : Int)) := Int.lt_irrefl _
  obtain ⟨q, hlp, rfl⟩ := q173 (n0 := 0) (step := twainref49_Values.loop10s (acall PP TT) loopG 0) (len := all.length) (σ := Unit)
    (fun k _ => (rFr l at_ A all 0 1 (anyV all x.v b k) n k, ⟨[.cells (secR all) y1 true, .cells (opk x) y2 true], none⟩))
    (fun _ _ => True) (fun q => q = (.exit 2, [tSl l.length (evR l), .int .i64 at_, .slice (some ⟨0, 0, none⟩) all.length (capN all.length), .pointer (some ⟨1, 0, none⟩), .bool (anyV all x.v b all.length), tSl A.length (hopR A), .int .i64 A.length, .int .i64 n], ⟨[.cells (secR all) y1 true, .cells (opk x) y2 true], none⟩))
    (fun k _ hk _ => by
      have hk' : ((k : Int) < (all.length : Int)) := by omega
      obtain ⟨v, hv⟩ : ∃ v, all[k]? = some v := ⟨_, List.getElem?_eq_getElem hk⟩
      have hvo := hall v (List.mem_of_getElem? hv)
      have hix := own_ix (p := 0) (c := capN all.length) hk
      have hld := fun e => own_ld hall hv (show [Blk.cells (secR all) y1 true, .cells (opk x) y2 true][0]? = some (.cells (secR all) y1 true) from rfl) e
      have hw := q69 (n := k) (by omega)
      have hb0 := q269 [.cells (secR all) y1 true, .cells (opk x) y2 true] none
      have hs0 := y210 hvo.1 [.cells (secR all) y1 true, .cells (opk x) y2 true] none
      have hl1 := q160 hvo.1 none (show ([Blk.cells (secR all) y1 true, .cells (opk x) y2 true] ++ [.cells (byt v) y1 true])[2]? = some (.cells (byt v) y1 true) from rfl)
      have hl2 : aLoad true 16 ⟨[Blk.cells (secR all) y1 true, .cells (opk x) y2 true] ++ [.cells (byt v) y1 true], none⟩ (.pointer (some ⟨1, 1, none⟩)) = some (.agg (byt x.v).toArray) := by
        rw [q61]
        have hxl := y126 hx.v.1
        simp only [q35, List.cons_append, List.nil_append, List.getElem?_cons_succ, List.getElem?_cons_zero]
        rw [if_pos (by omega), opk_sec hx.v.1]
        rfl
      have heq : aBin PP .eql y1 (.tmp 45) (.tmp 47) (.agg (byt v).toArray) (.agg (byt x.v).toArray) = some (.bool (decide (v = x.v))) := by
        have heq := q193 (ox := .tmp 45) (oy := .tmp 47) flatSec (y255 hvo.1 hvo.2) (y255 hx.v.1 hx.v.2)
        by_cases h : v = x.v
        · rw [heq, h]; simp
        · have : ¬ byt v = byt x.v := fun he => h (byt_inj he)
          rw [heq]; simp [h, this]
      have hnx : anyV all x.v b (k + 1) = (anyV all x.v b k || decide (v = x.v)) := by simp [anyV, hv]
      rw [hnx]
      generalize anyV all x.v b k = m
      simp only [List.cons_append, List.nil_append, List.length_cons, List.length_nil, Nat.zero_add, Nat.reduceAdd] at hb0 hs0 hl1 hl2
      refine .inr ⟨rFr l at_ A all 0 1 (m || decide (v = x.v)) n (k + 1), ⟨[.cells (secR all) y1 true, .cells (opk x) y2 true, .cells (byt v) y1 true], none⟩, (), ?_, ?_, trivial⟩
      · cases m with
        | true => simp only [twainref49_Values.loop10s, twainref49_Values.loop10, twainref49_Values.j2, rFr, Option.bind_some, List.getD_cons_zero, List.getD_cons_succ, q65, hk', decide_true, y23, hix, hld, hb0, hs0, q108, hw, Bool.true_or]
        | false => simp only [twainref49_Values.loop10s, twainref49_Values.loop10, twainref49_Values.j2, rFr, Option.bind_some, List.getD_cons_zero, List.getD_cons_succ, q65, hk', decide_true, y23, q23, hix, hld, hb0, hs0, hl1, q80, Nat.zero_add, hl2, heq, q108, hw, Bool.false_or]
      · exact y115 (H0 := []) [[], [], []] [0, 1, 0] [0, 1] rfl rfl (by simp [rFr, q22, q29]) (by simp [y14, q39, y66, q36]) (by simp [rFr, lren, vren, rn, renum, y70, q41, q22, q29]) (by simp [y24, q55, y66, q39]))
    (fun _ _ => ⟨_, by simp only [twainref49_Values.loop10s, twainref49_Values.loop10, rFr, mach, Nat.reduceAdd, Nat.reduceLeDiff, Int.reduceEq, Int.reduceLT, Int.reduceLE, hlast], rfl⟩)
    all.length 0 () vs st (by omega) trivial (by rw [hg]; simp [anyV])
  rw [hlp, anyV_take, List.take_length]
end
end GH
end Go.Proofs.Ytfinilnkempofaa

end
section
namespace Go.Proofs.Ytfinilnkempofaa
open Go Go.Am Go.Reg
namespace GH

section
variable {l : List Ev} {A : List Hop}

theorem app_secs0 {l : List (List Int)} (hl : OkSecs l) (h1 : 1 ≤ l.length) (hm : l.length ≤ 60000) {v : List Int} (hv : v.length = 16) {o : Blk} :
    ∃ d : Blk, (d = .dead ∨ d = .cells (secR l) y1 true) ∧ ∀ (R : Type) (F : Value → AS → Option R), y16 PP .append #[y13, y13] [.slice (some ⟨0, 0, none⟩) l.length (capN l.length), .slice (some ⟨2, 0, none⟩) 1 1] ⟨[.cells (secR l) y1 true, o, .cells (byt v) y1 true], none⟩ F =
      F (.slice (some ⟨3, 0, none⟩) (l.length + 1) UNK) ⟨[d, o, .cells (byt v) y1 true, .cells (secR (l ++ [v])) y1 true], none⟩ := by
  have hsrc : y53 16 [.cells (secR l) y1 true, o, .cells (byt v) y1 true] (.slice (some ⟨2, 0, none⟩) 1 1) = some (1, byt v) := q328 (H0 := []) (l := [.cells (secR l) y1 true, o, .cells (byt v) y1 true]) (k := 2) rfl (by simp [byt, hv])
  by_cases hc : l.length = 1
  · refine ⟨.cells (secR l) y1 true, .inr rfl, fun R F => ?_⟩
    have hcn : capN l.length = 1 := by simp [capN, hc]
    rw [hcn, q347 (P := PP) (st := ⟨[.cells (secR l) y1 true, o, .cells (byt v) y1 true], none⟩) (k := F) (n := l.length) (old := secR l) (o := true) y120 rfl (q184 hl) hsrc (by omega) (by omega) (by omega), y241]
    simp
  · refine ⟨.dead, .inl rfl, fun R F => ?_⟩
    have hcn : capN l.length = UNK := by simp [capN, hc]
    rw [hcn, q311 (P := PP) (st := ⟨[.cells (secR l) y1 true, o, .cells (byt v) y1 true], none⟩) (k := F) (m := l.length) (old := secR l) y120 rfl (q184 hl) hsrc (by omega) (by omega), y241]
    simp

def sFr (l : List Ev) (at_ : Int) (A : List Hop) (all : List (List Int)) (n : Nat) : List Value :=
  [tSl l.length (evR l), .int .i64 at_, .slice (some ⟨0, 0, none⟩) all.length (capN all.length), tSl A.length (hopR A), .int .i64 A.length, .int .i64 n]

theorem rvals_loop (hA : OkHops A) (hm : A.length ≤ 900) (at_ : Int) :
    loopG 0 (twainref49_Values.loop6s (acall PP TT) loopG 0) (sFr l at_ A [z16] 0, ⟨[.cells (secR [z16]) y1 true], none⟩) =
      some (.exit 0, [tSl l.length (evR l), .int .i64 at_, .slice (some ⟨0, 0, none⟩) (valsN A A.length).length (capN (valsN A A.length).length)], ⟨[.cells (secR (valsN A A.length)) y1 true], none⟩) := by
  have hlast : ¬ ((A.length : Int) < (A.length : Int)) := Int.lt_irrefl _
  obtain ⟨q, hlp, rfl⟩ := q173 (n0 := 0) (step := twainref49_Values.loop6s (acall PP TT) loopG 0) (len := A.length) (σ := Unit)
    (fun n _ => (sFr l at_ A (valsN A n) n, ⟨[.cells (secR (valsN A n)) y1 true], none⟩))
    (fun _ _ => True) (fun q => q = (.exit 0, [tSl l.length (evR l), .int .i64 at_, .slice (some ⟨0, 0, none⟩) (valsN A A.length).length (capN (valsN A A.length).length)], ⟨[.cells (secR (valsN A A.length)) y1 true], none⟩))
    (fun n _ hn _ => by
      have hn' : ((n : Int) < (A.length : Int)) := by omega
      obtain ⟨x, hx⟩ : ∃ x, A[n]? = some x := ⟨_, List.getElem?_eq_getElem hn⟩
      have hxo := hA x (List.mem_of_getElem? hx)
      have hix := ix_rop (A := A) hn
      have hld := fun st => y265 hA hx st
      have hw := q69 (n := n) (by omega)
      have hxl := y126 hxo.v.1
      have hxw := opk_w x
      obtain ⟨hlo, h1, h2⟩ := q268 hA n
      have hnx : valsN A (n + 1) = if x.w = true ∧ ¬ x.v ∈ valsN A n then valsN A n ++ [x.v] else valsN A n := by simp [valsN, hx]
      rw [hnx]
      generalize valsN A n = all at hlo h1 h2
      let K : List Blk := [.cells (secR all) y1 true]
      have hb0 : aBox y2 ((zeroP PP y2).getD unk) ⟨[.cells (secR all) y1 true], none⟩ = some (.pointer (some ⟨1, 0, none⟩), ⟨[.cells (secR all) y1 true, .cells z_twainref36_Op y2 true], none⟩) := by
        rw [y73]
        exact y56 (H := [.cells (secR all) y1 true]) q74
      have hs0 : q43 19 ⟨[.cells (secR all) y1 true, .cells z_twainref36_Op y2 true], none⟩ (.pointer (some ⟨1, 0, none⟩)) (.agg (opk x).toArray) = some ⟨[.cells (secR all) y1 true, .cells (opk x) y2 true], none⟩ := by
        rw [q54 hxl]
        simp only [q71, List.getElem?_cons_succ, List.getElem?_cons_zero]
        rw [if_pos ⟨by rw [hxl]; decide, y60 x⟩, q9 (by rw [hxl]; rfl)]
        simp [q39, escOf]
      have hlw : aLoad false 1 ⟨[.cells (secR all) y1 true, .cells (opk x) y2 true], none⟩ (.pointer (some ⟨1, 0, none⟩)) = some (.bool x.w) := by
        rw [y55]
        simp only [y76, List.getElem?_cons_succ, List.getElem?_cons_zero, hxw]
      have hlv : aLoad true 16 ⟨[.cells (secR all) y1 true, .cells (opk x) y2 true], none⟩ (.pointer (some ⟨1, 1, none⟩)) = some (.agg (byt x.v).toArray) := by
        rw [q61]
        simp only [q35, List.getElem?_cons_succ, List.getElem?_cons_zero]
        rw [if_pos (by omega), opk_sec hxo.v.1]
        rfl
      have hln := fun st => own_ln all.length 0 (capN all.length) st
      have hin := met_loop (l := l) (A := A) hA hlo (by omega) hxo (!x.w) (n := n) at_ (vs := rFr l at_ A all 0 1 (!x.w) n 0) (st := ⟨[.cells (secR all) y1 true, .cells (opk x) y2 true], none⟩)
        (y115 (H0 := []) [[], []] [0, 1, 0] [0, 1] rfl rfl (by simp [rFr, q22, q29]) (by simp [y14, q39, y66]) (by simp [rFr, lren, vren, rn, renum, y70, q41, q22, q29]) (by simp [y24, q55, y66, q39]))
      simp only [rFr, Int.ofNat_zero] at hin
      have hbs : bsl PP y13 1 [0] [.agg (byt x.v).toArray] ⟨[.cells (secR all) y1 true, .cells (opk x) y2 true], none⟩ = some (.slice (some ⟨2, 0, none⟩) 1 1, ⟨[.cells (secR all) y1 true, .cells (opk x) y2 true, .cells (byt x.v) y1 true], none⟩) := q322 hxo.v.1 _ _
      obtain ⟨d, hd, hap⟩ := app_secs0 hlo h1 (by omega) hxo.v.1 (o := .cells (opk x) y2 true)
      have same : ∀ k : Nat, gc 0 (sFr l at_ A all k) ⟨[.cells (secR all) y1 true, .cells (opk x) y2 true], none⟩ = (sFr l at_ A all k, ⟨[.cells (secR all) y1 true], none⟩) := fun k =>
        y115 (H0 := []) [[], []] [0] [0] rfl rfl (by simp [sFr, q22, q29]) (by simp [y14, q39, y66]) (by simp [sFr, lren, vren, rn, renum, y70, q41, q22, q29]) (by simp [y24, q55, y66])
      refine .inr ?_
      by_cases hc : x.w = true ∧ ¬ x.v ∈ all
      · rw [if_pos hc]
        have hb : (!x.w || decide (x.v ∈ all)) = false := by simp [hc.1, hc.2]
        rw [hb] at hin
        have hc2 : capN (all ++ [x.v]).length = UNK := by unfold capN; rw [if_neg (by rw [List.length_append, List.length_singleton]; omega)]
        refine ⟨[tSl l.length (evR l), .int .i64 at_, .slice (some ⟨3, 0, none⟩) (all.length + 1) UNK, tSl A.length (hopR A), .int .i64 A.length, .int .i64 ((n + 1 : Nat) : Int)], ⟨[d, .cells (opk x) y2 true, .cells (byt x.v) y1 true, .cells (secR (all ++ [x.v])) y1 true], none⟩, (), ?_, ?_, trivial⟩
        · simp only [twainref49_Values.loop6s, twainref49_Values.loop6, twainref49_Values.j4, twainref49_Values.j5, sFr, Option.bind_some, List.getD_cons_zero, List.getD_cons_succ, q65, hn', decide_true, y23, q23, hix, hld, hb0, hs0, y82, q80, Nat.zero_add, hlw, q187, hln, hin, if_true, Bool.not_false, hlv, hbs, hap, q108, hw]
        · have hdr : q40 d = [] := by
            rcases hd with rfl | rfl
            · exact y106
            · rw [y14, y66]
          have hsf : sFr l at_ A (all ++ [x.v]) (n + 1) = [tSl l.length (evR l), .int .i64 at_, .slice (some ⟨0, 0, none⟩) (all ++ [x.v]).length UNK, tSl A.length (hopR A), .int .i64 A.length, .int .i64 ((n + 1 : Nat) : Int)] := by
            unfold sFr
            rw [hc2]
          rw [hsf]
          exact y115 (H0 := []) [[], [], [], []] [3] [3] rfl rfl (by simp [q22, q29]) (by simp [y14, q39, y66, q36, hdr]) (by simp [lren, vren, rn, renum, y70, q41, q22, q29]) (by simp [y24, q55, y66])
      · rw [if_neg hc]
        have hb : (!x.w || decide (x.v ∈ all)) = true := by
          cases hxb : x.w with
          | false => rfl
          | true =>
            have : x.v ∈ all := Classical.byContradiction fun h => hc ⟨hxb, h⟩
            simp [this]
        rw [hb] at hin
        refine ⟨_, _, (), ?_, same (n + 1), trivial⟩
        simp only [twainref49_Values.loop6s, twainref49_Values.loop6, twainref49_Values.j4, twainref49_Values.j5, sFr, Option.bind_some, List.getD_cons_zero, List.getD_cons_succ, q65, hn', decide_true, y23, q23, hix, hld, hb0, hs0, y82, q80, Nat.zero_add, hlw, q187, hln, hin, if_true, Bool.not_true, q108, hw])
    (fun _ _ => ⟨_, by simp only [twainref49_Values.loop6s, twainref49_Values.loop6, sFr, mach, Nat.reduceAdd, Nat.reduceLeDiff, Int.reduceEq, Int.reduceLT, Int.reduceLE, hlast], rfl⟩)
    A.length 0 () (sFr l at_ A [z16] 0) ⟨[.cells (secR [z16]) y1 true], none⟩ (by omega) trivial (by
      exact y115 (H0 := []) [[]] [0] [0] rfl rfl (by simp [sFr, q22, q29]) (by simp [y14, y66]) (by simp [sFr, lren, vren, rn, renum, y70, q41, q22, q29, valsN]) (by simp [y24, q55, y66, valsN]))
  exact hlp

theorem fin_rowS2 {l : List (List Int)} (hl : OkSecs l) (b : Bool) : fin PP false 0 [rowS l, .bool b] ⟨blkS l, none⟩ = some (.tuple #[tSl l.length (secR l), .bool b], [], none) := by
  cases l with
  | nil => exact y318 (P := PP) (H0 := []) (l := []) (vs := [.slice none 0 0, .bool b]) (vs' := [tSl 0 [], .bool b]) (l' := []) (e := none) (by simp [frzL, frz]) (by simp) rfl
  | cons a tl =>
    have hf := frz_own0 (P := PP) (H0 := []) (l := [.cells (secR (a :: tl)) y1 true]) (q := 7) (n := (a :: tl).length) (c := UNK) (sz := 16) (cs := secR (a :: tl)) (t := y1) rfl y141 (q184 hl) (q283 _)
    exact y318 (P := PP) (H0 := []) (l := [.cells (secR (a :: tl)) y1 true]) (vs := [.slice (some ⟨0, 0, none⟩) (a :: tl).length UNK, .bool b]) (vs' := [tSl (a :: tl).length (secR (a :: tl)), .bool b]) (l' := [.dead]) (e := none) (by
      simp only [frzL]
      rw [show (⟨0, 0, none⟩ : Addr) = ⟨([] : List Blk).length, 0, none⟩ from rfl, hf]
      rfl) (by simp [y66]) rfl

theorem rtold_loop (hl : OkEvs l) (h6 : l.length < 60000) {at_ : Int} (hat : isI at_) (hAe : opsL (y72 l) l at_ l.length = A) (hA : OkHops A) (hs : y261 A) (hm : A.length ≤ 59) {all : List (List Int)} (hall : OkSecs all) (hlen : all.length ≤ 100) {vs : List Value} {st : AS}
    (hg : gc 0 vs st = ([tSl l.length (evR l), .int .i64 at_, .slice none 0 0, .bool true, tSl all.length (secR all), .int .i64 all.length, .int .i64 0], ⟨[], none⟩)) :
    ∃ (out : List (List Int)) (kn : Bool), loopG 0 (twainref49_Values.loop20s (acall PP TT) loopG 0) (vs, st) = some (.exit 4, [rowS out, .bool kn], ⟨blkS out, none⟩) ∧ OkSecs out ∧ (kn = true → out = keepH A all) := by
  have hlast : ¬ ((all.length : Int) < (all.length : Int)) := Int.lt_irrefl _
  obtain ⟨q, hlp, out, kn, rfl, h1, h2⟩ := q173 (n0 := 0) (step := twainref49_Values.loop20s (acall PP TT) loopG 0) (len := all.length) (σ := List (List Int) × Bool)
    (fun n s => ([tSl l.length (evR l), .int .i64 at_, rowS s.1, .bool s.2, tSl all.length (secR all), .int .i64 all.length, .int .i64 n], ⟨blkS s.1, none⟩))
    (fun n s => OkSecs s.1 ∧ s.1.length ≤ n ∧ (s.2 = true → s.1 = keepH A (all.take n)))
    (fun q => ∃ (out : List (List Int)) (kn : Bool), q = (.exit 4, [rowS out, .bool kn], ⟨blkS out, none⟩) ∧ OkSecs out ∧ (kn = true → out = keepH A all))
    (fun n s hn ho => by
      obtain ⟨out, kn0⟩ := s
      obtain ⟨hoko, hlo, hkeq⟩ := ho
      simp only at hoko hlo hkeq
      have hn' : ((n : Int) < (all.length : Int)) := by omega
      obtain ⟨v, hv⟩ : ∃ v, all[n]? = some v := ⟨_, List.getElem?_eq_getElem hn⟩
      have hvo := hall v (List.mem_of_getElem? hv)
      have hix := ix_secs hn
      have hld := fun st => ld_secs hall hv st
      have hw := q69 (n := n) (by omega)
      have htk : all.take (n + 1) = all.take n ++ [v] := y198 hv
      obtain ⟨ok, kn, H', e, hr, hk, hi⟩ := y355 hl h6 hat hAe hA hs hm hvo.1 hvo.2 (blkS out ++ [.cells (byt v) y1 true])
      have hkeep : ∀ b, (blkS out)[0]? = some b → H'[0]? = some b := fun b hb => by
        have hlt := q12 hb
        rw [hk.pre 0 (by simp), List.getElem?_append_left hlt]
        exact hb
      have hbox : H'[(blkS out).length]? = some (.cells (byt v) y1 true) := by
        rw [hk.pre _ (by simp), q101]; rfl
      have hl1 := q160 hvo.1 none (show (blkS out ++ [.cells (byt v) y1 true])[(blkS out).length]? = some (.cells (byt v) y1 true) by rw [q101]; rfl)
      have hl2 := q160 hvo.1 (y8 none e) hbox
      obtain ⟨K2, hK2, hap⟩ := app_sec0 hoko (by omega) hvo.1 (e := y8 none e) hkeep
      have hbs := q322 hvo.1 H' (y8 none e)
      refine .inr ?_
      have hb0 := q269 (blkS out) none
      have hs0 := y210 hvo.1 (blkS out) none
      have hgc := fun b : Bool => gc_rowS (e := y8 none e) hkeep (us := [tSl l.length (evR l), .int .i64 at_]) (ws := [.bool b, tSl all.length (secR all), .int .i64 all.length, .int .i64 ((n + 1 : Nat) : Int)]) (by simp [q22]) (by simp [y66])
      have hgc2 := fun b : Bool => gc_rowS2 (e := y8 none e) hK2 (us := [tSl l.length (evR l), .int .i64 at_]) (ws := [.bool b, tSl all.length (secR all), .int .i64 all.length, .int .i64 ((n + 1 : Nat) : Int)]) (by simp [q22]) (by simp [y66])
      have hkn : (kn0 && kn) = true → (if ok = true then out ++ [v] else out) = keepH A (all.take (n + 1)) := fun h => by
        simp only [Bool.and_eq_true] at h
        rw [htk, q360 ok (hi h.2), ← hkeq h.1]
      generalize hKe : blkS out = K at hkeep hl1 hb0 hs0 hr hl2 hgc
      cases ok with
      | true =>
        simp only [if_true] at hkn
        refine ⟨[tSl l.length (evR l), .int .i64 at_, .slice (some ⟨H'.length + 1, 0, none⟩) (out.length + 1) UNK, .bool (kn0 && kn), tSl all.length (secR all), .int .i64 all.length, .int .i64 ((n + 1 : Nat) : Int)], ⟨K2, y8 none e⟩, (out ++ [v], kn0 && kn), ?_, ?_, hoko.snoc hvo, by simp; omega, hkn⟩
        · cases kn0 <;> simp only [twainref49_Values.loop20s, twainref49_Values.loop20, twainref49_Values.j9, twainref49_Values.j10, Option.bind_some, List.getD_cons_zero, List.getD_cons_succ, q65, hn', decide_true, y23, q23, hix, hld, hKe, hb0, hs0, hl1, hr, ext30, ext31, ext32, hl2, hbs, hap, q108, hw, Bool.true_and, Bool.false_and]
        · exact hgc2 (kn0 && kn)
      | false =>
        simp only [Bool.false_eq_true, if_false] at hkn
        refine ⟨[tSl l.length (evR l), .int .i64 at_, rowS out, .bool (kn0 && kn), tSl all.length (secR all), .int .i64 all.length, .int .i64 ((n + 1 : Nat) : Int)], ⟨H', y8 none e⟩, (out, kn0 && kn), ?_, ?_, hoko, by simp only; omega, hkn⟩
        · cases kn0 <;> simp only [twainref49_Values.loop20s, twainref49_Values.loop20, twainref49_Values.j9, twainref49_Values.j10, Option.bind_some, List.getD_cons_zero, List.getD_cons_succ, q65, hn', decide_true, y23, q23, hix, hld, hKe, hb0, hs0, hl1, hr, ext30, ext31, ext32, q108, hw, Bool.true_and, Bool.false_and]
        · simp only [hKe]; exact hgc (kn0 && kn))
    (fun s ho => ⟨_, by simp only [twainref49_Values.loop20s, twainref49_Values.loop20, mach, Nat.reduceAdd, Nat.reduceLeDiff, Int.reduceEq, Int.reduceLT, Int.reduceLE, hlast], s.1, s.2, rfl, ho.1, fun h => by have := ho.2.2 h; rwa [List.take_length] at this⟩)
    all.length 0 ([], true) vs st (by omega) ⟨fun v hv => by simp at hv, by simp, fun _ => by simp [keepH]⟩ (by rw [hg]; simp [rowS, blkS])
  exact ⟨out, kn, hlp, h1, h2⟩

theorem rvalues_ok (hl : OkEvs l) (h6 : l.length < 60000) {at_ : Int} (hat : isI at_) (hAe : opsL (y72 l) l at_ l.length = A) (hA : OkHops A) (hs : y261 A) (hm : A.length ≤ 59) :
    ∃ (out : List (List Int)) (kn : Bool), acall PP TT y103 [tSl l.length (evR l), .int .i64 at_] [] = some (.tuple #[tSl out.length (secR out), .bool kn], [], none) ∧ OkSecs out ∧ (kn = true → out = keepH A (valsN A A.length)) := by
  have hro := fun H => rops_ok hl h6 hat H
  rw [hAe] at hro
  obtain ⟨hall, h1, h2⟩ := q268 hA A.length
  have hlp := rvals_loop (l := l) hA (by omega) at_
  have hlt : ¬ (A.length : Int) > 59 := by omega
  have hbs : bsl PP y13 1 [0] [.agg (byt z16).toArray] ⟨[], none⟩ = some (.slice (some ⟨0, 0, none⟩) 1 1, ⟨[.cells (byt z16) y1 true], none⟩) := q322 z16_n [] none
  have hf : jFrz PP 0 [tSl l.length (evR l), .int .i64 at_, .slice (some ⟨0, 0, none⟩) (valsN A A.length).length (capN (valsN A A.length).length)] ⟨[.cells (secR (valsN A A.length)) y1 true], none⟩ true = ([tSl l.length (evR l), .int .i64 at_, tSl (valsN A A.length).length (secR (valsN A A.length))], ⟨[.dead], none⟩) := by
    have hf := frz_own0 (P := PP) (H0 := []) (l := [.cells (secR (valsN A A.length)) y1 true]) (cs := secR (valsN A A.length)) (t := y1) (q := 7) (n := (valsN A A.length).length) (c := capN (valsN A A.length).length) (sz := 16) rfl y141 (q184 hall) (q283 _)
    simp only [List.length_nil, Nat.zero_add, List.nil_append, Nat.reduceAdd] at hf
    unfold jFrz
    simp only [frzL, y107 0 8 (tSl l.length (evR l)) _ rfl, y107 0 8 (.int .i64 at_) _ rfl, hf]
    rfl
  obtain ⟨out, kn, hlp2, ho, hk⟩ := rtold_loop hl h6 hat hAe hA hs hm hall (by omega) (vs := [tSl l.length (evR l), .int .i64 at_, .slice none 0 0, .bool true, tSl (valsN A A.length).length (secR (valsN A A.length)), .int .i64 (valsN A A.length).length, .int .i64 0]) (st := ⟨[.dead], none⟩) (gc0 (by simp [q22, y66]))
  have hfin := fin_rowS2 ho kn
  have hls := ln_secs (valsN A A.length)
  have hc1 : capN 1 = 1 := rfl
  simp only [sFr, List.length_nil, List.nil_append, Nat.zero_add, List.length_cons, hc1, secR_one, Int.ofNat_zero] at hlp
  refine ⟨out, kn, ?_, ho, hk⟩
  rw [y22, twainref49_Values.eq]
  simp only [twainref49_Values.sh, hro, mach, Nat.reduceAdd, Nat.reduceLeDiff, Int.reduceEq, Int.reduceLT, Int.reduceLE, ln_rop, hlt, q186, hbs, hlp, hf, twainref49_Values.j7, hls, hlp2, twainref49_Values.j12]
  exact hfin
end
end GH
end Go.Proofs.Ytfinilnkempofaa

end
