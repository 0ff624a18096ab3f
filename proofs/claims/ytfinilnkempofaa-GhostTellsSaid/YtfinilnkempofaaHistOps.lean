/- A part of the proof: HistOps, HistOps2, HistOps3. Its conditions: none. -/
import Derived.Test.YtfinilnkempofaaHistProg
set_option linter.all false
set_option linter.unusedVariables false
set_option linter.unusedSimpArgs false
set_option linter.unnecessarySimpa false
section
namespace Go.Proofs.Ytfinilnkempofaa
open Go Go.Am

/-- a read or a write of one sector -/
structure Hop where
  w : Bool
  v : List Int
  f : Int
  t : Int

def opk (x : Hop) : List Value := .bool x.w :: (byt x.v ++ [.int .i64 x.f, .int .i64 x.t])
structure OkHop (x : Hop) : Prop where
  v : x.v.length = 16 ∧ ∀ b ∈ x.v, 0 ≤ b ∧ b < 256
  f : isI x.f
  t : isI x.t

section
variable {x : Hop} (h : x.v.length = 16)
include h
theorem y126 : (opk x).length = 19 := by simp [opk, byt, h]
theorem opk_t : (opk x)[18]? = some (.int .i64 x.t) := by
  simp only [opk, List.getElem?_cons_succ]
  rw [List.getElem?_append_right (by simp [byt, h])]
  simp [byt, h]
theorem opk_put {v : List Int} (hv : v.length = 16) : q49 (opk x) 1 (byt v) = opk { x with v := v } := by
  simp only [opk, q273]
  rw [putCells_app (by simp [byt, h, hv])]
end
theorem opk_w (x : Hop) : (opk x)[0]? = some (.bool x.w) := by simp [opk]
theorem q39 (x : Hop) : lrefs (opk x) = [] := by simp [opk, q36]
theorem y60 (x : Hop) : q16 (opk x) = true := by
  have h1 := y74 x.v
  unfold q16 at h1 ⊢
  simp only [opk, List.all_cons, List.all_append, h1]
  simp
theorem y297 (x : Hop) : (opk x).all noSl = true := by
  simp only [opk, List.all_cons, List.all_append, q194]
  simp [noSl]

theorem bd_rop (w : Bool) (f t : Int) : q89 PP y2 [(0, .bool w), (2, .int .i64 f), (3, .int .i64 t)] = some (.agg (opk ⟨w, z16, f, t⟩).toArray) := by kernel_rfl
theorem y257 (w : Bool) (f t : Int) : q89 PP y4 [(0, .bool w), (2, .int .i64 f), (3, .int .i64 t)] = some (.agg (opk ⟨w, z16, f, t⟩).toArray) := by kernel_rfl
theorem z16_n : z16.length = 16 := by simp [z16]

theorem v16 {v : List Int} (h : v.length = 16) : ∃ a0 a1 a2 a3 a4 a5 a6 a7 a8 a9 a10 a11 a12 a13 a14 a15, v = [a0, a1, a2, a3, a4, a5, a6, a7, a8, a9, a10, a11, a12, a13, a14, a15] := by
  match v, h with
  | [a0, a1, a2, a3, a4, a5, a6, a7, a8, a9, a10, a11, a12, a13, a14, a15], _ => exact ⟨a0, a1, a2, a3, a4, a5, a6, a7, a8, a9, a10, a11, a12, a13, a14, a15, rfl⟩

theorem bsl_rop {x : Hop} (h : x.v.length = 16) (H : List Blk) (e : Option Nat) : bsl PP y7 1 [0] [.agg (opk x).toArray] ⟨H, e⟩ = some (.slice (some ⟨H.length, 0, none⟩) 1 1, ⟨H ++ [.cells (opk x) y2 true], e⟩) := by
  obtain ⟨w, v, f, t⟩ := x
  obtain ⟨a0, a1, a2, a3, a4, a5, a6, a7, a8, a9, a10, a11, a12, a13, a14, a15, rfl⟩ := v16 h
  clear h
  unfold bsl
  have hfl : frzL (frz PP 0 8) [Value.agg (opk ⟨w, [a0, a1, a2, a3, a4, a5, a6, a7, a8, a9, a10, a11, a12, a13, a14, a15], f, t⟩).toArray] H = ([Value.agg (opk ⟨w, [a0, a1, a2, a3, a4, a5, a6, a7, a8, a9, a10, a11, a12, a13, a14, a15], f, t⟩).toArray], H) := q126 _ _ _ _ (by simp [flatV, y297])
  simp only [hfl]
  refine Eq.trans (b := some (aRow y2 (opk ⟨w, [a0, a1, a2, a3, a4, a5, a6, a7, a8, a9, a10, a11, a12, a13, a14, a15], f, t⟩) 1 1 ⟨H, e⟩)) ?_ rfl
  clear hfl
  kernel_rfl
theorem bsl_pop {x : Hop} (h : x.v.length = 16) (H : List Blk) (e : Option Nat) : bsl PP y9 1 [0] [.agg (opk x).toArray] ⟨H, e⟩ = some (.slice (some ⟨H.length, 0, none⟩) 1 1, ⟨H ++ [.cells (opk x) y4 true], e⟩) := by
  obtain ⟨w, v, f, t⟩ := x
  obtain ⟨a0, a1, a2, a3, a4, a5, a6, a7, a8, a9, a10, a11, a12, a13, a14, a15, rfl⟩ := v16 h
  clear h
  unfold bsl
  have hfl : frzL (frz PP 0 8) [Value.agg (opk ⟨w, [a0, a1, a2, a3, a4, a5, a6, a7, a8, a9, a10, a11, a12, a13, a14, a15], f, t⟩).toArray] H = ([Value.agg (opk ⟨w, [a0, a1, a2, a3, a4, a5, a6, a7, a8, a9, a10, a11, a12, a13, a14, a15], f, t⟩).toArray], H) := q126 _ _ _ _ (by simp [flatV, y297])
  simp only [hfl]
  refine Eq.trans (b := some (aRow y4 (opk ⟨w, [a0, a1, a2, a3, a4, a5, a6, a7, a8, a9, a10, a11, a12, a13, a14, a15], f, t⟩) 1 1 ⟨H, e⟩)) ?_ rfl
  clear hfl
  kernel_rfl

/-! ### Rows of them -/

def hopR (A : List Hop) : List Value := (A.map opk).flatten
def OkHops (A : List Hop) : Prop := ∀ x ∈ A, OkHop x
theorem y350 {A : List Hop} (h : OkHops A) : RowsOf 19 (A.map opk) := by
  have key : ∀ r ∈ A.map opk, ∃ x, OkHop x ∧ r = opk x := fun r hr => by
    obtain ⟨x, hx, rfl⟩ := List.mem_map.1 hr
    exact ⟨x, h x hx, rfl⟩
  refine ⟨fun r hr => ?_, fun r hr => ?_, fun r hr => ?_, fun r hr => ?_⟩ <;> obtain ⟨x, hx, rfl⟩ := key r hr
  · exact y126 hx.v.1
  · exact q39 x
  · exact y60 x
  · exact y297 x
theorem q29 (A : List Hop) : lrefs (hopR A) = [] := by
  induction A with
  | nil => rfl
  | cons x xs ih => simp only [hopR, List.map_cons, List.flatten_cons, lrefs_app, q39] at ih ⊢; simpa using ih
theorem y246 (A : List Hop) : (hopR A).all noSl = true := by
  induction A with
  | nil => rfl
  | cons x xs ih => simp only [hopR, List.map_cons, List.flatten_cons, List.all_append, y297] at ih ⊢; simpa using ih
theorem q166 {A : List Hop} (h : OkHops A) : (hopR A).length = A.length * 19 := by
  have := (y350 h).flen
  simpa [hopR] using this
theorem y283 (A : List Hop) (x : Hop) : hopR A ++ opk x = hopR (A ++ [x]) := by simp [hopR]
theorem OkHops.snoc {A : List Hop} {x : Hop} (hA : OkHops A) (hx : OkHop x) : OkHops (A ++ [x]) := fun y hy => by
  rcases List.mem_append.1 hy with h | h
  · exact hA y h
  · simp at h; subst h; exact hx

def rowH (n0 : Nat) (A : List Hop) : Value := match A with | [] => .slice none 0 0 | _ :: tl => .slice (some ⟨n0, 0, none⟩) (tl.length + 1) UNK

section
variable {H : List Blk}
theorem y232 {L : List Blk} {e : Option Nat} {x : Hop} (hx : x.v.length = 16) {R : Type} {F : Value → AS → Option R} :
    ((bsl PP y7 1 [0] [.agg (opk x).toArray] ⟨H ++ L, e⟩).bind fun q => y16 PP .append #[y7, y7] [.slice none 0 0, q.1] q.2 F) = F (.slice (some ⟨H.length + (L.length + 1), 0, none⟩) 1 UNK) ⟨H ++ (L ++ [.cells (opk x) y2 true, .cells (opk x) y2 true]), e⟩ :=
  q358 y91 (y126 hx) (bsl_rop hx)
theorem push_rop {A : List Hop} (hA : OkHops A) (hm : A.length ≤ 65535) {L : List Blk} {e : Option Nat} {x : Hop} (hx : x.v.length = 16) {R : Type} {F : Value → AS → Option R} (hk : L[0]? = some (.cells (hopR A) y2 true)) :
    ((bsl PP y7 1 [0] [.agg (opk x).toArray] ⟨H ++ L, e⟩).bind fun q => y16 PP .append #[y7, y7] [.slice (some ⟨H.length, 0, none⟩) A.length UNK, q.1] q.2 F) = F (.slice (some ⟨H.length + (L.length + 1), 0, none⟩) (A.length + 1) UNK) ⟨H ++ (L.set 0 .dead ++ [.cells (opk x) y2 true, .cells (hopR (A ++ [x])) y2 true]), e⟩ := by
  rw [← y283]
  exact y239 y91 (y126 hx) (bsl_rop hx) hk (q166 hA) hm
theorem q201 {L : List Blk} {e : Option Nat} {x : Hop} (hx : x.v.length = 16) {R : Type} {F : Value → AS → Option R} :
    ((bsl PP y9 1 [0] [.agg (opk x).toArray] ⟨H ++ L, e⟩).bind fun q => y16 PP .append #[y9, y9] [.slice none 0 0, q.1] q.2 F) = F (.slice (some ⟨H.length + (L.length + 1), 0, none⟩) 1 UNK) ⟨H ++ (L ++ [.cells (opk x) y4 true, .cells (opk x) y4 true]), e⟩ :=
  q358 y179 (y126 hx) (bsl_pop hx)
theorem y345 {A : List Hop} (hA : OkHops A) (hm : A.length ≤ 65535) {L : List Blk} {e : Option Nat} {x : Hop} (hx : x.v.length = 16) {R : Type} {F : Value → AS → Option R} (hk : L[0]? = some (.cells (hopR A) y4 true)) :
    ((bsl PP y9 1 [0] [.agg (opk x).toArray] ⟨H ++ L, e⟩).bind fun q => y16 PP .append #[y9, y9] [.slice (some ⟨H.length, 0, none⟩) A.length UNK, q.1] q.2 F) = F (.slice (some ⟨H.length + (L.length + 1), 0, none⟩) (A.length + 1) UNK) ⟨H ++ (L.set 0 .dead ++ [.cells (opk x) y4 true, .cells (hopR (A ++ [x])) y4 true]), e⟩ := by
  rw [← y283]
  exact y239 y179 (y126 hx) (bsl_pop hx) hk (q166 hA) hm
end

/-! ### What an event is to a sector -/

/-- is event x a read or a write of the sector? -/
def y278 (x : Ev) (at_ : Int) : Bool := decide (x.kind = 0) && (decide (x.rk = 0) || decide (x.rk = 1)) && meetB x.off x.len at_ 1

/-- the op of event n, if any; E: when what was asked at a place ended -/
def opD (E : Nat → Int) (l : List Ev) (at_ : Int) (n : Nat) : Option Hop := match l[n]? with
  | none => none
  | some x => if y278 x at_ = true then
      if x.rk = 1 then some ⟨true, secI x.rd (at_ - x.off).toNat, n, E n⟩
      else if E n < 0 then none
      else match l[(E n).toNat]? with
        | some y => some ⟨false, secI y.d (at_ - x.off).toNat, n, E n⟩
        | none => none
    else none

def opsL (E : Nat → Int) (l : List Ev) (at_ : Int) : Nat → List Hop
  | 0 => []
  | n + 1 => match opD E l at_ n with
    | some x => opsL E l at_ n ++ [x]
    | none => opsL E l at_ n

theorem opD_ok {E : Nat → Int} {l : List Ev} (hl : OkEvs l) (hm : l.length < 1000000) (hE : ∀ n, isI (E n)) {at_ : Int} {n : Nat} {h : Hop} (hd : opD E l at_ n = some h) : OkHop h := by
  unfold opD at hd
  split at hd
  · simp at hd
  · rename_i x hx
    have hn := q12 hx
    have hxo := hl x (List.mem_of_getElem? hx)
    split at hd
    · split at hd
      · simp at hd; subst hd
        exact ⟨⟨y182 _ _, y327 hxo.rd _⟩, by unfold isI; simp only; omega, hE n⟩
      · split at hd
        · simp at hd
        · split at hd
          · rename_i y hy
            simp at hd; subst hd
            exact ⟨⟨y182 _ _, y327 (hl y (List.mem_of_getElem? hy)).d _⟩, by unfold isI; simp only; omega, hE n⟩
          · simp at hd
    · simp at hd

theorem opsL_ok {E : Nat → Int} {l : List Ev} (hl : OkEvs l) (hm : l.length < 1000000) (hE : ∀ n, isI (E n)) (at_ : Int) : ∀ n, OkHops (opsL E l at_ n) ∧ (opsL E l at_ n).length ≤ n
  | 0 => ⟨fun x hx => by simp [opsL] at hx, by simp [opsL]⟩
  | n + 1 => by
    obtain ⟨h1, h2⟩ := opsL_ok hl hm hE at_ n
    simp only [opsL]
    cases hd : opD E l at_ n with
    | none => exact ⟨h1, by simp only; omega⟩
    | some x => exact ⟨h1.snoc (opD_ok hl hm hE hd), by simp; omega⟩

theorem meet_in {o n a : Int} (h : meetB o n a 1 = true) : o ≤ a ∧ a < o + n ∧ 0 ≤ o ∧ n ≤ 1073741824 ∧ a - o ≤ 1073741824 := by
  simp only [meetB, Bool.and_eq_true, decide_eq_true_eq] at h
  obtain ⟨⟨h1, h2⟩, h3⟩ := h
  have p1 := y200 h1
  have p2 := y200 h2
  unfold mxI mnI at h3
  split at h3 <;> split at h3 <;> omega

end Go.Proofs.Ytfinilnkempofaa

end
section
namespace Go.Proofs.Ytfinilnkempofaa
open Go Go.Am

def blkH (ty : TypeId) (A : List Hop) : List Blk := match A with | [] => [] | a :: tl => [.cells (hopR (a :: tl)) ty true]
def rFr (n0 : Nat) (l : List Ev) (at_ : Int) (A : List Hop) (n : Nat) : List Value := [tSl l.length (evR l), .int .i64 at_, rowH n0 A, tSl l.length (evR l), .int .i64 l.length, .int .i64 n]

section
variable {l : List Ev} {H : List Blk}

theorem rops_gc (ty : TypeId) (at_ : Int) (A : List Hop) (n : Nat) (G : List Blk) (hG : ∀ b ∈ G, q40 b = []) : gc H.length (rFr H.length l at_ A n) ⟨H ++ (blkH ty A ++ G), none⟩ = (rFr H.length l at_ A n, ⟨H ++ blkH ty A, none⟩) := by
  have hg : G.map q40 = (G.map fun _ => []).map (List.map (H.length + ·)) := by
    rw [List.map_map]
    exact List.map_congr_left fun b hb => by simp [hG b hb]
  cases A with
  | nil => exact y115 (G.map fun _ => []) [] [] rfl rfl (by simp [rFr, rowH, q22]) (by simpa [blkH] using hg) (by simp [rFr, rowH, lren, vren, q41, q22]) (by simp [blkH])
  | cons a tl => exact y115 ([] :: G.map fun _ => []) [0] [0] rfl rfl (by simp [rFr, rowH, q22]) (by simp only [blkH, List.cons_append, List.nil_append, List.map_cons, hg, y14, q29, List.map_nil]) (by simp [rFr, rowH, lren, vren, q86, y70, q41, q22]) (by simp [blkH, y24, q55, q29])

theorem rops_gc2 (ty : TypeId) (at_ : Int) (A : List Hop) (x : Hop) (n : Nat) (G : List Blk) (hG : ∀ b ∈ G, q40 b = []) :
    gc H.length [tSl l.length (evR l), .int .i64 at_, .slice (some ⟨H.length + G.length, 0, none⟩) (A.length + 1) UNK, tSl l.length (evR l), .int .i64 l.length, .int .i64 n] ⟨H ++ (G ++ [.cells (hopR (A ++ [x])) ty true]), none⟩ = (rFr H.length l at_ (A ++ [x]) n, ⟨H ++ blkH ty (A ++ [x]), none⟩) := by
  have hg : G.map q40 = (G.map fun _ => []).map (List.map (H.length + ·)) := by
    rw [List.map_map]
    exact List.map_congr_left fun b hb => by simp [hG b hb]
  have hrow : rowH H.length (A ++ [x]) = .slice (some ⟨H.length, 0, none⟩) (A.length + 1) UNK ∧ blkH ty (A ++ [x]) = [.cells (hopR (A ++ [x])) ty true] := by
    cases A with
    | nil => exact ⟨rfl, rfl⟩
    | cons a tl => exact ⟨by simp [rowH], rfl⟩
  have hd : (G.map (fun _ => ([] : List Nat)) ++ [[]]).getD G.length [] = [] := by
    simp only [List.getD]
    rw [List.getElem?_append_right (by simp)]
    simp
  refine y115 ((G.map fun _ => []) ++ [[]]) [G.length] [G.length] (by simp [q228, hd]) rfl (by simp [q22]) ?_ (by simp [rFr, hrow.1, lren, vren, q117, y70, q41, q22]) ?_
  · rw [List.map_append, List.map_append, hg]
    congr 1
    simp only [List.map_cons, List.map_nil, y14, q29]
  · rw [hrow.2]
    have hget : (G ++ [Blk.cells (hopR (A ++ [x])) ty true]).getD G.length .dead = .cells (hopR (A ++ [x])) ty true := by
      simp only [List.getD]
      rw [List.getElem?_append_right (Nat.le_refl _)]
      simp
    simp only [List.map_cons, List.map_nil]
    rw [hget, y24, q55 (q29 _)]

theorem rops_step (hl : OkEvs l) (hm : l.length < 60000) {at_ : Int} (hat : isI at_) {n : Nat} (hn : n < l.length) {x : Ev} (hx : l[n]? = some x) {A : List Hop} (hA : OkHops A) (hlen : A.length ≤ n) : ∃ vs st,
    twainref36_Ops.loop3s (acall PP TT) loopG H.length (rFr H.length l at_ A n, ⟨H ++ blkH y2 A, none⟩) = some (.inl (vs, st)) ∧
      gc H.length vs st = (rFr H.length l at_ (match opD (y72 l) l at_ n with | some y => A ++ [y] | none => A) (n + 1), ⟨H ++ blkH y2 (match opD (y72 l) l at_ n with | some y => A ++ [y] | none => A), none⟩) := by
  have hxo := hl x (List.mem_of_getElem? hx)
  have hn' : ((n : Int) < (l.length : Int)) := by omega
  have hix := y348 hn
  have hld := fun st => q272 hx st
  have hw := q69 (n := n) (by omega)
  have f0 : (evc x)[0]? = some (.int .i64 x.kind) := by simp [evc]
  have f3 : (evc x)[3]? = some (.int .i64 x.rk) := by simp [evc]
  have f4 : (evc x)[4]? = some (.int .i64 x.off) := by simp [evc]
  have f6 : (evc x)[6]? = some (tSl x.rd.length (byt x.rd)) := by simp [evc]
  have fsp : ((evc x).drop 4).take 2 = [.int .i64 x.off, .int .i64 x.len] := by simp [evc]
  have hov := fun H => roverlap_ok x.off x.len at_ 1 H
  have hed := fun H => ended_ok hl (by omega) hn H
  have hEi := y212 (l := l) (by omega) n
  have skip : opD (y72 l) l at_ n = none → ∀ G : List Blk, (∀ b ∈ G, q40 b = []) → twainref36_Ops.loop3s (acall PP TT) loopG H.length (rFr H.length l at_ A n, ⟨H ++ blkH y2 A, none⟩) = some (.inl (rFr H.length l at_ A (n + 1), ⟨H ++ (blkH y2 A ++ G), none⟩)) → ∃ vs st,
      twainref36_Ops.loop3s (acall PP TT) loopG H.length (rFr H.length l at_ A n, ⟨H ++ blkH y2 A, none⟩) = some (.inl (vs, st)) ∧
        gc H.length vs st = (rFr H.length l at_ (match opD (y72 l) l at_ n with | some y => A ++ [y] | none => A) (n + 1), ⟨H ++ blkH y2 (match opD (y72 l) l at_ n with | some y => A ++ [y] | none => A), none⟩) := by
    intro hd G hG hs
    rw [hd]
    exact ⟨_, _, hs, rops_gc _ at_ A (n + 1) G hG⟩
  have hgE : ∀ b ∈ [Blk.cells (evc x) y5 true], q40 b = [] := fun b hb => by simp at hb; subst hb; simp [y14, y25]
  by_cases k0 : x.kind = 0
  case neg =>
    refine skip (by simp [opD, hx, y278, k0]) [.cells (evc x) y5 true] hgE ?_
    cases A <;> simp only [twainref36_Ops.loop3s, twainref36_Ops.loop3, twainref36_Ops.j1, twainref36_Ops.j4, rFr, rowH, blkH, mach, Nat.reduceAdd, Nat.reduceLeDiff, Int.reduceEq, Int.reduceLT, Int.reduceLE, hn', hix, hld, q19, q17, q18, y63, q34, y25, q9, f0, q20, k0, hw]
  by_cases k1 : x.rk < 0
  · refine skip (by
      have h1 : ¬ x.rk = 0 := by omega
      have h2 : ¬ x.rk = 1 := by omega
      simp [opD, hx, y278, h1, h2]) [.cells (evc x) y5 true] hgE ?_
    cases A <;> simp only [twainref36_Ops.loop3s, twainref36_Ops.loop3, twainref36_Ops.j1, twainref36_Ops.j4, rFr, rowH, blkH, mach, Nat.reduceAdd, Nat.reduceLeDiff, Int.reduceEq, Int.reduceLT, Int.reduceLE, hn', hix, hld, q19, q17, q18, y63, q34, y25, q9, f0, f3, q20, y43, y27, k0, k1, hw]
  by_cases k2 : 1 < x.rk
  · refine skip (by
      have h1 : ¬ x.rk = 0 := by omega
      have h2 : ¬ x.rk = 1 := by omega
      simp [opD, hx, y278, h1, h2]) [.cells (evc x) y5 true] hgE ?_
    cases A <;> simp only [twainref36_Ops.loop3s, twainref36_Ops.loop3, twainref36_Ops.j1, twainref36_Ops.j4, rFr, rowH, blkH, mach, Nat.reduceAdd, Nat.reduceLeDiff, Int.reduceEq, Int.reduceLT, Int.reduceLE, hn', hix, hld, q19, q17, q18, y63, q34, y25, q9, f0, f3, q20, y43, y27, k0, k1, k2, hw]
  cases hmt : meetB x.off x.len at_ 1 with
  | false =>
    refine skip (by simp [opD, hx, y278, hmt]) [.cells (evc x) y5 true] hgE ?_
    cases A <;> simp only [twainref36_Ops.loop3s, twainref36_Ops.loop3, twainref36_Ops.j1, twainref36_Ops.j4, rFr, rowH, blkH, mach, Nat.reduceAdd, Nat.reduceLeDiff, Int.reduceEq, Int.reduceLT, Int.reduceLE, hn', hix, hld, q19, q17, q18, y63, q34, y25, q9, f0, f3, fsp, q20, y43, y27, y30, y95, hov, hmt, k0, k1, k2, hw]
  | true =>
    have hin := meet_in hmt
    have htb : y278 x at_ = true := by
      have h1 : x.rk = 0 ∨ x.rk = 1 := by omega
      simp [y278, k0, h1, hmt]
    have hsub : IntKind.i64.wrap (at_ - x.off) = (((at_ - x.off).toNat : Nat) : Int) := by rw [q122 ⟨by omega, by omega⟩]; omega
    have hse := fun b hb H => sector_ok (b := b) hb (i := (at_ - x.off).toNat) (by omega) H
    have hz := z16_n
    by_cases k3 : x.rk = 1
    · -- a write
      have hd : opD (y72 l) l at_ n = some ⟨true, secI x.rd (at_ - x.off).toNat, n, y72 l n⟩ := by simp [opD, hx, htb, k3]
      rw [hd]
      simp only
      have hwl : (secI x.rd (at_ - x.off).toNat).length = 16 := y182 _ _
      have hput := opk_put (x := ⟨true, z16, n, y72 l n⟩) hz hwl
      have h9 := y126 (x := ⟨true, z16, (n : Int), y72 l n⟩) hz
      have h9' := y126 (x := ⟨true, secI x.rd (at_ - x.off).toNat, (n : Int), y72 l n⟩) hwl
      have hw0 := opk_w ⟨true, z16, (n : Int), y72 l n⟩
      refine ⟨_, _, ?_, rops_gc2 y2 at_ A ⟨true, secI x.rd (at_ - x.off).toNat, n, y72 l n⟩ (n + 1) ((match A with | [] => [] | _ :: _ => [Blk.dead]) ++ [.cells (evc x) y5 true, .cells (opk ⟨true, secI x.rd (at_ - x.off).toNat, n, y72 l n⟩) y2 true, .cells (opk ⟨true, secI x.rd (at_ - x.off).toNat, n, y72 l n⟩) y2 true]) ?_⟩
      · cases A with
        | nil =>
          have hpn := fun (L : List Blk) (e : Option Nat) (R : Type) (F : Value → AS → Option R) => y232 (H := H) (L := L) (e := e) (x := ⟨true, secI x.rd (at_ - x.off).toNat, n, y72 l n⟩) hwl (F := F)
          simp only [twainref36_Ops.loop3s, twainref36_Ops.loop3, twainref36_Ops.j1, twainref36_Ops.j2, twainref36_Ops.j3, twainref36_Ops.j4, rFr, rowH, blkH, mach, Nat.reduceAdd, Nat.reduceLeDiff, Int.reduceEq, Int.reduceLT, Int.reduceLE, hn', hix, hld, q19, q17, q18, y73, y77, q74, y63, q34, y25, q9, f0, f3, f4, f6, fsp, q20, y43, y27, y30, q27, y19, y82, q80, y95, bd_rop, hov, hmt, hed, k0, k1, k2, k3, hw, q132, q131, y60, q39, h9, h9', hw0, hsub, hse _ hxo.rd, hput, y274, y74, q36, hpn, List.append_nil, List.take_of_length_le, hopR, List.map_cons, List.map_nil, List.flatten_cons, List.flatten_nil]
        | cons a tl =>
          have hpn := fun (L : List Blk) (e : Option Nat) (R : Type) (F : Value → AS → Option R) (hk : L[0]? = some (.cells (hopR (a :: tl)) y2 true)) => push_rop (H := H) hA (by omega) (L := L) (e := e) (x := ⟨true, secI x.rd (at_ - x.off).toNat, n, y72 l n⟩) hwl (F := F) hk
          simp only [List.length_cons] at hpn
          simp only [twainref36_Ops.loop3s, twainref36_Ops.loop3, twainref36_Ops.j1, twainref36_Ops.j2, twainref36_Ops.j3, twainref36_Ops.j4, rFr, rowH, blkH, mach, Nat.reduceAdd, Nat.reduceLeDiff, Int.reduceEq, Int.reduceLT, Int.reduceLE, hn', hix, hld, q19, q17, q18, y73, y77, q74, y63, q34, y25, q9, f0, f3, f4, f6, fsp, q20, y43, y27, y30, q27, y19, y82, q80, y95, bd_rop, hov, hmt, hed, k0, k1, k2, k3, hw, q132, q131, y60, q39, h9, h9', hw0, hsub, hse _ hxo.rd, hput, y274, y74, q36, hpn, List.append_nil, List.take_of_length_le, List.set_cons_zero]
      · intro b hb
        cases A <;> simp at hb <;> (try rcases hb with rfl | rfl | rfl) <;> (try rcases hb with rfl | rfl) <;> simp [y14, y106, y25, q39]
    · -- a read
      have k4 : x.rk = 0 := by omega
      by_cases k5 : y72 l n < 0
      · have hw0 := opk_w ⟨false, z16, (n : Int), y72 l n⟩
        have ht0 := opk_t (x := ⟨false, z16, (n : Int), y72 l n⟩) hz
        have h9 := y126 (x := ⟨false, z16, (n : Int), y72 l n⟩) hz
        refine skip (by simp [opD, hx, htb, k3, k5]) [.cells (evc x) y5 true, .cells (opk ⟨false, z16, n, y72 l n⟩) y2 true] (fun b hb => by simp at hb; rcases hb with rfl | rfl <;> simp [y14, y25, q39]) ?_
        cases A <;> simp only [twainref36_Ops.loop3s, twainref36_Ops.loop3, twainref36_Ops.j1, twainref36_Ops.j2, twainref36_Ops.j3, twainref36_Ops.j4, rFr, rowH, blkH, mach, Nat.reduceAdd, Nat.reduceLeDiff, Int.reduceEq, Int.reduceLT, Int.reduceLE, hn', hix, hld, q19, q17, q18, y73, y77, q74, y63, q34, y25, q9, f0, f3, f4, f6, fsp, q20, y43, y27, y30, q27, y19, y82, y81, y95, bd_rop, hov, hmt, hed, k0, k1, k2, k3, k4, k5, hw, q132, q131, y60, q39, h9, hw0, ht0]
      · obtain ⟨m, hEm⟩ : ∃ m : Nat, y72 l n = (m : Int) := ⟨(y72 l n).toNat, by omega⟩
        have hml : m < l.length := by omega
        obtain ⟨y, hy⟩ : ∃ y, l[m]? = some y := ⟨_, List.getElem?_eq_getElem hml⟩
        have hyo := hl y (List.mem_of_getElem? hy)
        have hixm := y348 hml
        have hyd := fun st => ev_d hy st
        have hd : opD (y72 l) l at_ n = some ⟨false, secI y.d (at_ - x.off).toNat, n, y72 l n⟩ := by simp [opD, hx, htb, k3, k5, hEm, hy]
        rw [hd]
        simp only
        rw [hEm] at k5 hed
        rw [hEm]
        have hwl : (secI y.d (at_ - x.off).toNat).length = 16 := y182 _ _
        have hput := opk_put (x := ⟨false, z16, n, (m : Int)⟩) hz hwl
        have h9 := y126 (x := ⟨false, z16, (n : Int), (m : Int)⟩) hz
        have h9' := y126 (x := ⟨false, secI y.d (at_ - x.off).toNat, (n : Int), (m : Int)⟩) hwl
        have hw0 := opk_w ⟨false, z16, (n : Int), (m : Int)⟩
        have ht0 := opk_t (x := ⟨false, z16, (n : Int), (m : Int)⟩) hz
        refine ⟨_, _, ?_, rops_gc2 y2 at_ A ⟨false, secI y.d (at_ - x.off).toNat, n, m⟩ (n + 1) ((match A with | [] => [] | _ :: _ => [Blk.dead]) ++ [.cells (evc x) y5 true, .cells (opk ⟨false, secI y.d (at_ - x.off).toNat, n, m⟩) y2 true, .cells (opk ⟨false, secI y.d (at_ - x.off).toNat, n, m⟩) y2 true]) ?_⟩
        · cases A with
          | nil =>
            have hpn := fun (L : List Blk) (e : Option Nat) (R : Type) (F : Value → AS → Option R) => y232 (H := H) (L := L) (e := e) (x := ⟨false, secI y.d (at_ - x.off).toNat, n, (m : Int)⟩) hwl (F := F)
            simp only [twainref36_Ops.loop3s, twainref36_Ops.loop3, twainref36_Ops.j1, twainref36_Ops.j2, twainref36_Ops.j3, twainref36_Ops.j4, rFr, rowH, blkH, mach, Nat.reduceAdd, Nat.reduceLeDiff, Int.reduceEq, Int.reduceLT, Int.reduceLE, hn', hix, hld, hixm, y157, hyd, q19, q17, q18, y73, y77, q74, y63, q34, y25, q9, f0, f3, f4, f6, fsp, q20, y43, y27, y30, q27, y19, y82, q80, y81, y95, bd_rop, hov, hmt, hed, k0, k1, k2, k3, k4, k5, hw, q132, q131, y60, q39, h9, h9', hw0, ht0, hsub, hse _ hyo.d, hput, y274, y74, q36, hpn, List.append_nil, List.take_of_length_le, hopR, List.map_cons, List.map_nil, List.flatten_cons, List.flatten_nil]
          | cons a tl =>
            have hpn := fun (L : List Blk) (e : Option Nat) (R : Type) (F : Value → AS → Option R) (hk : L[0]? = some (.cells (hopR (a :: tl)) y2 true)) => push_rop (H := H) hA (by omega) (L := L) (e := e) (x := ⟨false, secI y.d (at_ - x.off).toNat, n, (m : Int)⟩) hwl (F := F) hk
            simp only [List.length_cons] at hpn
            simp only [twainref36_Ops.loop3s, twainref36_Ops.loop3, twainref36_Ops.j1, twainref36_Ops.j2, twainref36_Ops.j3, twainref36_Ops.j4, rFr, rowH, blkH, mach, Nat.reduceAdd, Nat.reduceLeDiff, Int.reduceEq, Int.reduceLT, Int.reduceLE, hn', hix, hld, hixm, y157, hyd, q19, q17, q18, y73, y77, q74, y63, q34, y25, q9, f0, f3, f4, f6, fsp, q20, y43, y27, y30, q27, y19, y82, q80, y81, y95, bd_rop, hov, hmt, hed, k0, k1, k2, k3, k4, k5, hw, q132, q131, y60, q39, h9, h9', hw0, ht0, hsub, hse _ hyo.d, hput, y274, y74, q36, hpn, List.append_nil, List.take_of_length_le, List.set_cons_zero]
        · intro b hb
          cases A <;> simp at hb <;> (try rcases hb with rfl | rfl | rfl) <;> (try rcases hb with rfl | rfl) <;> simp [y14, y106, y25, q39]

theorem rops_ok (hl : OkEvs l) (hm : l.length < 60000) {at_ : Int} (hat : isI at_) (H : List Blk) : acall PP TT y110 [tSl l.length (evR l), .int .i64 at_] H = some (tSl (opsL (y72 l) l at_ l.length).length (hopR (opsL (y72 l) l at_ l.length)), H, none) := by
  have hlast : ¬ ((l.length : Int) < (l.length : Int)) := Int.lt_irrefl _
  have hE : ∀ n, isI (y72 l n) := fun n => (y212 (by omega) n).1
  have hok := opsL_ok (E := y72 l) hl (by omega) hE at_
  obtain ⟨r, hlp, hr⟩ := q173 (n0 := H.length) (step := twainref36_Ops.loop3s (acall PP TT) loopG H.length) (len := l.length) (σ := Unit)
    (fun n _ => (rFr H.length l at_ (opsL (y72 l) l at_ n) n, ⟨H ++ blkH y2 (opsL (y72 l) l at_ n), none⟩))
    (fun _ _ => True) (fun r => r = (.exit 0, [rowH H.length (opsL (y72 l) l at_ l.length)], ⟨H ++ blkH y2 (opsL (y72 l) l at_ l.length), none⟩))
    (fun n _ hn _ => by
      obtain ⟨x, hx⟩ : ∃ x, l[n]? = some x := ⟨_, List.getElem?_eq_getElem hn⟩
      obtain ⟨vs, st, h1, h2⟩ := rops_step (H := H) hl hm hat hn hx (hok n).1 (hok n).2
      exact .inr ⟨vs, st, (), h1, h2, trivial⟩)
    (fun _ _ => ⟨_, by simp only [twainref36_Ops.loop3s, twainref36_Ops.loop3, rFr, mach, Nat.reduceAdd, Nat.reduceLeDiff, Int.reduceEq, Int.reduceLT, Int.reduceLE, hlast], rfl⟩)
    l.length 0 () [tSl l.length (evR l), .int .i64 at_, .slice none 0 0, tSl l.length (evR l), .int .i64 l.length, .int .i64 0] ⟨H, none⟩ (by omega) trivial (by
      have := y208 (H := H) (vs := [tSl l.length (evR l), .int .i64 at_, .slice none 0 0, tSl l.length (evR l), .int .i64 l.length, .int .i64 0]) (by simp [q22])
      simpa [opsL, rFr, rowH, blkH] using this)
  subst hr
  rw [y22, twainref36_Ops.eq]
  simp only [twainref36_Ops.sh, q287, mach, Nat.reduceAdd, Nat.reduceLeDiff, Int.reduceEq, Int.reduceLT, Int.reduceLE, hlp, twainref36_Ops.j6]
  have hA := (hok l.length).1
  generalize opsL (y72 l) l at_ l.length = A at hA
  cases A with
  | nil =>
    have := fin_nil (P := PP) (H0 := H) (l := []) (e := none) rfl
    simpa [rowH, blkH, hopR] using this
  | cons a tl => exact q232 (sz := 19) rfl y125 (q166 hA) (y246 _) (q29 _) rfl

end
end Go.Proofs.Ytfinilnkempofaa

end
section
namespace Go.Proofs.Ytfinilnkempofaa
open Go Go.Am

/-- the blocks of the loop: the row, the pairs, their maps, the span -/
def blkQ (n0 : Nat) (at_ : Int) (A : List Hop) (s : PS) : List Blk := match A with
  | [] => [.cells [.map (some (n0 + 1)), .map (some (n0 + 2)), .bool s.odd] q11 true, mapA s, mapE s, .cells [.int .i64 at_, .int .i64 1] y15 true]
  | a :: tl => [.cells (hopR (a :: tl)) y4 true, .cells [.map (some (n0 + 2)), .map (some (n0 + 3)), .bool s.odd] q11 true, mapA s, mapE s, .cells [.int .i64 at_, .int .i64 1] y15 true]
def ptrQ (n0 : Nat) (A : List Hop) : Value := match A with
  | [] => .pointer (some ⟨n0, 0, none⟩)
  | _ :: _ => .pointer (some ⟨n0 + 1, 0, none⟩)
def ptrS (n0 : Nat) (A : List Hop) : Value := match A with
  | [] => .pointer (some ⟨n0 + 3, 0, none⟩)
  | _ :: _ => .pointer (some ⟨n0 + 4, 0, none⟩)
def qFr (n0 : Nat) (l : List Ev) (at_ : Int) (A : List Hop) (n : Nat) : List Value := [tSl l.length (evR l), .int .i64 at_, rowH n0 A, ptrQ n0 A, ptrS n0 A, tSl l.length (evR l), .int .i64 l.length, .int .i64 n]

theorem q186 : q89 PP y1 [] = some (.agg (byt z16).toArray) := by kernel_rfl
theorem flatSec : FlatAgg PP y1 := ⟨by kernel_rfl, by kernel_rfl, by kernel_rfl⟩
theorem u8_min : IntKind.u8.min = 0 := by kernel_rfl
theorem u8_max : IntKind.u8.max = 255 := by kernel_rfl
theorem y255 {v : List Int} (h : v.length = 16) (hb : ∀ b ∈ v, 0 ≤ b ∧ b < 256) : TOk PP y1 (byt v) := by
  have h1 := TOk.array (P := PP) (t := y1) (v.map fun b => [Value.int .u8 b]) q197 (by simp [h]) (fun p hp => by
    obtain ⟨b, hbm, rfl⟩ := List.mem_map.1 hp
    have := hb b hbm
    exact .int b u_uint8 (by rw [u8_min, u8_max]; omega))
  have h2 : (v.map fun b => [Value.int .u8 b]).flatten = byt v := by
    clear h hb h1
    induction v with
    | nil => rfl
    | cons x xs ih => simpa [byt] using ih
  rw [h2] at h1
  exact h1
theorem byt_inj {a b : List Int} (h : byt a = byt b) : a = b := by
  induction a generalizing b with
  | nil => cases b with
    | nil => rfl
    | cons _ _ => simp [byt] at h
  | cons x xs ih => cases b with
    | nil => simp [byt] at h
    | cons y ys =>
      simp only [byt, List.map_cons, List.cons.injEq, Value.int.injEq, true_and] at h
      rw [h.1, ih h.2]

section
variable {l : List Ev} {H : List Blk}

theorem toI_in {s : PS} {m n : Nat} (h : OkPS m s) (hm : m < 1000000) : isI (toI s n) ∧ -1 ≤ toI s n ∧ toI s n < (m : Int) := by
  unfold toI lookE isI
  cases hf : s.E.find? fun p => decide (p.1 = n) with
  | none => simp; omega
  | some q =>
    have := h.e q (List.mem_of_find?_eq_some hf)
    simp only [Option.map_some]
    omega

theorem qops_gc (at_ : Int) (A : List Hop) (s : PS) (n : Nat) (G : List Blk) (hG : ∀ b ∈ G, q40 b = []) : gc H.length (qFr H.length l at_ A n) ⟨H ++ (blkQ H.length at_ A s ++ G), none⟩ = (qFr H.length l at_ A n, ⟨H ++ blkQ H.length at_ A s, none⟩) := by
  have hg : G.map q40 = (G.map fun _ => []).map (List.map (H.length + ·)) := by
    rw [List.map_map]
    exact List.map_congr_left fun b hb => by simp [hG b hb]
  cases A with
  | nil => exact y115 ([[1, 2], [], [], []] ++ G.map fun _ => []) [0, 3] [0, 1, 2, 3] (by simp [q228, List.getD]) rfl (by simp [qFr, rowH, ptrQ, ptrS, q22]) (by simp only [blkQ, List.map_append, hg]; simp [y14, q133, q135]) (by simp [qFr, rowH, ptrQ, ptrS, lren, vren, q117, q86, y70, q41, q22]) (by simp [blkQ, List.getD, y24, lren, vren, q117, q86, y70, y156, y155])
  | cons a tl => exact y115 ([[], [2, 3], [], [], []] ++ G.map fun _ => []) [0, 1, 4] [0, 1, 2, 3, 4] (by simp [q228, List.getD]) rfl (by simp [qFr, rowH, ptrQ, ptrS, q22]) (by simp only [blkQ, List.map_append, hg]; simp [y14, q133, q135, q29]) (by simp [qFr, rowH, ptrQ, ptrS, lren, vren, q117, q86, y70, q41, q22]) (by simp [blkQ, List.getD, y24, lren, vren, q117, q86, y70, y156, y155, q55, q29])

/-- one more op: four blocks lie behind -/
theorem qops_gc2 (at_ : Int) (A : List Hop) (s : PS) (x : Hop) (n : Nat) (b1 b2 b3 b4 : Blk) (h1 : q40 b1 = []) (h2 : q40 b2 = []) (h3 : q40 b3 = []) (h4 : q40 b4 = []) :
    gc H.length [tSl l.length (evR l), .int .i64 at_, .slice (some ⟨H.length + ((blkQ H.length at_ A s).length + 4), 0, none⟩) (A.length + 1) UNK, ptrQ H.length A, ptrS H.length A, tSl l.length (evR l), .int .i64 l.length, .int .i64 n]
      ⟨H ++ ((match A with | [] => blkQ H.length at_ A s | _ :: _ => (blkQ H.length at_ A s).set 0 .dead) ++ [b1, b2, b3, b4, .cells (hopR (A ++ [x])) y4 true]), none⟩ = (qFr H.length l at_ (A ++ [x]) n, ⟨H ++ blkQ H.length at_ (A ++ [x]) s, none⟩) := by
  cases A with
  | nil => exact y115 [[1, 2], [], [], [], [], [], [], [], []] [8, 0, 3] [8, 0, 1, 2, 3] rfl rfl (by simp [blkQ, ptrQ, ptrS, q22]) (by simp [blkQ, y14, h1, h2, h3, h4, q133, q135, q29]) (by simp [qFr, blkQ, rowH, ptrQ, ptrS, lren, vren, q117, q86, y70, q41, q22]) (by simp [blkQ, y24, lren, vren, q117, q86, y70, y156, y155, q55, q29])
  | cons a tl => exact y115 [[], [2, 3], [], [], [], [], [], [], [], []] [9, 1, 4] [9, 1, 2, 3, 4] rfl rfl (by simp [blkQ, ptrQ, ptrS, q22]) (by simp [blkQ, y14, y106, h1, h2, h3, h4, q133, q135, q29]) (by simp [qFr, blkQ, rowH, ptrQ, ptrS, lren, vren, q117, q86, y70, q41, q22]) (by simp [blkQ, y24, lren, vren, q117, q86, y70, y156, y155, q55, q29])

theorem qops_step (hl : OkEvs l) (hm : l.length < 60000) {at_ : Int} (hat : isI at_) {n : Nat} (hn : n < l.length) {x : Ev} (hx : l[n]? = some x) {A : List Hop} (hA : OkHops A) (hlen : A.length ≤ n) : ∃ vs st,
    history_Ops.loop5s (acall PP TT) loopG H.length (qFr H.length l at_ A n, ⟨H ++ blkQ H.length at_ A (pairS l l.length), none⟩) = some (.inl (vs, st)) ∧
      gc H.length vs st = (qFr H.length l at_ (match opD (toI (pairS l l.length)) l at_ n with | some y => A ++ [y] | none => A) (n + 1), ⟨H ++ blkQ H.length at_ (match opD (toI (pairS l l.length)) l at_ n with | some y => A ++ [y] | none => A) (pairS l l.length), none⟩) := by
  have hxo := hl x (List.mem_of_getElem? hx)
  have hn' : ((n : Int) < (l.length : Int)) := by omega
  have hix := ix_wld hn
  have hld := fun st => q272 hx st
  have hw := q69 (n := n) (by omega)
  have f0 : (evc x)[0]? = some (.int .i64 x.kind) := by simp [evc]
  have f3 : (evc x)[3]? = some (.int .i64 x.rk) := by simp [evc]
  have f4 : (evc x)[4]? = some (.int .i64 x.off) := by simp [evc]
  have f6 : (evc x)[6]? = some (tSl x.rd.length (byt x.rd)) := by simp [evc]
  have fsp : ((evc x).drop 4).take 2 = [.int .i64 x.off, .int .i64 x.len] := by simp [evc]
  have hov := fun H => overlap_ok x.off x.len at_ 1 H
  have hs := q306 hl l.length (Nat.le_refl _)
  have hp0 := fun (L : List Blk) (o : Bool) (hb : L[2]? = some (mapE (pairS l l.length))) => pto_ok (a := H.length + 1) (b := H.length + 2) (o := o) (H1 := H ++ L) hs (by omega) (show n < 1000000 by omega) (by rw [y105]; exact hb)
  have hp1 := fun (L : List Blk) (o : Bool) (hb : L[3]? = some (mapE (pairS l l.length))) => pto_ok (a := H.length + 2) (b := H.length + 3) (o := o) (H1 := H ++ L) hs (by omega) (show n < 1000000 by omega) (by rw [y105]; exact hb)
  have hEi := toI_in (n := n) hs (by omega)
  generalize pairS l l.length = s at hp0 hp1 hEi
  have skip : opD (toI s) l at_ n = none → ∀ G : List Blk, (∀ b ∈ G, q40 b = []) → history_Ops.loop5s (acall PP TT) loopG H.length (qFr H.length l at_ A n, ⟨H ++ blkQ H.length at_ A s, none⟩) = some (.inl (qFr H.length l at_ A (n + 1), ⟨H ++ (blkQ H.length at_ A s ++ G), none⟩)) → ∃ vs st,
      history_Ops.loop5s (acall PP TT) loopG H.length (qFr H.length l at_ A n, ⟨H ++ blkQ H.length at_ A s, none⟩) = some (.inl (vs, st)) ∧
        gc H.length vs st = (qFr H.length l at_ (match opD (toI s) l at_ n with | some y => A ++ [y] | none => A) (n + 1), ⟨H ++ blkQ H.length at_ (match opD (toI s) l at_ n with | some y => A ++ [y] | none => A) s, none⟩) := by
    intro hd G hG hs
    rw [hd]
    exact ⟨_, _, hs, qops_gc at_ A s (n + 1) G hG⟩
  have hgE : ∀ b ∈ [Blk.cells (evc x) q10 true], q40 b = [] := fun b hb => by simp at hb; subst hb; simp [y14, y25]
  by_cases k0 : x.kind = 0
  case neg =>
    refine skip (by simp [opD, hx, y278, k0]) [.cells (evc x) q10 true] hgE ?_
    cases A <;> simp only [history_Ops.loop5s, history_Ops.loop5, history_Ops.j1, history_Ops.j2, history_Ops.j3, history_Ops.j4, history_Ops.j5, qFr, rowH, ptrQ, ptrS, blkQ, mach, Nat.reduceAdd, Nat.reduceLeDiff, Int.reduceEq, Int.reduceLT, Int.reduceLE, hn', hix, hld, q33, q31, q32, q45, q46, q44, y50, q90, y146, y63, q34, y25, q9, f0, f3, f4, f6, fsp, q24, q52, y27, y30, q27, y19, q47, y49, q53, y95, y257, q186, hov, hw, q132, q131, y60, q39, k0]
  by_cases kk : x.rk = 0 ∨ x.rk = 1
  case neg =>
    have h1 : ¬ x.rk = 0 := fun h => kk (.inl h)
    have h2 : ¬ x.rk = 1 := fun h => kk (.inr h)
    refine skip (by simp [opD, hx, y278, h1, h2]) [.cells (evc x) q10 true] hgE ?_
    cases A <;> simp only [history_Ops.loop5s, history_Ops.loop5, history_Ops.j1, history_Ops.j2, history_Ops.j3, history_Ops.j4, history_Ops.j5, qFr, rowH, ptrQ, ptrS, blkQ, mach, Nat.reduceAdd, Nat.reduceLeDiff, Int.reduceEq, Int.reduceLT, Int.reduceLE, hn', hix, hld, q33, q31, q32, q45, q46, q44, y50, q90, y146, y63, q34, y25, q9, f0, f3, f4, f6, fsp, q24, q52, y27, y30, q27, y19, q47, y49, q53, y95, y257, q186, hov, hw, q132, q131, y60, q39, k0, h1, h2]
  cases hmt : meetB x.off x.len at_ 1 with
  | false =>
    refine skip (by simp [opD, hx, y278, hmt]) [.cells (evc x) q10 true] hgE ?_
    rcases kk with k1 | k1
    · cases A <;> simp only [history_Ops.loop5s, history_Ops.loop5, history_Ops.j1, history_Ops.j2, history_Ops.j3, history_Ops.j4, history_Ops.j5, qFr, rowH, ptrQ, ptrS, blkQ, mach, Nat.reduceAdd, Nat.reduceLeDiff, Int.reduceEq, Int.reduceLT, Int.reduceLE, hn', hix, hld, q33, q31, q32, q45, q46, q44, y50, q90, y146, y63, q34, y25, q9, f0, f3, f4, f6, fsp, q24, q52, y27, y30, q27, y19, q47, y49, q53, y95, y257, q186, hov, hw, q132, q131, y60, q39, k0, k1, hmt]
    · cases A <;> simp only [history_Ops.loop5s, history_Ops.loop5, history_Ops.j1, history_Ops.j2, history_Ops.j3, history_Ops.j4, history_Ops.j5, qFr, rowH, ptrQ, ptrS, blkQ, mach, Nat.reduceAdd, Nat.reduceLeDiff, Int.reduceEq, Int.reduceLT, Int.reduceLE, hn', hix, hld, q33, q31, q32, q45, q46, q44, y50, q90, y146, y63, q34, y25, q9, f0, f3, f4, f6, fsp, q24, q52, y27, y30, q27, y19, q47, y49, q53, y95, y257, q186, hov, hw, q132, q131, y60, q39, k0, k1, hmt]
  | true =>
    have hin := meet_in hmt
    have htb : y278 x at_ = true := by simp [y278, k0, kk, hmt]
    have hsub : IntKind.i64.wrap (at_ - x.off) = (((at_ - x.off).toNat : Nat) : Int) := by rw [q122 ⟨by omega, by omega⟩]; omega
    have hse := fun b hb H => cut_ok (b := b) hb (i := (at_ - x.off).toNat) (by omega) H
    have hz := z16_n
    -- behind the sector's bytes
    have tokz : TOk PP y1 (byt z16) := y255 z16_n (fun b hb => by simp [z16] at hb; omega)
    by_cases k3 : x.rk = 1
    · have hd : opD (toI s) l at_ n = some ⟨true, secI x.rd (at_ - x.off).toNat, n, toI s n⟩ := by simp [opD, hx, htb, k3]
      rw [hd]
      simp only
      have hwl : (secI x.rd (at_ - x.off).toNat).length = 16 := y182 _ _
      have tokv : TOk PP y1 (byt (secI x.rd (at_ - x.off).toNat)) := y255 hwl (y327 hxo.rd _)
      have hneq := y122 (ox := .tmp 79) (oy := .tmp 80) flatSec tokv tokz
      generalize toI s n = E at hp0 hp1
      have hsd := hse _ hxo.rd
      have hbl := y274 x.rd (at_ - x.off).toNat
      generalize secI x.rd (at_ - x.off).toNat = v at hwl tokv hneq hsd hbl
      have hput := opk_put (x := ⟨true, z16, n, E⟩) hz hwl
      have h9 := y126 (x := ⟨true, z16, (n : Int), E⟩) hz
      have h9' := y126 (x := ⟨true, v, (n : Int), E⟩) hwl
      have hw0 := opk_w ⟨true, z16, (n : Int), E⟩
      refine ⟨_, _, ?_, qops_gc2 at_ A s ⟨true, v, n, E⟩ (n + 1) (.cells (evc x) q10 true) (.cells (opk ⟨true, v, n, E⟩) y4 true) (.cells (byt v) y1 true) (.cells (opk ⟨true, v, n, E⟩) y4 true) (by simp [y14, y25]) (by simp [y14, q39]) (by simp [y14, q36]) (by simp [y14, q39])⟩
      by_cases hvz : v = z16
      · subst hvz
        simp only [decide_true, Bool.not_true] at hneq
        cases A with
        | nil =>
          have hpn := fun (L : List Blk) (e : Option Nat) (R : Type) (F : Value → AS → Option R) => q201 (H := H) (L := L) (e := e) (x := ⟨true, z16, n, E⟩) hwl (F := F)
          simp only [history_Ops.loop5s, history_Ops.loop5, history_Ops.j1, history_Ops.j2, history_Ops.j3, history_Ops.j4, history_Ops.j5, qFr, rowH, ptrQ, ptrS, blkQ, mach, Nat.reduceAdd, Nat.reduceLeDiff, Int.reduceEq, Int.reduceLT, Int.reduceLE, hn', hix, hld, q33, q31, q32, q45, q46, q44, y50, q90, y146, y63, q34, y25, q9, f0, f3, f4, f6, fsp, q24, q52, y27, y30, q27, y19, q47, y49, q53, y95, y257, q186, hov, hw, q132, q131, y60, q39, k0, k3, hmt, hp0, h9, h9', hw0, hsub, hsd, hput, hbl, hneq, y74, q36, hpn, List.append_nil, List.take_of_length_le, hopR, List.map_cons, List.map_nil, List.flatten_cons, List.flatten_nil]
        | cons a tl =>
          have hpn := fun (L : List Blk) (e : Option Nat) (R : Type) (F : Value → AS → Option R) (hk : L[0]? = some (.cells (hopR (a :: tl)) y4 true)) => y345 (H := H) hA (by omega) (L := L) (e := e) (x := ⟨true, z16, n, E⟩) hwl (F := F) hk
          simp only [List.length_cons] at hpn
          simp only [history_Ops.loop5s, history_Ops.loop5, history_Ops.j1, history_Ops.j2, history_Ops.j3, history_Ops.j4, history_Ops.j5, qFr, rowH, ptrQ, ptrS, blkQ, mach, Nat.reduceAdd, Nat.reduceLeDiff, Int.reduceEq, Int.reduceLT, Int.reduceLE, hn', hix, hld, q33, q31, q32, q45, q46, q44, y50, q90, y146, y63, q34, y25, q9, f0, f3, f4, f6, fsp, q24, q52, y27, y30, q27, y19, q47, y49, q53, y95, y257, q186, hov, hw, q132, q131, y60, q39, k0, k3, hmt, hp1, h9, h9', hw0, hsub, hsd, hput, hbl, hneq, y74, q36, hpn, List.append_nil, List.take_of_length_le, List.set_cons_zero]
      · have hbz : ¬ byt v = byt z16 := fun h => hvz (byt_inj h)
        simp only [hbz, decide_false, Bool.not_false] at hneq
        cases A with
        | nil =>
          have hpn := fun (L : List Blk) (e : Option Nat) (R : Type) (F : Value → AS → Option R) => q201 (H := H) (L := L) (e := e) (x := ⟨true, v, n, E⟩) hwl (F := F)
          simp only [history_Ops.loop5s, history_Ops.loop5, history_Ops.j1, history_Ops.j2, history_Ops.j3, history_Ops.j4, history_Ops.j5, qFr, rowH, ptrQ, ptrS, blkQ, mach, Nat.reduceAdd, Nat.reduceLeDiff, Int.reduceEq, Int.reduceLT, Int.reduceLE, hn', hix, hld, q33, q31, q32, q45, q46, q44, y50, q90, y146, y63, q34, y25, q9, f0, f3, f4, f6, fsp, q24, q52, y27, y30, q27, y19, q47, y49, q53, y95, y257, q186, hov, hw, q132, q131, y60, q39, k0, k3, hmt, hp0, h9, h9', hw0, hsub, hsd, hput, hbl, hneq, y74, q36, hpn, List.append_nil, List.take_of_length_le, hopR, List.map_cons, List.map_nil, List.flatten_cons, List.flatten_nil]
        | cons a tl =>
          have hpn := fun (L : List Blk) (e : Option Nat) (R : Type) (F : Value → AS → Option R) (hk : L[0]? = some (.cells (hopR (a :: tl)) y4 true)) => y345 (H := H) hA (by omega) (L := L) (e := e) (x := ⟨true, v, n, E⟩) hwl (F := F) hk
          simp only [List.length_cons] at hpn
          simp only [history_Ops.loop5s, history_Ops.loop5, history_Ops.j1, history_Ops.j2, history_Ops.j3, history_Ops.j4, history_Ops.j5, qFr, rowH, ptrQ, ptrS, blkQ, mach, Nat.reduceAdd, Nat.reduceLeDiff, Int.reduceEq, Int.reduceLT, Int.reduceLE, hn', hix, hld, q33, q31, q32, q45, q46, q44, y50, q90, y146, y63, q34, y25, q9, f0, f3, f4, f6, fsp, q24, q52, y27, y30, q27, y19, q47, y49, q53, y95, y257, q186, hov, hw, q132, q131, y60, q39, k0, k3, hmt, hp1, h9, h9', hw0, hsub, hsd, hput, hbl, hneq, y74, q36, hpn, List.append_nil, List.take_of_length_le, List.set_cons_zero]
    · have k4 : x.rk = 0 := by rcases kk with h | h; exact h; exact absurd h k3
      by_cases k5 : toI s n = -1
      · have hw0 := opk_w ⟨false, z16, (n : Int), -1⟩
        have ht0 := opk_t (x := ⟨false, z16, (n : Int), -1⟩) hz
        have h9 := y126 (x := ⟨false, z16, (n : Int), -1⟩) hz
        have hneg : toI s n < 0 := by omega
        refine skip (by simp [opD, hx, htb, k3, hneg]) [.cells (evc x) q10 true, .cells (opk ⟨false, z16, n, -1⟩) y4 true] (fun b hb => by simp at hb; rcases hb with rfl | rfl <;> simp [y14, y25, q39]) ?_
        rw [k5] at hp0 hp1
        cases A with
        | nil => simp only [history_Ops.loop5s, history_Ops.loop5, history_Ops.j1, history_Ops.j2, history_Ops.j3, history_Ops.j4, history_Ops.j5, qFr, rowH, ptrQ, ptrS, blkQ, mach, Nat.reduceAdd, Nat.reduceLeDiff, Int.reduceEq, Int.reduceLT, Int.reduceLE, hn', hix, hld, q33, q31, q32, q45, q46, q44, y50, q90, y146, y63, q34, y25, q9, f0, f3, f4, f6, fsp, q24, q52, y27, y30, q27, y19, q47, y49, q53, y95, y257, q186, hov, hw, q132, q131, y60, q39, k0, k3, k4, hmt, hp0, h9, hw0, ht0]
        | cons a tl => simp only [history_Ops.loop5s, history_Ops.loop5, history_Ops.j1, history_Ops.j2, history_Ops.j3, history_Ops.j4, history_Ops.j5, qFr, rowH, ptrQ, ptrS, blkQ, mach, Nat.reduceAdd, Nat.reduceLeDiff, Int.reduceEq, Int.reduceLT, Int.reduceLE, hn', hix, hld, q33, q31, q32, q45, q46, q44, y50, q90, y146, y63, q34, y25, q9, f0, f3, f4, f6, fsp, q24, q52, y27, y30, q27, y19, q47, y49, q53, y95, y257, q186, hov, hw, q132, q131, y60, q39, k0, k3, k4, hmt, hp1, h9, hw0, ht0]
      · obtain ⟨m, hEm⟩ : ∃ m : Nat, toI s n = (m : Int) := ⟨(toI s n).toNat, by omega⟩
        have hml : m < l.length := by omega
        obtain ⟨y, hy⟩ : ∃ y, l[m]? = some y := ⟨_, List.getElem?_eq_getElem hml⟩
        have hyo := hl y (List.mem_of_getElem? hy)
        have hixm := ix_wld hml
        have hyd := fun st => ev_d hy st
        have hnn : ¬ toI s n < 0 := by omega
        have hd : opD (toI s) l at_ n = some ⟨false, secI y.d (at_ - x.off).toNat, n, toI s n⟩ := by
          have h3 : ¬ ((m : Int) < 0) := by omega
          simp [opD, hx, htb, k3, h3, hEm, hy]
        rw [hd]
        simp only
        rw [hEm] at k5 hp0 hp1
        rw [hEm]
        have hwl : (secI y.d (at_ - x.off).toNat).length = 16 := y182 _ _
        have tokv : TOk PP y1 (byt (secI y.d (at_ - x.off).toNat)) := y255 hwl (y327 hyo.d _)
        have hneq := y122 (ox := .tmp 79) (oy := .tmp 80) flatSec tokv tokz
        have hsd := hse _ hyo.d
        have hbl := y274 y.d (at_ - x.off).toNat
        generalize secI y.d (at_ - x.off).toNat = v at hwl tokv hneq hsd hbl
        have hput := opk_put (x := ⟨false, z16, n, (m : Int)⟩) hz hwl
        have h9 := y126 (x := ⟨false, z16, (n : Int), (m : Int)⟩) hz
        have h9' := y126 (x := ⟨false, v, (n : Int), (m : Int)⟩) hwl
        have hw0 := opk_w ⟨false, z16, (n : Int), (m : Int)⟩
        have ht0 := opk_t (x := ⟨false, z16, (n : Int), (m : Int)⟩) hz
        refine ⟨_, _, ?_, qops_gc2 at_ A s ⟨false, v, n, m⟩ (n + 1) (.cells (evc x) q10 true) (.cells (opk ⟨false, v, n, m⟩) y4 true) (.cells (byt v) y1 true) (.cells (opk ⟨false, v, n, m⟩) y4 true) (by simp [y14, y25]) (by simp [y14, q39]) (by simp [y14, q36]) (by simp [y14, q39])⟩
        by_cases hvz : v = z16
        · subst hvz
          simp only [decide_true, Bool.not_true] at hneq
          cases A with
          | nil =>
            have hpn := fun (L : List Blk) (e : Option Nat) (R : Type) (F : Value → AS → Option R) => q201 (H := H) (L := L) (e := e) (x := ⟨false, z16, n, (m : Int)⟩) hwl (F := F)
            simp only [history_Ops.loop5s, history_Ops.loop5, history_Ops.j1, history_Ops.j2, history_Ops.j3, history_Ops.j4, history_Ops.j5, qFr, rowH, ptrQ, ptrS, blkQ, mach, Nat.reduceAdd, Nat.reduceLeDiff, Int.reduceEq, Int.reduceLT, Int.reduceLE, hn', hix, hld, q33, q31, q32, q45, q46, q44, y50, q90, y146, y63, q34, y25, q9, f0, f3, f4, f6, fsp, q24, q52, y27, y30, q27, y19, q47, y49, q53, y95, y257, q186, hov, hw, q132, q131, y60, q39, k0, k3, k4, k5, hixm, y142, hyd, ht0, hmt, hp0, h9, h9', hw0, hsub, hsd, hput, hbl, hneq, y74, q36, hpn, List.append_nil, List.take_of_length_le, hopR, List.map_cons, List.map_nil, List.flatten_cons, List.flatten_nil]
          | cons a tl =>
            have hpn := fun (L : List Blk) (e : Option Nat) (R : Type) (F : Value → AS → Option R) (hk : L[0]? = some (.cells (hopR (a :: tl)) y4 true)) => y345 (H := H) hA (by omega) (L := L) (e := e) (x := ⟨false, z16, n, (m : Int)⟩) hwl (F := F) hk
            simp only [List.length_cons] at hpn
            simp only [history_Ops.loop5s, history_Ops.loop5, history_Ops.j1, history_Ops.j2, history_Ops.j3, history_Ops.j4, history_Ops.j5, qFr, rowH, ptrQ, ptrS, blkQ, mach, Nat.reduceAdd, Nat.reduceLeDiff, Int.reduceEq, Int.reduceLT, Int.reduceLE, hn', hix, hld, q33, q31, q32, q45, q46, q44, y50, q90, y146, y63, q34, y25, q9, f0, f3, f4, f6, fsp, q24, q52, y27, y30, q27, y19, q47, y49, q53, y95, y257, q186, hov, hw, q132, q131, y60, q39, k0, k3, k4, k5, hixm, y142, hyd, ht0, hmt, hp1, h9, h9', hw0, hsub, hsd, hput, hbl, hneq, y74, q36, hpn, List.append_nil, List.take_of_length_le, List.set_cons_zero]
        · have hbz : ¬ byt v = byt z16 := fun h => hvz (byt_inj h)
          simp only [hbz, decide_false, Bool.not_false] at hneq
          cases A with
          | nil =>
            have hpn := fun (L : List Blk) (e : Option Nat) (R : Type) (F : Value → AS → Option R) => q201 (H := H) (L := L) (e := e) (x := ⟨false, v, n, (m : Int)⟩) hwl (F := F)
            simp only [history_Ops.loop5s, history_Ops.loop5, history_Ops.j1, history_Ops.j2, history_Ops.j3, history_Ops.j4, history_Ops.j5, qFr, rowH, ptrQ, ptrS, blkQ, mach, Nat.reduceAdd, Nat.reduceLeDiff, Int.reduceEq, Int.reduceLT, Int.reduceLE, hn', hix, hld, q33, q31, q32, q45, q46, q44, y50, q90, y146, y63, q34, y25, q9, f0, f3, f4, f6, fsp, q24, q52, y27, y30, q27, y19, q47, y49, q53, y95, y257, q186, hov, hw, q132, q131, y60, q39, k0, k3, k4, k5, hixm, y142, hyd, ht0, hmt, hp0, h9, h9', hw0, hsub, hsd, hput, hbl, hneq, y74, q36, hpn, List.append_nil, List.take_of_length_le, hopR, List.map_cons, List.map_nil, List.flatten_cons, List.flatten_nil]
          | cons a tl =>
            have hpn := fun (L : List Blk) (e : Option Nat) (R : Type) (F : Value → AS → Option R) (hk : L[0]? = some (.cells (hopR (a :: tl)) y4 true)) => y345 (H := H) hA (by omega) (L := L) (e := e) (x := ⟨false, v, n, (m : Int)⟩) hwl (F := F) hk
            simp only [List.length_cons] at hpn
            simp only [history_Ops.loop5s, history_Ops.loop5, history_Ops.j1, history_Ops.j2, history_Ops.j3, history_Ops.j4, history_Ops.j5, qFr, rowH, ptrQ, ptrS, blkQ, mach, Nat.reduceAdd, Nat.reduceLeDiff, Int.reduceEq, Int.reduceLT, Int.reduceLE, hn', hix, hld, q33, q31, q32, q45, q46, q44, y50, q90, y146, y63, q34, y25, q9, f0, f3, f4, f6, fsp, q24, q52, y27, y30, q27, y19, q47, y49, q53, y95, y257, q186, hov, hw, q132, q131, y60, q39, k0, k3, k4, k5, hixm, y142, hyd, ht0, hmt, hp1, h9, h9', hw0, hsub, hsd, hput, hbl, hneq, y74, q36, hpn, List.append_nil, List.take_of_length_le, List.set_cons_zero]

theorem qops_ok (hl : OkEvs l) (hm : l.length < 60000) {at_ : Int} (hat : isI at_) (H : List Blk) : acall PP TT q124 [tSl l.length (evR l), .int .i64 at_] H = some (tSl (opsL (toI (pairS l l.length)) l at_ l.length).length (hopR (opsL (toI (pairS l l.length)) l at_ l.length)), H, none) := by
  have hlast : ¬ ((l.length : Int) < (l.length : Int)) := Int.lt_irrefl _
  have hs := q306 hl l.length (Nat.le_refl _)
  have hE : ∀ n, isI (toI (pairS l l.length) n) := fun n => (toI_in hs (by omega)).1
  have hok := opsL_ok (E := toI (pairS l l.length)) hl (by omega) hE at_
  have hg0 : gc H.length [tSl l.length (evR l), .int .i64 at_, .slice none 0 0, .pointer (some ⟨H.length + 2, 0, none⟩), .pointer (some ⟨H.length + 3, 0, none⟩), tSl l.length (evR l), .int .i64 l.length, .int .i64 0] ⟨H ++ [mapA (pairS l l.length), mapE (pairS l l.length), .cells [.map (some H.length), .map (some (H.length + 1)), .bool (pairS l l.length).odd] q11 true, .cells [.int .i64 at_, .int .i64 1] y15 true], none⟩ = (qFr H.length l at_ [] 0, ⟨H ++ blkQ H.length at_ [] (pairS l l.length), none⟩) :=
    y115 [[], [], [0, 1], []] [2, 3] [2, 0, 1, 3] rfl rfl (by simp [q22]) (by simp [y14, q133, q135]) (by simp [qFr, rowH, ptrQ, ptrS, lren, vren, q117, q86, y70, q41, q22]) (by simp [blkQ, y24, lren, vren, q117, q86, y70, y156, y155])
  obtain ⟨r, hlp, hr⟩ := q173 (n0 := H.length) (step := history_Ops.loop5s (acall PP TT) loopG H.length) (len := l.length) (σ := Unit)
    (fun n _ => (qFr H.length l at_ (opsL (toI (pairS l l.length)) l at_ n) n, ⟨H ++ blkQ H.length at_ (opsL (toI (pairS l l.length)) l at_ n) (pairS l l.length), none⟩))
    (fun _ _ => True) (fun r => r = (.exit 0, [rowH H.length (opsL (toI (pairS l l.length)) l at_ l.length)], ⟨H ++ blkQ H.length at_ (opsL (toI (pairS l l.length)) l at_ l.length) (pairS l l.length), none⟩))
    (fun n _ hn _ => by
      obtain ⟨x, hx⟩ : ∃ x, l[n]? = some x := ⟨_, List.getElem?_eq_getElem hn⟩
      obtain ⟨vs, st, h1, h2⟩ := qops_step (H := H) hl hm hat hn hx (hok n).1 (hok n).2
      exact .inr ⟨vs, st, (), h1, h2, trivial⟩)
    (fun _ _ => ⟨_, by simp only [history_Ops.loop5s, history_Ops.loop5, qFr, mach, Nat.reduceAdd, Nat.reduceLeDiff, Int.reduceEq, Int.reduceLT, Int.reduceLE, hlast], rfl⟩)
    l.length 0 () _ _ (by omega) trivial hg0
  subst hr
  have hesc : escOf none (H.length + 2) [H.length, H.length + 1] = none := by
    simp only [escOf]
    rw [if_neg (by omega), if_neg (by omega)]
  rw [y22, history_Ops.eq]
  simp only [history_Ops.sh, q356 hl (show l.length < 1000000 by omega), y168, z_history_pairs, q83, z_api_Span, y95, ln_wld, mach, Nat.reduceAdd, Nat.reduceLeDiff, Int.reduceEq, Int.reduceLT, Int.reduceLE, q9, hesc, hlp, history_Ops.j7]
  have hA := (hok l.length).1
  generalize opsL (toI (pairS l l.length)) l at_ l.length = A at hA
  cases A with
  | nil => exact fin_nil rfl
  | cons a tl => exact q232 (sz := 19) rfl q178 (q166 hA) (y246 _) (q29 _) rfl

end
end Go.Proofs.Ytfinilnkempofaa

end
