/- What happened to a sector: the document's, over the machine. -/
import Derived.Test.YtfinilnkempofaaHistOpen2
set_option linter.all false
set_option linter.unusedVariables false
set_option linter.unusedSimpArgs false
set_option linter.unnecessarySimpa false
namespace Go.Proofs.Ytfinilnkempofaa
open Go Go.Am

/-- a read or a write of one sector -/
structure Hop where
  w : Bool
  v : List Int
  f : Int
  t : Int

def opk (x : Hop) : List Value := .bool x.w :: (byt x.v ++ [.int .i64 x.f, .int .i64 x.t])
structure OkHop (x : Hop) : Prop where
  v : x.v.length = 16 ∧ ∀ b ∈ x.v, 0 ≤ b ∧ b < 256
  f : isI x.f
  t : isI x.t

section
variable {x : Hop} (h : x.v.length = 16)
include h
theorem opk_len : (opk x).length = 19 := by simp [opk, byt, h]
theorem opk_t : (opk x)[18]? = some (.int .i64 x.t) := by
  simp only [opk, List.getElem?_cons_succ]
  rw [List.getElem?_append_right (by simp [byt, h])]
  simp [byt, h]
theorem opk_put {v : List Int} (hv : v.length = 16) : putCells (opk x) 1 (byt v) = opk { x with v := v } := by
  simp only [opk, putCells_succ]
  rw [putCells_app (by simp [byt, h, hv])]
end
theorem opk_w (x : Hop) : (opk x)[0]? = some (.bool x.w) := by simp [opk]
theorem opk_refs (x : Hop) : lrefs (opk x) = [] := by simp [opk, byt_refs]
theorem opk_cells (x : Hop) : allCells (opk x) = true := by
  have h1 := byt_cells x.v
  unfold allCells at h1 ⊢
  simp only [opk, List.all_cons, List.all_append, h1]
  simp
theorem opk_flat (x : Hop) : (opk x).all noSl = true := by
  simp only [opk, List.all_cons, List.all_append, byt_flat]
  simp [noSl]

theorem bd_rop (w : Bool) (f t : Int) : aBuild PP t_twainref36_Op [(0, .bool w), (2, .int .i64 f), (3, .int .i64 t)] = some (.agg (opk ⟨w, z16, f, t⟩).toArray) := by kernel_rfl
theorem bd_pop (w : Bool) (f t : Int) : aBuild PP t_history_Op [(0, .bool w), (2, .int .i64 f), (3, .int .i64 t)] = some (.agg (opk ⟨w, z16, f, t⟩).toArray) := by kernel_rfl
theorem z16_n : z16.length = 16 := by simp [z16]

theorem v16 {v : List Int} (h : v.length = 16) : ∃ a0 a1 a2 a3 a4 a5 a6 a7 a8 a9 a10 a11 a12 a13 a14 a15, v = [a0, a1, a2, a3, a4, a5, a6, a7, a8, a9, a10, a11, a12, a13, a14, a15] := by
  match v, h with
  | [a0, a1, a2, a3, a4, a5, a6, a7, a8, a9, a10, a11, a12, a13, a14, a15], _ => exact ⟨a0, a1, a2, a3, a4, a5, a6, a7, a8, a9, a10, a11, a12, a13, a14, a15, rfl⟩

theorem bsl_rop {x : Hop} (h : x.v.length = 16) (H : List Blk) (e : Option Nat) : bsl PP t_L_twainref36_Op 1 [0] [.agg (opk x).toArray] ⟨H, e⟩ = some (.slice (some ⟨H.length, 0, none⟩) 1 1, ⟨H ++ [.cells (opk x) t_twainref36_Op true], e⟩) := by
  obtain ⟨w, v, f, t⟩ := x
  obtain ⟨a0, a1, a2, a3, a4, a5, a6, a7, a8, a9, a10, a11, a12, a13, a14, a15, rfl⟩ := v16 h
  clear h
  unfold bsl
  have hfl : frzL (frz PP 0 8) [Value.agg (opk ⟨w, [a0, a1, a2, a3, a4, a5, a6, a7, a8, a9, a10, a11, a12, a13, a14, a15], f, t⟩).toArray] H = ([Value.agg (opk ⟨w, [a0, a1, a2, a3, a4, a5, a6, a7, a8, a9, a10, a11, a12, a13, a14, a15], f, t⟩).toArray], H) := frzL_flatV _ _ _ _ (by simp [flatV, opk_flat])
  simp only [hfl]
  refine Eq.trans (b := some (aRow t_twainref36_Op (opk ⟨w, [a0, a1, a2, a3, a4, a5, a6, a7, a8, a9, a10, a11, a12, a13, a14, a15], f, t⟩) 1 1 ⟨H, e⟩)) ?_ rfl
  clear hfl
  kernel_rfl
theorem bsl_pop {x : Hop} (h : x.v.length = 16) (H : List Blk) (e : Option Nat) : bsl PP t_L_history_Op 1 [0] [.agg (opk x).toArray] ⟨H, e⟩ = some (.slice (some ⟨H.length, 0, none⟩) 1 1, ⟨H ++ [.cells (opk x) t_history_Op true], e⟩) := by
  obtain ⟨w, v, f, t⟩ := x
  obtain ⟨a0, a1, a2, a3, a4, a5, a6, a7, a8, a9, a10, a11, a12, a13, a14, a15, rfl⟩ := v16 h
  clear h
  unfold bsl
  have hfl : frzL (frz PP 0 8) [Value.agg (opk ⟨w, [a0, a1, a2, a3, a4, a5, a6, a7, a8, a9, a10, a11, a12, a13, a14, a15], f, t⟩).toArray] H = ([Value.agg (opk ⟨w, [a0, a1, a2, a3, a4, a5, a6, a7, a8, a9, a10, a11, a12, a13, a14, a15], f, t⟩).toArray], H) := frzL_flatV _ _ _ _ (by simp [flatV, opk_flat])
  simp only [hfl]
  refine Eq.trans (b := some (aRow t_history_Op (opk ⟨w, [a0, a1, a2, a3, a4, a5, a6, a7, a8, a9, a10, a11, a12, a13, a14, a15], f, t⟩) 1 1 ⟨H, e⟩)) ?_ rfl
  clear hfl
  kernel_rfl

/-! ### Rows of them -/

def hopR (A : List Hop) : List Value := (A.map opk).flatten
def OkHops (A : List Hop) : Prop := ∀ x ∈ A, OkHop x
theorem hops_rows {A : List Hop} (h : OkHops A) : RowsOf 19 (A.map opk) := by
  have key : ∀ r ∈ A.map opk, ∃ x, OkHop x ∧ r = opk x := fun r hr => by
    obtain ⟨x, hx, rfl⟩ := List.mem_map.1 hr
    exact ⟨x, h x hx, rfl⟩
  refine ⟨fun r hr => ?_, fun r hr => ?_, fun r hr => ?_, fun r hr => ?_⟩ <;> obtain ⟨x, hx, rfl⟩ := key r hr
  · exact opk_len hx.v.1
  · exact opk_refs x
  · exact opk_cells x
  · exact opk_flat x
theorem hopR_refs (A : List Hop) : lrefs (hopR A) = [] := by
  induction A with
  | nil => rfl
  | cons x xs ih => simp only [hopR, List.map_cons, List.flatten_cons, lrefs_app, opk_refs] at ih ⊢; simpa using ih
theorem hopR_flat (A : List Hop) : (hopR A).all noSl = true := by
  induction A with
  | nil => rfl
  | cons x xs ih => simp only [hopR, List.map_cons, List.flatten_cons, List.all_append, opk_flat] at ih ⊢; simpa using ih
theorem hopR_len {A : List Hop} (h : OkHops A) : (hopR A).length = A.length * 19 := by
  have := (hops_rows h).flen
  simpa [hopR] using this
theorem hopR_snoc (A : List Hop) (x : Hop) : hopR A ++ opk x = hopR (A ++ [x]) := by simp [hopR]
theorem OkHops.snoc {A : List Hop} {x : Hop} (hA : OkHops A) (hx : OkHop x) : OkHops (A ++ [x]) := fun y hy => by
  rcases List.mem_append.1 hy with h | h
  · exact hA y h
  · simp at h; subst h; exact hx

def rowH (n0 : Nat) (A : List Hop) : Value := match A with | [] => .slice none 0 0 | _ :: tl => .slice (some ⟨n0, 0, none⟩) (tl.length + 1) UNK

section
variable {H : List Blk}
theorem push_rop_nil {L : List Blk} {e : Option Nat} {x : Hop} (hx : x.v.length = 16) {R : Type} {F : Value → AS → Option R} :
    ((bsl PP t_L_twainref36_Op 1 [0] [.agg (opk x).toArray] ⟨H ++ L, e⟩).bind fun q => eBuiltin PP .append #[t_L_twainref36_Op, t_L_twainref36_Op] [.slice none 0 0, q.1] q.2 F) = F (.slice (some ⟨H.length + (L.length + 1), 0, none⟩) 1 UNK) ⟨H ++ (L ++ [.cells (opk x) t_twainref36_Op true, .cells (opk x) t_twainref36_Op true]), e⟩ :=
  push_nil el_L_twainref36_Op (opk_len hx) (bsl_rop hx)
theorem push_rop {A : List Hop} (hA : OkHops A) (hm : A.length ≤ 65535) {L : List Blk} {e : Option Nat} {x : Hop} (hx : x.v.length = 16) {R : Type} {F : Value → AS → Option R} (hk : L[0]? = some (.cells (hopR A) t_twainref36_Op true)) :
    ((bsl PP t_L_twainref36_Op 1 [0] [.agg (opk x).toArray] ⟨H ++ L, e⟩).bind fun q => eBuiltin PP .append #[t_L_twainref36_Op, t_L_twainref36_Op] [.slice (some ⟨H.length, 0, none⟩) A.length UNK, q.1] q.2 F) = F (.slice (some ⟨H.length + (L.length + 1), 0, none⟩) (A.length + 1) UNK) ⟨H ++ (L.set 0 .dead ++ [.cells (opk x) t_twainref36_Op true, .cells (hopR (A ++ [x])) t_twainref36_Op true]), e⟩ := by
  rw [← hopR_snoc]
  exact push_more0 el_L_twainref36_Op (opk_len hx) (bsl_rop hx) hk (hopR_len hA) hm
theorem push_pop_nil {L : List Blk} {e : Option Nat} {x : Hop} (hx : x.v.length = 16) {R : Type} {F : Value → AS → Option R} :
    ((bsl PP t_L_history_Op 1 [0] [.agg (opk x).toArray] ⟨H ++ L, e⟩).bind fun q => eBuiltin PP .append #[t_L_history_Op, t_L_history_Op] [.slice none 0 0, q.1] q.2 F) = F (.slice (some ⟨H.length + (L.length + 1), 0, none⟩) 1 UNK) ⟨H ++ (L ++ [.cells (opk x) t_history_Op true, .cells (opk x) t_history_Op true]), e⟩ :=
  push_nil el_L_history_Op (opk_len hx) (bsl_pop hx)
theorem push_pop {A : List Hop} (hA : OkHops A) (hm : A.length ≤ 65535) {L : List Blk} {e : Option Nat} {x : Hop} (hx : x.v.length = 16) {R : Type} {F : Value → AS → Option R} (hk : L[0]? = some (.cells (hopR A) t_history_Op true)) :
    ((bsl PP t_L_history_Op 1 [0] [.agg (opk x).toArray] ⟨H ++ L, e⟩).bind fun q => eBuiltin PP .append #[t_L_history_Op, t_L_history_Op] [.slice (some ⟨H.length, 0, none⟩) A.length UNK, q.1] q.2 F) = F (.slice (some ⟨H.length + (L.length + 1), 0, none⟩) (A.length + 1) UNK) ⟨H ++ (L.set 0 .dead ++ [.cells (opk x) t_history_Op true, .cells (hopR (A ++ [x])) t_history_Op true]), e⟩ := by
  rw [← hopR_snoc]
  exact push_more0 el_L_history_Op (opk_len hx) (bsl_pop hx) hk (hopR_len hA) hm
end

/-! ### What an event is to a sector -/

/-- is event x a read or a write of the sector? -/
def touchB (x : Ev) (at_ : Int) : Bool := decide (x.kind = 0) && (decide (x.rk = 0) || decide (x.rk = 1)) && meetB x.off x.len at_ 1

/-- the op of event n, if any; E: when what was asked at a place ended -/
def opD (E : Nat → Int) (l : List Ev) (at_ : Int) (n : Nat) : Option Hop := match l[n]? with
  | none => none
  | some x => if touchB x at_ = true then
      if x.rk = 1 then some ⟨true, secI x.rd (at_ - x.off).toNat, n, E n⟩
      else if E n < 0 then none
      else match l[(E n).toNat]? with
        | some y => some ⟨false, secI y.d (at_ - x.off).toNat, n, E n⟩
        | none => none
    else none

def opsL (E : Nat → Int) (l : List Ev) (at_ : Int) : Nat → List Hop
  | 0 => []
  | n + 1 => match opD E l at_ n with
    | some x => opsL E l at_ n ++ [x]
    | none => opsL E l at_ n

theorem opD_ok {E : Nat → Int} {l : List Ev} (hl : OkEvs l) (hm : l.length < 1000000) (hE : ∀ n, isI (E n)) {at_ : Int} {n : Nat} {h : Hop} (hd : opD E l at_ n = some h) : OkHop h := by
  unfold opD at hd
  split at hd
  · simp at hd
  · rename_i x hx
    have hn := lt_of_get hx
    have hxo := hl x (List.mem_of_getElem? hx)
    split at hd
    · split at hd
      · simp at hd; subst hd
        exact ⟨⟨secI_len _ _, secI_ok hxo.rd _⟩, by unfold isI; simp only; omega, hE n⟩
      · split at hd
        · simp at hd
        · split at hd
          · rename_i y hy
            simp at hd; subst hd
            exact ⟨⟨secI_len _ _, secI_ok (hl y (List.mem_of_getElem? hy)).d _⟩, by unfold isI; simp only; omega, hE n⟩
          · simp at hd
    · simp at hd

theorem opsL_ok {E : Nat → Int} {l : List Ev} (hl : OkEvs l) (hm : l.length < 1000000) (hE : ∀ n, isI (E n)) (at_ : Int) : ∀ n, OkHops (opsL E l at_ n) ∧ (opsL E l at_ n).length ≤ n
  | 0 => ⟨fun x hx => by simp [opsL] at hx, by simp [opsL]⟩
  | n + 1 => by
    obtain ⟨h1, h2⟩ := opsL_ok hl hm hE at_ n
    simp only [opsL]
    cases hd : opD E l at_ n with
    | none => exact ⟨h1, by simp only; omega⟩
    | some x => exact ⟨h1.snoc (opD_ok hl hm hE hd), by simp; omega⟩

theorem meet_in {o n a : Int} (h : meetB o n a 1 = true) : o ≤ a ∧ a < o + n ∧ 0 ≤ o ∧ n ≤ 1073741824 ∧ a - o ≤ 1073741824 := by
  simp only [meetB, Bool.and_eq_true, decide_eq_true_eq] at h
  obtain ⟨⟨h1, h2⟩, h3⟩ := h
  have p1 := plainB_in h1
  have p2 := plainB_in h2
  unfold mxI mnI at h3
  split at h3 <;> split at h3 <;> omega

end Go.Proofs.Ytfinilnkempofaa
