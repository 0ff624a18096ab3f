/- A part of the proof: HistProg, HistPair, HistOpen, HistOpen2. Its conditions: none. -/
import Derived.Test.YtfinilnkempofaaHistEv
import Derived.Test.YtfinilnkempofaaAm23
set_option linter.all false
set_option linter.unusedVariables false
set_option linter.unusedSimpArgs false
set_option linter.unnecessarySimpa false
section
namespace Go.Proofs.Ytfinilnkempofaa
open Go Go.Am

theorem sl_sec (b : Nat) (st : AS) : q196 PP y1 (.pointer (some ⟨b, 0, none⟩)) none none none st = some (.slice (some ⟨b, 0, none⟩) 16 16) := by kernel_rfl

theorem sl_byt {b : List Int} {i : Nat} (hi : i ≤ b.length) (hb : b.length < 1000000) (st : AS) : q196 PP y48 (tSl b.length (byt b)) (some (.int .i64 (i : Int))) none none st = some (tSl (b.length - i) (byt (b.drop i))) := by
  show q196 PP y48 (.iface b.length (.tuple (byt b).toArray)) _ _ _ st = _
  have hz : ((i : Int) : Int).toNat = i := by omega
  simp only [q196, y218, q341, q174, UNK, if_true, Option.isSome_none]
  rw [if_pos (by omega)]
  simp only [hz]
  rw [if_pos ⟨hi, Nat.le_refl _, Nat.le_refl _, by simp, by omega⟩]
  simp only [tSlice, y363, List.size_toArray, UNK]
  have hc : 0 + b.length * 1 ≤ b.length ∧ b.length ≠ 9223372036854775808 := ⟨by omega, by omega⟩
  have hn : ¬ 9223372036854775808 = b.length - i := by omega
  rw [if_pos hc, Option.map_some]
  simp only [Option.isNone_none, and_self, if_true, if_neg hn]
  have ht : List.take ((b.length - i) * 1) (List.drop (0 + i * 1) (byt b)) = byt (b.drop i) := by
    rw [List.take_of_length_le (by simp [byt])]
    simp [byt]
  rw [ht]

theorem copy_sec {b : List Int} {n bk : Nat} {st : AS} {R : Type} {k : Value → AS → Option R} (hn : n = b.length) (h16 : 16 ≤ n) :
    y16 PP .copy #[y48, y48] [.slice (some ⟨bk, 0, none⟩) 16 16, tSl n (byt b)] st k = (q71 st bk 0 (byt (b.take 16))).bind fun s => k (.int .i64 16) s := by
  subst hn
  have hs : y53 1 st.H (tSl b.length (byt b)) = some (b.length, byt b) := by
    show y53 1 st.H (.iface b.length (.tuple (byt b).toArray)) = _
    simp [y53, tSrc, byt]
  have h0 : min b.length 16 = 16 := by omega
  simp only [y16, aCopy]
  have hu : (#[y48, y48] : Array TypeId)[0]? = some y48 := rfl
  simp only [hu, y218, q341, Option.getD_some, hs, h0]
  simp only [show ¬ (16 = 0) by decide, if_false, Nat.mul_one, byt_take]
  cases q71 st bk 0 (byt (b.take 16)) <;> rfl

theorem cut_ok {b : List Int} (hb : OkB b) {i : Nat} (hi : i ≤ 1073741824) (H : List Blk) : acall PP TT q155 [tSl b.length (byt b), .int .i64 i] H = some (.agg (byt (secI b i)).toArray, H, none) := by
  have hbl := hb.1
  rw [y22, history_cut.eq]
  have w1 : IntKind.i64.wrap ((i : Int) * 16) = ((16 * i : Nat) : Int) := by rw [q122 ⟨by omega, by omega⟩]; omega
  have w2 : IntKind.i64.wrap (((16 * i : Nat) : Int) + 16) = ((16 * i + 16 : Nat) : Int) := by rw [q122 ⟨by omega, by omega⟩]; omega
  have hge : (0 : Int) ≤ ((16 * i : Nat) : Int) := by omega
  by_cases hc : 16 * (i + 1) ≤ b.length
  · have hle : ((16 * i + 16 : Nat) : Int) ≤ (b.length : Int) := by omega
    have hs : secI b i = (b.drop (16 * i)).take 16 := by simp [secI, hc]
    have hsl := fun st => sl_byt (b := b) (i := 16 * i) (by omega) hbl st
    have hcp := fun {bk : Nat} {st : AS} {R : Type} {k : Value → AS → Option R} => copy_sec (b := b.drop (16 * i)) (n := b.length - 16 * i) (bk := bk) (st := st) (R := R) (k := k) (by simp) (by omega)
    rw [← hs] at hcp
    simp only [history_cut.sh, history_cut.j0, history_cut.j1, mach, Nat.reduceAdd, Nat.reduceLeDiff, Int.reduceEq, Int.reduceLT, Int.reduceLE, w1, w2, hge, hle, q206, y50, q90, y74, sl_sec, hsl, hcp, y274, y146, q9, List.take_of_length_le, q36]
    refine y90 ?_ ?_ rfl
    · simp [flatV, q194]
    · simp [q36]
  · have hle : ¬ ((16 * i + 16 : Nat) : Int) ≤ (b.length : Int) := by omega
    have hs : secI b i = z16 := by simp [secI, hc, z16]
    simp only [history_cut.sh, history_cut.j0, history_cut.j1, mach, Nat.reduceAdd, Nat.reduceLeDiff, Int.reduceEq, Int.reduceLT, Int.reduceLE, w1, w2, hge, hle, q206, y50, q90, y74, y146, q9, List.take_of_length_le, q36, hs]
    refine y90 ?_ ?_ rfl
    · simp [flatV, q194]
    · simp [q36]

/-! ### Keys -/

abbrev keyV (w t : Int) : Value := .agg [Value.int .i64 w, Value.int .i64 t].toArray
theorem bd_key (x y : Int) : q89 PP y61 [(0, .int .i64 x), (1, .int .i64 y)] = some (keyV x y) := by kernel_rfl

theorem of_ok (x : Ev) (H : List Blk) : acall PP TT y152 [.agg (evc x).toArray] H = some (keyV x.who x.ticket, H, none) := by
  rw [y22, history_of.eq]
  simp only [history_of.sh, evc, mach, Nat.reduceAdd, Nat.reduceLeDiff, Int.reduceEq, Int.reduceLT, Int.reduceLE, y286, y304, y347, z_history_key, bd_key, q9]
  exact y90 rfl rfl rfl

/-! ### Pairs -/

/-- what has been paired: the askings, the ends of some, and whether something was odd -/
structure PS where
  A : List ((Int × Int) × Nat)
  E : List (Nat × Nat)
  odd : Bool

def KA (p : (Int × Int) × Nat) : Value := keyV p.1.1 p.1.2
def VA (p : (Int × Int) × Nat) : Value := .int .i64 p.2
def KE (p : Nat × Nat) : Value := .int .i64 p.1
def VE (p : Nat × Nat) : Value := .int .i64 p.2
def lookA (A : List ((Int × Int) × Nat)) (w t : Int) : Option Nat := (A.find? fun p => decide (p.1 = (w, t))).map (·.2)
def lookE (E : List (Nat × Nat)) (n : Nat) : Option Nat := (E.find? fun p => decide (p.1 = n)).map (·.2)

def pstep (s : PS) (i : Nat) (x : Ev) : PS :=
  let f := lookA s.A x.who x.ticket
  if x.kind = 0 then
    match f with
    | some _ => { s with odd := true }
    | none => { s with A := s.A ++ [((x.who, x.ticket), i)] }
  else if x.kind = 1 then
    match f with
    | none => { s with odd := true }
    | some n => match lookE s.E n with
      | some _ => { s with odd := true }
      | none => { s with E := s.E ++ [(n, i)] }
  else s

def pairS (l : List Ev) : Nat → PS
  | 0 => ⟨[], [], false⟩
  | n + 1 => match l[n]? with
    | some x => pstep (pairS l n) n x
    | none => pairS l n

/-- what stands in it fits -/
structure OkPS (n : Nat) (s : PS) : Prop where
  a : ∀ p ∈ s.A, isI p.1.1 ∧ isI p.1.2 ∧ p.2 < n
  e : ∀ p ∈ s.E, p.1 < n ∧ p.2 < n

theorem lookA_mem {A : List ((Int × Int) × Nat)} {w t : Int} {n : Nat} (h : lookA A w t = some n) : ((w, t), n) ∈ A := by
  unfold lookA at h
  cases hf : A.find? fun p => decide (p.1 = (w, t)) with
  | none => rw [hf] at h; simp at h
  | some p =>
    rw [hf] at h
    simp at h
    have h1 := List.find?_some hf
    have h2 := List.mem_of_find?_eq_some hf
    simp only [decide_eq_true_eq] at h1
    obtain ⟨a, b⟩ := p
    simp only at h h1
    subst h h1
    exact h2

theorem OkPS.step {n : Nat} {s : PS} (h : OkPS n s) {x : Ev} (hx : OkEv x) : OkPS (n + 1) (pstep s n x) := by
  have up : OkPS (n + 1) s := ⟨fun p hp => by have := h.a p hp; exact ⟨this.1, this.2.1, by omega⟩, fun p hp => by have := h.e p hp; omega⟩
  unfold pstep
  dsimp only
  split
  · split
    · exact ⟨up.a, up.e⟩
    · refine ⟨fun p hp => ?_, up.e⟩
      rcases List.mem_append.1 hp with hp | hp
      · exact up.a p hp
      · simp at hp; subst hp; exact ⟨hx.who, hx.ticket, by simp⟩
  · split
    · split
      · exact ⟨up.a, up.e⟩
      · rename_i m hm
        split
        · exact ⟨up.a, up.e⟩
        · refine ⟨up.a, fun p hp => ?_⟩
          rcases List.mem_append.1 hp with hp | hp
          · exact up.e p hp
          · simp at hp; subst hp
            have := (h.a _ (lookA_mem hm)).2.2
            simp only at this ⊢
            omega
    · exact up

theorem q306 {l : List Ev} (hl : OkEvs l) : ∀ n, n ≤ l.length → OkPS n (pairS l n)
  | 0, _ => ⟨fun p hp => by simp [pairS] at hp, fun p hp => by simp [pairS] at hp⟩
  | n + 1, h => by
    have ih := q306 hl n (by omega)
    have hx : l[n]? = some l[n] := List.getElem?_eq_getElem (by omega)
    simp only [pairS, hx]
    exact ih.step (hl _ (List.mem_of_getElem? hx))

theorem flatKey : FlatAgg PP y61 := ⟨by kernel_rfl, by kernel_rfl, by kernel_rfl⟩
theorem flatInt : flatT PP 12 t_int = true := by kernel_rfl
theorem i64_min : IntKind.i64.min = -9223372036854775808 := by kernel_rfl
theorem i64_max : IntKind.i64.max = 9223372036854775807 := by kernel_rfl
theorem y319 {n : Int} (h : isI n) : TOk PP t_int [.int .i64 n] := by
  refine .int n u_int ?_
  unfold isI at h
  rw [i64_min, i64_max]
  omega
theorem tokKey {w t : Int} (hw : isI w) (ht : isI t) : TOk PP y61 [.int .i64 w, .int .i64 t] :=
  TOk.struct' (ps := [[.int .i64 w], [.int .i64 t]]) y351 q353 ⟨y319 hw, y319 ht, trivial⟩

def kcA (p : (Int × Int) × Nat) : List Value := [.int .i64 p.1.1, .int .i64 p.1.2]
def kcE (p : Nat × Nat) : List Value := [.int .i64 p.1]
theorem argInt (n : Int) : argV PP t_int [.int .i64 n] = .int .i64 n := by unfold argV; rw [u_int]; rfl

section
variable {H0 l : List Blk} {e : Option Nat} {n : Nat} {s : PS} (h : OkPS n s) (hn : n < 1000000)
include h

theorem lk_at {k c : Nat} {w t : Int} (hw : isI w) (ht : isI t) (hb : l[k]? = some (.map (y58 KA VA 0 s.A) c)) :
    q147 PP q48 (.map (some (H0.length + k))) (keyV w t) true ⟨H0 ++ l, e⟩ = some (.tuple #[.int .i64 (((lookA s.A w t).getD 0 : Nat) : Int), .bool (lookA s.A w t).isSome]) := by
  have := look_ent (P := PP) (K := KA) (V := VA) (kc := kcA) y176 zv_int rfl flatKey.flat (st := ⟨H0 ++ l, e⟩) (r := H0.length + k) (xs := s.A) (fun x hx => by rw [flatKey.argV]; rfl) (fun x hx => tokKey (h.a x hx).1 (h.a x hx).2.1) (by rw [y105]; exact hb) (tokKey hw ht) (p := fun p => decide (p.1 = (w, t))) (fun x _ => by
    obtain ⟨⟨a, b⟩, c⟩ := x
    simp [kcA])
  rw [flatKey.argV] at this
  rw [this]
  unfold lookA
  cases s.A.find? fun p => decide (p.1 = (w, t)) <;> rfl

theorem up_at {k : Nat} {w t : Int} {i : Nat} (hw : isI w) (ht : isI t) (hb : l[k]? = some (.map (y58 KA VA 0 s.A) s.A.length)) (hnew : lookA s.A w t = none) :
    y75 PP q48 (.map (some (H0.length + k))) (keyV w t) (.int .i64 i) ⟨H0 ++ l, e⟩ = some ⟨H0 ++ l.set k (.map (y58 KA VA 0 (s.A ++ [((w, t), i)])) (s.A.length + 1)), e⟩ := by
  have := upd_ent (P := PP) (K := KA) (V := VA) (kc := kcA) y176 flatKey.flat (st := ⟨H0 ++ l, e⟩) (r := H0.length + k) (xs := s.A) (fun x hx => by rw [flatKey.argV]; rfl) (fun x hx => tokKey (h.a x hx).1 (h.a x hx).2.1) (by rw [y105]; exact hb) (x := ((w, t), i)) (by rw [flatKey.argV]; rfl) rfl (tokKey hw ht) (fun y hy he => by
    unfold lookA at hnew
    simp only [Option.map_eq_none_iff, List.find?_eq_none, decide_eq_true_eq] at hnew
    refine hnew y hy ?_
    obtain ⟨⟨a, b⟩, c⟩ := y
    simpa [kcA] using he)
  rw [flatKey.argV] at this
  have h2 : (VA ((w, t), i) : Value) = .int .i64 i := rfl
  rw [h2] at this
  rw [this, q238]
  rfl

theorem lk_en {k c m : Nat} (hm : m < 1000000) (hn : n < 1000000) (hb : l[k]? = some (.map (y58 KE VE 0 s.E) c)) :
    q147 PP q93 (.map (some (H0.length + k))) (.int .i64 m) true ⟨H0 ++ l, e⟩ = some (.tuple #[.int .i64 (((lookE s.E m).getD 0 : Nat) : Int), .bool (lookE s.E m).isSome]) := by
  have := look_ent (P := PP) (K := KE) (V := VE) (kc := kcE) y262 zv_int rfl flatInt (st := ⟨H0 ++ l, e⟩) (r := H0.length + k) (xs := s.E) (fun x hx => by rw [show kcE x = [.int .i64 x.1] from rfl, argInt]; rfl) (fun x hx => y319 (by have := h.e x hx; unfold isI; omega)) (by rw [y105]; exact hb) (q := [.int .i64 m]) (y319 (by unfold isI; omega)) (p := fun p => decide (p.1 = m)) (fun x _ => by
    simp [kcE]
    omega)
  rw [argInt] at this
  rw [this]
  unfold lookE
  cases s.E.find? fun p => decide (p.1 = m) <;> rfl

theorem up_en {k m i : Nat} (hm : m < 1000000) (hn : n < 1000000) (hb : l[k]? = some (.map (y58 KE VE 0 s.E) s.E.length)) (hnew : lookE s.E m = none) :
    y75 PP q93 (.map (some (H0.length + k))) (.int .i64 m) (.int .i64 i) ⟨H0 ++ l, e⟩ = some ⟨H0 ++ l.set k (.map (y58 KE VE 0 (s.E ++ [(m, i)])) (s.E.length + 1)), e⟩ := by
  have := upd_ent (P := PP) (K := KE) (V := VE) (kc := kcE) y262 flatInt (st := ⟨H0 ++ l, e⟩) (r := H0.length + k) (xs := s.E) (fun x hx => by rw [show kcE x = [.int .i64 x.1] from rfl, argInt]; rfl) (fun x hx => y319 (by have := h.e x hx; unfold isI; omega)) (by rw [y105]; exact hb) (x := (m, i)) (q := [.int .i64 m]) (by rw [argInt]; rfl) rfl (y319 (by unfold isI; omega)) (fun y hy he => by
    unfold lookE at hnew
    simp only [Option.map_eq_none_iff, List.find?_eq_none, decide_eq_true_eq] at hnew
    refine hnew y hy ?_
    simp [kcE] at he
    omega)
  rw [argInt] at this
  have h2 : (VE (m, i) : Value) = .int .i64 i := rfl
  rw [h2] at this
  rw [this, q238]
  rfl
end

theorem KA_refs (p : (Int × Int) × Nat) : vrefs (KA p) = [] := rfl
theorem VA_refs (p : (Int × Int) × Nat) : vrefs (VA p) = [] := rfl
theorem KE_refs (p : Nat × Nat) : vrefs (KE p) = [] := rfl
theorem VE_refs (p : Nat × Nat) : vrefs (VE p) = [] := rfl
def mapA (s : PS) : Blk := .map (y58 KA VA 0 s.A) s.A.length
def mapE (s : PS) : Blk := .map (y58 KE VE 0 s.E) s.E.length
theorem q133 (s : PS) : q40 (mapA s) = [] := y195 VA_refs KA_refs 0 s.A
theorem q135 (s : PS) : q40 (mapE s) = [] := y195 VE_refs KE_refs 0 s.E
theorem y156 (σ : Nat → Nat) (s : PS) : q129 σ (mapA s) = mapA s := by
  simp only [mapA, q129]
  rw [y216 VA_refs KA_refs]
theorem y155 (σ : Nat → Nat) (s : PS) : q129 σ (mapE s) = mapE s := by
  simp only [mapE, q129]
  rw [y216 VE_refs KE_refs]

end Go.Proofs.Ytfinilnkempofaa

end
section
namespace Go.Proofs.Ytfinilnkempofaa
open Go Go.Am

theorem q334 (a : Nat) : veq (.map (some a)) (.map (some a)) = true := by simp [veq]
theorem q132 (k : IntKind) (a : Int) : veq (.int k a) (.int k a) = true := by simp [veq]

/-- the pairs under way, as the loop has them -/
def zP : Blk := .cells [.map none, .map none, .bool false] q11 true
def pB (n0 : Nat) (odd : Bool) : Blk := .cells [.map (some (n0 + 2)), .map (some (n0 + 3)), .bool odd] q11 true
def pFr (n0 : Nat) (l : List Ev) (n : Nat) : List Value := [.pointer (some ⟨n0, 0, none⟩), .pointer (some ⟨n0 + 1, 0, none⟩), tSl l.length (evR l), .int .i64 l.length, .int .i64 n]
def pHp (n0 : Nat) (s : PS) : List Blk := [zP, pB n0 s.odd, mapA s, mapE s]

section
variable {l : List Ev} {H : List Blk}

theorem pair_gc (s : PS) (n : Nat) (x : Ev) : gc H.length (pFr H.length l n) ⟨H ++ (pHp H.length s ++ [.cells (evc x) q10 true]), none⟩ = (pFr H.length l n, ⟨H ++ pHp H.length s, none⟩) :=
  y115 [[], [2, 3], [], [], []] [0, 1] [0, 1, 2, 3] rfl rfl (by simp [pFr, q22]) (by simp [pHp, zP, pB, q133, q135, y14, y25])
    (by simp [pFr, lren, vren, q117, q86, y70, q41, q22]) (by simp [pHp, zP, pB, y24, lren, vren, q117, q86, y70, y156, y155])

theorem lk_at' {s : PS} {L : List Blk} {e : Option Nat} {n : Nat} (h : OkPS n s) {w t : Int} (hw : isI w) (ht : isI t) (hb : L[2]? = some (mapA s)) :
    q147 PP q48 (.map (some (H.length + 2))) (keyV w t) true ⟨H ++ L, e⟩ = some (.tuple #[.int .i64 (((lookA s.A w t).getD 0 : Nat) : Int), .bool (lookA s.A w t).isSome]) := lk_at h hw ht hb
theorem up_at' {s : PS} {L : List Blk} {e : Option Nat} {n : Nat} (h : OkPS n s) {w t : Int} {i : Nat} (hw : isI w) (ht : isI t) (hnew : lookA s.A w t = none) (hb : L[2]? = some (mapA s)) :
    y75 PP q48 (.map (some (H.length + 2))) (keyV w t) (.int .i64 i) ⟨H ++ L, e⟩ = some ⟨H ++ L.set 2 (mapA ⟨s.A ++ [((w, t), i)], s.E, s.odd⟩), e⟩ := by
  rw [up_at h hw ht hb hnew]
  simp [mapA]
theorem lk_en' {s : PS} {L : List Blk} {e : Option Nat} {n m : Nat} (h : OkPS n s) (hn : n < 1000000) (hm : m < 1000000) (hb : L[3]? = some (mapE s)) :
    q147 PP q93 (.map (some (H.length + 3))) (.int .i64 m) true ⟨H ++ L, e⟩ = some (.tuple #[.int .i64 (((lookE s.E m).getD 0 : Nat) : Int), .bool (lookE s.E m).isSome]) := lk_en h hm hn hb
theorem up_en' {s : PS} {L : List Blk} {e : Option Nat} {n m i : Nat} (h : OkPS n s) (hn : n < 1000000) (hm : m < 1000000) (hnew : lookE s.E m = none) (hb : L[3]? = some (mapE s)) :
    y75 PP q93 (.map (some (H.length + 3))) (.int .i64 m) (.int .i64 i) ⟨H ++ L, e⟩ = some ⟨H ++ L.set 3 (mapE ⟨s.A, s.E ++ [(m, i)], s.odd⟩), e⟩ := by
  rw [up_en h hm hn hb hnew]
  simp [mapE]

theorem pair_step (hl : OkEvs l) (hm : l.length < 1000000) {n : Nat} (hn : n < l.length) {x : Ev} (hx : l[n]? = some x) :
    history_paired.loop3s (acall PP TT) loopG H.length (pFr H.length l n, ⟨H ++ pHp H.length (pairS l n), none⟩) = some (.inl (pFr H.length l (n + 1), ⟨H ++ (pHp H.length (pairS l (n + 1)) ++ [.cells (evc x) q10 true]), none⟩)) := by
  have hxo := hl x (List.mem_of_getElem? hx)
  have hok := q306 hl n (by omega)
  have hs1 : pairS l (n + 1) = pstep (pairS l n) n x := by simp [pairS, hx]
  rw [hs1]
  generalize pairS l n = s at hok
  obtain ⟨A, E, odd⟩ := s
  have hn' : ((n : Int) < (l.length : Int)) := by omega
  have hix := ix_wld hn
  have hld := fun st => q272 hx st
  have hw := q69 (n := n) (by omega)
  have htk : (evc x).take 8 = evc x := List.take_of_length_le (by simp [y63])
  have hk0 : (evc x)[0]? = some (.int .i64 x.kind) := by simp [evc]
  have hof := fun H => of_ok x H
  have hla := fun (L : List Blk) (e : Option Nat) (hb : L[2]? = some (mapA ⟨A, E, odd⟩)) => lk_at' (H := H) (e := e) hok hxo.who hxo.ticket hb
  by_cases k0 : x.kind = 0
  · cases hf : lookA A x.who x.ticket with
    | some m =>
      have hp : pstep ⟨A, E, odd⟩ n x = ⟨A, E, true⟩ := by simp [pstep, k0, hf]
      rw [hp]
      simp only [hf, Option.getD_some, Option.isSome_some] at hla
      cases odd <;>
      · simp only [history_paired.loop3s, history_paired.loop3, history_paired.j1, history_paired.j4, pFr, pHp, zP, pB, mach, Nat.reduceAdd, Nat.reduceLeDiff, Int.reduceEq, Int.reduceLT, Int.reduceLE, hn', hix, hld, q33, q31, q32, y63, q34, y25, q9, htk, hk0, y93, q94, q24, hof, hla, q334, q131, k0, hw, List.append_nil]
        try rfl
    | none =>
      have hp : pstep ⟨A, E, odd⟩ n x = ⟨A ++ [((x.who, x.ticket), n)], E, odd⟩ := by simp [pstep, k0, hf]
      rw [hp]
      simp only [hf, Option.getD_none, Option.isSome_none] at hla
      have hup := fun (L : List Blk) (e : Option Nat) (hb : L[2]? = some (mapA ⟨A, E, odd⟩)) => up_at' (H := H) (e := e) (i := n) hok hxo.who hxo.ticket hf hb
      cases odd <;>
      · simp only [history_paired.loop3s, history_paired.loop3, history_paired.j1, history_paired.j4, pFr, pHp, zP, pB, mach, Nat.reduceAdd, Nat.reduceLeDiff, Int.reduceEq, Int.reduceLT, Int.reduceLE, hn', hix, hld, q33, q31, q32, y63, q34, y25, q9, htk, hk0, y93, q94, q24, hof, hla, hup, q334, q131, k0, hw, List.append_nil, List.set_cons_succ, List.set_cons_zero]
        try rfl
  · by_cases k1 : x.kind = 1
    · cases hf : lookA A x.who x.ticket with
      | none =>
        have hp : pstep ⟨A, E, odd⟩ n x = ⟨A, E, true⟩ := by simp [pstep, k0, k1, hf]
        rw [hp]
        simp only [hf, Option.getD_none, Option.isSome_none] at hla
        have hle := fun (L : List Blk) (e : Option Nat) (hb : L[3]? = some (mapE ⟨A, E, odd⟩)) => lk_en' (H := H) (e := e) hok (by omega) (m := 0) (by omega) hb
        cases odd <;>
        · simp only [history_paired.loop3s, history_paired.loop3, history_paired.j1, history_paired.j2, history_paired.j3, history_paired.j4, pFr, pHp, zP, pB, mach, Nat.reduceAdd, Nat.reduceLeDiff, Int.reduceEq, Int.reduceLT, Int.reduceLE, hn', hix, hld, q33, q31, q32, y63, q34, y25, q9, htk, hk0, y93, y113, q94, q24, hof, hla, hle, q334, q131, k1, hw, List.append_nil]
          try rfl
      | some m =>
        simp only [hf, Option.getD_some, Option.isSome_some] at hla
        have hmn : m < n := (hok.a _ (lookA_mem hf)).2.2
        have hle := fun (L : List Blk) (e : Option Nat) (hb : L[3]? = some (mapE ⟨A, E, odd⟩)) => lk_en' (H := H) (e := e) hok (by omega) (m := m) (by omega) hb
        cases hg : lookE E m with
        | some q =>
          have hp : pstep ⟨A, E, odd⟩ n x = ⟨A, E, true⟩ := by simp [pstep, k0, k1, hf, hg]
          rw [hp]
          simp only [hg, Option.getD_some, Option.isSome_some] at hle
          cases odd <;>
          · simp only [history_paired.loop3s, history_paired.loop3, history_paired.j1, history_paired.j2, history_paired.j3, history_paired.j4, pFr, pHp, zP, pB, mach, Nat.reduceAdd, Nat.reduceLeDiff, Int.reduceEq, Int.reduceLT, Int.reduceLE, hn', hix, hld, q33, q31, q32, y63, q34, y25, q9, htk, hk0, y93, y113, q94, q24, hof, hla, hle, q334, q131, k1, hw, List.append_nil]
            try rfl
        | none =>
          have hp : pstep ⟨A, E, odd⟩ n x = ⟨A, E ++ [(m, n)], odd⟩ := by simp [pstep, k0, k1, hf, hg]
          rw [hp]
          simp only [hg, Option.getD_none, Option.isSome_none] at hle
          have hup := fun (L : List Blk) (e : Option Nat) (hb : L[3]? = some (mapE ⟨A, E, odd⟩)) => up_en' (H := H) (e := e) (i := n) hok (by omega) (m := m) (by omega) hg hb
          cases odd <;>
          · simp only [history_paired.loop3s, history_paired.loop3, history_paired.j1, history_paired.j2, history_paired.j3, history_paired.j4, pFr, pHp, zP, pB, mach, Nat.reduceAdd, Nat.reduceLeDiff, Int.reduceEq, Int.reduceLT, Int.reduceLE, hn', hix, hld, q33, q31, q32, y63, q34, y25, q9, htk, hk0, y93, y113, q94, q24, hof, hla, hle, hup, q334, q131, k1, hw, List.append_nil, List.set_cons_succ, List.set_cons_zero]
            try rfl
    · have hp : pstep ⟨A, E, odd⟩ n x = ⟨A, E, odd⟩ := by simp [pstep, k0, k1]
      rw [hp]
      simp only [history_paired.loop3s, history_paired.loop3, history_paired.j1, history_paired.j4, pFr, pHp, zP, pB, mach, Nat.reduceAdd, Nat.reduceLeDiff, Int.reduceEq, Int.reduceLT, Int.reduceLE, hn', hix, hld, q33, q31, q32, y63, q34, y25, q9, htk, hk0, y93, q94, q24, hof, hla, q334, q131, k0, k1, hw, List.append_nil]

end
end Go.Proofs.Ytfinilnkempofaa

end
section
namespace Go.Proofs.Ytfinilnkempofaa
open Go Go.Am

abbrev pairV (a b : Nat) (odd : Bool) : Value := .agg [Value.map (some a), Value.map (some b), Value.bool odd].toArray
def toI (s : PS) (i : Nat) : Int := match lookE s.E i with | some k => (k : Int) | none => -1

theorem bd_pairs (a b : Nat) : q89 PP q11 [(0, .map (some a)), (1, .map (some b))] = some (pairV a b false) := by kernel_rfl
theorem fld_odd (a b : Nat) (o : Bool) : y12 PP (Instr.field q11 (pairV a b o) 2) = some (.bool o) := by kernel_rfl

theorem q118 (l : List Int) : lrefs (l.map (Value.int .i64)) = [] := by
  induction l with
  | nil => rfl
  | cons x xs ih => simpa using ih
theorem y341 (l : List Int) : (l.map (Value.int .i64)).all noSl = true := by
  induction l with
  | nil => rfl
  | cons x xs ih => simp only [List.map_cons, List.all_cons, noSl, Bool.true_and]; exact ih
theorem bsl_int (v : Int) (H : List Blk) (e : Option Nat) : bsl PP y28 1 [0] [.int .i64 v] ⟨H, e⟩ = some (.slice (some ⟨H.length, 0, none⟩) 1 1, ⟨H ++ [.cells [.int .i64 v] t_int true], e⟩) := by kernel_rfl

section
variable {l : List Ev} {H : List Blk}

theorem newBlk_own {n : List Blk} {e : Option Nat} (k : Blk) : q79 ⟨H ++ n, e⟩ k = ⟨H ++ (n ++ [k]), e⟩ := q213 k

theorem q356 (hl : OkEvs l) (hm : l.length < 1000000) (H : List Blk) : acall PP TT y98 [tSl l.length (evR l)] H = some (pairV H.length (H.length + 1) (pairS l l.length).odd, H ++ [mapA (pairS l l.length), mapE (pairS l l.length)], none) := by
  have hlast : ¬ ((l.length : Int) < (l.length : Int)) := Int.lt_irrefl _
  have hg0 : gc H.length [.pointer (some ⟨H.length, 0, none⟩), .pointer (some ⟨H.length + 3, 0, none⟩), tSl l.length (evR l), .int .i64 l.length, .int .i64 0] ⟨H ++ [zP, .map [] 0, .map [] 0, .cells [.map (some (H.length + 1)), .map (some (H.length + 2)), .bool false] q11 true], none⟩ = (pFr H.length l 0, ⟨H ++ pHp H.length (pairS l 0), none⟩) :=
    y115 [[], [], [], [1, 2]] [0, 3] [0, 3, 1, 2] rfl rfl (by simp [q22]) (by simp [zP, y14]; try simp [q40])
      (by simp [pFr, lren, vren, q117, q86, y70, q41, q22]) (by simp [pHp, zP, pB, pairS, mapA, mapE, y58, y24, lren, vren, q117, q86, y70]; try simp [q129])
  obtain ⟨r, hlp, hr⟩ := q142 (n0 := H.length) (step := history_paired.loop3s (acall PP TT) loopG H.length) (len := l.length) (σ := Unit) (fun n _ => (pFr H.length l n, ⟨H ++ pHp H.length (pairS l n), none⟩))
    (fun _ _ => True) (fun r => r = (.exit 0, [.pointer (some ⟨H.length, 0, none⟩), .pointer (some ⟨H.length + 1, 0, none⟩)], ⟨H ++ pHp H.length (pairS l l.length), none⟩))
    (fun n _ hn _ => by
      obtain ⟨x, hx⟩ : ∃ x, l[n]? = some x := ⟨_, List.getElem?_eq_getElem hn⟩
      exact .inr ⟨_, (), pair_step hl hm hn hx, pair_gc _ _ _, trivial⟩)
    (fun _ _ => ⟨_, by simp only [history_paired.loop3s, history_paired.loop3, pFr, mach, Nat.reduceAdd, Nat.reduceLeDiff, Int.reduceEq, Int.reduceLT, Int.reduceLE, hlast], rfl⟩)
    l.length 0 () ([.pointer (some ⟨H.length, 0, none⟩), .pointer (some ⟨H.length + 3, 0, none⟩), tSl l.length (evR l), .int .i64 l.length, .int .i64 0], ⟨H ++ [zP, .map [] 0, .map [] 0, .cells [.map (some (H.length + 1)), .map (some (H.length + 2)), .bool false] q11 true], none⟩) (by omega) trivial hg0
  subst hr
  have hg1 : gc H.length [pairV (H.length + 2) (H.length + 3) (pairS l l.length).odd] ⟨H ++ [.cells [.map (some (H.length + 2)), .map (some (H.length + 3)), .bool (pairS l l.length).odd] q11 true, pB H.length (pairS l l.length).odd, mapA (pairS l l.length), mapE (pairS l l.length)], some H.length⟩ = ([pairV H.length (H.length + 1) (pairS l l.length).odd], ⟨H ++ [mapA (pairS l l.length), mapE (pairS l l.length)], none⟩) :=
    y115 [[2, 3], [2, 3], [], []] [2, 3] [2, 3] rfl (by simp [escOk]) (by simp) (by simp [pB, q133, q135, y14]) (by simp [lren, vren, aren, q117, q86, y70]) (by simp [y156, y155])
  rw [y22, history_paired.eq]
  have hesc : escOf none (H.length + 3) [H.length + 1, H.length + 2] = none := by simp [escOf]
  have hesc2 : escOf none H.length [H.length + 2, H.length + 3] = some H.length := by simp [escOf, minO]
  have hb0 : ∀ e : Option Nat, (⟨H, e⟩ : AS) = ⟨H ++ [], e⟩ := fun e => by simp
  rw [zP] at hlp
  simp only [history_paired.sh, y168, z_history_pairs, mach, Nat.reduceAdd, Nat.reduceLeDiff, Int.reduceEq, Int.reduceLT, Int.reduceLE, newBlk_own, bd_pairs, q9, ln_wld, List.append_nil, hesc, hlp, history_paired.j6, pHp, zP, pB, hesc2]
  exact fin_keep rfl hg1

theorem odd_ok (hl : OkEvs l) (hm : l.length < 1000000) (H : List Blk) : acall PP TT q179 [tSl l.length (evR l)] H = some (.bool (pairS l l.length).odd, H, none) := by
  rw [y22, history_Odd.eq]
  simp only [history_Odd.sh, q356 hl hm, mach, Nat.reduceAdd, Nat.reduceLeDiff, Int.reduceEq, Int.reduceLT, Int.reduceLE, fld_odd]
  exact y90 rfl rfl rfl

theorem pto_ok {s : PS} {n m a b : Nat} {o : Bool} (hs : OkPS n s) (hn : n < 1000000) (hm : m < 1000000) {H1 : List Blk} (hb : H1[b]? = some (mapE s)) : acall PP TT q91 [pairV a b o, .int .i64 m] H1 = some (.int .i64 (toI s m), H1, none) := by
  have hlt := q12 hb
  have hlk := fun (L : List Blk) (e : Option Nat) => look_ent (P := PP) (K := KE) (V := VE) (kc := kcE) y262 zv_int rfl flatInt (st := ⟨H1 ++ L, e⟩) (r := b) (c := s.E.length) (xs := s.E) (fun x hx => by rw [show kcE x = [.int .i64 x.1] from rfl, argInt]; rfl) (fun x hx => y319 (by have := hs.e x hx; unfold isI; omega)) (by rw [List.getElem?_append_left hlt]; exact hb) (q := [.int .i64 m]) (y319 (by unfold isI; omega)) (p := fun p => decide (p.1 = m)) (fun x _ => by
    simp [kcE]
    omega)
  rw [argInt] at hlk
  rw [y22, history_pairs_to.eq]
  unfold toI lookE
  cases hf : s.E.find? fun p => decide (p.1 = m) with
  | none =>
    simp only [hf] at hlk
    simp only [history_pairs_to.sh, mach, Nat.reduceAdd, Nat.reduceLeDiff, Int.reduceEq, Int.reduceLT, Int.reduceLE, y113, hlk]
    exact y90 rfl rfl rfl
  | some q =>
    simp only [hf] at hlk
    simp only [history_pairs_to.sh, mach, Nat.reduceAdd, Nat.reduceLeDiff, Int.reduceEq, Int.reduceLT, Int.reduceLE, y113, hlk, VE]
    exact y90 rfl rfl rfl

/-! ### What is open -/

/-- the numbers that are so, of the first ones -/
def openL (p : Nat → Bool) : Nat → List Int
  | 0 => []
  | n + 1 => if p n = true then openL p n ++ [(n : Int)] else openL p n
theorem q355 (p : Nat → Bool) : ∀ n, (openL p n).length ≤ n
  | 0 => by simp [openL]
  | n + 1 => by
    have := q355 p n
    simp only [openL]
    split
    · simp; omega
    · omega

abbrev intsH (A : List Int) : List Value := A.map (Value.int .i64)
def rowO (n0 : Nat) (A : List Int) : Value := match A with | [] => .slice none 0 0 | a :: tl => .slice (some ⟨n0, 0, none⟩) (tl.length + 1) UNK
def blkO (A : List Int) : List Blk := match A with | [] => [] | a :: tl => [.cells (intsH (a :: tl)) t_int true]

/-- the end of such a loop -/
theorem fin_rowO (A : List Int) (L : List Blk) (e : Option Nat) (he : escOk H.length e = true) : fin PP false H.length [rowO H.length A] ⟨H ++ (blkO A ++ L), e⟩ = some (tSl A.length (intsH A), H, none) := by
  cases A with
  | nil => exact fin_nil he
  | cons a tl => exact q232 (sz := 1) rfl sz_int (by simp) (y341 _) (q118 _) he

/-- is event n asked, and not ended? -/
def q205 (l : List Ev) (n : Nat) : Bool := match l[n]? with
  | some x => decide (x.kind = 0) && decide (y72 l n < 0)
  | none => false

theorem y212 (hm : l.length < 1000000) (k : Nat) : isI (y72 l k) ∧ y72 l k < (l.length : Int) ∧ -1 ≤ y72 l k := by
  unfold y72 isI
  rcases y336 (p := endsB l k) (l.length - (k + 1)) (k + 1) with ⟨h, _⟩ | ⟨m, h, h1, h2, _⟩ <;> rw [h] <;> omega

theorem ropen_gc (A : List Int) (n : Nat) (x : Ev) : gc H.length [tSl l.length (evR l), rowO H.length A, tSl l.length (evR l), .int .i64 l.length, .int .i64 n] ⟨H ++ (blkO A ++ [.cells (evc x) y5 true]), none⟩ = ([tSl l.length (evR l), rowO H.length A, tSl l.length (evR l), .int .i64 l.length, .int .i64 n], ⟨H ++ blkO A, none⟩) := by
  cases A with
  | nil => exact y115 [[]] [] [] rfl rfl (by simp [rowO, q22]) (by simp [blkO, y14, y25]) (by simp [rowO, lren, vren, q41, q22]) (by simp [blkO])
  | cons a tl => exact y115 [[], []] [0] [0] rfl rfl (by simp [rowO, q22]) (by simp [blkO, y14, y25, q118]) (by simp [rowO, lren, vren, q86, y70, q41, q22]) (by simp [blkO, y24, lren, vren, q55, q118])

theorem ropen_gc2 (A : List Int) (n : Nat) (x : Ev) (v : Int) : gc H.length [tSl l.length (evR l), .slice (some ⟨H.length + ((blkO A).length + 2), 0, none⟩) (A.length + 1) UNK, tSl l.length (evR l), .int .i64 l.length, .int .i64 n] ⟨H ++ ((match A with | [] => [] | a :: tl => [Blk.dead]) ++ [.cells (evc x) y5 true, .cells [.int .i64 v] t_int true, .cells (intsH (A ++ [v])) t_int true]), none⟩ = ([tSl l.length (evR l), rowO H.length (A ++ [v]), tSl l.length (evR l), .int .i64 l.length, .int .i64 n], ⟨H ++ blkO (A ++ [v]), none⟩) := by
  cases A with
  | nil => exact y115 [[], [], []] [2] [2] rfl rfl (by simp [blkO, q22]) (by simp [y14, y25]) (by simp [blkO, rowO, lren, vren, q117, y70, q41, q22]) (by simp [blkO, y24, lren, vren])
  | cons a tl => exact y115 [[], [], [], []] [3] [3] rfl rfl (by simp [blkO, q22]) (by simp [y14, y106, y25, q118]) (by simp [blkO, rowO, lren, vren, q117, y70, q41, q22]) (by simp [blkO, y24, lren, vren, q55, q118])

theorem y228 {L : List Blk} {e : Option Nat} {v : Int} {R : Type} {F : Value → AS → Option R} :
    ((bsl PP y28 1 [0] [.int .i64 v] ⟨H ++ L, e⟩).bind fun q => y16 PP .append #[y28, y28] [.slice none 0 0, q.1] q.2 F) = F (.slice (some ⟨H.length + (L.length + 1), 0, none⟩) 1 UNK) ⟨H ++ (L ++ [.cells [.int .i64 v] t_int true, .cells [.int .i64 v] t_int true]), e⟩ :=
  q358 el_L_int rfl (bsl_int v)
theorem push_int {A : List Int} (hm : A.length ≤ 65535) {L : List Blk} {e : Option Nat} {v : Int} {R : Type} {F : Value → AS → Option R} (hk : L[0]? = some (.cells (intsH A) t_int true)) :
    ((bsl PP y28 1 [0] [.int .i64 v] ⟨H ++ L, e⟩).bind fun q => y16 PP .append #[y28, y28] [.slice (some ⟨H.length, 0, none⟩) A.length UNK, q.1] q.2 F) = F (.slice (some ⟨H.length + (L.length + 1), 0, none⟩) (A.length + 1) UNK) ⟨H ++ (L.set 0 .dead ++ [.cells [.int .i64 v] t_int true, .cells (intsH A ++ [.int .i64 v]) t_int true]), e⟩ :=
  y239 el_L_int rfl (bsl_int v) hk (by simp) hm

theorem ropen_ok (hl : OkEvs l) (hm : l.length < 60000) (H : List Blk) : acall PP TT y136 [tSl l.length (evR l)] H = some (tSl (openL (q205 l) l.length).length (intsH (openL (q205 l) l.length)), H, none) := by
  have hlast : ¬ ((l.length : Int) < (l.length : Int)) := Int.lt_irrefl _
  obtain ⟨r, hlp, hr⟩ := q173 (n0 := H.length) (step := twainref36_Open.loop3s (acall PP TT) loopG H.length) (len := l.length) (σ := Unit)
    (fun n _ => ([tSl l.length (evR l), rowO H.length (openL (q205 l) n), tSl l.length (evR l), .int .i64 l.length, .int .i64 n], ⟨H ++ blkO (openL (q205 l) n), none⟩))
    (fun _ _ => True) (fun r => r = (.exit 0, [rowO H.length (openL (q205 l) l.length)], ⟨H ++ blkO (openL (q205 l) l.length), none⟩))
    (fun n _ hn _ => by
      obtain ⟨x, hx⟩ : ∃ x, l[n]? = some x := ⟨_, List.getElem?_eq_getElem hn⟩
      have hn' : ((n : Int) < (l.length : Int)) := by omega
      have hix := y348 hn
      have hld := fun st => q272 hx st
      have hw := q69 (n := n) (by omega)
      have hk0 : (evc x)[0]? = some (.int .i64 x.kind) := by simp [evc]
      have hed := fun H => ended_ok hl (by omega) hn H
      have hlen := q355 (q205 l) n
      have hob : q205 l n = (decide (x.kind = 0) && decide (y72 l n < 0)) := by simp [q205, hx]
      have hnx : openL (q205 l) (n + 1) = if q205 l n = true then openL (q205 l) n ++ [(n : Int)] else openL (q205 l) n := rfl
      rw [hnx]
      generalize openL (q205 l) n = A at hlen
      refine .inr ?_
      cases hb : q205 l n with
      | true =>
        rw [hob, Bool.and_eq_true, decide_eq_true_eq, decide_eq_true_eq] at hb
        obtain ⟨h1, h2⟩ := hb
        simp only [if_true]
        refine ⟨_, _, (), ?_, ropen_gc2 A (n + 1) x n, trivial⟩
        cases A with
        | nil => simp only [twainref36_Open.loop3s, twainref36_Open.loop3, twainref36_Open.j1, twainref36_Open.j2, rowO, blkO, mach, Nat.reduceAdd, Nat.reduceLeDiff, Int.reduceEq, Int.reduceLT, Int.reduceLE, hn', hix, hld, q19, q17, q18, y63, q34, y25, q9, hk0, q20, hed, h1, h2, y228, hw, List.append_nil, List.map_cons, List.map_nil]
        | cons a tl =>
          have hpi := fun (L : List Blk) (e : Option Nat) (v : Int) (R : Type) (F : Value → AS → Option R) (hk : L[0]? = some (.cells (intsH (a :: tl)) t_int true)) => push_int (H := H) (A := a :: tl) (by omega) (e := e) (v := v) (F := F) hk
          simp only [List.length_cons, List.map_cons] at hpi
          simp only [twainref36_Open.loop3s, twainref36_Open.loop3, twainref36_Open.j1, twainref36_Open.j2, rowO, blkO, mach, Nat.reduceAdd, Nat.reduceLeDiff, Int.reduceEq, Int.reduceLT, Int.reduceLE, hn', hix, hld, q19, q17, q18, y63, q34, y25, q9, hk0, q20, hed, h1, h2, hpi, hw, List.append_nil, List.set_cons_zero, List.map_append, List.map_cons, List.map_nil]
      | false =>
        simp only [Bool.false_eq_true, if_false]
        refine ⟨_, _, (), ?_, ropen_gc A (n + 1) x, trivial⟩
        rw [hob, Bool.and_eq_false_iff, decide_eq_false_iff_not, decide_eq_false_iff_not] at hb
        by_cases h1 : x.kind = 0
        · have h2 : ¬ y72 l n < 0 := by
            rcases hb with hb | hb
            · exact absurd h1 hb
            · exact hb
          cases A <;> simp only [twainref36_Open.loop3s, twainref36_Open.loop3, twainref36_Open.j1, twainref36_Open.j2, rowO, blkO, mach, Nat.reduceAdd, Nat.reduceLeDiff, Int.reduceEq, Int.reduceLT, Int.reduceLE, hn', hix, hld, q19, q17, q18, y63, q34, y25, q9, hk0, q20, hed, h1, h2, hw]
        · cases A <;> simp only [twainref36_Open.loop3s, twainref36_Open.loop3, twainref36_Open.j1, twainref36_Open.j2, rowO, blkO, mach, Nat.reduceAdd, Nat.reduceLeDiff, Int.reduceEq, Int.reduceLT, Int.reduceLE, hn', hix, hld, q19, q17, q18, y63, q34, y25, q9, hk0, q20, h1, hw])
    (fun _ _ => ⟨_, by simp only [twainref36_Open.loop3s, twainref36_Open.loop3, mach, Nat.reduceAdd, Nat.reduceLeDiff, Int.reduceEq, Int.reduceLT, Int.reduceLE, hlast], rfl⟩)
    l.length 0 () [tSl l.length (evR l), .slice none 0 0, tSl l.length (evR l), .int .i64 l.length, .int .i64 0] ⟨H, none⟩ (by omega) trivial (by
      have := y208 (H := H) (vs := [tSl l.length (evR l), .slice none 0 0, tSl l.length (evR l), .int .i64 l.length, .int .i64 0]) (by simp [q22])
      simpa [openL, rowO, blkO] using this)
  subst hr
  rw [y22, twainref36_Open.eq]
  simp only [twainref36_Open.sh, q287, mach, Nat.reduceAdd, Nat.reduceLeDiff, Int.reduceEq, Int.reduceLT, Int.reduceLE, hlp, twainref36_Open.j4]
  have := fin_rowO (H := H) (openL (q205 l) l.length) [] none rfl
  simpa using this

end
end Go.Proofs.Ytfinilnkempofaa

end
section
namespace Go.Proofs.Ytfinilnkempofaa
open Go Go.Am

/-- the blocks of the loop: the row, the pairs, their maps -/
def blkP (n0 : Nat) (A : List Int) (s : PS) : List Blk := match A with
  | [] => [.cells [.map (some (n0 + 1)), .map (some (n0 + 2)), .bool s.odd] q11 true, mapA s, mapE s]
  | a :: tl => [.cells (intsH (a :: tl)) t_int true, .cells [.map (some (n0 + 2)), .map (some (n0 + 3)), .bool s.odd] q11 true, mapA s, mapE s]
def ptrP (n0 : Nat) (A : List Int) : Value := match A with
  | [] => .pointer (some ⟨n0, 0, none⟩)
  | _ :: _ => .pointer (some ⟨n0 + 1, 0, none⟩)

/-- is event n asked, and not ended, by the pairs? -/
def q235 (l : List Ev) (n : Nat) : Bool := match l[n]? with
  | some x => decide (x.kind = 0) && decide (toI (pairS l l.length) n = -1)
  | none => false

section
variable {l : List Ev} {H : List Blk}

def oFr (n0 : Nat) (l : List Ev) (A : List Int) (n : Nat) : List Value := [rowO n0 A, ptrP n0 A, tSl l.length (evR l), .int .i64 l.length, .int .i64 n]

theorem open_gc (A : List Int) (s : PS) (n : Nat) (x : Ev) : gc H.length (oFr H.length l A n) ⟨H ++ (blkP H.length A s ++ [.cells (evc x) q10 true]), none⟩ = (oFr H.length l A n, ⟨H ++ blkP H.length A s, none⟩) := by
  cases A with
  | nil => exact y115 [[1, 2], [], [], []] [0] [0, 1, 2] rfl rfl (by simp [oFr, rowO, ptrP, q22]) (by simp [blkP, y14, y25, q133, q135]) (by simp [oFr, rowO, ptrP, lren, vren, q117, q86, y70, q41, q22]) (by simp [blkP, y24, lren, vren, q117, q86, y70, y156, y155])
  | cons a tl => exact y115 [[], [2, 3], [], [], []] [0, 1] [0, 1, 2, 3] rfl rfl (by simp [oFr, rowO, ptrP, q22]) (by simp [blkP, y14, y25, q133, q135, q118]) (by simp [oFr, rowO, ptrP, lren, vren, q117, q86, y70, q41, q22]) (by simp [blkP, y24, lren, vren, q117, q86, y70, y156, y155, q55, q118])

theorem open_gc2 (A : List Int) (s : PS) (n : Nat) (x : Ev) (v : Int) : gc H.length [.slice (some ⟨H.length + ((blkP H.length A s).length + 2), 0, none⟩) (A.length + 1) UNK, ptrP H.length A, tSl l.length (evR l), .int .i64 l.length, .int .i64 n] ⟨H ++ ((match A with | [] => blkP H.length A s | _ :: _ => (blkP H.length A s).set 0 .dead) ++ [.cells (evc x) q10 true, .cells [.int .i64 v] t_int true, .cells (intsH (A ++ [v])) t_int true]), none⟩ = (oFr H.length l (A ++ [v]) n, ⟨H ++ blkP H.length (A ++ [v]) s, none⟩) := by
  cases A with
  | nil => exact y115 [[1, 2], [], [], [], [], []] [5, 0] [5, 0, 1, 2] rfl rfl (by simp [blkP, ptrP, q22]) (by simp [blkP, y14, y25, q133, q135]) (by simp [oFr, blkP, rowO, ptrP, lren, vren, q117, q86, y70, q41, q22]) (by simp [blkP, y24, lren, vren, q117, q86, y70, y156, y155])
  | cons a tl => exact y115 [[], [2, 3], [], [], [], [], []] [6, 1] [6, 1, 2, 3] rfl rfl (by simp [blkP, ptrP, q22]) (by simp [blkP, y14, y106, y25, q133, q135, q118]) (by simp [oFr, blkP, rowO, ptrP, lren, vren, q117, q86, y70, q41, q22]) (by simp [blkP, y24, lren, vren, q117, q86, y70, y156, y155, q55, q118])

theorem open_step (hl : OkEvs l) (hm : l.length < 60000) {n : Nat} (hn : n < l.length) {x : Ev} (hx : l[n]? = some x) {A : List Int} (hlen : A.length ≤ n) : ∃ vs st,
    history_Open.loop4s (acall PP TT) loopG H.length (oFr H.length l A n, ⟨H ++ blkP H.length A (pairS l l.length), none⟩) = some (.inl (vs, st)) ∧
      gc H.length vs st = (oFr H.length l (if q235 l n = true then A ++ [(n : Int)] else A) (n + 1), ⟨H ++ blkP H.length (if q235 l n = true then A ++ [(n : Int)] else A) (pairS l l.length), none⟩) := by
  have hn' : ((n : Int) < (l.length : Int)) := by omega
  have hix := ix_wld hn
  have hld := fun st => q272 hx st
  have hw := q69 (n := n) (by omega)
  have hk0 : (evc x)[0]? = some (.int .i64 x.kind) := by simp [evc]
  have hs := q306 hl l.length (Nat.le_refl _)
  have hob : q235 l n = (decide (x.kind = 0) && decide (toI (pairS l l.length) n = -1)) := by simp [q235, hx]
  have hp0 := fun (L : List Blk) (o : Bool) (hb : L[2]? = some (mapE (pairS l l.length))) => pto_ok (a := H.length + 1) (b := H.length + 2) (o := o) (H1 := H ++ L) hs (by omega) (show n < 1000000 by omega) (by rw [y105]; exact hb)
  have hp1 := fun (L : List Blk) (o : Bool) (hb : L[3]? = some (mapE (pairS l l.length))) => pto_ok (a := H.length + 2) (b := H.length + 3) (o := o) (H1 := H ++ L) hs (by omega) (show n < 1000000 by omega) (by rw [y105]; exact hb)
  generalize pairS l l.length = s at hob hp0 hp1
  cases hb : q235 l n with
  | true =>
    rw [hob, Bool.and_eq_true, decide_eq_true_eq, decide_eq_true_eq] at hb
    obtain ⟨h1, h2⟩ := hb
    simp only [if_true]
    refine ⟨_, _, ?_, open_gc2 A s (n + 1) x n⟩
    cases A with
    | nil => simp only [history_Open.loop4s, history_Open.loop4, history_Open.j1, history_Open.j2, oFr, rowO, ptrP, blkP, mach, Nat.reduceAdd, Nat.reduceLeDiff, Int.reduceEq, Int.reduceLT, Int.reduceLE, hn', hix, hld, q33, q31, q32, y63, q34, y25, q9, hk0, q24, hp0, h1, h2, y228, hw, List.append_nil, List.map_cons, List.map_nil]
    | cons a tl =>
      have hpi := fun (L : List Blk) (e : Option Nat) (v : Int) (R : Type) (F : Value → AS → Option R) (hk : L[0]? = some (.cells (intsH (a :: tl)) t_int true)) => push_int (H := H) (A := a :: tl) (by omega) (e := e) (v := v) (F := F) hk
      simp only [List.length_cons, List.map_cons] at hpi
      simp only [history_Open.loop4s, history_Open.loop4, history_Open.j1, history_Open.j2, oFr, rowO, ptrP, blkP, mach, Nat.reduceAdd, Nat.reduceLeDiff, Int.reduceEq, Int.reduceLT, Int.reduceLE, hn', hix, hld, q33, q31, q32, y63, q34, y25, q9, hk0, q24, hp1, h1, h2, hpi, hw, List.append_nil, List.set_cons_zero, List.map_append, List.map_cons, List.map_nil]
  | false =>
    simp only [Bool.false_eq_true, if_false]
    refine ⟨_, _, ?_, open_gc A s (n + 1) x⟩
    rw [hob, Bool.and_eq_false_iff, decide_eq_false_iff_not, decide_eq_false_iff_not] at hb
    by_cases h1 : x.kind = 0
    · have h2 : ¬ toI s n = -1 := by
        rcases hb with hb | hb
        · exact absurd h1 hb
        · exact hb
      cases A <;> simp only [history_Open.loop4s, history_Open.loop4, history_Open.j1, history_Open.j2, oFr, rowO, ptrP, blkP, mach, Nat.reduceAdd, Nat.reduceLeDiff, Int.reduceEq, Int.reduceLT, Int.reduceLE, hn', hix, hld, q33, q31, q32, y63, q34, y25, q9, hk0, q24, hp0, hp1, h1, h2, hw]
    · cases A <;> simp only [history_Open.loop4s, history_Open.loop4, history_Open.j1, history_Open.j2, oFr, rowO, ptrP, blkP, mach, Nat.reduceAdd, Nat.reduceLeDiff, Int.reduceEq, Int.reduceLT, Int.reduceLE, hn', hix, hld, q33, q31, q32, y63, q34, y25, q9, hk0, q24, h1, hw]

theorem open_ok (hl : OkEvs l) (hm : l.length < 60000) (H : List Blk) : acall PP TT y161 [tSl l.length (evR l)] H = some (tSl (openL (q235 l) l.length).length (intsH (openL (q235 l) l.length)), H, none) := by
  have hlast : ¬ ((l.length : Int) < (l.length : Int)) := Int.lt_irrefl _
  have hg0 : gc H.length [.slice none 0 0, .pointer (some ⟨H.length + 2, 0, none⟩), tSl l.length (evR l), .int .i64 l.length, .int .i64 0] ⟨H ++ [mapA (pairS l l.length), mapE (pairS l l.length), .cells [.map (some H.length), .map (some (H.length + 1)), .bool (pairS l l.length).odd] q11 true], none⟩ = (oFr H.length l [] 0, ⟨H ++ blkP H.length [] (pairS l l.length), none⟩) :=
    y115 [[], [], [0, 1]] [2] [2, 0, 1] rfl rfl (by simp [q22]) (by simp [y14, q133, q135]) (by simp [oFr, rowO, ptrP, lren, vren, q117, q86, y70, q41, q22]) (by simp [blkP, y24, lren, vren, q117, q86, y70, y156, y155])
  obtain ⟨r, hlp, hr⟩ := q173 (n0 := H.length) (step := history_Open.loop4s (acall PP TT) loopG H.length) (len := l.length) (σ := Unit)
    (fun n _ => (oFr H.length l (openL (q235 l) n) n, ⟨H ++ blkP H.length (openL (q235 l) n) (pairS l l.length), none⟩))
    (fun _ _ => True) (fun r => r = (.exit 0, [rowO H.length (openL (q235 l) l.length)], ⟨H ++ blkP H.length (openL (q235 l) l.length) (pairS l l.length), none⟩))
    (fun n _ hn _ => by
      obtain ⟨x, hx⟩ : ∃ x, l[n]? = some x := ⟨_, List.getElem?_eq_getElem hn⟩
      obtain ⟨vs, st, h1, h2⟩ := open_step (H := H) hl hm hn hx (q355 (q235 l) n)
      exact .inr ⟨vs, st, (), h1, h2, trivial⟩)
    (fun _ _ => ⟨_, by simp only [history_Open.loop4s, history_Open.loop4, oFr, mach, Nat.reduceAdd, Nat.reduceLeDiff, Int.reduceEq, Int.reduceLT, Int.reduceLE, hlast], rfl⟩)
    l.length 0 () _ _ (by omega) trivial hg0
  subst hr
  have hesc : escOf none (H.length + 2) [H.length, H.length + 1] = none := by
    simp only [escOf]
    rw [if_neg (by omega), if_neg (by omega)]
  rw [y22, history_Open.eq]
  simp only [history_Open.sh, q356 hl (show l.length < 1000000 by omega), y168, z_history_pairs, ln_wld, mach, Nat.reduceAdd, Nat.reduceLeDiff, Int.reduceEq, Int.reduceLT, Int.reduceLE, q9, hesc, hlp, history_Open.j4]
  generalize openL (q235 l) l.length = A
  cases A with
  | nil => exact fin_nil rfl
  | cons a tl => exact q232 (sz := 1) rfl sz_int (by simp) (y341 _) (q118 _) rfl

end
end Go.Proofs.Ytfinilnkempofaa

end
