/- Blocks behind others; the end of a call; slices that are read. -/
import Derived.Test.YtfinilnkempofaaAm21
set_option linter.all false
set_option linter.unusedVariables false
set_option linter.unusedSimpArgs false
set_option linter.unnecessarySimpa false
namespace Go.Am

section
variable {P : Program} {H l : List Blk} {e : Option Nat}

theorem get_app (k : Nat) : (H ++ l)[H.length + k]? = l[k]? := by
  rw [List.getElem?_append_right (by omega)]; congr 1; omega
theorem get_app0 : (H ++ l)[H.length]? = l[0]? := by simpa using get_app (H := H) (l := l) 0
theorem set_app (k : Nat) (x : Blk) : (H ++ l).set (H.length + k) x = H ++ l.set k x := by
  rw [List.set_append_right _ _ (by omega)]; congr 2; omega
theorem set_app0 (x : Blk) : (H ++ l).set H.length x = H ++ l.set 0 x := by simpa using set_app (H := H) (l := l) 0 x
theorem cellAt_app (k off : Nat) : cellAt (H ++ l) (H.length + k) off = cellAt l k off := by simp only [cellAt, get_app]
theorem cellAt_app0 (off : Nat) : cellAt (H ++ l) H.length off = cellAt l 0 off := by simp only [cellAt, get_app0]
theorem cellsAt_app (k off n : Nat) : cellsAt (H ++ l) (H.length + k) off n = cellsAt l k off n := by simp only [cellsAt, get_app]
theorem cellsAt_app0 (off n : Nat) : cellsAt (H ++ l) H.length off n = cellsAt l 0 off n := by simp only [cellsAt, get_app0]

theorem storeL_app (k off : Nat) (vs : List Value) : storeL ⟨H ++ l, e⟩ (H.length + k) off vs = (storeL ⟨l, none⟩ k off vs).map fun s => ⟨H ++ s.H, escOf e (H.length + k) (lrefs vs)⟩ := by
  unfold storeL
  simp only [get_app]
  split
  · split
    · simp only [Option.map_some, set_app]
    · rfl
  · rfl
theorem storeL_app0 (off : Nat) (vs : List Value) : storeL ⟨H ++ l, e⟩ H.length off vs = (storeL ⟨l, none⟩ 0 off vs).map fun s => ⟨H ++ s.H, escOf e H.length (lrefs vs)⟩ := by
  simpa using storeL_app (H := H) (l := l) (e := e) 0 off vs

theorem newBlk_app (k : Blk) : newBlk ⟨H ++ l, e⟩ k = ⟨H ++ (l ++ [k]), e⟩ := by simp [newBlk]
theorem newBlk_bare (k : Blk) : newBlk ⟨H, e⟩ k = ⟨H ++ [k], e⟩ := rfl
theorem newPtr_def (st : AS) : newPtr st = .pointer (some ⟨st.H.length, 0, none⟩) := rfl

/-- neither a slice nor a struct -/
def noSl : Value → Bool
  | .slice _ _ _ | .agg _ => false
  | _ => true

theorem frz_noSl (n0 k : Nat) (v : Value) (H : List Blk) (h : noSl v = true) : frz P n0 k v H = (v, H) := by
  cases k with
  | zero => rfl
  | succ k => cases v <;> simp_all [frz, noSl]

theorem frzL_noSl (n0 k : Nat) : ∀ (l : List Value) (H : List Blk), l.all noSl = true → frzL (frz P n0 k) l H = (l, H)
  | [], _, _ => rfl
  | v :: vs, H, h => by
    simp only [List.all_cons, Bool.and_eq_true] at h
    simp only [frzL, frz_noSl n0 k v H h.1, frzL_noSl n0 k vs H h.2]

theorem frz_agg (n0 k : Nat) (l : List Value) (H : List Blk) (h : l.all noSl = true) : frz P n0 (k + 1) (.agg l.toArray) H = (.agg l.toArray, H) := by
  simp only [frz, frzL_noSl n0 k l H h]

/-- flat: no slice, or a struct without one -/
def flatV : Value → Bool
  | .agg cs => cs.toList.all noSl
  | .slice _ _ _ => false
  | _ => true

theorem frz_flatV (n0 k : Nat) (v : Value) (H : List Blk) (h : flatV v = true) : frz P n0 k v H = (v, H) := by
  cases k with
  | zero => rfl
  | succ k =>
    cases v with
    | agg cs =>
      have := frz_agg (P := P) n0 k cs.toList H h
      simpa using this
    | slice _ _ _ => simp [flatV] at h
    | _ => simp [frz]

theorem frzL_flatV (n0 k : Nat) : ∀ (l : List Value) (H : List Blk), l.all flatV = true → frzL (frz P n0 k) l H = (l, H)
  | [], _, _ => rfl
  | v :: vs, H, h => by
    simp only [List.all_cons, Bool.and_eq_true] at h
    simp only [frzL, frz_flatV n0 k v H h.1, frzL_flatV n0 k vs H h.2]

/-- the end of a call that leaves nothing behind -/
theorem fin_flat {keep : Bool} {vs : List Value} (hf : vs.all flatV = true) (hr : lrefs vs = []) : fin P keep H.length vs ⟨H ++ l, none⟩ = some (oneOf vs, H, none) := by
  unfold fin endFrz
  have : (if keep = true then (vs, H ++ l) else frzL (frz P H.length 8) vs (H ++ l)) = (vs, H ++ l) := by
    split
    · rfl
    · exact frzL_flatV _ _ _ _ hf
  simp only [this, gc_none hr, escBelow]

theorem fin_flat' {keep : Bool} {vs : List Value} (hf : vs.all flatV = true) (hr : lrefs vs = []) : fin P keep H.length vs ⟨H, none⟩ = some (oneOf vs, H, none) := by
  simpa using fin_flat (P := P) (H := H) (l := []) (keep := keep) hf hr

theorem oneOf_one (v : Value) : oneOf [v] = v := rfl

theorem gc_same {vs : List Value} {H : List Blk} (hl : ∀ r ∈ lrefs vs, r < H.length) : gc H.length vs ⟨H, none⟩ = (vs, ⟨H, none⟩) := by
  rw [gc_low hl (Nat.le_refl _)]
  simp

theorem reach_one {H : List Blk} {n : Nat} {cs : List Value} {t : TypeId} {o : Bool} (hb : H[n]? = some (.cells cs t o)) (hc : lrefs cs = []) : ∀ (fuel : Nat) (l : List Nat) (acc : List Nat), l.length < fuel → (∀ r ∈ l, r < n ∨ r = n) → acc = [] ∨ acc = [n] →
    reach H n fuel l acc = if n ∈ l ∨ acc = [n] then [n] else []
  | 0, l, acc, hf, _, _ => by omega
  | fuel + 1, [], acc, _, _, ha => by
    rcases ha with rfl | rfl <;> simp [reach]
  | fuel + 1, r :: rs, acc, hf, hl, ha => by
    have ih := fun acc ha => reach_one hb hc fuel rs acc (by simp at hf; omega) (fun x hx => hl x (by simp [hx])) ha
    simp only [reach]
    rcases hl r (by simp) with hr | rfl
    · rw [if_pos hr, ih acc ha]
      have : ¬ n = r := by omega
      simp [this]
    · rw [if_neg (by omega)]
      rcases ha with rfl | rfl
      · simp only [List.contains_nil, Bool.false_eq_true, if_false, hb, hc, List.nil_append]
        rw [ih [r] (.inr rfl)]
        simp
      · simp only [List.contains_cons, beq_self_eq_true, Bool.true_or, if_true]
        rw [ih [r] (.inr rfl)]
        simp

/-- one new row is led to: it stays, all behind it are struck -/
theorem gc_one {vs cs : List Value} {H G : List Blk} {t : TypeId} {o : Bool} (hl : ∀ r ∈ lrefs vs, r < H.length ∨ r = H.length) (hm : H.length ∈ lrefs vs) (hc : lrefs cs = []) (hn : (lrefs vs).length < 4096) :
    gc H.length vs ⟨H ++ (.cells cs t o :: G), none⟩ = (vs, ⟨H ++ [.cells cs t o], none⟩) := by
  have hb : (H ++ (.cells cs t o :: G))[H.length]? = some (.cells cs t o) := by rw [get_app0']; rfl
  unfold gc
  simp only [escOk, if_true]
  have hrch : reach (H ++ (.cells cs t o :: G)) H.length ((H ++ (.cells cs t o :: G)).length * 64 + 4096) (lrefs vs) [] = [H.length] := by
    rw [reach_one hb hc _ _ _ (by omega) hl (.inl rfl)]
    simp [hm]
  rw [hrch]
  have h1 : closed H.length [H.length] (lrefs vs) = true := by
    unfold closed
    rw [List.all_eq_true]
    intro r hr
    rcases hl r hr with h | h <;> simp [h]
  have hr : ∀ b ∈ lrefs vs, renum H.length [H.length] b = b := by
    intro b hb
    rcases hl b hb with h | h
    · simp [renum, h]
    · subst h; simp [renum, findIx]
  simp only [h1, List.map_cons, List.map_nil, List.all_cons, List.all_nil, Bool.and_true, true_and]
  rw [if_pos]
  · rw [lren_same vs hr]
    have hcs : lren (renum H.length [H.length]) cs = cs := lren_same cs (fun b hb => by rw [hc] at hb; simp at hb)
    simp only [List.getD, hb, Option.getD_some, renBlk, List.take_left', hcs]
  · refine ⟨?_, by simp⟩
    simp [List.getD, hb, closed, blkRefs, hc]
where
  get_app0' {l : List Blk} : (H ++ l)[H.length]? = l[0]? := by rw [List.getElem?_append_right (Nat.le_refl _)]; simp

/-! ### Loops over numbers -/

/-- a loop over numbers: what holds ahead of each round (struck of what nobody needs), and at its end -/
theorem loop_rule {σ : Type} {n0 : Nat} {step : List Value × AS → Option ((List Value × AS) ⊕ (AEx × List Value × AS))} {len : Nat} (S : Nat → σ → List Value × AS) (Ok : Nat → σ → Prop) (Q : AEx × List Value × AS → Prop)
    (h : ∀ i s, i < len → Ok i s → (∃ r, step (S i s) = some (.inr r) ∧ Q r) ∨ (∃ X s', step (S i s) = some (.inl X) ∧ gc n0 X.1 X.2 = S (i + 1) s' ∧ Ok (i + 1) s'))
    (hend : ∀ s, Ok len s → ∃ r, step (S len s) = some (.inr r) ∧ Q r) :
    ∀ (k i : Nat) (s : σ) (X : List Value × AS), i + k = len → Ok i s → gc n0 X.1 X.2 = S i s → ∃ r, loopG n0 step X = some r ∧ Q r
  | 0, i, s, X, hk, ho, hX => by
    have : i = len := by omega
    subst this
    obtain ⟨r, h1, h2⟩ := hend s ho
    refine ⟨r, ?_, h2⟩
    rw [show X = (X.1, X.2) from rfl, loopG_eq, hX, h1]
    rfl
  | k + 1, i, s, X, hk, ho, hX => by
    rcases h i s (by omega) ho with ⟨r, h1, h2⟩ | ⟨Y, s', h1, h2, h3⟩
    · refine ⟨r, ?_, h2⟩
      rw [show X = (X.1, X.2) from rfl, loopG_eq, hX, h1]
      rfl
    · obtain ⟨r, h4, h5⟩ := loop_rule S Ok Q h hend k (i + 1) s' Y (by omega) h3 h2
      refine ⟨r, ?_, h5⟩
      rw [show X = (X.1, X.2) from rfl, loopG_eq, hX, h1]
      exact h4

@[simp] theorem cellV_int (k : IntKind) (n : Int) : cellV (.int k n) = true := rfl
@[simp] theorem cellV_bool (b : Bool) : cellV (.bool b) = true := rfl
@[simp] theorem cellV_string (b : ByteArray) : cellV (.string b) = true := rfl
@[simp] theorem cellV_ptr (a : Option Addr) : cellV (.pointer a) = true := rfl
@[simp] theorem cellV_slice (a : Option Addr) (n c : Nat) : cellV (.slice a n c) = true := rfl
@[simp] theorem cellV_map (a : Option Nat) : cellV (.map a) = true := rfl
@[simp] theorem cellV_func (f : Fn) (a b : Array Value) : cellV (.func f a b) = true := rfl
@[simp] theorem cellV_nilFunc : cellV .nilFunc = true := rfl
@[simp] theorem cellV_tSl (n : Nat) (l : List Value) : cellV (tSl n l) = true := rfl
@[simp] theorem allCells_nil : allCells [] = true := rfl
@[simp] theorem allCells_cons (v : Value) (l : List Value) : allCells (v :: l) = (cellV v && allCells l) := rfl

/-! ### Boxes -/

theorem box_agg {t : TypeId} {cs : List Value} (hc : allCells cs = true) : aBox t (.agg cs.toArray) ⟨H, e⟩ = some (.pointer (some ⟨H.length, 0, none⟩), ⟨H ++ [.cells cs t true], e⟩) := by
  unfold aBox
  have h1 : allCells ((Value.agg cs.toArray).cells).toList = true := hc
  rw [if_pos h1]; rfl

theorem box_one {t : TypeId} {v : Value} (hc : cellV v = true) : aBox t v ⟨H, e⟩ = some (.pointer (some ⟨H.length, 0, none⟩), ⟨H ++ [.cells [v] t true], e⟩) := by
  unfold aBox
  have h0 : v.cells.toList = [v] := by cases v <;> simp_all [cellV, Value.cells]
  rw [h0]
  have h1 : allCells [v] = true := by simp [allCells, hc]
  rw [if_pos h1]; rfl

theorem store_agg {b o n : Nat} {cs : List Value} {st : AS} (hn : cs.length = n) : aStore n st (.pointer (some ⟨b, o, none⟩)) (.agg cs.toArray) = storeL st b o cs := by
  simp only [aStore, Value.cells, hn, if_true]

theorem store_one {b o : Nat} {v : Value} {st : AS} (hc : cellV v = true) : aStore 1 st (.pointer (some ⟨b, o, none⟩)) v = storeL st b o [v] := by
  have h0 : v.cells.toList = [v] := by cases v <;> simp_all [cellV, Value.cells]
  simp [aStore, h0]

theorem load_one {b o : Nat} : aLoad false 1 ⟨H, e⟩ (.pointer (some ⟨b, o, none⟩)) = cellAt H b o := rfl
theorem load_agg {b o n : Nat} : aLoad true n ⟨H, e⟩ (.pointer (some ⟨b, o, none⟩)) = (cellsAt H b o n).map fun l => .agg l.toArray := rfl

@[simp] theorem store_int {b o : Nat} {st : AS} (k : IntKind) (n : Int) : aStore 1 st (.pointer (some ⟨b, o, none⟩)) (.int k n) = storeL st b o [.int k n] := rfl
@[simp] theorem box_int {t : TypeId} (k : IntKind) (n : Int) : aBox t (.int k n) ⟨H, e⟩ = some (.pointer (some ⟨H.length, 0, none⟩), ⟨H ++ [.cells [.int k n] t true], e⟩) := rfl
@[simp] theorem store_bool {b o : Nat} {st : AS} (x : Bool) : aStore 1 st (.pointer (some ⟨b, o, none⟩)) (.bool x) = storeL st b o [.bool x] := rfl
@[simp] theorem box_bool {t : TypeId} (x : Bool) : aBox t (.bool x) ⟨H, e⟩ = some (.pointer (some ⟨H.length, 0, none⟩), ⟨H ++ [.cells [.bool x] t true], e⟩) := rfl
@[simp] theorem store_string {b o : Nat} {st : AS} (x : ByteArray) : aStore 1 st (.pointer (some ⟨b, o, none⟩)) (.string x) = storeL st b o [.string x] := rfl
@[simp] theorem box_string {t : TypeId} (x : ByteArray) : aBox t (.string x) ⟨H, e⟩ = some (.pointer (some ⟨H.length, 0, none⟩), ⟨H ++ [.cells [.string x] t true], e⟩) := rfl
@[simp] theorem store_ptr {b o : Nat} {st : AS} (x : Option Addr) : aStore 1 st (.pointer (some ⟨b, o, none⟩)) (.pointer x) = storeL st b o [.pointer x] := rfl
@[simp] theorem box_ptr {t : TypeId} (x : Option Addr) : aBox t (.pointer x) ⟨H, e⟩ = some (.pointer (some ⟨H.length, 0, none⟩), ⟨H ++ [.cells [.pointer x] t true], e⟩) := rfl
@[simp] theorem store_slice {b o : Nat} {st : AS} (x : Option Addr) (n c : Nat) : aStore 1 st (.pointer (some ⟨b, o, none⟩)) (.slice x n c) = storeL st b o [.slice x n c] := rfl
@[simp] theorem box_slice {t : TypeId} (x : Option Addr) (n c : Nat) : aBox t (.slice x n c) ⟨H, e⟩ = some (.pointer (some ⟨H.length, 0, none⟩), ⟨H ++ [.cells [.slice x n c] t true], e⟩) := rfl
@[simp] theorem store_map {b o : Nat} {st : AS} (x : Option Nat) : aStore 1 st (.pointer (some ⟨b, o, none⟩)) (.map x) = storeL st b o [.map x] := rfl
@[simp] theorem box_map {t : TypeId} (x : Option Nat) : aBox t (.map x) ⟨H, e⟩ = some (.pointer (some ⟨H.length, 0, none⟩), ⟨H ++ [.cells [.map x] t true], e⟩) := rfl
@[simp] theorem store_func {b o : Nat} {st : AS} (f : Fn) (x y : Array Value) : aStore 1 st (.pointer (some ⟨b, o, none⟩)) (.func f x y) = storeL st b o [.func f x y] := rfl
@[simp] theorem box_func {t : TypeId} (f : Fn) (x y : Array Value) : aBox t (.func f x y) ⟨H, e⟩ = some (.pointer (some ⟨H.length, 0, none⟩), ⟨H ++ [.cells [.func f x y] t true], e⟩) := rfl
@[simp] theorem store_tSl {b o : Nat} {st : AS} (n : Nat) (x : List Value) : aStore 1 st (.pointer (some ⟨b, o, none⟩)) (tSl n x) = storeL st b o [tSl n x] := rfl
@[simp] theorem box_tSl {t : TypeId} (n : Nat) (x : List Value) : aBox t (tSl n x) ⟨H, e⟩ = some (.pointer (some ⟨H.length, 0, none⟩), ⟨H ++ [.cells [tSl n x] t true], e⟩) := rfl
@[simp] theorem store_nilFunc {b o : Nat} {st : AS}  : aStore 1 st (.pointer (some ⟨b, o, none⟩)) .nilFunc = storeL st b o [.nilFunc] := rfl
@[simp] theorem box_nilFunc {t : TypeId}  : aBox t .nilFunc ⟨H, e⟩ = some (.pointer (some ⟨H.length, 0, none⟩), ⟨H ++ [.cells [.nilFunc] t true], e⟩) := rfl

theorem store_all {k : Nat} {cs vs : List Value} {t : TypeId} (hk : l[k]? = some (.cells cs t true)) (hl : vs.length = cs.length) (hc : allCells vs = true) : storeL ⟨l, none⟩ k 0 vs = some ⟨l.set k (.cells vs t true), escOf none k (lrefs vs)⟩ := by
  unfold storeL
  simp only [hk]
  rw [if_pos ⟨by omega, hc⟩]
  congr 4
  simp [putCells, ← hl]

theorem putCells_all {cs vs : List Value} (h : vs.length = cs.length) : putCells cs 0 vs = vs := by simp [putCells, h]

theorem escOf_nil {b : Nat} : escOf e b [] = e := rfl
theorem joinEsc_none : joinEsc e none = e := by cases e <;> rfl

@[simp] theorem ext20 (a b : Value) : pureRun P (Instr.extract (.tuple #[a, b]) 0) = some a := rfl
@[simp] theorem ext21 (a b : Value) : pureRun P (Instr.extract (.tuple #[a, b]) 1) = some b := rfl
@[simp] theorem ext30 (a b c : Value) : pureRun P (Instr.extract (.tuple #[a, b, c]) 0) = some a := rfl
@[simp] theorem ext31 (a b c : Value) : pureRun P (Instr.extract (.tuple #[a, b, c]) 1) = some b := rfl
@[simp] theorem ext32 (a b c : Value) : pureRun P (Instr.extract (.tuple #[a, b, c]) 2) = some c := rfl

/-- chunks of one length -/
theorem chunk_get {c : Nat} : ∀ (l : List (List Value)), (∀ r ∈ l, r.length = c) → ∀ (i : Nat) (r : List Value), l[i]? = some r → (l.flatten.drop (i * c)).take c = r
  | [], _, i, r, h => by simp at h
  | x :: xs, hl, i, r, hr => by
    have h0 := hl x (by simp)
    cases i with
    | zero => simp at hr; subst hr; rw [Nat.zero_mul, List.drop_zero, List.flatten_cons, ← h0, List.take_left']; rfl
    | succ i =>
      have := chunk_get xs (fun r h => hl r (by simp [h])) i r (by simpa using hr)
      rw [← this, List.flatten_cons, show (i + 1) * c = x.length + i * c by rw [Nat.succ_mul, h0]; omega, ← List.drop_drop, List.drop_left']
      rfl

theorem chunk_len {c : Nat} : ∀ (l : List (List Value)), (∀ r ∈ l, r.length = c) → l.flatten.length = l.length * c
  | [], _ => by simp
  | x :: xs, hl => by
    have := chunk_len xs (fun r h => hl r (by simp [h]))
    have h0 := hl x (by simp)
    simp only [List.flatten_cons, List.length_append, List.length_cons, this, h0, Nat.succ_mul]
    omega

/-! ### Slices that are read -/

/-- a slice of so many elements, with its cells: it is read, whatever it is -/
inductive Rd (H : List Blk) : Value → Nat → List Value → Prop
  | tree (n : Nat) (cs : List Value) : Rd H (tSl n cs) n cs
  | nil : Rd H (.slice none 0 0) 0 []
  | own {b o n c : Nat} {bs cs : List Value} {t : TypeId} {own : Bool} (hb : H[b]? = some (.cells bs t own)) (ho : o ≤ bs.length) (hc : (bs.drop o).take cs.length = cs) : Rd H (.slice (some ⟨b, o, none⟩) n c) n cs

/-- a place in it -/
def rdPtr (v : Value) (off : Nat) : Value :=
  match v with
  | .iface _ (.tuple row) => tPtr off row
  | .slice (some a) _ _ => .pointer (some ⟨a.block, a.off + off, none⟩)
  | _ => unk

theorem Rd.app {v : Value} {n : Nat} {cs : List Value} (h : Rd H v n cs) : Rd (H ++ l) v n cs := by
  cases h with
  | tree => exact .tree _ _
  | nil => exact .nil
  | own hb ho hc => exact .own (by rw [List.getElem?_append_left (lt_of_get hb)]; exact hb) ho hc

theorem Rd.len {v : Value} {n : Nat} {cs : List Value} (h : Rd H v n cs) {t el : TypeId} (ht : P.underlying t = some (.slice el)) (st : AS) : aLen P t v st = some (.int .i64 n) := by
  cases h with
  | tree => simp only [aLen, ht, tSl, tLen]
  | nil => simp [aLen, ht]
  | own hb ho hc => simp [aLen, ht]

theorem Rd.index {v : Value} {n : Nat} {cs : List Value} (h : Rd H v n cs) {t el : TypeId} {sz : Nat} (ht : P.underlying t = some (.slice el)) (hs : sizeP P el = some sz) {k : IntKind} {i : Int} (h0 : 0 ≤ i) (hi : i < n) :
    aIndexAddr P t v (.int k i) = some (rdPtr v (i.toNat * sz)) := by
  cases h with
  | tree => simp [aIndexAddr, ht, tSl, hs, tIndex, h0, hi, rdPtr]
  | nil => simp at hi; omega
  | own hb ho hc => simp [aIndexAddr, ht, hs, h0, hi, rdPtr, add_none]

theorem Rd.field {v : Value} {n : Nat} {cs : List Value} (h : Rd H v n cs) (hn : 0 < n) {t : TypeId} {fs : Array Field} {f : Nat} {fd : Field} {sz : Nat} (ht : P.underlying t = some (.struct fs)) (hf : fs[f]? = some fd) (hs : sizeP P fd.type = some sz) (hz : sz ≠ 0) {off : Nat} :
    aFieldAddr P t (rdPtr v off) f = some (rdPtr v (off + fd.offset)) := by
  cases h with
  | tree => simp [aFieldAddr, ht, tSl, rdPtr, tPtr, tField, hf, hs, hz]
  | nil => omega
  | own hb ho hc => simp [aFieldAddr, ht, rdPtr, hf, hs, hz, add_none, Nat.add_assoc]

theorem Rd.fieldOf {v : Value} {n : Nat} {cs : List Value} {t : TypeId} {f d : Nat} (h1 : ∀ off row, aFieldAddr P t (tPtr off row) f = some (tPtr (off + d) row)) (h2 : ∀ b o, aFieldAddr P t (.pointer (some ⟨b, o, none⟩)) f = some (.pointer (some ⟨b, o + d, none⟩)))
    (h : Rd H v n cs) (hn : 0 < n) {off : Nat} : aFieldAddr P t (rdPtr v off) f = some (rdPtr v (off + d)) := by
  cases h with
  | tree => exact h1 _ _
  | nil => omega
  | own hb ho hc => simp only [rdPtr, h2, Nat.add_assoc]

theorem Rd.load {v : Value} {n : Nat} {cs : List Value} (h : Rd H v n cs) (hn : 0 < n) {off sz : Nat} (hz : 0 < sz) (ho : off + sz ≤ cs.length) (e : Option Nat) : aLoad true sz ⟨H, e⟩ (rdPtr v off) = some (.agg ((cs.drop off).take sz).toArray) := by
  cases h with
  | tree => simp [aLoad, tSl, rdPtr, tPtr, tLoad, ho]
  | nil => omega
  | @own b o n c bs cs t own hb hoo hc =>
    have hl := congrArg List.length hc
    simp at hl
    simp only [aLoad, rdPtr, if_true, cellsAt, hb]
    rw [if_pos (by omega)]
    simp only [Option.map_some]
    congr 2
    rw [← hc, List.drop_take, List.take_take, List.drop_drop, Nat.min_eq_left (by omega)]

theorem Rd.load1 {v : Value} {n : Nat} {cs : List Value} (h : Rd H v n cs) (hn : 0 < n) {off : Nat} {x : Value} (ho : cs[off]? = some x) (e : Option Nat) : aLoad false 1 ⟨H, e⟩ (rdPtr v off) = some x := by
  cases h with
  | tree => simp [aLoad, tSl, rdPtr, tPtr, tLoad, ho]
  | nil => omega
  | @own b o n c bs cs t own hb hoo hc =>
    simp only [aLoad, rdPtr, Bool.false_eq_true, if_false, cellAt, hb]
    rw [← hc, List.getElem?_take] at ho
    split at ho
    · rw [List.getElem?_drop] at ho; exact ho
    · simp at ho

theorem Rd.src {v : Value} {n size : Nat} {cs : List Value} (h : Rd H v n cs) (hl : cs.length = n * size) (hc : cs.all cellV = true) : srcCells size H v = some (n, cs) := by
  cases h with
  | tree => simp [srcCells, tSl, tSrc, hl, hc]
  | nil => simp [srcCells]
  | @own b o n c bs cs t own hb ho hcs =>
    have hlen := congrArg List.length hcs
    simp at hlen
    simp only [srcCells, cellsAt, hb]
    rw [if_pos (by omega), ← hl, hcs]; rfl

theorem Rd.few {v : Value} {n : Nat} {cs : List Value} (h : Rd H v n cs) (hc : lrefs cs = []) : (vrefs v).length ≤ 1 := by
  cases h <;> simp [hc]

theorem Rd.set {v : Value} {n : Nat} {cs : List Value} (h : Rd H v n cs) {b : Nat} (hv : ∀ r ∈ vrefs v, r ≠ b) (x : Blk) : Rd (H.set b x) v n cs := by
  cases h with
  | tree => exact .tree _ _
  | nil => exact .nil
  | own hb ho hc => exact .own (by rw [List.getElem?_set_ne (Ne.symm (hv _ (by simp)))]; exact hb) ho hc

/-- a row that was there before the call is told as it is; nil as the empty one -/
theorem frz_old {v : Value} {n : Nat} {cs : List Value} (h : Rd H v n cs) (hv : ∀ r ∈ vrefs v, r < H.length) (k : Nat) : frz P H.length (k + 1) v (H ++ l) = (v, H ++ l) ∨ (v = .slice none 0 0 ∧ frz P H.length (k + 1) v (H ++ l) = (tSl 0 [], H ++ l)) := by
  cases h with
  | tree => exact .inl (frz_noSl _ _ _ _ rfl)
  | nil => exact .inr ⟨rfl, by simp [frz]⟩
  | @own b o n c bs cs t own hb ho hcs =>
    refine .inl ?_
    have hb' : (H ++ l)[b]? = some (.cells bs t own) := by rw [List.getElem?_append_left (lt_of_get hb)]; exact hb
    have hlt : ¬ H.length ≤ b := by have := lt_of_get hb; omega
    simp only [frz, hb']
    cases own with
    | false => rfl
    | true =>
      simp only
      split
      · rw [if_neg (by simp [hlt])]
      · rfl

/-- a row that the call made becomes a value of its own -/
theorem frz_new {cs : List Value} {t : TypeId} {sz n c k q : Nat} (hk : l[k]? = some (.cells cs t true)) (hs : sizeP P t = some sz) (hn : n * sz ≤ cs.length) (hc : cs.all noSl = true) :
    frz P H.length (q + 1) (.slice (some ⟨H.length + k, 0, none⟩) n c) (H ++ l) = (tSl n (cs.take (n * sz)), H ++ l.set k .dead) := by
  have hb : (H ++ l)[H.length + k]? = some (.cells cs t true) := by rw [get_app]; exact hk
  simp only [frz, hb, hs]
  rw [if_pos ⟨by omega, by omega⟩]
  rw [frzL_noSl _ _ _ _ (by
    simp only [List.drop_zero, List.all_eq_true] at hc ⊢
    exact fun x hx => hc x (List.mem_of_mem_take hx))]
  simp only [List.drop_zero, set_app]

theorem lrefs_take {cs : List Value} (h : lrefs cs = []) (n : Nat) : lrefs (cs.take n) = [] := by
  have := lrefs_app (cs.take n) (cs.drop n)
  rw [List.take_append_drop, h] at this
  exact (List.append_eq_nil_iff.1 this.symm).1

end
end Go.Am
