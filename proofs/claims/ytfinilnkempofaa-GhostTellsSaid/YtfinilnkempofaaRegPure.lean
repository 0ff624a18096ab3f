/- A part of the proof: RegPure, RegOps, RegRef, RegSearch. Its conditions: none. -/
import Derived.KernelRfl
import Derived.Test.YtfinilnkempofaaAm23
import Derived.Test.YtfinilnkempofaaRgSh
set_option linter.all false
set_option linter.unusedVariables false
set_option linter.unusedSimpArgs false
set_option linter.unnecessarySimpa false
section
namespace Go.Reg

/-- a read or a write of one sector -/
structure Rw (V : Type) where
  w : Bool
  v : V
  f : Int
  t : Int

section
variable {V : Type}

def mustR (x : Rw V) : Bool := !x.w || decide (0 ≤ x.t)
def y159 (a b : Rw V) : Bool := decide (0 ≤ a.t) && decide (a.t < b.f)

/-- one more is done -/
def ins (D : Nat → Bool) (n : Nat) : Nat → Bool := fun k => k == n || D k

def y175 (l : List (Rw V)) (D : Nat → Bool) (n : Nat) : Prop :=
  D n = false ∧ ∀ (k : Nat) (y x : Rw V), l[k]? = some y → l[n]? = some x → k ≠ n → y159 y x = true → D k = true

/-- all that mustR be done is -/
def q329 (l : List (Rw V)) (D : Nat → Bool) : Prop := ∀ (k : Nat) (x : Rw V), l[k]? = some x → mustR x = true → D k = true

/-- a row that fits behind what is done already -/
inductive Comp (l : List (Rw V)) : (Nat → Bool) → V → List Nat → Prop
  | done {D : Nat → Bool} {u : V} (h : q329 l D) : Comp l D u []
  | step {D : Nat → Bool} {u : V} {n : Nat} {x : Rw V} {r : List Nat} (hx : l[n]? = some x) (hc : y175 l D n) (hv : x.w = false → x.v = u) (h : Comp l (ins D n) (if x.w = true then x.v else u) r) : Comp l D u (n :: r)

def Dead (l : List (Rw V)) (D : Nat → Bool) (u : V) : Prop := ∀ r, ¬ Comp l D u r

theorem ins_comm (D : Nat → Bool) (a b : Nat) : ins (ins D a) b = ins (ins D b) a := by
  funext k
  simp only [ins]
  cases (k == a) <;> cases (k == b) <;> simp

theorem canNext_ins {l : List (Rw V)} {D : Nat → Bool} {m n : Nat} (h : y175 l D m) (hne : m ≠ n) : y175 l (ins D n) m := by
  refine ⟨?_, fun k y x hy hx hk ha => ?_⟩
  · simp [ins, hne, h.1]
  · simp [ins, h.2 k y x hy hx hk ha]

/-- a read never hurts -/
theorem read_first {l : List (Rw V)} {n : Nat} {x : Rw V} (hx : l[n]? = some x) (hr : x.w = false) : ∀ (r : List Nat) (D : Nat → Bool) (u : V), D n = false → Comp l D u r → Comp l (ins D n) u (r.erase n)
  | [], D, u, hn, h => by
    cases h with
    | done h => exact .done (fun k y hy hm => by simp [ins, h k y hy hm])
  | m :: r, D, u, hn, h => by
    cases h with
    | @step _ _ _ y _ hy hc hv h =>
      by_cases hm : m = n
      · subst hm
        rw [hx] at hy; simp at hy; subst hy
        simp only [hr, Bool.false_eq_true, if_false] at h
        simpa using h
      · rw [List.erase_cons_tail (by simpa using hm)]
        refine .step hy (canNext_ins hc hm) hv ?_
        have hn' : ins D m n = false := by simp [ins, hn]; exact fun e => hm e.symm
        rw [ins_comm]
        exact read_first hx hr r (ins D m) _ hn' h

theorem dead_read {l : List (Rw V)} {n : Nat} {x : Rw V} {D : Nat → Bool} {u : V} (hx : l[n]? = some x) (hr : x.w = false) (hn : D n = false) (h : Dead l (ins D n) u) : Dead l D u :=
  fun r hr' => h _ (read_first hx hr r D u hn hr')

/-- nothing comes next: it is the end -/
theorem dead_none {l : List (Rw V)} {D : Nat → Bool} {u : V} (hm : ¬ q329 l D) (h : ∀ n x, l[n]? = some x → y175 l D n → (x.w = false → x.v = u) → Dead l (ins D n) (if x.w = true then x.v else u)) : Dead l D u := by
  intro r hr
  cases hr with
  | done h => exact hm h
  | step hx hc hv hr => exact h _ _ hx hc hv _ hr

/-! ### The hunt -/

/-- how many of the first n are done -/
def cnt : Nat → (Nat → Bool) → Nat
  | 0, _ => 0
  | n + 1, D => cnt n D + if D n = true then 1 else 0

theorem cnt_le (D : Nat → Bool) : ∀ n, cnt n D ≤ n
  | 0 => Nat.le_refl _
  | n + 1 => by have := cnt_le D n; simp only [cnt]; split <;> omega

theorem q333 {D : Nat → Bool} {i : Nat} : ∀ n, n ≤ i → cnt n (ins D i) = cnt n D
  | 0, _ => rfl
  | n + 1, h => by
    have := q333 (D := D) (i := i) n (by omega)
    have hne : (n == i) = false := by simp; omega
    simp only [cnt, this, ins, hne, Bool.false_or]

theorem cnt_ins {D : Nat → Bool} {i : Nat} (hi : D i = false) : ∀ n, i < n → cnt n (ins D i) = cnt n D + 1
  | 0, h => by omega
  | n + 1, h => by
    by_cases hn : i = n
    · subst hn
      have := q333 (D := D) (i := i) i (Nat.le_refl _)
      simp [cnt, this, ins, hi]
    · have := cnt_ins hi n (by omega)
      have hne : (n == i) = false := by simp; omega
      simp only [cnt, this, ins, hne, Bool.false_or]
      omega

/-- a set of bits with one more -/
theorem q346 (d i : Nat) : (d ||| 2 ^ i).testBit = ins d.testBit i := by
  funext k
  rw [Nat.testBit_or, Nat.testBit_two_pow]
  simp only [ins]
  by_cases h : i = k
  · subst h; simp
  · have h' : k ≠ i := fun e => h e.symm
    simp [h, h']

/-- what is tried: dead, or it stands y159 in the hunt -/
def Inv (l : List (Rw V)) (T : List (Nat × V)) (c : Nat) : Prop := ∀ e ∈ T, Dead l e.1.testBit e.2 ∨ cnt l.length e.1.testBit < c

/-- what comes of a state: found (a row behind the one so far), or not; what was tried behind it -/
structure Tells (l : List (Rw V)) (d : Nat) (u : V) (row : List Nat) (T : List (Nat × V)) (b : Bool) (row' : List Nat) (T' : List (Nat × V)) : Prop where
  found : b = true → ∃ r, row' = row ++ r ∧ Comp l d.testBit u r
  not : b = false → row' = row ∧ Dead l d.testBit u ∧ ∀ e ∈ T', e ∈ T ∨ Dead l e.1.testBit e.2

theorem Inv.more {l : List (Rw V)} {T T' : List (Nat × V)} {c : Nat} (h : Inv l T c) (h' : ∀ e ∈ T', e ∈ T ∨ Dead l e.1.testBit e.2) : Inv l T' c := fun e he => (h' e he).elim (h e) .inl

theorem Inv.up {l : List (Rw V)} {T : List (Nat × V)} {d : Nat} {u : V} {c : Nat} (h : Inv l T c) (hc : cnt l.length d.testBit = c) : Inv l (T ++ [(d, u)]) (c + 1) := fun e he => by
  rw [List.mem_append] at he
  rcases he with he | he
  · rcases h e he with h1 | h1
    · exact .inl h1
    · exact .inr (by omega)
  · simp at he; subst he; exact .inr (by simp only; omega)

end
end Go.Reg

end
section
namespace Go.Proofs.Ytfinilnkempofaa
open Go Go.Am
theorem y40 : PP.underlying y7 = some (.slice y2) := by kernel_rfl
theorem qsz_L_twainref36_Op : sizeP PP y7 = some 1 := by kernel_rfl
theorem qzg_L_twainref36_Op : (zeroP PP y7).getD unk = .slice none 0 0 := by kernel_rfl
theorem q57 : PP.underlying y9 = some (.slice y4) := by kernel_rfl
theorem qsz_L_history_Op : sizeP PP y9 = some 1 := by kernel_rfl
theorem qzg_L_history_Op : (zeroP PP y9).getD unk = .slice none 0 0 := by kernel_rfl
theorem q180 : PP.underlying y28 = some (.slice t_int) := by kernel_rfl
theorem qsz_L_int : sizeP PP y28 = some 1 := by kernel_rfl
theorem qzg_L_int : (zeroP PP y28).getD unk = .slice none 0 0 := by kernel_rfl
theorem q259 : PP.underlying y132 = some (.slice y37) := by kernel_rfl
theorem qsz_L_uint64 : sizeP PP y132 = some 1 := by kernel_rfl
theorem qzg_L_uint64 : (zeroP PP y132).getD unk = .slice none 0 0 := by kernel_rfl
theorem q277 : PP.underlying y1 = some (.array 16 q175) := by kernel_rfl
theorem qsz_api_Sector : sizeP PP y1 = some 16 := by kernel_rfl
def qz_api_Sector : List Value := List.replicate 16 (.int .u8 0)
theorem y117 : (zeroP PP y1).getD unk = .agg qz_api_Sector.toArray := by kernel_rfl
theorem q130 : qz_api_Sector.length = 16 := by kernel_rfl
theorem y118 : q16 qz_api_Sector = true := by kernel_rfl
-- qflat_api_Sector
theorem y87 : sizeP PP y2 = some 19 := by kernel_rfl
def qz_twainref36_Op : List Value := [.bool false, .int .u8 0, .int .u8 0, .int .u8 0, .int .u8 0, .int .u8 0, .int .u8 0, .int .u8 0, .int .u8 0, .int .u8 0, .int .u8 0, .int .u8 0, .int .u8 0, .int .u8 0, .int .u8 0, .int .u8 0, .int .u8 0, .int .i64 0, .int .i64 0]
theorem y38 : (zeroP PP y2).getD unk = .agg qz_twainref36_Op.toArray := by kernel_rfl
theorem q50 : qz_twainref36_Op.length = 19 := by kernel_rfl
theorem q38 : q16 qz_twainref36_Op = true := by kernel_rfl
theorem q59 (b o : Nat) : y3 PP y2 (.pointer (some ⟨b, o, none⟩)) 0 = some (.pointer (some ⟨b, o, none⟩)) := by kernel_rfl
theorem q240 (off : Nat) (row : Array Value) : y3 PP y2 (tPtr off row) 0 = some (tPtr (off + 0) row) := by kernel_rfl
theorem y173 {H : List Blk} {v : Value} {n off : Nat} {cs : List Value} (h : Rd H v n cs) (hn : 0 < n) : y3 PP y2 (rdPtr v off) 0 = some (rdPtr v (off + 0)) := h.fieldOf q240 q59 hn
theorem q58 (b o : Nat) : y3 PP y2 (.pointer (some ⟨b, o, none⟩)) 1 = some (.pointer (some ⟨b, o + 1, none⟩)) := by kernel_rfl
theorem q242 (off : Nat) (row : Array Value) : y3 PP y2 (tPtr off row) 1 = some (tPtr (off + 1) row) := by kernel_rfl
theorem y174 {H : List Blk} {v : Value} {n off : Nat} {cs : List Value} (h : Rd H v n cs) (hn : 0 < n) : y3 PP y2 (rdPtr v off) 1 = some (rdPtr v (off + 1)) := h.fieldOf q242 q58 hn
theorem q104 (b o : Nat) : y3 PP y2 (.pointer (some ⟨b, o, none⟩)) 2 = some (.pointer (some ⟨b, o + 17, none⟩)) := by kernel_rfl
theorem y252 (off : Nat) (row : Array Value) : y3 PP y2 (tPtr off row) 2 = some (tPtr (off + 17) row) := by kernel_rfl
theorem qfr_twainref36_Op_2 {H : List Blk} {v : Value} {n off : Nat} {cs : List Value} (h : Rd H v n cs) (hn : 0 < n) : y3 PP y2 (rdPtr v off) 2 = some (rdPtr v (off + 17)) := h.fieldOf y252 q104 hn
theorem y104 (b o : Nat) : y3 PP y2 (.pointer (some ⟨b, o, none⟩)) 3 = some (.pointer (some ⟨b, o + 18, none⟩)) := by kernel_rfl
theorem y250 (off : Nat) (row : Array Value) : y3 PP y2 (tPtr off row) 3 = some (tPtr (off + 18) row) := by kernel_rfl
theorem qfr_twainref36_Op_3 {H : List Blk} {v : Value} {n off : Nat} {cs : List Value} (h : Rd H v n cs) (hn : 0 < n) : y3 PP y2 (rdPtr v off) 3 = some (rdPtr v (off + 18)) := h.fieldOf y250 y104 hn
-- q254
theorem y89 : sizeP PP y4 = some 19 := by kernel_rfl
def qz_history_Op : List Value := [.bool false, .int .u8 0, .int .u8 0, .int .u8 0, .int .u8 0, .int .u8 0, .int .u8 0, .int .u8 0, .int .u8 0, .int .u8 0, .int .u8 0, .int .u8 0, .int .u8 0, .int .u8 0, .int .u8 0, .int .u8 0, .int .u8 0, .int .i64 0, .int .i64 0]
theorem q63 : (zeroP PP y4).getD unk = .agg qz_history_Op.toArray := by kernel_rfl
theorem y127 : qz_history_Op.length = 19 := by kernel_rfl
theorem q62 : q16 qz_history_Op = true := by kernel_rfl
theorem q64 (b o : Nat) : y3 PP y4 (.pointer (some ⟨b, o, none⟩)) 0 = some (.pointer (some ⟨b, o, none⟩)) := by kernel_rfl
theorem y295 (off : Nat) (row : Array Value) : y3 PP y4 (tPtr off row) 0 = some (tPtr (off + 0) row) := by kernel_rfl
theorem qfr_history_Op_0 {H : List Blk} {v : Value} {n off : Nat} {cs : List Value} (h : Rd H v n cs) (hn : 0 < n) : y3 PP y4 (rdPtr v off) 0 = some (rdPtr v (off + 0)) := h.fieldOf y295 q64 hn
theorem q97 (b o : Nat) : y3 PP y4 (.pointer (some ⟨b, o, none⟩)) 1 = some (.pointer (some ⟨b, o + 1, none⟩)) := by kernel_rfl
theorem q307 (off : Nat) (row : Array Value) : y3 PP y4 (tPtr off row) 1 = some (tPtr (off + 1) row) := by kernel_rfl
theorem qfr_history_Op_1 {H : List Blk} {v : Value} {n off : Nat} {cs : List Value} (h : Rd H v n cs) (hn : 0 < n) : y3 PP y4 (rdPtr v off) 1 = some (rdPtr v (off + 1)) := h.fieldOf q307 q97 hn
theorem q99 (b o : Nat) : y3 PP y4 (.pointer (some ⟨b, o, none⟩)) 2 = some (.pointer (some ⟨b, o + 17, none⟩)) := by kernel_rfl
theorem q304 (off : Nat) (row : Array Value) : y3 PP y4 (tPtr off row) 2 = some (tPtr (off + 17) row) := by kernel_rfl
theorem qfr_history_Op_2 {H : List Blk} {v : Value} {n off : Nat} {cs : List Value} (h : Rd H v n cs) (hn : 0 < n) : y3 PP y4 (rdPtr v off) 2 = some (rdPtr v (off + 17)) := h.fieldOf q304 q99 hn
theorem q73 (b o : Nat) : y3 PP y4 (.pointer (some ⟨b, o, none⟩)) 3 = some (.pointer (some ⟨b, o + 18, none⟩)) := by kernel_rfl
theorem y287 (off : Nat) (row : Array Value) : y3 PP y4 (tPtr off row) 3 = some (tPtr (off + 18) row) := by kernel_rfl
theorem qfr_history_Op_3 {H : List Blk} {v : Value} {n off : Nat} {cs : List Value} (h : Rd H v n cs) (hn : 0 < n) : y3 PP y4 (rdPtr v off) 3 = some (rdPtr v (off + 18)) := h.fieldOf y287 q73 hn
-- y302
theorem qsz_register_state : sizeP PP y6 = some 17 := by kernel_rfl
def qz_register_state : List Value := [.int .u64 0, .int .u8 0, .int .u8 0, .int .u8 0, .int .u8 0, .int .u8 0, .int .u8 0, .int .u8 0, .int .u8 0, .int .u8 0, .int .u8 0, .int .u8 0, .int .u8 0, .int .u8 0, .int .u8 0, .int .u8 0, .int .u8 0]
theorem qzg_register_state : (zeroP PP y6).getD unk = .agg qz_register_state.toArray := by kernel_rfl
theorem qzl_register_state : qz_register_state.length = 17 := by kernel_rfl
theorem qza_register_state : q16 qz_register_state = true := by kernel_rfl
theorem y42 (b o : Nat) : y3 PP y6 (.pointer (some ⟨b, o, none⟩)) 0 = some (.pointer (some ⟨b, o, none⟩)) := by kernel_rfl
theorem q234 (off : Nat) (row : Array Value) : y3 PP y6 (tPtr off row) 0 = some (tPtr (off + 0) row) := by kernel_rfl
theorem qfr_register_state_0 {H : List Blk} {v : Value} {n off : Nat} {cs : List Value} (h : Rd H v n cs) (hn : 0 < n) : y3 PP y6 (rdPtr v off) 0 = some (rdPtr v (off + 0)) := h.fieldOf q234 y42 hn
theorem q75 (b o : Nat) : y3 PP y6 (.pointer (some ⟨b, o, none⟩)) 1 = some (.pointer (some ⟨b, o + 1, none⟩)) := by kernel_rfl
theorem y230 (off : Nat) (row : Array Value) : y3 PP y6 (tPtr off row) 1 = some (tPtr (off + 1) row) := by kernel_rfl
theorem qfr_register_state_1 {H : List Blk} {v : Value} {n off : Nat} {cs : List Value} (h : Rd H v n cs) (hn : 0 < n) : y3 PP y6 (rdPtr v off) 1 = some (rdPtr v (off + 1)) := h.fieldOf y230 q75 hn
-- qflat_register_state
theorem qsz_register_hunt : sizeP PP y10 = some 4 := by kernel_rfl
def qz_register_hunt : List Value := [.slice none 0 0, .int .u64 0, .slice none 0 0, .map none]
theorem qzg_register_hunt : (zeroP PP y10).getD unk = .agg qz_register_hunt.toArray := by kernel_rfl
theorem qzl_register_hunt : qz_register_hunt.length = 4 := by kernel_rfl
theorem qza_register_hunt : q16 qz_register_hunt = true := by kernel_rfl
theorem y86 (b o : Nat) : y3 PP y10 (.pointer (some ⟨b, o, none⟩)) 0 = some (.pointer (some ⟨b, o, none⟩)) := by kernel_rfl
theorem q250 (off : Nat) (row : Array Value) : y3 PP y10 (tPtr off row) 0 = some (tPtr (off + 0) row) := by kernel_rfl
theorem qfr_register_hunt_0 {H : List Blk} {v : Value} {n off : Nat} {cs : List Value} (h : Rd H v n cs) (hn : 0 < n) : y3 PP y10 (rdPtr v off) 0 = some (rdPtr v (off + 0)) := h.fieldOf q250 y86 hn
theorem y51 (b o : Nat) : y3 PP y10 (.pointer (some ⟨b, o, none⟩)) 1 = some (.pointer (some ⟨b, o + 1, none⟩)) := by kernel_rfl
theorem q239 (off : Nat) (row : Array Value) : y3 PP y10 (tPtr off row) 1 = some (tPtr (off + 1) row) := by kernel_rfl
theorem qfr_register_hunt_1 {H : List Blk} {v : Value} {n off : Nat} {cs : List Value} (h : Rd H v n cs) (hn : 0 < n) : y3 PP y10 (rdPtr v off) 1 = some (rdPtr v (off + 1)) := h.fieldOf q239 y51 hn
theorem q103 (b o : Nat) : y3 PP y10 (.pointer (some ⟨b, o, none⟩)) 2 = some (.pointer (some ⟨b, o + 2, none⟩)) := by kernel_rfl
theorem q256 (off : Nat) (row : Array Value) : y3 PP y10 (tPtr off row) 2 = some (tPtr (off + 2) row) := by kernel_rfl
theorem qfr_register_hunt_2 {H : List Blk} {v : Value} {n off : Nat} {cs : List Value} (h : Rd H v n cs) (hn : 0 < n) : y3 PP y10 (rdPtr v off) 2 = some (rdPtr v (off + 2)) := h.fieldOf q256 q103 hn
theorem q72 (b o : Nat) : y3 PP y10 (.pointer (some ⟨b, o, none⟩)) 3 = some (.pointer (some ⟨b, o + 3, none⟩)) := by kernel_rfl
theorem q257 (off : Nat) (row : Array Value) : y3 PP y10 (tPtr off row) 3 = some (tPtr (off + 3) row) := by kernel_rfl
theorem qfr_register_hunt_3 {H : List Blk} {v : Value} {n off : Nat} {cs : List Value} (h : Rd H v n cs) (hn : 0 < n) : y3 PP y10 (rdPtr v off) 3 = some (rdPtr v (off + 3)) := h.fieldOf q257 q72 hn
-- qflat_register_hunt
theorem q320 : PP.underlying t_int = some (.int .i64) := by kernel_rfl
theorem q236 : sizeP PP t_int = some 1 := by kernel_rfl
theorem qzg_int : (zeroP PP t_int).getD unk = .int .i64 0 := by kernel_rfl
theorem qu_bool : PP.underlying y180 = some .bool := by kernel_rfl
theorem qsz_bool : sizeP PP y180 = some 1 := by kernel_rfl
theorem qzg_bool : (zeroP PP y180).getD unk = .bool false := by kernel_rfl
theorem qu_uint64 : PP.underlying y37 = some (.int .u64) := by kernel_rfl
theorem y310 : sizeP PP y37 = some 1 := by kernel_rfl
theorem qzg_uint64 : (zeroP PP y37).getD unk = .int .u64 0 := by kernel_rfl
theorem qu_P_register_hunt : PP.underlying q88 = some (.pointer y10) := by kernel_rfl
theorem qsz_P_register_hunt : sizeP PP q88 = some 1 := by kernel_rfl
theorem qzg_P_register_hunt : (zeroP PP q88).getD unk = .pointer none := by kernel_rfl
theorem qsz_Fd15f66 : sizeP PP y196 = some 1 := by kernel_rfl
theorem qzg_Fd15f66 : (zeroP PP y196).getD unk = .nilFunc := by kernel_rfl
theorem qu_L_api_Sector : PP.underlying y13 = some (.slice y1) := by kernel_rfl
theorem qsz_L_api_Sector : sizeP PP y13 = some 1 := by kernel_rfl
theorem qzg_L_api_Sector : (zeroP PP y13).getD unk = .slice none 0 0 := by kernel_rfl
theorem qflat_api_Sector : FlatAgg PP y1 := ⟨by kernel_rfl, by kernel_rfl, by kernel_rfl⟩
theorem q254 : FlatAgg PP y2 := ⟨by kernel_rfl, by kernel_rfl, by kernel_rfl⟩
theorem y302 : FlatAgg PP y4 := ⟨by kernel_rfl, by kernel_rfl, by kernel_rfl⟩
theorem qflat_register_state : FlatAgg PP y6 := ⟨by kernel_rfl, by kernel_rfl, by kernel_rfl⟩
end Go.Proofs.Ytfinilnkempofaa

end
section
namespace Go.Proofs.Ytfinilnkempofaa
open Go Go.Am Go.Reg

/-- an op's cells -/
def opc (x : Rw (List Value)) : List Value := .bool x.w :: (x.v ++ [.int .i64 x.f, .int .i64 x.t])

structure OkRw (x : Rw (List Value)) : Prop where
  v : TOk PP y1 x.v
  f : IntKind.i64.min ≤ x.f ∧ x.f ≤ IntKind.i64.max
  t : IntKind.i64.min ≤ x.t ∧ x.t ≤ IntKind.i64.max

theorem y112 {v : List Value} (h : TOk PP y1 v) : v.length = 16 := by
  have := q157 12 y1 v qflat_api_Sector.flat h
  rw [this]
  have h16 : PP.cellsOf y1 = 16 := by kernel_rfl
  exact h16

theorem q100 {v : List Value} (h : TOk PP y1 v) : q16 v = true ∧ lrefs v = [] ∧ v.all noSl = true := by
  obtain ⟨ps, rfl, hl, hp⟩ := h.array_inv q277
  have qu_uint8 : PP.underlying q175 = some (.int .u8) := by kernel_rfl
  clear hl h
  induction ps with
  | nil => exact ⟨rfl, rfl, rfl⟩
  | cons p ps ih =>
    obtain ⟨h1, h2, h3⟩ := ih (fun x hx => hp x (by simp [hx]))
    obtain ⟨n, rfl, _⟩ := (hp p (by simp)).int_inv qu_uint8
    refine ⟨?_, ?_, ?_⟩
    · simp only [List.flatten_cons, q121, h1, Bool.and_true]; rfl
    · simp [h2]
    · simp [h3, noSl]

theorem y171 {x : Rw (List Value)} (h : OkRw x) : (opc x).length = 19 := by simp [opc, y112 h.v]
theorem y268 {x : Rw (List Value)} (h : OkRw x) : (opc x).take 19 = opc x := List.take_of_length_le (by rw [y171 h]; omega)
theorem q87 {x : Rw (List Value)} (h : OkRw x) : q16 (opc x) = true ∧ lrefs (opc x) = [] ∧ (opc x).all noSl = true := by
  obtain ⟨h1, h2, h3⟩ := q100 h.v
  refine ⟨?_, by simp [opc, h2], by simp [opc, h3, noSl]⟩
  unfold q16 at h1 ⊢
  simp [opc, cellV, h1]

theorem y150 {n : Int} (h : -9223372036854775808 ≤ n ∧ n ≤ 9223372036854775807) : IntKind.i64.wrap n = n := by rw [IntKind.wrap_i64]; omega

attribute [local simp] y56 box_one y55 q61 q54 y185 y164 q150 q107 y167 y94 q213 y189 y236 q187 y193
  q108 y321 q203 q204 q169 q65 bin_leq q223 y153 y256 q271 fin_flat' flatV noSl q252 q42 y247 q71 y76 q35
  q59 q58 q104 y104 q64 q97 q99 q73 y38 q63 y117 q38 q62 y118

theorem must_ok {x : Rw (List Value)} (h : OkRw x) (H : List Blk) : acall PP TT q102 [.agg (opc x).toArray] H = some (.bool (mustR x), H, none) := by
  obtain ⟨h1, h2, h3⟩ := q87 h
  have hl := y112 h.v
  rw [y22, twainref37_must.eq]
  simp [twainref37_must.sh, h1]
  simp [opc, mustR, hl]
  cases x.w <;> simp

theorem q344 {x y : Rw (List Value)} (hx : OkRw x) (hy : OkRw y) (H : List Blk) : acall PP TT q92 [.agg (opc x).toArray, .agg (opc y).toArray] H = some (.bool (y159 x y), H, none) := by
  obtain ⟨h1, h2, h3⟩ := q87 hx
  obtain ⟨g1, g2, g3⟩ := q87 hy
  have hl := y112 hx.v
  have gl := y112 hy.v
  rw [y22, twainref37_ahead.eq]
  simp [twainref37_ahead.sh, h1, g1]
  simp [opc, y159, hl, gl]
  by_cases h : 0 ≤ x.t <;> simp [h]

/-- numbers, as a row's cells -/
def nums (l : List Int) : List Value := l.map fun n => .int .i64 n
theorem nums_len (l : List Int) : (nums l).length = l.length := by simp [nums]
theorem q143 (l : List Int) : lrefs (nums l) = [] := by
  induction l with
  | nil => rfl
  | cons x xs ih => simpa [nums] using ih

/-- where a number stands in a row, from a place on -/
def y34 (l : List Int) (n : Int) (i : Nat) : Int :=
  match l with
  | [] => -1
  | x :: xs => if x = n then i else y34 xs n (i + 1)

theorem placeFrom_ne (n : Int) : ∀ (l : List Int) (i : Nat), y34 l n i = -1 ∨ (i : Int) ≤ y34 l n i
  | [], i => .inl rfl
  | x :: xs, i => by
    simp only [y34]
    split
    · exact .inr (Int.le_refl _)
    · rcases placeFrom_ne n xs (i + 1) with h | h
      · exact .inl h
      · exact .inr (by omega)

theorem q365 {H : List Blk} {v : Value} {l : List Int} (hr : Rd H v l.length (nums l)) (hv : ∀ r ∈ vrefs v, r < H.length) (hm : l.length < 2 ^ 62) (n : Int) : ∀ (k i : Nat), i + k = l.length →
    loopG H.length (twainref37_place.loop2s (acall PP TT) loopG H.length) ([.int .i64 n, v, .int .i64 l.length, .int .i64 i], ⟨H, none⟩) =
      some (if y34 (l.drop i) n i = -1 then (.exit 0, [unk], ⟨H, none⟩) else (.ret, [.int .i64 (y34 (l.drop i) n i)], ⟨H, none⟩))
  | 0, i, hk => by
    rw [y214, gc_same (by simpa using hv)]
    have : l.drop i = [] := List.drop_eq_nil_of_le (by omega)
    have hi : ¬ ((i : Int) < (l.length : Int)) := by omega
    simp [twainref37_place.loop2s, twainref37_place.loop2, this, y34, hi]
  | k + 1, i, hk => by
    rw [y214, gc_same (by simpa using hv)]
    have hlt : i < l.length := by omega
    have hi : ((i : Int) < (l.length : Int)) := by omega
    have hix := hr.index (P := PP) q180 q236 (k := .i64) (i := (i : Int)) (by omega) hi
    have hld := hr.load1 (by omega) (off := i) (x := .int .i64 l[i]) (by simp [nums, hlt]) none
    have hw : IntKind.i64.wrap ((i : Int) + 1) = ((i + 1 : Nat) : Int) := by rw [y150 (by omega)]; omega
    have ih := q365 hr hv hm n k (i + 1) (by omega)
    rw [List.drop_eq_getElem_cons hlt]
    simp at hix
    simp [twainref37_place.loop2s, twainref37_place.loop2, hi, hix, hld, y34, hw]
    by_cases hn : l[i] = n
    · simp [hn]
    · simp [hn]; exact ih

theorem y270 {H : List Blk} {v : Value} {l : List Int} (hr : Rd H v l.length (nums l)) (hv : ∀ r ∈ vrefs v, r < H.length) (hm : l.length < 2 ^ 62) (n : Int) :
    acall PP TT q67 [v, .int .i64 n] H = some (.int .i64 (y34 l n 0), H, none) := by
  have h0 := q365 hr hv hm n l.length 0 (by omega)
  rw [y22, twainref37_place.eq]
  simp [twainref37_place.sh, hr.len (P := PP) q180]
  simp at h0
  rw [h0]
  simp
  by_cases h : y34 l n 0 = -1
  · simp [h, twainref37_place.j2]
  · simp [h]

theorem y192 (l : List Int) (n : Int) (i : Nat) : 0 ≤ y34 l n i ↔ n ∈ l := by
  induction l generalizing i with
  | nil => simp [y34]
  | cons x xs ih =>
    simp only [y34, List.mem_cons]
    split
    · rename_i h; simp [h]
    · rename_i h; rw [ih]; constructor
      · exact .inr
      · rintro (h1 | h1)
        · exact absurd h1.symm h
        · exact h1

/-- ops, as a slice's cells -/
def opsC (l : List (Rw (List Value))) : List Value := (l.map opc).flatten
def OkOps (l : List (Rw (List Value))) : Prop := ∀ x ∈ l, OkRw x

theorem y309 {l : List (Rw (List Value))} (h : OkOps l) : (opsC l).length = l.length * 19 := by
  have := chunk_len (c := 19) (l.map opc) (fun r hr => by obtain ⟨x, hx, rfl⟩ := List.mem_map.1 hr; exact y171 (h x hx))
  simpa [opsC] using this
theorem y284 {l : List (Rw (List Value))} (h : OkOps l) {i : Nat} {x : Rw (List Value)} (hx : l[i]? = some x) : ((opsC l).drop (i * 19)).take 19 = opc x :=
  q216 (c := 19) (l.map opc) (fun r hr => by obtain ⟨x, hx, rfl⟩ := List.mem_map.1 hr; exact y171 (h x hx)) i (opc x) (by simp [hx])
theorem q136 {l : List (Rw (List Value))} (h : OkOps l) : lrefs (opsC l) = [] := by
  induction l with
  | nil => rfl
  | cons x xs ih =>
    have h1 := (q87 (h x (by simp))).2.1
    have h2 := ih (fun y hy => h y (by simp [hy]))
    simp only [opsC, List.map_cons, List.flatten_cons, lrefs_app, h1, List.nil_append]
    exact h2

/-- an op of a slice that is read -/
theorem y289 {H : List Blk} {v : Value} {l : List (Rw (List Value))} (hr : Rd H v l.length (opsC l)) (hl : OkOps l) {i : Nat} {x : Rw (List Value)} (hx : l[i]? = some x) (e : Option Nat) :
    aLoad true 19 ⟨H, e⟩ (rdPtr v (i * 19)) = some (.agg (opc x).toArray) := by
  have hlt : i < l.length := q12 hx
  have h1 := y309 hl
  rw [hr.load (by omega) (by omega) (by rw [h1]; omega) e, y284 hl hx]

theorem whole_ok {H : List Blk} {v rv : Value} {l : List (Rw (List Value))} {row : List Int} (hr : Rd H v l.length (opsC l)) (hv : vrefs v = []) (hl : OkOps l) (hm : l.length < 2 ^ 62)
    (hw : Rd H rv row.length (nums row)) (hwv : ∀ r ∈ vrefs rv, r < H.length) (hwm : row.length < 2 ^ 62) :
    ∃ b, acall PP TT y111 [v, rv] H = some (.bool b, H, none) ∧ (b = true ↔ ∀ (k : Nat) x, l[k]? = some x → mustR x = true → (k : Int) ∈ row) := by
  obtain ⟨r, h1, h2⟩ := q142 (n0 := H.length) (step := twainref37_whole.loop2s (acall PP TT) loopG H.length) (len := l.length) (fun i (_ : Unit) => ([rv, v, .int .i64 l.length, .int .i64 i], ⟨H, none⟩))
    (fun i _ => ∀ (k : Nat) x, k < i → l[k]? = some x → mustR x = true → (k : Int) ∈ row)
    (fun r => (∃ G, r = (.ret, [.bool false], ⟨H ++ G, none⟩) ∧ ∃ (k : Nat) (x : _), l[k]? = some x ∧ mustR x = true ∧ ¬ (k : Int) ∈ row) ∨ (r = (.exit 0, [unk], ⟨H, none⟩) ∧ ∀ (k : Nat) x, l[k]? = some x → mustR x = true → (k : Int) ∈ row))
    (fun i _ hi hok => by
      have hi' : ((i : Int) < (l.length : Int)) := by omega
      obtain ⟨x, hx⟩ : ∃ x, l[i]? = some x := ⟨_, List.getElem?_eq_getElem hi⟩
      have hix := hr.index (P := PP) y40 y87 (k := .i64) (i := (i : Int)) (by omega) hi'
      have hxo := hl x (List.mem_of_getElem? hx)
      have htk := y268 hxo
      have hld := y289 hr hl hx none
      obtain ⟨h1, h2, h3⟩ := q87 hxo
      have hn := y171 hxo
      have hw' : IntKind.i64.wrap ((i : Int) + 1) = ((i + 1 : Nat) : Int) := by rw [y150 (by omega)]; omega
      have hpl := fun (l' : List Blk) => y270 (H := H ++ l') (hw.app) (fun r hr => by have := hwv r hr; simp; omega) hwm (i : Int)
      simp at hix
      by_cases hbad : mustR x = true ∧ y34 row (i : Int) 0 < 0
      · refine .inl ⟨(.ret, [.bool false], ⟨H ++ [.cells (opc x) y2 true], none⟩), ?_, .inl ⟨_, rfl, i, x, hx, hbad.1, fun hc => ?_⟩⟩
        · simp [twainref37_whole.loop2s, twainref37_whole.loop2, twainref37_whole.j1, twainref37_whole.j2, hi', hix, hld, h1, q9, hn, q50, h2, htk, must_ok hxo, hpl, hw', hbad.1, hbad.2]
        · have := (y192 row i 0).2 hc; omega
      · refine .inr ⟨([rv, v, .int .i64 l.length, .int .i64 ((i + 1 : Nat) : Int)], ⟨H ++ [.cells (opc x) y2 true], none⟩), (), ?_, gc_old (by simpa [hv] using hwv), fun k y hk hy hm => ?_⟩
        · cases hmx : mustR x with
          | false => simp [twainref37_whole.loop2s, twainref37_whole.loop2, twainref37_whole.j1, twainref37_whole.j2, hi', hix, hld, h1, q9, hn, q50, h2, htk, must_ok hxo, hpl, hw', hmx]
          | true =>
            have hp : ¬ y34 row (i : Int) 0 < 0 := fun hc => hbad ⟨hmx, hc⟩
            simp [twainref37_whole.loop2s, twainref37_whole.loop2, twainref37_whole.j1, twainref37_whole.j2, hi', hix, hld, h1, q9, hn, q50, h2, htk, must_ok hxo, hpl, hw', hmx, hp]
        · by_cases hki : k = i
          · subst hki
            rw [hx] at hy; simp at hy; subst hy
            exact (y192 row k 0).1 (Int.not_lt.1 (fun hc => hbad ⟨hm, hc⟩))
          · exact hok k y (by omega) hy hm)
    (fun _ hok => ⟨(.exit 0, [unk], ⟨H, none⟩), by simp [twainref37_whole.loop2s, twainref37_whole.loop2], .inr ⟨rfl, fun k x hx hm => hok k x (q12 hx) hx hm⟩⟩)
    l.length 0 () ([rv, v, .int .i64 l.length, .int .i64 0], ⟨H, none⟩) (by omega) (fun k x hk => by omega) (gc_same (by simpa [hv] using hwv))
  rw [y22, twainref37_whole.eq]
  rcases h2 with ⟨G, rfl, k, x, hx, hm, hn⟩ | ⟨rfl, hall⟩
  · refine ⟨false, ?_, by simp; exact ⟨k, x, hx, hm, hn⟩⟩
    simp [twainref37_whole.sh, hr.len (P := PP) y40, h1]
  · refine ⟨true, ?_, by simpa using hall⟩
    simp [twainref37_whole.sh, hr.len (P := PP) y40, h1, twainref37_whole.j4]

open Classical in
theorem next_ok {H : List Blk} {v rv : Value} {l : List (Rw (List Value))} {row : List Int} (hr : Rd H v l.length (opsC l)) (hv : vrefs v = []) (hl : OkOps l) (hm : l.length < 2 ^ 62)
    (hw : Rd H rv row.length (nums row)) (hwv : ∀ r ∈ vrefs rv, r < H.length) (hwm : row.length < 2 ^ 62) {n : Nat} {x : Rw (List Value)} (hx : l[n]? = some x) {u : List Value} (hu : TOk PP y1 u) :
    ∃ b, acall PP TT q120 [v, rv, .int .i64 n, .agg u.toArray] H = some (.bool b, H, none) ∧
      (b = true ↔ ¬ (n : Int) ∈ row ∧ (x.w = false → x.v = u) ∧ ∀ (k : Nat) y, l[k]? = some y → k ≠ n → y159 y x = true → (k : Int) ∈ row) := by
  have hn : n < l.length := q12 hx
  have hxo := hl x (List.mem_of_getElem? hx)
  obtain ⟨c1, c2, c3⟩ := q87 hxo
  have cn := y171 hxo
  obtain ⟨u1, u2, q320⟩ := q100 hu
  have un := y112 hu
  have xn := y112 hxo.v
  have hixn := hr.index (P := PP) y40 y87 (k := .i64) (i := (n : Int)) (by omega) (by omega)
  simp at hixn
  have htkn := y268 hxo
  -- the fields of the op that may come
  have hw0 : ∀ e, aLoad false 1 ⟨H ++ [.cells u y1 true], e⟩ (rdPtr v (n * 19)) = some (.bool x.w) := fun e => by
    refine (hr.app (l := [.cells u y1 true])).load1 (by omega) ?_ e
    have := congrArg (·[0]?) (y284 hl hx)
    rw [List.getElem?_take_of_lt (by omega), List.getElem?_drop] at this
    simpa [opc] using this
  have hv1 : ∀ e, aLoad true 16 ⟨H ++ [.cells u y1 true], e⟩ (rdPtr v (n * 19 + 1)) = some (.agg x.v.toArray) := fun e => by
    have h1 := y309 hl
    rw [(hr.app (l := [.cells u y1 true])).load (by omega) (by omega) (by rw [h1]; omega) e]
    have := y284 hl hx
    have h2 : ((opsC l).drop (n * 19 + 1)).take 16 = x.v := by
      rw [← List.drop_drop]
      have h3 : (((opsC l).drop (n * 19)).drop 1).take 16 = ((((opsC l).drop (n * 19)).take 19).drop 1).take 16 := by
        rw [List.drop_take, List.take_take]; rfl
      rw [h3, this]
      simp [opc, xn]
    rw [h2]
  obtain ⟨r, h1, h2⟩ := q142 (n0 := H.length) (step := twainref37_next.loop4s (acall PP TT) loopG H.length) (len := l.length) (fun i (_ : Unit) => ([v, rv, .int .i64 n, v, .int .i64 l.length, .int .i64 i], ⟨H, none⟩))
    (fun i _ => ∀ (k : Nat) y, k < i → l[k]? = some y → k ≠ n → y159 y x = true → (k : Int) ∈ row)
    (fun r => (∃ G, r = (.ret, [.bool false], ⟨H ++ G, none⟩) ∧ ∃ (k : Nat) (y : _), l[k]? = some y ∧ k ≠ n ∧ y159 y x = true ∧ ¬ (k : Int) ∈ row) ∨ (r = (.exit 0, [unk], ⟨H, none⟩) ∧ ∀ (k : Nat) y, l[k]? = some y → k ≠ n → y159 y x = true → (k : Int) ∈ row))
    (fun i _ hi hok => by
      have hi' : ((i : Int) < (l.length : Int)) := by omega
      obtain ⟨y, hy⟩ : ∃ y, l[i]? = some y := ⟨_, List.getElem?_eq_getElem hi⟩
      have hix := hr.index (P := PP) y40 y87 (k := .i64) (i := (i : Int)) (by omega) hi'
      have hyo := hl y (List.mem_of_getElem? hy)
      have htk := y268 hyo
      have hld := y289 hr hl hy none
      obtain ⟨h1, h2, h3⟩ := q87 hyo
      have hyn := y171 hyo
      have hldn := y289 (hr.app (l := [.cells (opc y) y2 true])) hl hx none
      have hw' : IntKind.i64.wrap ((i : Int) + 1) = ((i + 1 : Nat) : Int) := by rw [y150 (by omega)]; omega
      have hpl := fun (l' : List Blk) => y270 (H := H ++ l') (hw.app) (fun r hr => by have := hwv r hr; simp; omega) hwm (i : Int)
      simp at hix
      by_cases hin : i = n
      · subst hin
        refine .inr ⟨([v, rv, .int .i64 i, v, .int .i64 l.length, .int .i64 ((i + 1 : Nat) : Int)], ⟨H ++ [.cells (opc y) y2 true], none⟩), (), ?_, gc_old (by simpa [hv] using hwv), fun k z hk hz hne hm => ?_⟩
        · simp [twainref37_next.loop4s, twainref37_next.loop4, twainref37_next.j3, twainref37_next.j4, hi', hix, hld, h1, q9, hyn, q50, h2, htk, hw']
        · exact hok k z (by omega) hz hne hm
      have hin' : ¬ ((i : Int) = (n : Int)) := by omega
      by_cases hbad : y159 y x = true ∧ y34 row (i : Int) 0 < 0
      · refine .inl ⟨(.ret, [.bool false], ⟨H ++ [.cells (opc y) y2 true], none⟩), ?_, .inl ⟨_, rfl, i, y, hy, hin, hbad.1, fun hc => ?_⟩⟩
        · simp [twainref37_next.loop4s, twainref37_next.loop4, twainref37_next.j3, twainref37_next.j4, hi', hix, hixn, hld, hldn, h1, q9, hyn, q50, h2, htk, q344 hyo hxo, hpl, hw', hbad.1, hbad.2, hin']
        · have := (y192 row i 0).2 hc; omega
      · refine .inr ⟨([v, rv, .int .i64 n, v, .int .i64 l.length, .int .i64 ((i + 1 : Nat) : Int)], ⟨H ++ [.cells (opc y) y2 true], none⟩), (), ?_, gc_old (by simpa [hv] using hwv), fun k z hk hz hne hm => ?_⟩
        · cases hmx : y159 y x with
          | false => simp [twainref37_next.loop4s, twainref37_next.loop4, twainref37_next.j3, twainref37_next.j4, hi', hix, hixn, hld, hldn, h1, q9, hyn, q50, h2, htk, q344 hyo hxo, hpl, hw', hmx, hin']
          | true =>
            have hp : ¬ y34 row (i : Int) 0 < 0 := fun hc => hbad ⟨hmx, hc⟩
            simp [twainref37_next.loop4s, twainref37_next.loop4, twainref37_next.j3, twainref37_next.j4, hi', hix, hixn, hld, hldn, h1, q9, hyn, q50, h2, htk, q344 hyo hxo, hpl, hw', hmx, hp, hin']
        · by_cases hki : k = i
          · subst hki
            rw [hy] at hz; simp at hz; subst hz
            exact (y192 row k 0).1 (Int.not_lt.1 (fun hc => hbad ⟨hm, hc⟩))
          · exact hok k z (by omega) hz hne hm)
    (fun _ hok => ⟨(.exit 0, [unk], ⟨H, none⟩), by simp [twainref37_next.loop4s, twainref37_next.loop4], .inr ⟨rfl, fun k x hx hm => hok k x (q12 hx) hx hm⟩⟩)
    l.length 0 () ([v, rv, .int .i64 n, v, .int .i64 l.length, .int .i64 0], ⟨H ++ [.cells u y1 true], none⟩) (by omega) (fun k x hk => by omega) (gc_old (by simpa [hv] using hwv))
  have hpl := y270 (H := H ++ [.cells u y1 true]) (hw.app) (fun r hr => by have := hwv r hr; simp; omega) hwm (n : Int)
  have hfr := y173 (hr.app (l := [.cells u y1 true])) (by omega) (off := n * 19)
  have hfr1 := y174 (hr.app (l := [.cells u y1 true])) (by omega) (off := n * 19)
  simp at hfr
  rw [y22, twainref37_next.eq]
  have hlen := (hr.app (l := [.cells u y1 true])).len (P := PP) y40
  have htu : u.take 16 = u := List.take_of_length_le (by omega)
  by_cases hp : 0 ≤ y34 row (n : Int) 0
  · refine ⟨false, ?_, by simp; intro h; exact absurd ((y192 row n 0).1 hp) h⟩
    simp [twainref37_next.sh, u1, hpl, hp, twainref37_next.j0]
  have hpn : ¬ (n : Int) ∈ row := fun hc => hp ((y192 row n 0).2 hc)
  by_cases hrd : x.w = false ∧ x.v ≠ u
  · refine ⟨false, ?_, by simp; intro _ h; exact absurd (h hrd.1) hrd.2⟩
    simp [twainref37_next.sh, u1, un, htu, hpl, hp, twainref37_next.j0, hixn, hfr, hfr1, hw0, hv1, hrd.1, y122 qflat_api_Sector hxo.v hu, hrd.2]
  have hrd' : x.w = false → x.v = u := fun h => Classical.byContradiction fun hc => hrd ⟨h, hc⟩
  rcases h2 with ⟨G, rfl, k, y, hy, hne, hm, hnn⟩ | ⟨rfl, hall⟩
  · refine ⟨false, ?_, by simp; intro _ _; exact ⟨k, y, hy, hne, hm, hnn⟩⟩
    cases hxw : x.w with
    | true => simp [twainref37_next.sh, u1, un, htu, hpl, hp, twainref37_next.j0, twainref37_next.j1, hixn, hfr, hfr1, hw0, hv1, hxw, hlen, h1]
    | false => simp [twainref37_next.sh, u1, un, htu, hpl, hp, twainref37_next.j0, twainref37_next.j1, hixn, hfr, hfr1, hw0, hv1, hxw, hlen, h1, y122 qflat_api_Sector hu hu, hrd' hxw]
  · refine ⟨true, ?_, by simp; exact ⟨hpn, hrd', hall⟩⟩
    cases hxw : x.w with
    | true => simp [twainref37_next.sh, u1, un, htu, hpl, hp, twainref37_next.j0, twainref37_next.j1, twainref37_next.j6, hixn, hfr, hfr1, hw0, hv1, hxw, hlen, h1]
    | false => simp [twainref37_next.sh, u1, un, htu, hpl, hp, twainref37_next.j0, twainref37_next.j1, twainref37_next.j6, hixn, hfr, hfr1, hw0, hv1, hxw, hlen, h1, y122 qflat_api_Sector hu hu, hrd' hxw]

end Go.Proofs.Ytfinilnkempofaa

end
section
namespace Go.Proofs.Ytfinilnkempofaa
open Go Go.Am Go.Reg

theorem bsl31_0 (H : List Blk) (e : Option Nat) : bsl PP y28 0 [] [] ⟨H, e⟩ = some (.slice (some ⟨H.length, 0, none⟩) 0 0, ⟨H ++ [.cells [] t_int true], e⟩) := by kernel_rfl
theorem bsl31_1 (n : Int) (H : List Blk) (e : Option Nat) : bsl PP y28 1 [0] [.int .i64 n] ⟨H, e⟩ = some (.slice (some ⟨H.length, 0, none⟩) 1 1, ⟨H ++ [.cells [.int .i64 n] t_int true], e⟩) := by kernel_rfl
theorem qby_int : y131 PP t_int = some 8 := by kernel_rfl
theorem qz_int : zeroP PP t_int = some (.int .i64 0) := by kernel_rfl

theorem nums_cells (l : List Int) : (nums l).all cellV = true := by
  induction l with
  | nil => rfl
  | cons x xs ih => simp [nums, cellV]

section
variable {R : Type} {H : List Blk} {e : Option Nat} {rv : Value} {row : List Int} {k : Value → AS → Option R}

/-- append to an empty row of no room -/
theorem y335 (hr : Rd H rv row.length (nums row)) (hm : row.length < 2 ^ 40) (b : Nat) : y16 PP .append #[y28, y28] [.slice (some ⟨b, 0, none⟩) 0 0, rv] ⟨H, e⟩ k =
    if row.length = 0 then k (.slice (some ⟨b, 0, none⟩) 0 0) ⟨H, e⟩ else (q35 H b 0 0).bind fun _ => k (.slice (some ⟨H.length, 0, none⟩) row.length UNK) ⟨H ++ [.cells (nums row) t_int true], e⟩ := by
  have hs := hr.src (size := 1) (by simp [nums]) (nums_cells row)
  simp only [y16, y143, q180, q236, qby_int, qz_int, Option.getD_some, hs]
  by_cases h0 : row.length = 0
  · simp [h0, Value.cells]
  · have h1 : row.length * 8 ≤ 140737488355328 := by omega
    have hu : ¬ (0 = UNK) := by decide
    simp [h0, Value.cells, h1, hu]
    cases hc : q35 H b 0 0 with
    | none => simp
    | some l =>
      have hl : l = [] := by
        unfold q35 at hc
        split at hc
        · split at hc
          · simp at hc; exact hc
          · simp at hc
        · simp at hc
      subst hl
      simp [aRow, q79]

/-- append one number to a row of one's own -/
theorem app31_own {b : Nat} {n : Int} (hb : H[b]? = some (.cells (nums row) t_int true)) (hy : Rd H rv 1 [.int .i64 n]) (hm : row.length < 2 ^ 40) : y16 PP .append #[y28, y28] [.slice (some ⟨b, 0, none⟩) row.length UNK, rv] ⟨H, e⟩ k =
    k (.slice (some ⟨H.length, 0, none⟩) (row.length + 1) UNK) ⟨H.set b .dead ++ [.cells (nums (row ++ [n])) t_int true], e⟩ := by
  have hs := hy.src (size := 1) (by simp) (by simp [cellV])
  have h1 : (row.length + 1) * 8 ≤ 140737488355328 := by omega
  simp only [y16, y143, q180, q236, qby_int, qz_int, Option.getD_some, hs]
  simp [Value.cells, h1, hb, nums_len, aRow, q79, List.take_of_length_le]
  simp [nums, List.take_of_length_le]

/-- a row, and one more: it is a row of its own -/
theorem longer_ok (hr : Rd H rv row.length (nums row)) (hm : row.length < 2 ^ 39) (n : Int) :
    ∃ G : List Blk, ((bsl PP y28 0 [] [] ⟨H, e⟩).bind fun r28 => y16 PP .append #[y28, y28] [r28.1, rv] r28.2 fun x29 s30 => (bsl PP y28 1 [0] [.int .i64 n] s30).bind fun r31 => y16 PP .append #[y28, y28] [x29, r31.1] r31.2 k) =
      k (.slice (some ⟨H.length + G.length, 0, none⟩) (row.length + 1) UNK) ⟨H ++ (G ++ [.cells (nums (row ++ [n])) t_int true]), e⟩ := by
  rw [bsl31_0, Option.bind_some]
  simp only
  rw [y335 hr.app (by omega)]
  by_cases h0 : row.length = 0
  · have hrow : row = [] := List.eq_nil_of_length_eq_zero h0
    subst hrow
    refine ⟨[.cells [] t_int true, .cells [.int .i64 n] t_int true], ?_⟩
    simp only [List.length_nil, if_true]
    rw [bsl31_1, Option.bind_some]
    have hy : Rd (H ++ [Blk.cells [] t_int true] ++ [.cells [.int .i64 n] t_int true]) (.slice (some ⟨(H ++ [Blk.cells [] t_int true]).length, 0, none⟩) 1 1) 1 [.int .i64 n] :=
      .own (bs := [.int .i64 n]) (t := t_int) (own := true) (by simp) (by simp) (by simp)
    have := y335 (e := e) (k := k) (row := [n]) hy (by simp) H.length
    simp only
    rw [this]
    simp [q35, nums]
  · rw [if_neg h0]
    refine ⟨[.cells [] t_int true, .dead, .cells [.int .i64 n] t_int true], ?_⟩
    have hc : q35 (H ++ [Blk.cells [] t_int true]) H.length 0 0 = some [] := by simp [q35]
    rw [hc, Option.bind_some, bsl31_1, Option.bind_some]
    simp only
    have hb : (H ++ [Blk.cells [] t_int true] ++ [Blk.cells (nums row) t_int true] ++ [Blk.cells [.int .i64 n] t_int true])[(H ++ [Blk.cells [] t_int true]).length]? = some (.cells (nums row) t_int true) := by simp
    have hy : Rd (H ++ [Blk.cells [] t_int true] ++ [Blk.cells (nums row) t_int true] ++ [Blk.cells [.int .i64 n] t_int true]) (.slice (some ⟨(H ++ [Blk.cells [] t_int true] ++ [Blk.cells (nums row) t_int true]).length, 0, none⟩) 1 1) 1 [.int .i64 n] :=
      .own (bs := [.int .i64 n]) (t := t_int) (own := true) (by simp) (by simp) (by simp)
    rw [app31_own hb hy (by omega)]
    congr 1
    · simp
    · simp

end

/-- which ops stand in a row -/
def inRow (row : List Int) : Nat → Bool := fun k => decide ((k : Int) ∈ row)

theorem inRow_ins (row : List Int) (n : Nat) : inRow (row ++ [(n : Int)]) = ins (inRow row) n := by
  funext k
  simp only [inRow, ins, List.mem_append, List.mem_singleton, Bool.decide_or]
  by_cases h : k = n
  · subst h; simp
  · have : ¬ ((k : Int) = (n : Int)) := by omega
    simp [h, this]

/-- what the search tells of a row and what the sector has -/
structure Says (l : List (Rw (List Value))) (row : List Int) (u : List Value) (s : Int) (b : Bool) (s' : Int) : Prop where
  le : s' ≤ s
  nonneg : 0 ≤ s → 0 ≤ s'
  found : b = true → ∃ r, Comp l (inRow row) u r
  not : b = false → 0 < s' → Dead l (inRow row) u

attribute [local simp] y56 box_one y55 q61 q54 y185 y164 q150 q107 y167 y94 q213 y189 y236 q187 y193
  q108 y321 q203 q204 q169 q65 bin_leq q223 y153 y256 q271 fin_flat' flatV noSl q252 q42 y247 q71 y76 q35
  q59 q58 q104 y104 q64 q97 q99 q73 y38 q63 y117 q38 q62 y118 q50 y127 q130

theorem nums_noSl (l : List Int) : (nums l).all noSl = true := by
  induction l with
  | nil => rfl
  | cons x xs ih => simp [nums, noSl]

theorem fin_row {H L : List Blk} {rv : Value} {row : List Int} {b : Bool} (hw : Rd H rv row.length (nums row)) (hwv : ∀ r ∈ vrefs rv, r < H.length) :
    ∃ out, fin PP false H.length [rv, .bool b] ⟨H ++ L, none⟩ = some (.tuple #[out, .bool b], H, none) ∧ (out = rv ∨ ∃ n cs, out = tSl n cs ∧ lrefs cs = []) := by
  unfold fin q151
  simp only [Bool.false_eq_true, if_false, frzL]
  rcases frz_old (P := PP) (l := L) hw hwv 7 with h | ⟨rfl, h⟩
  · refine ⟨rv, ?_, .inl rfl⟩
    simp only [h, y107 PP.depth 8 (.bool b) _ rfl, y107 H.length 8 (.bool b) _ rfl]
    rw [gc_old (by simpa using hwv)]
    rfl
  · refine ⟨tSl 0 [], ?_, .inr ⟨0, [], rfl, rfl⟩⟩
    simp only [h, y107 H.length 8 (.bool b) _ rfl]
    rw [gc_old (by simp)]
    rfl

theorem fin_new {H L : List Blk} {row : List Int} {b : Bool} {k c : Nat} (hk : L[k]? = some (.cells (nums row) t_int true)) :
    fin PP false H.length [.slice (some ⟨H.length + k, 0, none⟩) row.length c, .bool b] ⟨H ++ L, none⟩ = some (.tuple #[tSl row.length (nums row), .bool b], H, none) := by
  unfold fin q151
  simp only [Bool.false_eq_true, if_false, frzL]
  rw [frz_new (P := PP) (sz := 1) hk q236 (by simp [nums]) (nums_noSl row)]
  have ht : (nums row).take (row.length * 1) = nums row := List.take_of_length_le (by simp [nums])
  simp only [ht, y107 H.length 8 (.bool b) _ rfl]
  rw [gc_none (by simp [q143])]
  rfl

theorem fin_nil {H L : List Blk} {b : Bool} : fin PP false H.length [.slice none 0 0, .bool b] ⟨H ++ L, none⟩ = some (.tuple #[tSl 0 [], .bool b], H, none) := by
  unfold fin q151
  have : frz PP H.length 8 (.slice none 0 0) (H ++ L) = (tSl 0 [], H ++ L) := rfl
  simp only [Bool.false_eq_true, if_false, frzL, this, y107 H.length 8 (.bool b) _ rfl]
  rw [gc_none (by simp)]
  rfl

theorem fin_tree {H L : List Blk} {cs : List Value} {b : Bool} {n : Nat} (hc : lrefs cs = []) : fin PP false H.length [tSl n cs, .bool b] ⟨H ++ L, none⟩ = some (.tuple #[tSl n cs, .bool b], H, none) := by
  unfold fin q151
  simp only [Bool.false_eq_true, if_false, frzL, y107 H.length 8 (tSl n cs) _ rfl, y107 H.length 8 (.bool b) _ rfl]
  rw [gc_none (by simp [hc])]
  rfl

theorem search_ok {v : Value} {l : List (Rw (List Value))} (hv : vrefs v = []) (hl : OkOps l) (hm : l.length < 1000) (hrd : ∀ H, Rd H v l.length (opsC l)) :
    ∀ (m : Nat) (H : List Blk) (rv : Value) (row : List Int) (u : List Value) (sp : Nat) (s : Int), l.length < cnt l.length (inRow row) + m → row.length ≤ cnt l.length (inRow row) → TOk PP y1 u →
      Rd H rv row.length (nums row) → (∀ r ∈ vrefs rv, r < H.length ∧ r ≠ sp) → H[sp]? = some (.cells [.int .i64 s] t_int true) → 0 ≤ s → s ≤ 20000 →
    ∃ (b : Bool) (s' : Int) (out : Value), acall PP TT q77 [v, rv, .agg u.toArray, .pointer (some ⟨sp, 0, none⟩)] H = some (.tuple #[out, .bool b], H.set sp (.cells [.int .i64 s'] t_int true), none) ∧ Says l row u s b s' ∧
      (out = rv ∨ ∃ n cs, out = tSl n cs ∧ lrefs cs = [])
  | 0, H, rv, row, u, sp, s, hc, _, _, _, _, _, _, _ => by have := cnt_le (inRow row) l.length; omega
  | m + 1, H, rv, row, u, sp, s, hc, hrl, hu, hw, hwv, hsp, hs0, hs1 => by
    obtain ⟨u1, u2, q320⟩ := q100 hu
    have un := y112 hu
    have htu : u.take 16 = u := List.take_of_length_le (by omega)
    have hcl := cnt_le (inRow row) l.length
    have hspl := q12 hsp
    obtain ⟨b0, hb1, hb2⟩ := whole_ok (H := H ++ [.cells u y1 true]) (hrd _) hv hl (by omega) hw.app (fun r hr => by have := (hwv r hr).1; simp; omega) (by omega)
    cases b0 with
    | true =>
      obtain ⟨out, h1, h2⟩ := fin_row (L := [.cells u y1 true]) (b := true) hw (fun r hr => (hwv r hr).1)
      refine ⟨true, s, out, ?_, ⟨Int.le_refl _, fun h => h, fun _ => ⟨[], .done (fun k x hx hm => ?_)⟩, by simp⟩, h2⟩
      · have hset : H.set sp (.cells [.int .i64 s] t_int true) = H := by
          apply List.ext_getElem?; intro i
          by_cases hi : sp = i
          · subst hi; rw [List.getElem?_set_self hspl, hsp]
          · rw [List.getElem?_set_ne hi]
        rw [y22, twainref37_search.eq, hset]
        simp [twainref37_search.sh, u1, hb1]
        exact h1
      · simpa [inRow] using hb2.1 rfl k x hx hm
    | false =>
      have hnw : ¬ q329 l (inRow row) := fun h => by
        have := hb2.2 (fun k x hx hm => by simpa [inRow] using h k x hx hm)
        simp at this
      have hg : ∀ (X : Blk) (L : List Blk), (H.set sp X ++ L)[sp]? = some X := fun X L => by rw [List.getElem?_append_left (by simpa using hspl), List.getElem?_set_self hspl]
      have hst : ∀ (X Y : Blk) (L : List Blk), (H.set sp X ++ L).set sp Y = H.set sp Y ++ L := fun X Y L => by rw [List.set_append_left _ _ (by simpa using hspl), List.set_set]
      have hga : ∀ (X : Blk) (L : List Blk) (k : Nat), (H.set sp X ++ L)[H.length + k]? = L[k]? := fun X L k => by have := y105 (H := H.set sp X) (l := L) k; simpa using this
      have hga0 : ∀ (X : Blk) (L : List Blk), (H.set sp X ++ L)[H.length]? = L[0]? := fun X L => by have := y105 (H := H.set sp X) (l := L) 0; simpa using this
      have hsa : ∀ (X Y : Blk) (L : List Blk) (k : Nat), (H.set sp X ++ L).set (H.length + k) Y = H.set sp X ++ L.set k Y := fun X Y L k => by have := q238 (H := H.set sp X) (l := L) k Y; simpa using this
      have hsp0 : ∀ x, (Value.pointer (some ⟨sp, 0, none⟩) = x) → aNil x = some x := fun x hx => by subst hx; rfl
      have hgc : ∀ (i : Int) (s : Int) (L : List Blk), gc H.length [v, rv, .pointer (some ⟨sp, 0, none⟩), .pointer (some ⟨H.length, 0, none⟩), .int .i64 l.length, .int .i64 i] ⟨H.set sp (.cells [.int .i64 s] t_int true) ++ (.cells u y1 true :: L), none⟩ =
          ([v, rv, .pointer (some ⟨sp, 0, none⟩), .pointer (some ⟨H.length, 0, none⟩), .int .i64 l.length, .int .i64 i], ⟨H.set sp (.cells [.int .i64 s] t_int true) ++ [.cells u y1 true], none⟩) := fun i s L => by
        have := gc_one (vs := [v, rv, .pointer (some ⟨sp, 0, none⟩), .pointer (some ⟨H.length, 0, none⟩), .int .i64 l.length, .int .i64 i]) (H := H.set sp (.cells [.int .i64 s] t_int true)) (G := L) (cs := u) (t := y1) (o := true)
          (by
            intro r hr
            simp [hv] at hr
            rcases hr with hr | rfl | rfl
            · have := (hwv r hr).1; simp; omega
            · simp; omega
            · simp) (by simp) u2 (by
            have := hw.few (q143 row)
            simp [hv]; omega)
        simpa using this
      obtain ⟨r, h1, h2⟩ := q142 (n0 := H.length) (step := twainref37_search.loop4s (acall PP TT) loopG H.length) (len := l.length)
        (fun i (s' : Int) => ([v, rv, .pointer (some ⟨sp, 0, none⟩), .pointer (some ⟨H.length, 0, none⟩), .int .i64 l.length, .int .i64 i], ⟨H.set sp (.cells [.int .i64 s'] t_int true) ++ [.cells u y1 true], none⟩))
        (fun i s' => 0 ≤ s' ∧ s' ≤ s ∧ (0 < s' → ∀ n (x : Rw (List Value)), n < i → l[n]? = some x → y175 l (inRow row) n → (x.w = false → x.v = u) → Dead l (ins (inRow row) n) (if x.w = true then x.v else u)))
        (fun r => (∃ G out s', r = (.ret, [out, .bool true], ⟨H.set sp (.cells [.int .i64 s'] t_int true) ++ G, none⟩) ∧ 0 ≤ s' ∧ s' ≤ s ∧ (∃ q, Comp l (inRow row) u q) ∧
            ∃ n cs, lrefs cs = [] ∧ fin PP false H.length [out, .bool true] ⟨H.set sp (.cells [.int .i64 s'] t_int true) ++ G, none⟩ = some (.tuple #[tSl n cs, .bool true], H.set sp (.cells [.int .i64 s'] t_int true), none)) ∨
          (∃ s', r = (.exit 0, [unk, unk], ⟨H.set sp (.cells [.int .i64 s'] t_int true) ++ [.cells u y1 true], none⟩) ∧ 0 ≤ s' ∧ s' ≤ s ∧ (0 < s' → ∀ n (x : Rw (List Value)), l[n]? = some x → y175 l (inRow row) n → (x.w = false → x.v = u) → Dead l (ins (inRow row) n) (if x.w = true then x.v else u))))
        (fun i s' hi ⟨ho1, ho2, ho3⟩ => by
          have hi' : ((i : Int) < (l.length : Int)) := by omega
          obtain ⟨x, hx⟩ : ∃ x, l[i]? = some x := ⟨_, List.getElem?_eq_getElem hi⟩
          have hxo := hl x (List.mem_of_getElem? hx)
          have hw' : IntKind.i64.wrap ((i : Int) + 1) = ((i + 1 : Nat) : Int) := by rw [y150 (by omega)]; omega
          by_cases hs' : s' ≤ 0
          · refine .inr ⟨([v, rv, .pointer (some ⟨sp, 0, none⟩), .pointer (some ⟨H.length, 0, none⟩), .int .i64 l.length, .int .i64 ((i + 1 : Nat) : Int)], ⟨H.set sp (.cells [.int .i64 s'] t_int true) ++ [.cells u y1 true], none⟩), s', ?_, hgc _ _ _, ho1, ho2, fun h => by omega⟩
            simp [twainref37_search.loop4s, twainref37_search.loop4, twainref37_search.j1, twainref37_search.j4, hi', aNil, hg, hs', hw']
          obtain ⟨b1, hn1, hn2⟩ := next_ok (H := H.set sp (.cells [.int .i64 s'] t_int true) ++ [.cells u y1 true]) (hrd _) hv hl (by omega) ((hw.set (fun r hr => (hwv r hr).2) _).app) (fun r hr => by have := (hwv r hr).1; simp; omega) (by omega) hx hu
          cases b1 with
          | false =>
            refine .inr ⟨([v, rv, .pointer (some ⟨sp, 0, none⟩), .pointer (some ⟨H.length, 0, none⟩), .int .i64 l.length, .int .i64 ((i + 1 : Nat) : Int)], ⟨H.set sp (.cells [.int .i64 s'] t_int true) ++ [.cells u y1 true], none⟩), s', ?_, hgc _ _ _, ho1, ho2, fun h n y hny hy hc hvy => ?_⟩
            · simp [twainref37_search.loop4s, twainref37_search.loop4, twainref37_search.j1, twainref37_search.j4, hi', aNil, hg, hs', hga0, un, htu, hn1, hw']
            · by_cases hni : n = i
              · subst hni
                rw [hx] at hy; simp at hy; subst hy
                have := hn2.2 ⟨by have := hc.1; simpa [inRow] using this, hvy, fun k z hz hk ha => by simpa [inRow] using hc.2 k z x hz hx hk ha⟩
                simp at this
              · exact ho3 h n y (by omega) hy hc hvy
          | true =>
            obtain ⟨hnr, hvu, hah⟩ := hn2.1 rfl
            have hcan : y175 l (inRow row) i := ⟨by simpa [inRow] using hnr, fun k z y hz hy hk ha => by rw [hx] at hy; simp at hy; subst hy; simpa [inRow] using hah k z hz hk ha⟩
            have hval : TOk PP y1 (if x.w = true then x.v else u) := by split; exact hxo.v; exact hu
            obtain ⟨v1, v2, v3⟩ := q100 hval
            have vn := y112 hval
            have htv : (if x.w = true then x.v else u).take 16 = (if x.w = true then x.v else u) := List.take_of_length_le (by omega)
            have xn := y112 hxo.v
            obtain ⟨xv1, xv2, xv3⟩ := q100 hxo.v
            have hixn := (hrd (H.set sp (Blk.cells [.int .i64 (s' - 1)] t_int true) ++ [Blk.cells u y1 true] ++ [Blk.cells u y1 true])).index (P := PP) y40 y87 (k := .i64) (i := (i : Int)) (by omega) hi'
            simp at hixn
            have hwx : IntKind.i64.wrap (s' - 1) = s' - 1 := y150 (by omega)
            have hfr := y173 (hrd H) (by omega) (off := i * 19)
            have hfr1 := y174 (hrd H) (by omega) (off := i * 19)
            simp at hfr
            have hw0 : ∀ H e, aLoad false 1 ⟨H, e⟩ (rdPtr v (i * 19)) = some (.bool x.w) := fun H e => by
              refine (hrd H).load1 (by omega) ?_ e
              have := congrArg (·[0]?) (y284 hl hx)
              rw [List.getElem?_take_of_lt (by omega), List.getElem?_drop] at this
              simpa [opc] using this
            have hv1 : ∀ H e, aLoad true 16 ⟨H, e⟩ (rdPtr v (i * 19 + 1)) = some (.agg x.v.toArray) := fun H e => by
              have h1 := y309 hl
              rw [(hrd H).load (by omega) (by omega) (by rw [h1]; omega) e]
              have := y284 hl hx
              have h2 : ((opsC l).drop (i * 19 + 1)).take 16 = x.v := by
                rw [← List.drop_drop]
                have h3 : (((opsC l).drop (i * 19)).drop 1).take 16 = ((((opsC l).drop (i * 19)).take 19).drop 1).take 16 := by
                  rw [List.drop_take, List.take_take]; rfl
                rw [h3, this]
                simp [opc, xn]
              rw [h2]
            -- the row with it, and what has been told of it
            have hrow2 : Rd (H.set sp (Blk.cells [.int .i64 (s' - 1)] t_int true) ++ [Blk.cells u y1 true, Blk.cells (if x.w = true then x.v else u) y1 true]) rv row.length (nums row) := (hw.set (fun r hr => (hwv r hr).2) _).app
            obtain ⟨G, hG⟩ := longer_ok (R := AEx × List Value × AS) (e := none) (k := fun x32 s33 => (aLoad true 16 s33 (.pointer (some ⟨H.length + 1, 0, none⟩))).bind fun x34 =>
              (acall PP TT q77 [v, x32, x34, .pointer (some ⟨sp, 0, none⟩)] s33.H).bind fun r35 =>
              (y12 PP (Instr.extract r35.1 0)).bind fun x36 =>
              (y12 PP (Instr.extract r35.1 1)).bind fun x37 =>
              bcase x37 (
              some (AEx.ret, [v, rv, .pointer (some ⟨sp, 0, none⟩), .pointer (some ⟨H.length, 0, none⟩), x36, .bool true, .int .i64 l.length, .int .i64 i], AS.mk r35.2.1 (y8 s33.esc r35.2.2))) (
              some (AEx.normal, [v, rv, .pointer (some ⟨sp, 0, none⟩), .pointer (some ⟨H.length, 0, none⟩), unk, unk, .int .i64 l.length, .int .i64 i], AS.mk r35.2.1 (y8 s33.esc r35.2.2)))) hrow2 (by omega) (i : Int)
            have hmem : inRow (row ++ [(i : Int)]) = ins (inRow row) i := inRow_ins row i
            have hcnt := cnt_ins hcan.1 l.length hi
            obtain ⟨b2, s2, out2, hs2, hsay, hout⟩ := search_ok hv hl hm hrd m (H.set sp (Blk.cells [.int .i64 (s' - 1)] t_int true) ++ [Blk.cells u y1 true, Blk.cells (if x.w = true then x.v else u) y1 true] ++ (G ++ [Blk.cells (nums (row ++ [(i : Int)])) t_int true]))
              (.slice (some ⟨(H.set sp (Blk.cells [.int .i64 (s' - 1)] t_int true) ++ [Blk.cells u y1 true, Blk.cells (if x.w = true then x.v else u) y1 true]).length + G.length, 0, none⟩) (row.length + 1) UNK) (row ++ [(i : Int)]) (if x.w = true then x.v else u) sp (s' - 1)
              (by rw [hmem, hcnt]; omega) (by rw [hmem, hcnt]; simp; omega) hval
              (by
                have : (row ++ [(i : Int)]).length = row.length + 1 := by simp
                rw [this]
                exact .own (bs := nums (row ++ [(i : Int)])) (t := t_int) (own := true) (by rw [y105]; simp) (by simp) (by simp))
              (fun r hr => by simp at hr; subst hr; simp; omega)
              (by rw [List.append_assoc]; exact hg _ _) (by omega) (by omega)
            have hround : twainref37_search.loop4s (acall PP TT) loopG H.length ([v, rv, .pointer (some ⟨sp, 0, none⟩), .pointer (some ⟨H.length, 0, none⟩), .int .i64 l.length, .int .i64 i], ⟨H.set sp (.cells [.int .i64 s'] t_int true) ++ [Blk.cells u y1 true], none⟩) = (if b2 = true then some (.inr (.ret, [out2, .bool true], ⟨H.set sp (.cells [.int .i64 s2] t_int true) ++ ([Blk.cells u y1 true, Blk.cells (if x.w = true then x.v else u) y1 true] ++ (G ++ [Blk.cells (nums (row ++ [(i : Int)])) t_int true])), none⟩))
                else some (.inl ([v, rv, .pointer (some ⟨sp, 0, none⟩), .pointer (some ⟨H.length, 0, none⟩), .int .i64 l.length, .int .i64 ((i + 1 : Nat) : Int)], ⟨H.set sp (.cells [.int .i64 s2] t_int true) ++ ([Blk.cells u y1 true, Blk.cells (if x.w = true then x.v else u) y1 true] ++ (G ++ [Blk.cells (nums (row ++ [(i : Int)])) t_int true])), none⟩))) := by
              have hs0' : ¬ s' ≤ 0 := hs'
              have hd : ∀ (X : Blk), (H.set sp X ++ [Blk.cells u y1 true, Blk.cells (if x.w = true then x.v else u) y1 true] ++ (G ++ [Blk.cells (nums (row ++ [(i : Int)])) t_int true]))[H.length + 1]? = some (Blk.cells (if x.w = true then x.v else u) y1 true) := fun X => by rw [List.append_assoc, hga]; rfl
              have hset2 : (H.set sp (.cells [.int .i64 (s' - 1)] t_int true) ++ [Blk.cells u y1 true, Blk.cells (if x.w = true then x.v else u) y1 true] ++ (G ++ [Blk.cells (nums (row ++ [(i : Int)])) t_int true])).set sp (.cells [.int .i64 s2] t_int true) = H.set sp (.cells [.int .i64 s2] t_int true) ++ ([Blk.cells u y1 true, Blk.cells (if x.w = true then x.v else u) y1 true] ++ (G ++ [Blk.cells (nums (row ++ [(i : Int)])) t_int true])) := by
                rw [List.append_assoc, hst]
              rw [hset2] at hs2
              cases hxw : x.w with
              | true =>
                simp only [hxw, if_true] at hG hs2 hd hval v1 v2 vn htv ⊢
                simp [twainref37_search.loop4s, twainref37_search.loop4, twainref37_search.j1, twainref37_search.j2, twainref37_search.j4, hi', aNil, hg, hst, hs', hga0, hga, hsa, un, htu, hn1, hw', hwx, u1, u2, hixn, hfr, hfr1, hw0, hv1, hxw, xn, xv1, xv2, q9, q130]
                unfold twainref37_search.j3
                rw [hG]
                simp at hs2
                simp [hd, vn, htv, hs2]
                cases b2 <;> simp [hw']
              | false =>
                simp only [hxw, Bool.false_eq_true, if_false] at hG hs2 hd hval v1 v2 vn htv ⊢
                simp [twainref37_search.loop4s, twainref37_search.loop4, twainref37_search.j1, twainref37_search.j2, twainref37_search.j4, hi', aNil, hg, hst, hs', hga0, hga, hsa, un, htu, hn1, hw', hwx, u1, u2, hixn, hfr, hfr1, hw0, hv1, hxw, xn, xv1, xv2, q9, q130]
                unfold twainref37_search.j3
                rw [hG]
                simp at hs2
                simp [hd, vn, htv, hs2]
                cases b2 <;> simp [hw']
            cases b2 with
            | true =>
              simp only [if_true] at hround
              refine .inl ⟨_, hround, .inl ⟨_, out2, s2, rfl, hsay.nonneg (by omega), by have := hsay.le; omega, ?_, ?_⟩⟩
              · obtain ⟨q, hq⟩ := hsay.found rfl
                rw [hmem] at hq
                exact ⟨i :: q, .step hx hcan hvu hq⟩
              · rcases hout with rfl | ⟨n, cs, rfl, hcs⟩
                · refine ⟨row.length + 1, nums (row ++ [(i : Int)]), q143 _, ?_⟩
                  have hLk : ([Blk.cells u y1 true, Blk.cells (if x.w = true then x.v else u) y1 true] ++ (G ++ [Blk.cells (nums (row ++ [(i : Int)])) t_int true]))[2 + G.length]? = some (Blk.cells (nums (row ++ [(i : Int)])) t_int true) := by
                    rw [← List.append_assoc, List.getElem?_append_right (by simp; omega)]
                    have h0 : 2 + G.length - ([Blk.cells u y1 true, Blk.cells (if x.w = true then x.v else u) y1 true] ++ G).length = 0 := by simp; omega
                    rw [h0]; rfl
                  have := fin_new (H := H.set sp (.cells [.int .i64 s2] t_int true)) (b := true) (c := UNK) hLk
                  simpa [Nat.add_assoc] using this
                · refine ⟨n, cs, hcs, ?_⟩
                  have := fin_tree (H := H.set sp (.cells [.int .i64 s2] t_int true)) (L := [Blk.cells u y1 true, Blk.cells (if x.w = true then x.v else u) y1 true] ++ (G ++ [Blk.cells (nums (row ++ [(i : Int)])) t_int true])) (b := true) (n := n) hcs
                  simpa using this
            | false =>
              simp only [Bool.false_eq_true, if_false] at hround
              refine .inr ⟨_, s2, hround, by simpa using hgc _ _ _, hsay.nonneg (by omega), by have := hsay.le; omega, fun h n y hny hy hc hvy => ?_⟩
              by_cases hni : n = i
              · subst hni
                rw [hx] at hy; simp at hy; subst hy
                have := hsay.not rfl h
                rwa [hmem] at this
              · exact ho3 (by have := hsay.le; omega) n y (by omega) hy hc hvy)
        (fun s' ⟨ho1, ho2, ho3⟩ => ⟨(.exit 0, [unk, unk], ⟨H.set sp (.cells [.int .i64 s'] t_int true) ++ [.cells u y1 true], none⟩), by simp [twainref37_search.loop4s, twainref37_search.loop4], .inr ⟨s', rfl, ho1, ho2, fun h n x hx => ho3 h n x (q12 hx) hx⟩⟩)
        l.length 0 s ([v, rv, .pointer (some ⟨sp, 0, none⟩), .pointer (some ⟨H.length, 0, none⟩), .int .i64 l.length, .int .i64 0], ⟨H.set sp (.cells [.int .i64 s] t_int true) ++ [.cells u y1 true], none⟩) (by omega) ⟨hs0, Int.le_refl _, fun _ n x hn => by omega⟩ (by simpa using hgc 0 s [])
      rcases h2 with ⟨G, out, s', rfl, hs0', hs1', hq, n, cs, hcs, hfin⟩ | ⟨s', rfl, hs0', hs1', hall⟩
      · refine ⟨true, s', tSl n cs, ?_, ⟨hs1', fun _ => hs0', fun _ => hq, by simp⟩, .inr ⟨n, cs, rfl, hcs⟩⟩
        rw [y22, twainref37_search.eq]
        simp [twainref37_search.sh, u1, hb1, (hrd (H ++ [Blk.cells u y1 true])).len (P := PP) y40]
        have hset : H.set sp (.cells [.int .i64 s] t_int true) = H := by
          apply List.ext_getElem?; intro i
          by_cases hi : sp = i
          · subst hi; rw [List.getElem?_set_self hspl, hsp]
          · rw [List.getElem?_set_ne hi]
        rw [hset] at h1
        simp [h1]
        exact hfin
      · refine ⟨false, s', tSl 0 [], ?_, ⟨hs1', fun _ => hs0', by simp, fun _ h => dead_none hnw (hall h)⟩, .inr ⟨0, [], rfl, rfl⟩⟩
        rw [y22, twainref37_search.eq]
        simp [twainref37_search.sh, u1, hb1, (hrd (H ++ [Blk.cells u y1 true])).len (P := PP) y40]
        have hset : H.set sp (.cells [.int .i64 s] t_int true) = H := by
          apply List.ext_getElem?; intro i
          by_cases hi : sp = i
          · subst hi; rw [List.getElem?_set_self hspl, hsp]
          · rw [List.getElem?_set_ne hi]
        rw [hset] at h1
        simp [h1, twainref37_search.j6]
        have := fin_tree (H := H.set sp (.cells [.int .i64 s'] t_int true)) (L := [Blk.cells u y1 true]) (cs := []) (b := false) (n := 0) rfl
        simpa using fin_nil (H := H.set sp (.cells [.int .i64 s'] t_int true)) (L := [Blk.cells u y1 true])

end Go.Proofs.Ytfinilnkempofaa

end
