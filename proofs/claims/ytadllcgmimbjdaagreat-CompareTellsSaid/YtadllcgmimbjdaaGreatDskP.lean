/- A part of the proof: DskP, CrcP, CrcQ, DskR, BitP, NumP, SlotP. Its conditions: none. -/
import Derived.Test.YtadllcgmimbjdaaGreatAm32
set_option linter.all false
set_option linter.unusedVariables false
set_option linter.unusedSimpArgs false
set_option linter.unnecessarySimpa false
section
namespace Go.Dsk
open Go Go.Am

/-- a sector: sixteen bytes -/
abbrev Sec := { l : List UInt8 // l.length = 16 }
def Sec.zero : Sec := ⟨List.replicate 16 0, rfl⟩
/-- its cells -/
def bytesV (l : List UInt8) : List Value := l.map fun b => .int .u8 b.toNat
def Sec.cells (s : Sec) : List Value := bytesV s.val

theorem bytesV_len (l : List UInt8) : (bytesV l).length = l.length := by simp [bytesV]
theorem bytesV_refs : ∀ l : List UInt8, lrefs (bytesV l) = []
  | [] => rfl
  | b :: l => by simp only [bytesV, List.map_cons, lrefs_cons, vrefs_int, List.nil_append]; exact bytesV_refs l
theorem bytesV_all (p : Value → Bool) (hp : ∀ n, p (.int .u8 n) = true) (l : List UInt8) : (bytesV l).all p = true := by
  rw [List.all_eq_true]
  intro v hv
  obtain ⟨b, _, rfl⟩ := List.mem_map.1 hv
  exact hp _
theorem bytesV_inj {a b : List UInt8} (h : bytesV a = bytesV b) : a = b := by
  induction a generalizing b with
  | nil => cases b with
    | nil => rfl
    | cons y ys => simp [bytesV] at h
  | cons x xs ih => cases b with
    | nil => simp [bytesV] at h
    | cons y ys =>
      simp only [bytesV, List.map_cons, List.cons.injEq, Value.int.injEq, true_and] at h
      obtain ⟨h1, h2⟩ := h
      have h1' : x.toNat = y.toNat := by omega
      rw [ih h2, UInt8.toNat_inj.1 h1']
theorem Sec.len (s : Sec) : s.cells.length = 16 := by rw [Sec.cells, bytesV_len, s.2]
theorem Sec.inj {a b : Sec} : a.cells = b.cells ↔ a = b := ⟨fun h => Subtype.ext (bytesV_inj h), fun h => by rw [h]⟩

/-- sectors, as a row of cells -/
def rows (l : List Sec) : List (List Value) := l.map Sec.cells
theorem rows_of (l : List Sec) : RowsOf 16 (rows l) := by
  refine ⟨fun r hr => ?_, fun r hr => ?_, fun r hr => ?_, fun r hr => ?_⟩ <;> (obtain ⟨s, _, rfl⟩ := List.mem_map.1 hr)
  · exact s.len
  · exact bytesV_refs _
  · exact bytesV_all _ (fun _ => rfl) _
  · exact bytesV_all _ (fun _ => rfl) _

/-- a disk: what is durable, what is cached, and how it stands -/
structure Dk where
  safe : List Sec
  fresh : List (Int × Sec)
  fuse : Int
  broken : Bool
  ops : Int

def Dk.new (n : Nat) : Dk := ⟨List.replicate n Sec.zero, [], -1, false, 0⟩
def Dk.find (d : Dk) (at_ : Int) : Option Sec := (d.fresh.find? fun p => decide (p.1 = at_)).map (·.2)
/-- one operation -/
def Dk.spend (d : Dk) : Int × Dk :=
  if d.broken = true then (3, d) else if d.fuse = 0 then (3, { d with broken := true })
  else (0, { d with fuse := if 0 < d.fuse then IntKind.i64.wrap (d.fuse - 1) else d.fuse, ops := IntKind.i64.wrap (d.ops + 1) })
/-- a sector is put among those that are cached -/
def put (l : List (Int × Sec)) (at_ : Int) (s : Sec) : List (Int × Sec) :=
  match l.findIdx? fun p => decide (p.1 = at_) with
  | some i => l.set i (at_, s)
  | none => l ++ [(at_, s)]
def Dk.has (d : Dk) (at_ : Int) : Prop := 0 ≤ at_ ∧ at_ < d.safe.length
instance (d : Dk) (at_ : Int) : Decidable (d.has at_) := inferInstanceAs (Decidable (_ ∧ _))
def Dk.write (d : Dk) (at_ : Int) (s : Sec) : Int × Dk :=
  if d.has at_ then (if d.spend.1 = 0 then (0, { d.spend.2 with fresh := put d.spend.2.fresh at_ s }) else d.spend) else (13, d)
def Dk.read (d : Dk) (at_ : Int) : Sec × Int :=
  if d.has at_ then (if d.broken = true then (Sec.zero, 3) else ((d.find at_).getD (d.safe.getD at_.toNat Sec.zero), 0)) else (Sec.zero, 13)
def Dk.durable (d : Dk) (at_ : Int) : Sec := if d.has at_ then d.safe.getD at_.toNat Sec.zero else Sec.zero
/-- what is cached, over what is durable -/
def over (fresh : List (Int × Sec)) (safe : List Sec) : List Sec := safe.mapIdx fun i s => ((fresh.find? fun p => decide (p.1 = (i : Int))).map (·.2)).getD s
def Dk.flush (d : Dk) : Int × Dk :=
  if d.spend.1 = 0 then (0, { d.spend.2 with safe := over d.spend.2.fresh d.spend.2.safe, fresh := [] }) else d.spend

/-- what is cached has a place, each once -/
structure Dk.Ok (d : Dk) : Prop where
  pos : 0 < d.safe.length
  few : d.safe.length ≤ 1024
  has : ∀ p ∈ d.fresh, 0 ≤ p.1 ∧ p.1 < d.safe.length
  nd : (d.fresh.map (·.1)).Nodup

theorem Dk.Ok.new {n : Nat} (h : 0 < n) (h' : n ≤ 1024) : (Dk.new n).Ok := ⟨by simpa [Dk.new] using h, by simpa [Dk.new] using h', fun p hp => by simp [Dk.new] at hp, by simp [Dk.new]⟩
theorem Dk.spend_safe (d : Dk) : d.spend.2.safe = d.safe ∧ d.spend.2.fresh = d.fresh := by
  unfold Dk.spend; split
  · exact ⟨rfl, rfl⟩
  · split <;> exact ⟨rfl, rfl⟩
theorem Dk.Ok.spend {d : Dk} (h : d.Ok) : d.spend.2.Ok := by
  obtain ⟨h1, h2⟩ := d.spend_safe
  exact ⟨by rw [h1]; exact h.pos, by rw [h1]; exact h.few, by rw [h1, h2]; exact h.has, by rw [h2]; exact h.nd⟩

theorem put_keys_mem {l : List (Int × Sec)} {at_ : Int} {s : Sec} {p : Int × Sec} (h : p ∈ put l at_ s) : p ∈ l ∨ p = (at_, s) := by
  unfold put at h
  split at h
  · rcases List.mem_or_eq_of_mem_set h with h | h
    · exact .inl h
    · exact .inr h
  · rcases List.mem_append.1 h with h | h
    · exact .inl h
    · simp at h; exact .inr h
theorem put_nodup {l : List (Int × Sec)} (hl : (l.map (·.1)).Nodup) (at_ : Int) (s : Sec) : ((put l at_ s).map (·.1)).Nodup := by
  unfold put
  split
  · next i hi =>
    obtain ⟨x, h1, h2, _⟩ := findIdx_some hi
    have h2' : x.1 = at_ := by simpa using h2
    have : (l.set i (at_, s)).map (·.1) = l.map (·.1) := by
      rw [List.map_set]
      apply List.ext_getElem?
      intro j
      rw [List.getElem?_set]
      split
      · next hij =>
        subst hij
        obtain ⟨hlt, hx⟩ := List.getElem?_eq_some_iff.1 h1
        simp [hlt, hx, h2']
      · rfl
    rw [this]; exact hl
  · next hi =>
    rw [List.findIdx?_eq_none_iff] at hi
    rw [List.map_append, List.nodup_append]
    refine ⟨hl, by simp, fun a ha b hb => ?_⟩
    obtain ⟨p, hp, rfl⟩ := List.mem_map.1 ha
    simp at hb; subst hb
    have := hi p hp
    simpa using this
theorem Dk.Ok.write {d : Dk} (h : d.Ok) (at_ : Int) (s : Sec) : (d.write at_ s).2.Ok := by
  have h' := h.spend
  unfold Dk.write
  split
  · next ha =>
    split
    · refine ⟨h'.pos, h'.few, fun p hp => ?_, put_nodup h'.nd _ _⟩
      rcases put_keys_mem hp with hp | rfl
      · exact h'.has p hp
      · rw [show ({ d.spend.2 with fresh := put d.spend.2.fresh at_ s } : Dk).safe = d.spend.2.safe from rfl, d.spend_safe.1]; exact ha
    · exact h'
  · exact h
theorem Dk.Ok.flush {d : Dk} (h : d.Ok) : d.flush.2.Ok := by
  have h' := h.spend
  unfold Dk.flush
  split
  · exact ⟨by simpa [over] using h'.pos, by simpa [over] using h'.few, fun p hp => by simp at hp, by simp⟩
  · exact h'

/-- a seek among those that are cached -/
def seek (l : List (Int × Sec)) (at_ : Int) : Option Sec := (l.find? fun p => decide (p.1 = at_)).map (·.2)
theorem seek_put (l : List (Int × Sec)) (at_ : Int) (s : Sec) (b : Int) : seek (put l at_ s) b = if b = at_ then some s else seek l b := by
  unfold put
  cases hi : l.findIdx? fun p => decide (p.1 = at_) with
  | none =>
    have hn := findIdx_none hi
    simp only [seek, List.find?_append]
    by_cases hb : b = at_
    · subst hb; simp [hn]
    · have : ¬ at_ = b := fun h => hb h.symm
      simp [hb, this]
  | some i =>
    simp only []
    induction l generalizing i with
    | nil => simp at hi
    | cons p ps ih =>
      rw [List.findIdx?_cons] at hi
      by_cases hp : p.1 = at_
      · simp [hp] at hi; subst hi
        by_cases hb : b = at_
        · subst hb; simp [seek]
        · have : ¬ at_ = b := fun h => hb h.symm
          simp [seek, List.find?_cons, hb, this, hp]
      · simp only [hp, decide_false, Bool.false_eq_true, if_false] at hi
        cases hq : ps.findIdx? fun p => decide (p.1 = at_) with
        | none => simp [hq] at hi
        | some j =>
          simp [hq] at hi; subst hi
          have := ih j hq
          by_cases hpb : p.1 = b
          · have hne : ¬ b = at_ := fun h => hp (hpb.trans h)
            simp [seek, List.find?_cons, hpb, hne]
          · simp only [seek, List.set_cons_succ, List.find?_cons, hpb, decide_false] at this ⊢
            exact this
end Go.Dsk

end
section
namespace Go.Dsk
open Go Go.Am
def crcRow : List Nat := [0, 498536548, 997073096, 651767980, 1994146192, 1802195444, 1303535960, 1342533948, 3988292384, 4027552580, 3604390888, 3412177804, 2607071920, 2262029012, 2685067896, 3183342108]
def crcHalf (n : Nat) : Nat := crcRow.getD (n % 16) 0
def crcFour (x : Nat) : Nat := (x >>> 4) ^^^ crcHalf x
def crcStep (x c : Nat) : Nat := crcFour (crcFour (x ^^^ c))
def crcMore (x : Nat) (l : List UInt8) : Nat := (l.foldl (fun x b => crcStep x b.toNat) (x ^^^ 4294967295)) ^^^ 4294967295
theorem crcHalf_lt (n : Nat) : crcHalf n < 2 ^ 32 := by
  have h : ∀ k, k < 16 → crcRow.getD k 0 < 2 ^ 32 := by decide
  exact h _ (Nat.mod_lt _ (by decide))
theorem crcFour_lt {x : Nat} (h : x < 2 ^ 32) : crcFour x < 2 ^ 32 := Nat.xor_lt_two_pow (Nat.lt_of_le_of_lt (Nat.shiftRight_le _ _) h) (crcHalf_lt _)
theorem crcStep_lt {x c : Nat} (h : x < 2 ^ 32) (hc : c < 2 ^ 32) : crcStep x c < 2 ^ 32 := crcFour_lt (crcFour_lt (Nat.xor_lt_two_pow h hc))
theorem byte_lt (b : UInt8) : b.toNat < 2 ^ 32 := Nat.lt_trans b.toNat_lt (by decide)
theorem fold_lt {x : Nat} (h : x < 2 ^ 32) (l : List UInt8) : l.foldl (fun x b => crcStep x b.toNat) x < 2 ^ 32 := by
  induction l generalizing x with
  | nil => exact h
  | cons b l ih => exact ih (crcStep_lt h (byte_lt b))
theorem crcMore_lt {x : Nat} (h : x < 2 ^ 32) (l : List UInt8) : crcMore x l < 2 ^ 32 := Nat.xor_lt_two_pow (fold_lt (Nat.xor_lt_two_pow h (by decide)) l) (by decide)
/-- one bit -/
def one (n : Nat) : Nat := if n < 64 then 2 ^ n else 0
theorem one_lt (n : Nat) : one n < 2 ^ 64 := by
  unfold one; split
  · exact Nat.pow_lt_pow_right (by decide) (by assumption)
  · decide
end Go.Dsk

end
section
namespace Go.Dsk
open Go Go.Am
/-- one bit's step -/
def bitStep (x : Nat) : Nat := if x % 2 = 1 then (x / 2) ^^^ 3988292384 else x / 2
theorem bitStep_xor (x y : Nat) : bitStep (x ^^^ y) = bitStep x ^^^ bitStep y := by
  unfold bitStep
  have h2 : (x ^^^ y) / 2 = x / 2 ^^^ y / 2 := Nat.xor_div_two
  have h1 : (x ^^^ y) % 2 = (x + y) % 2 := by
    have h := @Nat.xor_mod_two_eq_one x y
    by_cases a : x % 2 = 1
    · by_cases b : y % 2 = 1
      · have : ¬ (x ^^^ y) % 2 = 1 := fun c => h.1 c ⟨fun _ => b, fun _ => a⟩
        omega
      · have : (x ^^^ y) % 2 = 1 := h.2 fun c => b (c.1 a)
        omega
    · by_cases b : y % 2 = 1
      · have : (x ^^^ y) % 2 = 1 := h.2 fun c => a (c.2 b)
        omega
      · have : ¬ (x ^^^ y) % 2 = 1 := fun c => h.1 c ⟨fun d => absurd d a, fun d => absurd d b⟩
        omega
  rw [h2, h1]
  rcases Nat.mod_two_eq_zero_or_one x with hx | hx <;> rcases Nat.mod_two_eq_zero_or_one y with hy | hy
  · rw [if_neg (by omega), if_neg (by omega), if_neg (by omega)]
  · rw [if_pos (by omega), if_neg (by omega), if_pos (by omega), Nat.xor_assoc]
  · rw [if_pos (by omega), if_pos (by omega), if_neg (by omega), Nat.xor_assoc, Nat.xor_assoc, Nat.xor_comm (y / 2)]
  · rw [if_neg (by omega), if_pos (by omega), if_pos (by omega)]
    rw [Nat.xor_assoc (x / 2), ← Nat.xor_assoc 3988292384, Nat.xor_comm 3988292384 (y / 2), Nat.xor_assoc (y / 2), Nat.xor_self, Nat.xor_zero]
theorem bitStep_even (x : Nat) : bitStep (2 * x) = x := by
  unfold bitStep
  rw [if_neg (by omega)]; omega
theorem split16 (x : Nat) : x = (16 * (x / 16)) ^^^ (x % 16) := by
  apply Nat.eq_of_testBit_eq
  intro i
  rw [Nat.testBit_xor, show (16 : Nat) = 2 ^ 4 from rfl, Nat.testBit_two_pow_mul, Nat.testBit_mod_two_pow]
  by_cases h : 4 ≤ i
  · have h' : ¬ i < 4 := by omega
    simp only [h, h', decide_true, decide_false, Bool.true_and, Bool.false_and, Bool.xor_false, Nat.testBit_div_two_pow]
    congr 1; omega
  · have h' : i < 4 := by omega
    simp [h, h']
theorem four_bits (x : Nat) : crcFour x = bitStep (bitStep (bitStep (bitStep x))) := by
  have hr : ∀ r, r < 16 → bitStep (bitStep (bitStep (bitStep r))) = crcRow.getD r 0 := by decide
  have hq : bitStep (bitStep (bitStep (bitStep (16 * (x / 16))))) = x / 16 := by
    rw [show 16 * (x / 16) = 2 * (2 * (2 * (2 * (x / 16)))) by omega, bitStep_even, bitStep_even, bitStep_even, bitStep_even]
  conv => rhs; rw [split16 x]
  simp only [bitStep_xor]
  rw [hq, hr _ (Nat.mod_lt _ (by decide))]
  unfold crcFour crcHalf
  rw [Nat.shiftRight_eq_div_pow]
def bitSteps (x c : Nat) : Nat := upto (fun _ y => bitStep y) 8 (x ^^^ c)
theorem crcStep_bits (x c : Nat) : crcStep x c = bitSteps x c := by
  unfold crcStep bitSteps
  rw [four_bits, four_bits]
  rfl
theorem bitStep_lt {x : Nat} (h : x < 2 ^ 32) : bitStep x < 2 ^ 32 := by
  unfold bitStep
  split
  · exact Nat.xor_lt_two_pow (by omega) (by decide)
  · omega
end Go.Dsk

end
section
namespace Go.Dsk
open Go Go.Am
/-- a sector as the document has it -/
structure Cl where
  safe : Sec
  fresh : Sec
  cached : Bool
def Cl.zero : Cl := ⟨Sec.zero, Sec.zero, false⟩
def Cl.cells (c : Cl) : List Value := c.safe.cells ++ (c.fresh.cells ++ [.bool c.cached])
theorem Cl.len (c : Cl) : c.cells.length = 33 := by simp [Cl.cells, c.safe.len, c.fresh.len]
def clRow (l : List Cl) : List (List Value) := l.map Cl.cells
theorem clRow_of (l : List Cl) : RowsOf 33 (clRow l) := by
  refine ⟨fun r hr => ?_, fun r hr => ?_, fun r hr => ?_, fun r hr => ?_⟩ <;> (obtain ⟨s, _, rfl⟩ := List.mem_map.1 hr)
  · exact s.len
  · simp [Cl.cells, Sec.cells, bytesV_refs]
  · simp only [Cl.cells, List.all_append, Bool.and_eq_true]
    exact ⟨bytesV_all _ (fun _ => rfl) _, bytesV_all _ (fun _ => rfl) _, rfl⟩
  · simp only [Cl.cells, List.all_append, Bool.and_eq_true]
    exact ⟨bytesV_all _ (fun _ => rfl) _, bytesV_all _ (fun _ => rfl) _, rfl⟩
structure Rf where
  cl : List Cl
  fuse : Int
  broken : Bool
  ops : Int
def Rf.new (n : Nat) : Rf := ⟨List.replicate n Cl.zero, -1, false, 0⟩
/-- may no operation be done? -/
def Rf.burns (d : Rf) : Bool × Rf :=
  if d.broken = true then (true, d) else if d.fuse = 0 then (true, { d with broken := true })
  else (false, { d with fuse := if 0 < d.fuse then IntKind.i64.wrap (d.fuse - 1) else d.fuse, ops := IntKind.i64.wrap (d.ops + 1) })
def Rf.has (d : Rf) (at_ : Int) : Prop := 0 ≤ at_ ∧ at_ < d.cl.length
instance (d : Rf) (at_ : Int) : Decidable (d.has at_) := inferInstanceAs (Decidable (_ ∧ _))
def Rf.write (d : Rf) (at_ : Int) (s : Sec) : Int × Rf :=
  if d.has at_ then (if d.burns.1 = true then (3, d.burns.2) else (0, { d.burns.2 with cl := d.burns.2.cl.set at_.toNat ⟨(d.burns.2.cl.getD at_.toNat Cl.zero).safe, s, true⟩ })) else (13, d)
def kept (c : Cl) : Cl := if c.cached = true then ⟨c.fresh, Sec.zero, false⟩ else c
def Rf.flush (d : Rf) : Int × Rf := if d.burns.1 = true then (3, d.burns.2) else (0, { d.burns.2 with cl := d.burns.2.cl.map kept })
def Rf.durable (d : Rf) (at_ : Int) : Sec := if d.has at_ then (d.cl.getD at_.toNat Cl.zero).safe else Sec.zero
def Rf.read (d : Rf) (at_ : Int) : Sec × Int :=
  if d.has at_ then (if d.broken = true then (Sec.zero, 3) else ((if (d.cl.getD at_.toNat Cl.zero).cached = true then (d.cl.getD at_.toNat Cl.zero).fresh else (d.cl.getD at_.toNat Cl.zero).safe), 0)) else (Sec.zero, 13)

/-- the same disk -/
structure Sim (d : Dk) (r : Rf) : Prop where
  len : r.cl.length = d.safe.length
  safe : ∀ i, i < d.safe.length → (r.cl.getD i Cl.zero).safe = d.safe.getD i Sec.zero
  fresh : ∀ i : Nat, i < d.safe.length → seek d.fresh (i : Int) = if (r.cl.getD i Cl.zero).cached = true then some (r.cl.getD i Cl.zero).fresh else none
  fuse : r.fuse = d.fuse
  broken : r.broken = d.broken
  ops : r.ops = d.ops

theorem getD_rep {α : Type} (n i : Nat) (a : α) : (List.replicate n a).getD i a = a := by
  by_cases h : i < n <;> simp [List.getD, h]
theorem Sim.new (n : Nat) : Sim (Dk.new n) (Rf.new n) := by
  refine ⟨by simp [Rf.new, Dk.new], fun i h => ?_, fun i h => ?_, rfl, rfl, rfl⟩
  · simp only [Rf.new, Dk.new, getD_rep]; rfl
  · simp only [Rf.new, Dk.new, getD_rep]; rfl
theorem Sim.has {d : Dk} {r : Rf} (h : Sim d r) (at_ : Int) : r.has at_ ↔ d.has at_ := by unfold Rf.has Dk.has; rw [h.len]
theorem Sim.spend {d : Dk} {r : Rf} (h : Sim d r) : (r.burns.1 = true ↔ d.spend.1 ≠ 0) ∧ (d.spend.1 = 0 ∨ d.spend.1 = 3) ∧ Sim d.spend.2 r.burns.2 := by
  unfold Rf.burns Dk.spend
  rw [h.broken, h.fuse, h.ops]
  by_cases hb : d.broken = true
  · rw [if_pos hb, if_pos hb]; exact ⟨by simp, .inr rfl, h⟩
  · rw [if_neg hb, if_neg hb]
    by_cases hf : d.fuse = 0
    · rw [if_pos hf, if_pos hf]
      exact ⟨by simp, .inr rfl, ⟨h.len, h.safe, h.fresh, by first | rfl | exact h.fuse, rfl, by first | rfl | exact h.ops⟩⟩
    · rw [if_neg hf, if_neg hf]
      exact ⟨by simp, .inl rfl, ⟨h.len, h.safe, h.fresh, rfl, by first | rfl | exact h.broken, rfl⟩⟩
theorem getD_set {α : Type} {l : List α} {i j : Nat} {a b : α} (h : i < l.length) : (l.set i a).getD j b = if i = j then a else l.getD j b := by
  simp only [List.getD, List.getElem?_set]
  by_cases hij : i = j
  · subst hij; simp [h]
  · simp [hij]
theorem getD_map {α β : Type} {l : List α} {j : Nat} {f : α → β} {a : α} {b : β} (h : j < l.length) : (l.map f).getD j b = f (l.getD j a) := by
  simp [List.getD, List.getElem?_eq_getElem h]
theorem Sim.write {d : Dk} {r : Rf} (h : Sim d r) (at_ : Int) (s : Sec) : (r.write at_ s).1 = (d.write at_ s).1 ∧ Sim (d.write at_ s).2 (r.write at_ s).2 := by
  obtain ⟨h1, h2, h3⟩ := h.spend
  unfold Rf.write Dk.write
  by_cases hh : d.has at_
  · rw [if_pos ((h.has at_).2 hh), if_pos hh]
    by_cases he : d.spend.1 = 0
    · rw [if_neg (by rw [h1]; simp [he]), if_pos he]
      have hs := d.spend_safe.1
      have hlt : at_.toNat < d.spend.2.safe.length := by rw [hs]; have := hh.1; have := hh.2; omega
      have hlt' : at_.toNat < r.burns.2.cl.length := by rw [h3.len]; exact hlt
      refine ⟨rfl, by simp [h3.len], fun i hi => ?_, fun i hi => ?_, h3.fuse, h3.broken, h3.ops⟩
      · have hi' : i < d.spend.2.safe.length := hi
        show ((r.burns.2.cl.set at_.toNat _).getD i Cl.zero).safe = d.spend.2.safe.getD i Sec.zero
        rw [getD_set hlt']
        split
        · next e => subst e; exact h3.safe _ hi'
        · exact h3.safe _ hi'
      · have hi' : i < d.spend.2.safe.length := hi
        show seek (put d.spend.2.fresh at_ s) (i : Int) = _
        rw [seek_put]
        show _ = if ((r.burns.2.cl.set at_.toNat _).getD i Cl.zero).cached = true then some ((r.burns.2.cl.set at_.toNat _).getD i Cl.zero).fresh else none
        rw [getD_set hlt']
        have hn := hh.1
        by_cases e : at_.toNat = i
        · have : (i : Int) = at_ := by omega
          simp [e, this]
        · have : ¬ (i : Int) = at_ := by omega
          simp only [e, this, if_false]
          exact h3.fresh i hi'
    · rw [if_pos (h1.2 he), if_neg he]
      rcases h2 with h2 | h2
      · exact absurd h2 he
      · exact ⟨h2.symm, h3⟩
  · rw [if_neg (fun hc => hh ((h.has at_).1 hc)), if_neg hh]
    exact ⟨rfl, h⟩
theorem Sim.flush {d : Dk} {r : Rf} (h : Sim d r) : r.flush.1 = d.flush.1 ∧ Sim d.flush.2 r.flush.2 := by
  obtain ⟨h1, h2, h3⟩ := h.spend
  unfold Rf.flush Dk.flush
  by_cases he : d.spend.1 = 0
  · rw [if_neg (by rw [h1]; simp [he]), if_pos he]
    refine ⟨rfl, by simp [h3.len, over], fun i hi => ?_, fun i hi => ?_, h3.fuse, h3.broken, h3.ops⟩
    · have hi' : i < d.spend.2.safe.length := by simpa [over] using hi
      show ((r.burns.2.cl.map kept).getD i Cl.zero).safe = (over d.spend.2.fresh d.spend.2.safe).getD i Sec.zero
      rw [getD_map (a := Cl.zero) (by rw [h3.len]; exact hi')]
      have hf := h3.fresh i hi'
      have hs := h3.safe i hi'
      have ho : (over d.spend.2.fresh d.spend.2.safe).getD i Sec.zero = (seek d.spend.2.fresh (i : Int)).getD (d.spend.2.safe.getD i Sec.zero) := by
        simp [over, List.getD, List.getElem?_eq_getElem hi', seek]
      rw [ho, hf]
      unfold kept
      split
      · rfl
      · exact hs
    · have hi' : i < d.spend.2.safe.length := by simpa [over] using hi
      show seek [] (i : Int) = if ((r.burns.2.cl.map kept).getD i Cl.zero).cached = true then some ((r.burns.2.cl.map kept).getD i Cl.zero).fresh else none
      rw [getD_map (a := Cl.zero) (by rw [h3.len]; exact hi')]
      have : (kept (r.burns.2.cl.getD i Cl.zero)).cached = false := by
        unfold kept; split
        · rfl
        · next hc => simpa using hc
      rw [if_neg (by rw [this]; decide)]
      rfl
  · rw [if_pos (h1.2 he), if_neg he]
    rcases h2 with h2 | h2
    · exact absurd h2 he
    · exact ⟨h2.symm, h3⟩
theorem Sim.durable {d : Dk} {r : Rf} (h : Sim d r) (at_ : Int) : r.durable at_ = d.durable at_ := by
  unfold Rf.durable Dk.durable
  by_cases hh : d.has at_
  · rw [if_pos ((h.has at_).2 hh), if_pos hh]
    exact h.safe _ (by have := hh.1; have := hh.2; omega)
  · rw [if_neg (fun hc => hh ((h.has at_).1 hc)), if_neg hh]
theorem Sim.read {d : Dk} {r : Rf} (h : Sim d r) (at_ : Int) : r.read at_ = d.read at_ := by
  unfold Rf.read Dk.read
  by_cases hh : d.has at_
  · rw [if_pos ((h.has at_).2 hh), if_pos hh, h.broken]
    split
    · rfl
    · have hlt : at_.toNat < d.safe.length := by have := hh.1; have := hh.2; omega
      have hf := h.fresh _ hlt
      have hs := h.safe _ hlt
      have e : ((at_.toNat : Nat) : Int) = at_ := by have := hh.1; omega
      rw [e] at hf
      have : d.find at_ = seek d.fresh at_ := rfl
      rw [this, hf]
      split
      · rfl
      · rw [hs]; rfl
  · rw [if_neg (fun hc => hh ((h.has at_).1 hc)), if_neg hh]
end Go.Dsk

end
section
namespace Go.Dsk
open Go Go.Am
theorem add_bit {x n : Nat} (h : x.testBit n = false) : x + 2 ^ n = x ||| 2 ^ n := by
  have hp : 0 < 2 ^ n := Nat.two_pow_pos n
  have hr : x % 2 ^ n < 2 ^ n := Nat.mod_lt _ hp
  have hx : x = 2 ^ n * (x / 2 ^ n) + x % 2 ^ n := (Nat.div_add_mod x (2 ^ n)).symm
  have ha : (x / 2 ^ n) % 2 = 0 := by
    have h0 : (x / 2 ^ n).testBit 0 = false := by rw [Nat.testBit_div_two_pow]; simpa using h
    rw [Nat.testBit_zero] at h0
    have : ¬ (x / 2 ^ n) % 2 = 1 := by simpa using h0
    omega
  have e : x + 2 ^ n = 2 ^ n * (x / 2 ^ n + 1) + x % 2 ^ n := by rw [Nat.mul_succ]; omega
  apply Nat.eq_of_testBit_eq
  intro j
  rw [Nat.testBit_or, Nat.testBit_two_pow, e, Nat.testBit_two_pow_mul_add _ hr]
  conv => rhs; rw [hx, Nat.testBit_two_pow_mul_add _ hr]
  by_cases hj : j < n
  · have : ¬ n = j := by omega
    simp [hj, this]
  · simp only [hj, if_false]
    by_cases hn : n = j
    · subst hn
      have h1 : (x / 2 ^ n + 1) % 2 = 1 := by omega
      simp [Nat.testBit_zero, h1]
    · obtain ⟨k, hk⟩ : ∃ k, j - n = k + 1 := ⟨j - n - 1, by omega⟩
      rw [hk, Nat.testBit_succ, Nat.testBit_succ, show (x / 2 ^ n + 1) / 2 = x / 2 ^ n / 2 by omega]
      simp [hn]
theorem or_of_bit {x n : Nat} (h : x.testBit n = true) : x ||| 2 ^ n = x := by
  apply Nat.eq_of_testBit_eq
  intro j
  rw [Nat.testBit_or, Nat.testBit_two_pow]
  by_cases hj : n = j
  · subst hj; simp [h]
  · simp [hj]
theorem bit_div (x n : Nat) : decide (x / 2 ^ n % 2 = 1) = x.testBit n := by
  rw [show x.testBit n = (x / 2 ^ n).testBit 0 by rw [Nat.testBit_div_two_pow]; simp, Nat.testBit_zero]
theorem both_bits (a b : Nat) (hb : b < 2 ^ 64) : upto (fun i y => if b.testBit i = true then y ||| one i else y) 64 a = a ||| b := by
  have key : ∀ n, n ≤ 64 → ∀ k, (upto (fun i y => if b.testBit i = true then y ||| one i else y) n a).testBit k = (a.testBit k || (decide (k < n) && b.testBit k)) := by
    intro n
    induction n with
    | zero => intro _ k; simp [upto]
    | succ n ih =>
      intro hn k
      simp only [upto]
      by_cases h : b.testBit n = true
      · rw [if_pos h, Nat.testBit_or, ih (by omega), one, if_pos (by omega), Nat.testBit_two_pow]
        by_cases hk : n = k
        · subst hk; simp [h]
        · have : decide (k < n + 1) = decide (k < n) := by simp only [decide_eq_decide]; omega
          simp [hk, this]
      · rw [if_neg h, ih (by omega)]
        by_cases hk : n = k
        · subst hk; simp [h]
        · have : decide (k < n + 1) = decide (k < n) := by simp only [decide_eq_decide]; omega
          rw [this]
  apply Nat.eq_of_testBit_eq
  intro k
  rw [key 64 (Nat.le_refl _), Nat.testBit_or]
  by_cases hk : k < 64
  · simp [hk]
  · have : b.testBit k = false := Nat.testBit_lt_two_pow (Nat.lt_of_lt_of_le hb (Nat.pow_le_pow_right (by decide) (by omega)))
    simp [this]
end Go.Dsk

end
section
namespace Go.Dsk
open Go Go.Am
/-- one byte more, the lowest -/
def beNext (p : Nat × List UInt8) : Nat × List UInt8 := (p.1 / 256, UInt8.ofNat (p.1 % 256) :: p.2)
/-- a number in so many bytes, the highest first -/
def be (n size : Nat) : List UInt8 := (upto (fun _ => beNext) size (n, [])).2
theorem beNext_len (size : Nat) (p : Nat × List UInt8) : (upto (fun _ => beNext) size p).2.length = p.2.length + size := by
  induction size with
  | zero => rfl
  | succ k ih => simp only [upto, beNext, List.length_cons, ih]; omega
theorem be_len (n size : Nat) : (be n size).length = size := by simp [be, beNext_len]
theorem beNext_le (size : Nat) (p : Nat × List UInt8) : (upto (fun _ => beNext) size p).1 ≤ p.1 := by
  induction size with
  | zero => exact Nat.le_refl _
  | succ k ih => simp only [upto, beNext]; omega
/-- the number of bytes, the highest first -/
def getN (l : List UInt8) : Nat := l.foldl (fun n c => n * 256 + c.toNat) 0
theorem getN_snoc (l : List UInt8) (c : UInt8) : getN (l ++ [c]) = getN l * 256 + c.toNat := by simp [getN, List.foldl_append]
theorem getN_lt (l : List UInt8) : getN l < 256 ^ l.length := by
  have key : ∀ (l : List UInt8) (a m : Nat), a < 256 ^ m → l.foldl (fun n c => n * 256 + c.toNat) a < 256 ^ (m + l.length) := by
    intro l
    induction l with
    | nil => intro a m h; simpa using h
    | cons c l ih =>
      intro a m h
      have hc := c.toNat_lt
      have := ih (a * 256 + c.toNat) (m + 1) (by rw [Nat.pow_succ]; omega)
      simp only [List.foldl_cons, List.length_cons]
      rw [show m + (l.length + 1) = m + 1 + l.length by omega]
      exact this
  have := key l 0 0 (by decide)
  simpa [getN] using this
theorem getN_take (l : List UInt8) (i : Nat) (hi : i < l.length) : getN (l.take (i + 1)) = getN (l.take i) * 256 + (l.getD i 0).toNat := by
  rw [List.take_succ, List.getElem?_eq_getElem hi]
  simp only [Option.toList_some]
  rw [getN_snoc]
  simp [List.getD, List.getElem?_eq_getElem hi]
theorem shl_or (n c : Nat) (hc : c < 256) : n * 256 ||| c = n * 256 + c := by
  have := Nat.two_pow_add_eq_or_of_lt (i := 8) (b := c) hc n
  rw [show 2 ^ 8 * n = n * 256 by rw [Nat.mul_comm]] at this
  exact this.symm
/-- the lowest first -/
def le4 (x : Nat) : List UInt8 := (be x 4).reverse
/-- bytes, and their sum -/
def sealed (l : List UInt8) : List UInt8 := l ++ le4 (crcMore 0 l)
def recB (n w : Nat) : List UInt8 := sealed (be n 4 ++ be w 8)
theorem recB_len (n w : Nat) : (recB n w).length = 16 := by simp [recB, sealed, le4, be_len]
def rec (n w : Nat) : Sec := ⟨recB n w, recB_len n w⟩
/-- a record's number, and its word -/
def opened (s : Sec) : Nat × Nat × Bool :=
  if s = rec (getN (s.val.take 4)) (getN ((s.val.drop 4).take 8)) then (getN (s.val.take 4), getN ((s.val.drop 4).take 8), true) else (0, 0, false)
theorem bytesV_app (a b : List UInt8) : bytesV (a ++ b) = bytesV a ++ bytesV b := by simp [bytesV]
theorem bytesV_get {l : List UInt8} {i : Nat} (h : i < l.length) : (bytesV l)[i]? = some (.int .u8 (l.getD i 0).toNat) := by simp [bytesV, List.getD, List.getElem?_eq_getElem h]
theorem ofNat_toNat (n : Nat) : ((UInt8.ofNat (n % 256)).toNat : Int) = ((n % 256 : Nat) : Int) := by
  rw [UInt8.toNat_ofNat']; omega
theorem set_mid (a tl : List UInt8) (k : Nat) (b : UInt8) : (bytesV (a ++ (List.replicate (k + 1) 0 ++ tl))).set (a.length + k) (.int .u8 b.toNat) = bytesV (a ++ (List.replicate k 0 ++ b :: tl)) := by
  have h : (a ++ (List.replicate (k + 1) (0 : UInt8) ++ tl)).set (a.length + k) b = a ++ (List.replicate k 0 ++ b :: tl) := by
    rw [List.set_append_right _ _ (by omega), Nat.add_sub_cancel_left, List.replicate_succ', List.append_assoc, List.set_append_right _ _ (by simp)]
    simp
  rw [← h]
  unfold bytesV
  rw [List.map_set]
theorem set_front {l : List UInt8} {i k : Nat} (hi : i < l.length) : (bytesV (l.take i ++ List.replicate (k + 1) 0)).set i (.int .u8 (l.getD i 0).toNat) = bytesV (l.take (i + 1) ++ List.replicate k 0) := by
  unfold bytesV
  rw [← List.map_set (f := fun b : UInt8 => Value.int .u8 (b.toNat : Int))]
  congr 1
  rw [List.take_succ, List.getElem?_eq_getElem hi, List.append_assoc, List.set_append_right _ _ (by simp; omega), List.length_take, Nat.min_eq_left (by omega), Nat.sub_self, List.replicate_succ]
  simp [List.getD, List.getElem?_eq_getElem hi]
end Go.Dsk
namespace Go.Am
theorem putCells_set {cs : List Value} {i : Nat} (h : i < cs.length) (v : Value) : putCells cs i [v] = cs.set i v := by
  unfold putCells
  rw [List.set_eq_take_append_cons_drop, if_pos h]
  simp
end Go.Am

end
section
namespace Go.Dsk
open Go Go.Am
/-- the record at a place -/
def slotAt (rd : Int → Sec × Int) (base size at_ : Nat) : Nat × Nat :=
  if (rd (at_ : Int)).2 = 0 ∧ (opened (rd (at_ : Int)).1).2.2 = true ∧ base + (opened (rd (at_ : Int)).1).1 % size = at_ then ((opened (rd (at_ : Int)).1).1, (opened (rd (at_ : Int)).1).2.1) else (0, 0)
def better (x best : Nat × Nat) : Nat × Nat := if best.1 < x.1 then x else best
/-- the record with the greatest number -/
def latest (rd : Int → Sec × Int) (base size len : Nat) : Nat × Nat :=
  if base + size ≤ len then upto (fun i best => better (slotAt rd base size (base + i)) best) size (0, 0) else (0, 0)
theorem opened_lt (s : Sec) : (opened s).1 < 2 ^ 32 ∧ (opened s).2.1 < 2 ^ 64 := by
  have b1 : getN (s.val.take 4) < 2 ^ 32 := by
    have := getN_lt (s.val.take 4)
    rw [List.length_take, s.2] at this
    exact this
  have b2 : getN ((s.val.drop 4).take 8) < 2 ^ 64 := by
    have := getN_lt ((s.val.drop 4).take 8)
    rw [List.length_take, List.length_drop, s.2] at this
    exact this
  unfold opened
  split
  · exact ⟨b1, b2⟩
  · exact ⟨by decide, by decide⟩
theorem slotAt_lt (rd : Int → Sec × Int) (base size at_ : Nat) : (slotAt rd base size at_).1 < 2 ^ 32 ∧ (slotAt rd base size at_).2 < 2 ^ 64 := by
  unfold slotAt
  split
  · exact opened_lt _
  · exact ⟨by decide, by decide⟩
theorem better_lt {x y : Nat × Nat} (hx : x.1 < 2 ^ 32 ∧ x.2 < 2 ^ 64) (hy : y.1 < 2 ^ 32 ∧ y.2 < 2 ^ 64) : (better x y).1 < 2 ^ 32 ∧ (better x y).2 < 2 ^ 64 := by
  unfold better; split <;> assumption
theorem latest_lt (rd : Int → Sec × Int) (base size len : Nat) : (latest rd base size len).1 < 2 ^ 32 ∧ (latest rd base size len).2 < 2 ^ 64 := by
  unfold latest
  split
  · generalize size = m
    have : ∀ k, (upto (fun i best => better (slotAt rd base m (base + i)) best) k (0, 0)).1 < 2 ^ 32 ∧ (upto (fun i best => better (slotAt rd base m (base + i)) best) k (0, 0)).2 < 2 ^ 64 := by
      intro k
      induction k with
      | zero => exact by simp [upto]
      | succ k ih => exact better_lt (slotAt_lt ..) ih
    exact this m
  · exact ⟨by decide, by decide⟩
/-- what a disk knows of what may be unlike -/
def knows (rd : Int → Sec × Int) (len : Nat) : Nat := (latest rd 2 4 len).2 ||| (latest rd 6 2 len).2
end Go.Dsk

end
