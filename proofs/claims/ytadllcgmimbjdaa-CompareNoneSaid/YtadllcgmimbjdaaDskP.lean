/- A part of the proof: DskP, CrcP. Its conditions: none. -/
import Derived.Test.YtadllcgmimbjdaaAm32
set_option linter.all false
set_option linter.unusedVariables false
set_option linter.unusedSimpArgs false
set_option linter.unnecessarySimpa false
section
namespace Go.Dsk
open Go Go.Am

/-- a sector: sixteen bytes -/
abbrev Sec := { l : List UInt8 // l.length = 16 }
def Sec.zero : Sec := ⟨List.replicate 16 0, rfl⟩
/-- its cells -/
def bytesV (l : List UInt8) : List Value := l.map fun b => .int .u8 b.toNat
def Sec.cells (s : Sec) : List Value := bytesV s.val

theorem bytesV_len (l : List UInt8) : (bytesV l).length = l.length := by simp [bytesV]
theorem bytesV_refs : ∀ l : List UInt8, lrefs (bytesV l) = []
  | [] => rfl
  | b :: l => by simp only [bytesV, List.map_cons, lrefs_cons, vrefs_int, List.nil_append]; exact bytesV_refs l
theorem bytesV_all (p : Value → Bool) (hp : ∀ n, p (.int .u8 n) = true) (l : List UInt8) : (bytesV l).all p = true := by
  rw [List.all_eq_true]
  intro v hv
  obtain ⟨b, _, rfl⟩ := List.mem_map.1 hv
  exact hp _
theorem bytesV_inj {a b : List UInt8} (h : bytesV a = bytesV b) : a = b := by
  induction a generalizing b with
  | nil => cases b with
    | nil => rfl
    | cons y ys => simp [bytesV] at h
  | cons x xs ih => cases b with
    | nil => simp [bytesV] at h
    | cons y ys =>
      simp only [bytesV, List.map_cons, List.cons.injEq, Value.int.injEq, true_and] at h
      obtain ⟨h1, h2⟩ := h
      have h1' : x.toNat = y.toNat := by omega
      rw [ih h2, UInt8.toNat_inj.1 h1']
theorem Sec.len (s : Sec) : s.cells.length = 16 := by rw [Sec.cells, bytesV_len, s.2]
theorem Sec.inj {a b : Sec} : a.cells = b.cells ↔ a = b := ⟨fun h => Subtype.ext (bytesV_inj h), fun h => by rw [h]⟩

/-- sectors, as a row of cells -/
def rows (l : List Sec) : List (List Value) := l.map Sec.cells
theorem rows_of (l : List Sec) : RowsOf 16 (rows l) := by
  refine ⟨fun r hr => ?_, fun r hr => ?_, fun r hr => ?_, fun r hr => ?_⟩ <;> (obtain ⟨s, _, rfl⟩ := List.mem_map.1 hr)
  · exact s.len
  · exact bytesV_refs _
  · exact bytesV_all _ (fun _ => rfl) _
  · exact bytesV_all _ (fun _ => rfl) _

/-- a disk: what is durable, what is cached, and how it stands -/
structure Dk where
  safe : List Sec
  fresh : List (Int × Sec)
  fuse : Int
  broken : Bool
  ops : Int

def Dk.new (n : Nat) : Dk := ⟨List.replicate n Sec.zero, [], -1, false, 0⟩
def Dk.find (d : Dk) (at_ : Int) : Option Sec := (d.fresh.find? fun p => decide (p.1 = at_)).map (·.2)
/-- one operation -/
def Dk.spend (d : Dk) : Int × Dk :=
  if d.broken = true then (3, d) else if d.fuse = 0 then (3, { d with broken := true })
  else (0, { d with fuse := if 0 < d.fuse then IntKind.i64.wrap (d.fuse - 1) else d.fuse, ops := IntKind.i64.wrap (d.ops + 1) })
/-- a sector is put among those that are cached -/
def put (l : List (Int × Sec)) (at_ : Int) (s : Sec) : List (Int × Sec) :=
  match l.findIdx? fun p => decide (p.1 = at_) with
  | some i => l.set i (at_, s)
  | none => l ++ [(at_, s)]
def Dk.has (d : Dk) (at_ : Int) : Prop := 0 ≤ at_ ∧ at_ < d.safe.length
instance (d : Dk) (at_ : Int) : Decidable (d.has at_) := inferInstanceAs (Decidable (_ ∧ _))
def Dk.write (d : Dk) (at_ : Int) (s : Sec) : Int × Dk :=
  if d.has at_ then (if d.spend.1 = 0 then (0, { d.spend.2 with fresh := put d.spend.2.fresh at_ s }) else d.spend) else (13, d)
def Dk.read (d : Dk) (at_ : Int) : Sec × Int :=
  if d.has at_ then (if d.broken = true then (Sec.zero, 3) else ((d.find at_).getD (d.safe.getD at_.toNat Sec.zero), 0)) else (Sec.zero, 13)
def Dk.durable (d : Dk) (at_ : Int) : Sec := if d.has at_ then d.safe.getD at_.toNat Sec.zero else Sec.zero
/-- what is cached, over what is durable -/
def over (fresh : List (Int × Sec)) (safe : List Sec) : List Sec := safe.mapIdx fun i s => ((fresh.find? fun p => decide (p.1 = (i : Int))).map (·.2)).getD s
def Dk.flush (d : Dk) : Int × Dk :=
  if d.spend.1 = 0 then (0, { d.spend.2 with safe := over d.spend.2.fresh d.spend.2.safe, fresh := [] }) else d.spend

/-- what is cached has a place, each once -/
structure Dk.Ok (d : Dk) : Prop where
  pos : 0 < d.safe.length
  few : d.safe.length ≤ 1024
  has : ∀ p ∈ d.fresh, 0 ≤ p.1 ∧ p.1 < d.safe.length
  nd : (d.fresh.map (·.1)).Nodup

theorem Dk.Ok.new {n : Nat} (h : 0 < n) (h' : n ≤ 1024) : (Dk.new n).Ok := ⟨by simpa [Dk.new] using h, by simpa [Dk.new] using h', fun p hp => by simp [Dk.new] at hp, by simp [Dk.new]⟩
theorem Dk.spend_safe (d : Dk) : d.spend.2.safe = d.safe ∧ d.spend.2.fresh = d.fresh := by
  unfold Dk.spend; split
  · exact ⟨rfl, rfl⟩
  · split <;> exact ⟨rfl, rfl⟩
theorem Dk.Ok.spend {d : Dk} (h : d.Ok) : d.spend.2.Ok := by
  obtain ⟨h1, h2⟩ := d.spend_safe
  exact ⟨by rw [h1]; exact h.pos, by rw [h1]; exact h.few, by rw [h1, h2]; exact h.has, by rw [h2]; exact h.nd⟩

theorem put_keys_mem {l : List (Int × Sec)} {at_ : Int} {s : Sec} {p : Int × Sec} (h : p ∈ put l at_ s) : p ∈ l ∨ p = (at_, s) := by
  unfold put at h
  split at h
  · rcases List.mem_or_eq_of_mem_set h with h | h
    · exact .inl h
    · exact .inr h
  · rcases List.mem_append.1 h with h | h
    · exact .inl h
    · simp at h; exact .inr h
theorem put_nodup {l : List (Int × Sec)} (hl : (l.map (·.1)).Nodup) (at_ : Int) (s : Sec) : ((put l at_ s).map (·.1)).Nodup := by
  unfold put
  split
  · next i hi =>
    obtain ⟨x, h1, h2, _⟩ := findIdx_some hi
    have h2' : x.1 = at_ := by simpa using h2
    have : (l.set i (at_, s)).map (·.1) = l.map (·.1) := by
      rw [List.map_set]
      apply List.ext_getElem?
      intro j
      rw [List.getElem?_set]
      split
      · next hij =>
        subst hij
        obtain ⟨hlt, hx⟩ := List.getElem?_eq_some_iff.1 h1
        simp [hlt, hx, h2']
      · rfl
    rw [this]; exact hl
  · next hi =>
    rw [List.findIdx?_eq_none_iff] at hi
    rw [List.map_append, List.nodup_append]
    refine ⟨hl, by simp, fun a ha b hb => ?_⟩
    obtain ⟨p, hp, rfl⟩ := List.mem_map.1 ha
    simp at hb; subst hb
    have := hi p hp
    simpa using this
theorem Dk.Ok.write {d : Dk} (h : d.Ok) (at_ : Int) (s : Sec) : (d.write at_ s).2.Ok := by
  have h' := h.spend
  unfold Dk.write
  split
  · next ha =>
    split
    · refine ⟨h'.pos, h'.few, fun p hp => ?_, put_nodup h'.nd _ _⟩
      rcases put_keys_mem hp with hp | rfl
      · exact h'.has p hp
      · rw [show ({ d.spend.2 with fresh := put d.spend.2.fresh at_ s } : Dk).safe = d.spend.2.safe from rfl, d.spend_safe.1]; exact ha
    · exact h'
  · exact h
theorem Dk.Ok.flush {d : Dk} (h : d.Ok) : d.flush.2.Ok := by
  have h' := h.spend
  unfold Dk.flush
  split
  · exact ⟨by simpa [over] using h'.pos, by simpa [over] using h'.few, fun p hp => by simp at hp, by simp⟩
  · exact h'

/-- a seek among those that are cached -/
def seek (l : List (Int × Sec)) (at_ : Int) : Option Sec := (l.find? fun p => decide (p.1 = at_)).map (·.2)
theorem seek_put (l : List (Int × Sec)) (at_ : Int) (s : Sec) (b : Int) : seek (put l at_ s) b = if b = at_ then some s else seek l b := by
  unfold put
  cases hi : l.findIdx? fun p => decide (p.1 = at_) with
  | none =>
    have hn := findIdx_none hi
    simp only [seek, List.find?_append]
    by_cases hb : b = at_
    · subst hb; simp [hn]
    · have : ¬ at_ = b := fun h => hb h.symm
      simp [hb, this]
  | some i =>
    simp only []
    induction l generalizing i with
    | nil => simp at hi
    | cons p ps ih =>
      rw [List.findIdx?_cons] at hi
      by_cases hp : p.1 = at_
      · simp [hp] at hi; subst hi
        by_cases hb : b = at_
        · subst hb; simp [seek]
        · have : ¬ at_ = b := fun h => hb h.symm
          simp [seek, List.find?_cons, hb, this, hp]
      · simp only [hp, decide_false, Bool.false_eq_true, if_false] at hi
        cases hq : ps.findIdx? fun p => decide (p.1 = at_) with
        | none => simp [hq] at hi
        | some j =>
          simp [hq] at hi; subst hi
          have := ih j hq
          by_cases hpb : p.1 = b
          · have hne : ¬ b = at_ := fun h => hp (hpb.trans h)
            simp [seek, List.find?_cons, hpb, hne]
          · simp only [seek, List.set_cons_succ, List.find?_cons, hpb, decide_false] at this ⊢
            exact this
end Go.Dsk

end
section
namespace Go.Dsk
open Go Go.Am
def crcRow : List Nat := [0, 498536548, 997073096, 651767980, 1994146192, 1802195444, 1303535960, 1342533948, 3988292384, 4027552580, 3604390888, 3412177804, 2607071920, 2262029012, 2685067896, 3183342108]
def crcHalf (n : Nat) : Nat := crcRow.getD (n % 16) 0
def crcFour (x : Nat) : Nat := (x >>> 4) ^^^ crcHalf x
def crcStep (x c : Nat) : Nat := crcFour (crcFour (x ^^^ c))
def crcMore (x : Nat) (l : List UInt8) : Nat := (l.foldl (fun x b => crcStep x b.toNat) (x ^^^ 4294967295)) ^^^ 4294967295
theorem crcHalf_lt (n : Nat) : crcHalf n < 2 ^ 32 := by
  have h : ∀ k, k < 16 → crcRow.getD k 0 < 2 ^ 32 := by decide
  exact h _ (Nat.mod_lt _ (by decide))
theorem crcFour_lt {x : Nat} (h : x < 2 ^ 32) : crcFour x < 2 ^ 32 := Nat.xor_lt_two_pow (Nat.lt_of_le_of_lt (Nat.shiftRight_le _ _) h) (crcHalf_lt _)
theorem crcStep_lt {x c : Nat} (h : x < 2 ^ 32) (hc : c < 2 ^ 32) : crcStep x c < 2 ^ 32 := crcFour_lt (crcFour_lt (Nat.xor_lt_two_pow h hc))
theorem byte_lt (b : UInt8) : b.toNat < 2 ^ 32 := Nat.lt_trans b.toNat_lt (by decide)
theorem fold_lt {x : Nat} (h : x < 2 ^ 32) (l : List UInt8) : l.foldl (fun x b => crcStep x b.toNat) x < 2 ^ 32 := by
  induction l generalizing x with
  | nil => exact h
  | cons b l ih => exact ih (crcStep_lt h (byte_lt b))
theorem crcMore_lt {x : Nat} (h : x < 2 ^ 32) (l : List UInt8) : crcMore x l < 2 ^ 32 := Nat.xor_lt_two_pow (fold_lt (Nat.xor_lt_two_pow h (by decide)) l) (by decide)
/-- one bit -/
def one (n : Nat) : Nat := if n < 64 then 2 ^ n else 0
theorem one_lt (n : Nat) : one n < 2 ^ 64 := by
  unfold one; split
  · exact Nat.pow_lt_pow_right (by decide) (by assumption)
  · decide
end Go.Dsk

end
