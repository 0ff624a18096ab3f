/- An abstract machine for the model's code: values, blocks, operations. It decides nothing that Go leaves open. -/
import Derived.Calls
import Derived.Orders
set_option linter.all false
set_option linter.unusedVariables false
set_option linter.unusedSimpArgs false
set_option linter.unnecessarySimpa false
namespace Go.Am

/-- a value of which nothing is known -/
def unk : Value := .chan none

mutual
/-- no address, nothing unknown: such a value is the same in every memory -/
def plain : Value → Bool
  | .bool _ | .int _ _ | .float _ _ | .string _ | .pointer none | .slice none _ _ | .map none | .nilFunc | .nilIface => true
  | .agg cs => plainA cs
  | .tuple vs => plainA vs
  | .func _ a b => plainA a && plainA b
  | _ => false
def plainA : Array Value → Bool
  | ⟨l⟩ => plainL l
def plainL : List Value → Bool
  | [] => true
  | v :: vs => plain v && plainL vs
end

mutual
/-- the blocks that a value names -/
def vrefs : Value → List Nat
  | .pointer (some a) => [a.block]
  | .slice (some a) _ _ => [a.block]
  | .map (some r) => [r]
  | .chan (some r) => [r]
  | .func _ first captured => arefs first ++ arefs captured
  | .iface _ v => vrefs v
  | .agg cs => arefs cs
  | .tuple vs => arefs vs
  | _ => []
def arefs : Array Value → List Nat
  | ⟨l⟩ => lrefs l
def lrefs : List Value → List Nat
  | [] => []
  | v :: vs => vrefs v ++ lrefs vs
end

mutual
/-- a value, its blocks renamed -/
def vren (σ : Nat → Nat) : Value → Value
  | .pointer (some a) => .pointer (some { a with block := σ a.block })
  | .slice (some a) l c => .slice (some { a with block := σ a.block }) l c
  | .map (some r) => .map (some (σ r))
  | .func f first captured => .func f (aren σ first) (aren σ captured)
  | .iface t v => .iface t (vren σ v)
  | .agg cs => .agg (aren σ cs)
  | .tuple vs => .tuple (aren σ vs)
  | v => v
def aren (σ : Nat → Nat) : Array Value → Array Value
  | ⟨l⟩ => ⟨lren σ l⟩
def lren (σ : Nat → Nat) : List Value → List Value
  | [] => []
  | v :: vs => vren σ v :: lren σ vs
end

/-- one cell's value: no struct, no tuple -/
def cellV : Value → Bool
  | .agg _ | .tuple _ | .chan _ => false
  | _ => true

/-- a block: a row of cells (its own, or one that is only read), a map, or one that is gone -/
inductive Blk where
  | cells (cs : List Value) (elem : TypeId) (own : Bool)
  | map (es : List MapEntry) (clock : Nat)
  | iter (m : Option Nat) (since : Nat) (seen : List Nat) (stepped : Nat)
  | dead
  deriving Inhabited

/-- the blocks, and the least one into which the name of a later one was stored -/
structure AS where
  H : List Blk
  esc : Option Nat

/-- a capacity that is not known -/
def UNK : Nat := 9223372036854775808

def tLoad (isAgg : Bool) (size off : Nat) (row : Array Value) : Option Value :=
  if isAgg then (if off + size ≤ row.size then some (.agg ((row.toList.drop off).take size).toArray) else none) else row.toList[off]?
def tPtr (off : Nat) (row : Array Value) : Value := .iface off (.agg row)
def tSl (len : Nat) (row : List Value) : Value := .iface len (.tuple row.toArray)
def tIndex (size len off : Nat) (i : Int) (row : Array Value) : Option Value := if 0 ≤ i ∧ i < len then some (tPtr (off + i.toNat * size) row) else none
def tSlice (size len off l h : Nat) (row : Array Value) : Option Value := if off + len * size ≤ row.size ∧ len ≠ UNK then some (tSl (h - l) ((row.toList.drop (off + l * size)).take ((h - l) * size))) else none
def tField (off d : Nat) (row : Array Value) : Value := tPtr (off + d) row
def tSrc (n size : Nat) (row : Array Value) : Option (Nat × List Value) := if row.size = n * size ∧ row.toList.all cellV = true then some (n, row.toList) else none
def tStr (len : Nat) (row : Array Value) : Option (List Value) := if row.size = len then some row.toList else none
def tLen (n : Nat) : Value := .int .i64 n

def frzL (f : Value → List Blk → Value × List Blk) : List Value → List Blk → List Value × List Blk
  | [], H => ([], H)
  | v :: vs, H =>
    let r := f v H
    let q := frzL f vs r.2
    (r.1 :: q.1, q.2)

def minO : Option Nat → Nat → Option Nat
  | none, b => some b
  | some a, b => some (min a b)

/-- what is stored into block b: does it name a later one? -/
def escOf (e : Option Nat) (b : Nat) : List Nat → Option Nat
  | [] => e
  | r :: rs => if b < r then minO e b else escOf e b rs

def pureRun {α : Type} (P : Program) : Sem α → Option α
  | .pure a => some a
  | .program k => pureRun P (k P)
  | .mark _ k => pureRun P k
  | _ => none

def isAggP (P : Program) (t : TypeId) : Option Bool :=
  match P.underlying t with
  | some (.struct _) | some (.array _ _) => some true
  | some _ => some false
  | none => none

def sizeP (P : Program) (t : TypeId) : Option Nat := (P.info? t).map (·.size)
def bytesP (P : Program) (t : TypeId) : Option Nat := (P.info? t).map (·.bytes)
def zeroP (P : Program) (t : TypeId) : Option Value := (P.info? t).bind (·.zero)

/-- own rows, from block n0 on, that a value leads to become part of it: they are never written again -/
def frz (P : Program) (n0 : Nat) : Nat → Value → List Blk → Value × List Blk
  | 0, v, H => (v, H)
  | k + 1, v, H => match v with
    | .slice none 0 0 => (tSl 0 [], H)
    | .slice (some a) len c => match H[a.block]? with
      | some (.cells cs e true) => match sizeP P e with
        | some n =>
          if n0 ≤ a.block ∧ a.off + len * n ≤ cs.length then
            let r := frzL (frz P n0 k) ((cs.drop a.off).take (len * n)) (H.set a.block .dead)
            (tSl len r.1, r.2)
          else (.slice (some a) len c, H)
        | none => (.slice (some a) len c, H)
      | _ => (.slice (some a) len c, H)
    | .agg cs =>
      let r := frzL (frz P n0 k) cs.toList H
      (.agg r.1.toArray, r.2)
    | v => (v, H)

/-- n cells of a block from a place on -/
def cellsAt (H : List Blk) (b off n : Nat) : Option (List Value) :=
  match H[b]? with
  | some (.cells cs _ _) => if off + n ≤ cs.length then some ((cs.drop off).take n) else none
  | _ => none

def cellAt (H : List Blk) (b off : Nat) : Option Value :=
  match H[b]? with
  | some (.cells cs _ _) => cs[off]?
  | _ => none

/-- cells are written over a row's -/
def putCells (cs : List Value) (off : Nat) (vs : List Value) : List Value := cs.take off ++ vs ++ cs.drop (off + vs.length)

def allCells (l : List Value) : Bool := l.all cellV

/-- cells are stored -/
def storeL (st : AS) (b off : Nat) (vs : List Value) : Option AS :=
  match st.H[b]? with
  | some (.cells cs e true) =>
    if off + vs.length ≤ cs.length ∧ allCells vs = true then
      some ⟨st.H.set b (.cells (putCells cs off vs) e true), escOf st.esc b (lrefs vs)⟩
    else none
  | _ => none

/-- a new block -/
def newBlk (st : AS) (k : Blk) : AS := ⟨st.H ++ [k], st.esc⟩
def newPtr (st : AS) : Value := .pointer (some ⟨st.H.length, 0, none⟩)

/- What will never be written again stands in the value itself: '.iface len (.tuple row)' is a slice of so many elements with its cells, '.iface off (.agg row)' a pointer into such cells. -/
def aLoad (isAgg : Bool) (size : Nat) (st : AS) : Value → Option Value
  | .pointer (some a) => if isAgg then (cellsAt st.H a.block a.off size).map fun l => .agg l.toArray else cellAt st.H a.block a.off
  | .iface off (.agg row) => tLoad isAgg size off row
  | _ => none

def aStore (size : Nat) (st : AS) (p v : Value) : Option AS :=
  match p with
  | .pointer (some a) => if v.cells.toList.length = size then storeL st a.block a.off v.cells.toList else none
  | _ => none

def aBox (elem : TypeId) (v : Value) (st : AS) : Option (Value × AS) :=
  if allCells v.cells.toList then some (newPtr st, newBlk st (.cells v.cells.toList elem true)) else none

def aBuild (P : Program) (t : TypeId) (parts : List (Nat × Value)) : Option Value :=
  match zeroP P t with
  | some z => if plainL z.cells.toList = true ∧ (parts.all fun p => allCells p.2.cells.toList) = true then pureRun P (Instr.build t parts.toArray) else none
  | none => none

def aRow (elem : TypeId) (cells : List Value) (len cap : Nat) (st : AS) : Value × AS :=
  (.slice (some ⟨st.H.length, 0, none⟩) len cap, newBlk st (.cells cells elem true))

def aBuildSlice (P : Program) (t : TypeId) (len : Nat) (parts : List (Nat × Value)) (st : AS) : Option (Value × AS) :=
  match P.underlying t with
  | some (.slice elem) =>
    match sizeP P elem, zeroP P elem with
    | some size, some zero =>
      if len * size ≤ 16777216 ∧ 0 < size ∧ zero.cells.size = size ∧ (parts.all fun p => allCells p.2.cells.toList) = true ∧ allCells zero.cells.toList = true ∧ plainL zero.cells.toList = true then
        match Instr.fill (fun i => some (i * size, size)) ((Array.range (len * size)).map (zero.cells[· % zero.cells.size]!)) parts with
        | some cells => some (aRow elem cells.toList len len st)
        | none => none
      else none
    | _, _ => none
  | _ => none

def aFieldAddr (P : Program) (s : TypeId) (x : Value) (f : Nat) : Option Value :=
  match P.underlying s, x with
  | some (.struct fields), .pointer (some a) =>
    match fields[f]? with
    | some fd => match sizeP P fd.type with
      | some n => if n = 0 then none else some (.pointer (some (a.add fd.offset)))
      | none => none
    | none => none
  | some (.struct fields), .iface off (.agg row) =>
    match fields[f]? with
    | some fd => match sizeP P fd.type with
      | some n => if n = 0 then none else some (tField off fd.offset row)
      | none => none
    | none => none
  | _, _ => none

def aIndexAddr (P : Program) (t : TypeId) (x ix : Value) : Option Value :=
  match P.underlying t, x, ix with
  | some (.slice elem), .slice (some a) len _, .int _ i =>
    match sizeP P elem with
    | some n => if 0 ≤ i ∧ i < len then some (.pointer (some (a.add (i.toNat * n)))) else none
    | none => none
  | some (.array len elem), .pointer (some a), .int _ i =>
    match sizeP P elem with
    | some n => if 0 ≤ i ∧ i < len then some (.pointer (some (a.add (i.toNat * n)))) else none
    | none => none
  | some (.slice elem), .iface len (.tuple row), .int _ i =>
    match sizeP P elem with
    | some n => tIndex n len 0 i row
    | none => none
  | some (.array len elem), .iface off (.agg row), .int _ i =>
    match sizeP P elem with
    | some n => tIndex n len off i row
    | none => none
  | _, _, _ => none

/-- the bounds of a slice expression: low, high, and the new capacity -/
def aBounds (len cap : Nat) (lo hi mx : Option Value) : Option (Nat × Nat × Nat) :=
  let lim := if cap = UNK then len else cap
  let num : Option Value → Nat → Option Nat := fun o d => match o with
    | none => some d
    | some (.int _ i) => if 0 ≤ i then some i.toNat else none
    | _ => none
  match num lo 0, num hi len, num mx lim with
  | some l, some h, some m =>
    if l ≤ h ∧ h ≤ m ∧ m ≤ lim ∧ (mx.isSome = true → hi.isSome = true) ∧ m < UNK then some (l, h, if cap = UNK ∧ mx.isNone = true then UNK else m - l) else none
  | _, _, _ => none

def isPlainO : Option Value → Bool
  | none => true
  | some v => plain v

def aSlice (P : Program) (t : TypeId) (x : Value) (lo hi mx : Option Value) (st : AS) : Option Value :=
  match P.underlying t, x with
  | some (.slice elem), .slice a len cap =>
    match sizeP P elem, aBounds len cap lo hi mx with
    | some n, some (l, h, c) =>
      match a with
      | some a =>
        if c = UNK then
          match st.H[a.block]? with
          | some (.cells _ e _) => if sizeP P e = some n then some (.slice (some (a.add (l * n))) (h - l) c) else none
          | _ => none
        else some (.slice (some (a.add (l * n))) (h - l) c)
      | none => if len = 0 ∧ cap = 0 then some (.slice none 0 0) else none
    | _, _ => none
  | some (.array k elem), .pointer (some a) =>
    match sizeP P elem, aBounds k k lo hi mx with
    | some n, some (l, h, c) => if k = UNK then none else some (.slice (some (a.add (l * n))) (h - l) c)
    | _, _ => none
  | some (.slice elem), .iface len (.tuple row) =>
    match sizeP P elem, aBounds len UNK lo hi mx with
    | some n, some (l, h, _) => tSlice n len 0 l h row
    | _, _ => none
  | some (.array k elem), .iface off (.agg row) =>
    match sizeP P elem, aBounds k k lo hi mx with
    | some n, some (l, h, _) => tSlice n k off l h row
    | _, _ => none
  | some .string, .string s => if isPlainO lo = true ∧ isPlainO hi = true ∧ mx.isNone = true then (pureRun P (Instr.slice t (.string s) lo hi none)).bind fun v => if plain v = true then some v else none else none
  | _, _ => none

/-- is one operand the bare nil, of the other's kind? -/
def aNilEq : TypeDesc → Value → Value → Option Bool
  | .pointer _, .pointer (some _), .pointer none | .pointer _, .pointer none, .pointer (some _) => some false
  | .slice _, .slice (some _) _ _, .slice none _ _ | .slice _, .slice none _ _, .slice (some _) _ _ => some false
  | .map _ _, .map (some _), .map none | .map _ _, .map none, .map (some _) => some false
  | .func _ _ _, .func _ _ _, .nilFunc | .func _ _ _, .nilFunc, .func _ _ _ => some false
  | _, _, _ => none

def aBin (P : Program) (op : BinOp) (t : TypeId) (ox oy : Operand) (x y : Value) : Option Value :=
  if plain x = true ∧ plain y = true then (pureRun P (do eqGuard op t ox oy x y; binOp op t x y)).bind fun v => if plain v = true then some v else none
  else match op, P.underlying t with
    | .eql, some d => (aNilEq d x y).map .bool
    | .neq, some d => (aNilEq d x y).map fun b => .bool (!b)
    | _, _ => none

def aUn (P : Program) (op : UnOp) (x : Value) : Option Value := if plain x = true then (pureRun P (Op.unary op x)).bind fun v => if plain v = true then some v else none else none

/-- the bytes that cells hold -/
def bytesOf : List Value → Option (List UInt8)
  | [] => some []
  | .int .u8 n :: r => (bytesOf r).map (UInt8.ofNat n.toNat :: ·)
  | _ :: _ => none

def isByte (P : Program) (t : TypeId) : Bool :=
  match P.underlying t, sizeP P t with
  | some (.int .u8), some 1 => true
  | _, _ => false

def aConv (P : Program) (s d : TypeId) (x : Value) (st : AS) : Option (Value × AS) :=
  match P.underlying s, P.underlying d, x with
  | some _, some (.int k), .int _ n => some (.int k (k.wrap n), st)
  | some .string, some .string, .string b => some (.string b, st)
  | some .string, some (.slice e), .string b =>
    if isByte P e then some (aRow e (b.data.toList.map fun c => .int .u8 c.toNat) b.size UNK st) else none
  | some (.slice e), some .string, .slice none _ _ => if isByte P e then some (.string .empty, st) else none
  | some (.slice e), some .string, .slice (some a) len _ =>
    if isByte P e then ((cellsAt st.H a.block a.off len).bind bytesOf).map fun l => (.string ⟨l.toArray⟩, st) else none
  | some (.slice _), some (.slice e), .slice (some a) len c =>
    match st.H[a.block]? with
    | some (.cells _ _ true) => if s = d ∧ isByte P e = true ∧ len ≠ 0 then some (.slice (some a) len c, st) else none
    | _ => none
  | some (.slice e), some .string, .iface len (.tuple row) =>
    if isByte P e = true then ((tStr len row).bind bytesOf).map fun l => (.string ⟨l.toArray⟩, st) else none
  | _, _, _ => none

def aMakeSlice (P : Program) (t : TypeId) (len cap : Value) (st : AS) : Option (Value × AS) :=
  match P.underlying t, len, cap with
  | some (.slice elem), .int _ l, .int _ c =>
    match sizeP P elem, bytesP P elem, zeroP P elem with
    | some size, some bytes, some zero =>
      if 0 ≤ l ∧ l ≤ c ∧ c * bytes ≤ 140737488355328 ∧ c ≤ 140737488355328 ∧ zero.cells.size = size ∧ 0 < size ∧ allCells zero.cells.toList = true ∧ plainL zero.cells.toList = true then
        some (aRow elem ((List.replicate c.toNat zero.cells.toList).flatten) l.toNat c.toNat st)
      else none
    | _, _, _ => none
  | _, _, _ => none

/-- the cells of what is appended, or copied: so many elements -/
def srcCells (size : Nat) (H : List Blk) : Value → Option (Nat × List Value)
  | .slice none n _ => if n = 0 then some (0, []) else none
  | .slice (some a) n _ => (cellsAt H a.block a.off (n * size)).map fun l => (n, l)
  | .string b => if size = 1 then some (b.size, b.data.toList.map fun c => .int .u8 c.toNat) else none
  | .iface n (.tuple row) => tSrc n size row
  | _ => none

def aAppend (P : Program) (argTypes : Array TypeId) (x y : Value) (st : AS) : Option (Value × AS) :=
  match argTypes.toList with
  | [sType, xType] => match P.underlying sType with
    | some (.slice elem) =>
      match sizeP P elem, bytesP P elem, zeroP P elem, srcCells ((sizeP P elem).getD 0) st.H y with
      | some size, some bytes, some zero, some (n, new) =>
        if (match P.underlying xType with | some (.slice _) | some .string => true | _ => false) = true ∧ size ≠ 0 ∧ bytes ≠ 0 ∧ zero.cells.size = size then
          match x with
          | .slice none len cap =>
            if len = 0 ∧ cap = 0 then
              if n = 0 then some (x, st) else if n * bytes ≤ 140737488355328 then some (aRow elem new n UNK st) else none
            else none
          | .slice (some a) len cap =>
            if n = 0 then some (x, st)
            else if (len + n) * bytes ≤ 140737488355328 then
              if cap ≠ UNK then
                if len + n ≤ cap then (storeL st a.block (a.off + len * size) new).map fun s => (.slice (some a) (len + n) cap, s)
                else (cellsAt st.H a.block a.off (len * size)).map fun old => aRow elem (old ++ new) (len + n) UNK st
              else match st.H[a.block]? with
                | some (.cells cs et true) =>
                  if et = elem ∧ a.off + len * size ≤ cs.length then
                    some (aRow elem ((cs.drop a.off).take (len * size) ++ new) (len + n) UNK ⟨st.H.set a.block .dead, st.esc⟩)
                  else none
                | _ => none
            else none
          | _ => none
        else none
      | _, _, _, _ => none
    | _ => none
  | _ => none

def aCopy (P : Program) (argTypes : Array TypeId) (dst src : Value) (st : AS) : Option (Value × AS) :=
  match argTypes[0]? with
  | none => none
  | some t => match P.underlying t with
    | some (.slice elem) =>
      match sizeP P elem, srcCells ((sizeP P elem).getD 0) st.H src, dst with
      | some size, some (m, cells), .slice (some a) len _ =>
        if min m len = 0 then some (.int .i64 0, st) else
        (storeL st a.block a.off (cells.take (min m len * size))).map fun s => (.int .i64 (min m len : Nat), s)
      | some _, some (_, _), .slice none len _ => if len = 0 then some (.int .i64 0, st) else none
      | _, _, _ => none
    | _ => none

def aLen (P : Program) (t : TypeId) (x : Value) (st : AS) : Option Value :=
  match P.underlying t, x with
  | some .string, .string s => some (.int .i64 s.size)
  | some (.slice _), .slice _ n _ => some (.int .i64 n)
  | some (.slice _), .iface n (.tuple _) => some (tLen n)
  | some (.array n _), _ => some (.int .i64 n)
  | some (.map _ _), .map none => some (.int .i64 0)
  | some (.map _ _), .map (some r) => match st.H[r]? with
    | some (.map es _) => some (.int .i64 es.length)
    | _ => none
  | _, _ => none

/-- where a key stands among entries -/
def keyIx (P : Program) (kt : TypeId) (k : Value) : List MapEntry → Nat → Option (Option Nat)
  | [], _ => some none
  | e :: es, i => match pureRun P (Op.equal kt k e.key) with
    | some true => some (some i)
    | some false => keyIx P kt k es (i + 1)
    | none => none

def aLookup (P : Program) (t : TypeId) (m k : Value) (ok : Bool) (st : AS) : Option Value :=
  match P.underlying t with
  | some (.map key elem) =>
    match (match m with | .map none => some [] | .map (some r) => (match st.H[r]? with | some (.map es _) => some es | _ => none) | _ => none), zeroP P elem with
    | some es, some zero =>
      if plain k = true ∧ plain zero = true ∧ (pureRun P (Instr.checkKey es.isEmpty 10000 key k)).isSome = true ∧ (es.all fun e => plain e.key) = true then
        match keyIx P key k es 0 with
        | some (some i) => (es[i]?).map fun e => if ok then .tuple #[e.val, .bool true] else e.val
        | some none => some (if ok then .tuple #[zero, .bool false] else zero)
        | none => none
      else none
    | _, _ => none
  | _ => none

def aMapUpdate (P : Program) (t : TypeId) (m k v : Value) (st : AS) : Option AS :=
  match P.underlying t, m with
  | some (.map key _), .map (some r) =>
    match st.H[r]? with
    | some (.map es clock) =>
      if plain k = true ∧ (pureRun P (Instr.checkKey false 10000 key k)).isSome = true ∧ (es.all fun e => plain e.key) = true then
        match keyIx P key k es 0 with
        | some (some i) =>
          match es[i]? with
          | some e => if Instr.sameBits 10000 e.key k = true then
              some ⟨st.H.set r (.map (es.set i { e with key := k, val := v }) clock), escOf st.esc r (vrefs v)⟩ else none
          | none => none
        | some none => some ⟨st.H.set r (.map (es ++ [{ key := k, val := v, born := clock }]) (clock + 1)), escOf st.esc r (vrefs v)⟩
        | none => none
      else none
    | _ => none
  | _, _ => none

def aDelete (P : Program) (argTypes : Array TypeId) (m k : Value) (st : AS) : Option AS :=
  match (argTypes[0]?).bind P.underlying, m with
  | some (.map key _), .map (some r) =>
    match st.H[r]? with
    | some (.map es clock) =>
      if plain k = true ∧ (pureRun P (Instr.checkKey es.isEmpty 10000 key k)).isSome = true ∧ (es.all fun e => plain e.key) = true then
        match keyIx P key k es 0 with
        | some (some i) => some ⟨st.H.set r (.map (es.eraseIdx i) clock), st.esc⟩
        | some none => some st
        | none => none
      else none
    | _ => none
  | _, _ => none

/-- a walk over a map begins -/
def aRange (P : Program) (t : TypeId) (x : Value) (st : AS) : Option (Value × AS) :=
  match P.underlying t, x with
  | some (.map _ _), .map none => some (newPtr st, newBlk st (.iter none 0 [] 0))
  | some (.map _ _), .map (some r) => match st.H[r]? with
    | some (.map _ clock) => some (newPtr st, newBlk st (.iter (some r) clock [] clock))
    | _ => none
  | _, _ => none

/-- what a walk may hand out next: so many ways, and each way's value and memory -/
def aNext (x : Value) (st : AS) : Option (Nat × (Nat → Value × AS)) :=
  match x with
  | .pointer (some ⟨b, 0, none⟩) => match st.H[b]? with
    | some (.iter none _ _ _) => some (1, fun _ => (.tuple #[.bool false], st))
    | some (.iter (some r) since seen stepped) => match st.H[r]? with
      | some (.map es clock) =>
        if (es.all fun e => decide (e.born < since)) = true ∧ since ≤ stepped then
          match es.filter fun e => !seen.contains e.born with
          | [] => some (1, fun _ => (.tuple #[.bool false], st))
          | e0 :: l => some (l.length + 1, fun i =>
            (.tuple #[.bool true, ((e0 :: l).getD i e0).key, ((e0 :: l).getD i e0).val], ⟨st.H.set b (.iter (some r) since (seen ++ [((e0 :: l).getD i e0).born]) clock), st.esc⟩))
        else none
      | _ => none
    | _ => none
  | _ => none

/-- what it handed out -/
def aEntry (x : Value) (st : AS) : Option Value :=
  match x with
  | .pointer (some ⟨b, 0, none⟩) => match st.H[b]? with
    | some (.iter (some r) _ seen stepped) => match seen.getLast?, st.H[r]? with
      | some q, some (.map es clock) => if clock = stepped then (es.find? (·.born == q)).map fun e => .tuple #[e.key, e.val] else none
      | _, _ => none
    | _ => none
  | _ => none

/-- a slice's row as an array: its address -/
def aArr (P : Program) (t : TypeId) (x : Value) : Option Value :=
  match P.underlying t, x with
  | some (.array n _), .slice (some a) len _ => if 0 < n ∧ n ≤ len then some (.pointer (some a)) else none
  | some (.array n _), .iface len (.tuple row) => if 0 < n ∧ n ≤ len then some (tPtr 0 row) else none
  | _, _ => none

def ev (fr : List Value) : Operand → Value
  | .tmp t => fr.getD t unk
  | .const v => if plain v then v else unk
  | .global _ => unk
  | .func f => .func (.func f) #[] #[]

def aMinMax (isMax : Bool) : List Value → Option Value
  | .int k x :: rest => rest.foldlM (init := .int k x) fun a b => match a, b with
    | .int k x, .int k' y => if k = k' then some (.int k (if isMax then (if y > x then y else x) else (if y < x then y else x))) else none
    | _, _ => none
  | _ => none

/-- the function that a function value names, and what is handed to it -/
def aFn (P : Program) (f : Value) (args : List Value) : Option (FuncId × List Value) :=
  match f with
  | .func (.func g) first captured =>
    match P.funcs[g]? with
    | some fn => if fn.body.isSome = true ∧ (fn.name == "runtime.NumGoroutine") = false then some (g, first.toList ++ args ++ captured.toList) else none
    | none => none
  | _ => none

def joinEsc : Option Nat → Option Nat → Option Nat
  | e, none => e
  | e, some b => minO e b

/-- what a call of a function comes to: its value, the blocks behind it, and what escaped -/
abbrev Callee := FuncId → List Value → List Blk → Option (Value × List Blk × Option Nat)

section
variable {R : Type}

def eBuiltin (P : Program) (b : Builtin) (argTypes : Array TypeId) (args : List Value) (st : AS) (k : Value → AS → Option R) : Option R :=
  match b, args with
  | .len, [x] => (argTypes[0]?).bind fun t => (aLen P t x st).bind (k · st)
  | .append, [x, y] => (aAppend P argTypes x y st).bind fun r => k r.1 r.2
  | .copy, [x, y] => (aCopy P argTypes x y st).bind fun r => k r.1 r.2
  | .delete, [x, y] => (aDelete P argTypes x y st).bind fun s => k (.tuple #[]) s
  | .max, l => (aMinMax true l).bind (k · st)
  | .min, l => (aMinMax false l).bind (k · st)
  | _, _ => none

def aPick (c a b : Value) : Option Value :=
  match c with
  | .bool true => some a
  | .bool false => some b
  | _ => none

def aNil (x : Value) : Option Value :=
  match x with
  | .pointer (some a) => some (.pointer (some a))
  | .iface o (.agg row) => some (.iface o (.agg row))
  | .func (.func f) a b => some (.func (.func f) a b)
  | _ => none

/-- one operation, and what comes behind it -/
def eop (P : Program) (C : Callee) (fr : List Value) (st : AS) (o : Oper) (k : Value → AS → Option R) : Option R :=
  match o.op with
  | .move x | .assign x => k (ev fr x) st
  | .pick c a b => (aPick (ev fr c) (ev fr a) (ev fr b)).bind (k · st)
  | .alloc elem => (zeroP P elem).bind fun z => if plainL z.cells.toList = true then (aBox elem z st).bind fun r => k r.1 r.2 else none
  | .box elem x => (aBox elem (ev fr x) st).bind fun r => k r.1 r.2
  | .build t parts => (aBuild P t (parts.toList.map fun p => (p.1, ev fr p.2))).bind (k · st)
  | .buildSlice t len parts => 
    let q := frzL (frz P 0 8) (parts.toList.map fun p => ev fr p.2) st.H
    (aBuildSlice P t len ((parts.toList.map (·.1)).zip q.1) ⟨q.2, st.esc⟩).bind fun r => k r.1 r.2
  | .load t a => match isAggP P t, sizeP P t with | some g, some n => (aLoad g n st (ev fr a)).bind (k · st) | _, _ => none
  | .store t a x => match sizeP P t with | some n => (aStore n st (ev fr a) (ev fr x)).bind fun s => k undef s | none => none
  | .nilCheck x => (aNil (ev fr x)).bind (k · st)
  | .binOp op t x y _ => (aBin P op t x y (ev fr x) (ev fr y)).bind (k · st)
  | .unOp op _ x => (aUn P op (ev fr x)).bind (k · st)
  | .convert s d x => (aConv P s d (ev fr x) st).bind fun r => k r.1 r.2
  | .makeFunc fn first captured => match fn with
    | .func f => k (.func (.func f) (first.toList.map (ev fr)).toArray (captured.toList.map (ev fr)).toArray) st
    | _ => none
  | .makeMap _ none => k (.map (some st.H.length)) (newBlk st (.map [] 0))
  | .makeSlice t l c => (aMakeSlice P t (ev fr l) (ev fr c) st).bind fun r => k r.1 r.2
  | .slice t x lo hi mx => (aSlice P t (ev fr x) (lo.map (ev fr)) (hi.map (ev fr)) (mx.map (ev fr)) st).bind (k · st)
  | .fieldAddr s x f => (aFieldAddr P s (ev fr x) f).bind (k · st)
  | .field t x f => (pureRun P (Instr.field t (ev fr x) f)).bind (k · st)
  | .indexAddr t x ix => (aIndexAddr P t (ev fr x) (ev fr ix)).bind (k · st)
  | .index t x ix => if plain (ev fr ix) = true then (pureRun P (Instr.index t (ev fr x) (ev fr ix))).bind (k · st) else none
  | .lookup t m ky ok => (aLookup P t (ev fr m) (ev fr ky) ok st).bind (k · st)
  | .mapUpdate t m ky x => (aMapUpdate P t (ev fr m) (ev fr ky) (ev fr x) st).bind fun s => k undef s
  | .insert t m ky x => (aMapUpdate P t (ev fr m) (ev fr ky) (ev fr x) st).bind fun s => k undef s
  | .sliceToArrayPointer t x => (aArr P t (ev fr x)).bind (k · st)
  | .range t x => (aRange P t (ev fr x) st).bind fun r => k r.1 r.2
  | .entry x => (aEntry (ev fr x) st).bind (k · st)
  | .extract t ix => (pureRun P (Instr.extract (ev fr t) ix)).bind (k · st)
  | .call c => match c.callee with
    | .value f => (aFn P (ev fr f) (c.args.toList.map (ev fr))).bind fun g => (C g.1 g.2 st.H).bind fun r => k r.1 ⟨r.2.1, joinEsc st.esc r.2.2⟩
    | .builtin b => eBuiltin P b c.argTypes (c.args.toList.map (ev fr)) st k
    | .invoke _ _ => none
  | _ => none

def setD (fr : List Value) (d : Option Tmp) (v : Value) : List Value :=
  match d with
  | some d => fr.set d v
  | none => fr

/-- is it so? Behind it the bool is known. -/
def bcase (v : Value) (a b : Option R) : Option R :=
  match v with
  | .bool true => a
  | .bool false => b
  | _ => none

/-- a region's operations, by their numbers, in an order; skipped: those that were not wanted; behind each one it is asked whether 'chk' holds -/
def eops (P : Program) (C : Callee) (ops : Array Oper) (chk : Nat → List Value → AS → Bool) : List Nat → List Nat → List Value → AS → (List Value → AS → Option R) → Option R
  | [], _, fr, st, k => k fr st
  | i :: is, sk, fr, st, k =>
    match ops[i]? with
    | none => none
    | some o =>
      match o.guard with
      | none => eop P C fr st o fun v s => if chk i (setD fr o.dst v) s = true then eops P C ops chk is sk (setD fr o.dst v) s k else none
      | some (j, want) =>
        match (ops[j]?).bind (·.dst) with
        | none => none
        | some d =>
          if sk.contains j = true then
            match fr.getD d unk with
            | .tuple _ => eops P C ops chk is (i :: sk) (setD fr o.dst undef) st k
            | _ => none
          else
            bcase (fr.getD d unk)
              (if want = true then eop P C (fr.set d (.bool true)) st o fun v s => if chk i (setD (fr.set d (.bool true)) o.dst v) s = true then eops P C ops chk is sk (setD (fr.set d (.bool true)) o.dst v) s k else none
                else eops P C ops chk is (i :: sk) (setD (fr.set d (.bool true)) o.dst undef) st k)
              (if want = true then eops P C ops chk is (i :: sk) (setD (fr.set d (.bool false)) o.dst undef) st k
                else eop P C (fr.set d (.bool false)) st o fun v s => if chk i (setD (fr.set d (.bool false)) o.dst v) s = true then eops P C ops chk is sk (setD (fr.set d (.bool false)) o.dst v) s k else none)

def noChk : Nat → List Value → AS → Bool := fun _ _ _ => true

inductive AEx where
  | normal
  | exit (id : Nat)
  | ret
  deriving DecidableEq, Inhabited

/-- the number of the first region of some code -/
def firstRegion : Code → Option Nat
  | .region id _ _ => some id
  | .seq a b => match firstRegion a with | some r => some r | none => firstRegion b
  | .cond _ a b => match firstRegion a with | some r => some r | none => firstRegion b
  | .block _ b | .loop b | .scope b => firstRegion b
  | _ => none

/-- of a frame only some slots are kept -/
def keepGo (l : List Nat) (fr : List Value) : Nat → Nat → List Value
  | 0, _ => []
  | n + 1, i => (if l.contains i = true then fr.getD i unk else unk) :: keepGo l fr n (i + 1)

def keep (n : Nat) (l : Option (List Nat)) (fr : List Value) : List Value :=
  match l with
  | none => fr
  | some l => keepGo l fr n 0

/-- what of a loop's frame is live at its head, and behind it -/
structure Tab where
  at_ : Nat → Option (List Nat)
  out : Nat → Option (List Nat)
  /-- are its results left as they are? -/
  keep : Bool := false
  /-- where ways come together: the slots that are live there -/
  jn : Nat → Option (List Nat) := fun _ => none
  /-- where ways come together: do the slots become values of their own there? -/
  fz : Nat → Bool := fun _ => false
  /-- has it no arguments, says it true whatever, and leaves all as it was? -/
  lives : Bool := false

/-- is a thing told of a region? -/
def Tab.on (T : Tab) : Option Nat → Bool
  | some i => T.fz i
  | none => false

/-- rounds, until one ends them -/
def rounds {σ ρ : Type} (step : σ → Option (σ ⊕ ρ)) : Nat → σ → Option ρ
  | 0, _ => none
  | n + 1, s => match step s with
    | none => none
    | some (.inr r) => some r
    | some (.inl s') => rounds step n s'

open Classical in
/-- rounds without a bound -/
noncomputable def loopW {σ ρ : Type} (step : σ → Option (σ ⊕ ρ)) (s : σ) : Option ρ :=
  if h : ∃ n r, rounds step n s = some r then some (Classical.choose (Classical.choose_spec h)) else none
end

/-- the blocks from n on that some values lead to, in the order in which they are met -/
def reach (H : List Blk) (n : Nat) : Nat → List Nat → List Nat → List Nat
  | 0, _, acc => acc
  | _ + 1, [], acc => acc
  | fuel + 1, r :: rs, acc =>
    if r < n then reach H n fuel rs acc
    else if acc.contains r = true then reach H n fuel rs acc
    else reach H n fuel ((match H[r]? with
      | some (.cells cs _ _) => lrefs cs
      | some (.map es _) => es.flatMap fun e => vrefs e.key ++ vrefs e.val
      | some (.iter m _ _ _) => m.toList
      | _ => []) ++ rs) (acc ++ [r])

def findIx (r : Nat) : List Nat → Nat → Option Nat
  | [], _ => none
  | x :: xs, i => if x = r then some i else findIx r xs (i + 1)

/-- the new number of a block -/
def renum (n : Nat) (kept : List Nat) (r : Nat) : Nat := if r < n then r else match findIx r kept 0 with | some i => n + i | none => r

def renBlk (σ : Nat → Nat) : Blk → Blk
  | .cells cs e o => .cells (lren σ cs) e o
  | .map es c => .map (es.map fun e => { key := vren σ e.key, val := vren σ e.val, born := e.born }) c
  | .iter m a b c => .iter (m.map σ) a b c
  | .dead => .dead

/-- are all blocks that are named there, or below n? -/
def closed (n : Nat) (kept : List Nat) (l : List Nat) : Bool := l.all fun r => decide (r < n) || kept.contains r

def blkRefs : Blk → List Nat
  | .cells cs _ _ => lrefs cs
  | .map es _ => es.flatMap fun e => vrefs e.key ++ vrefs e.val
  | .iter m _ _ _ => m.toList
  | .dead => []

/-- was nothing of block n or later stored into an earlier one? -/
def escOk (n : Nat) : Option Nat → Bool
  | none => true
  | some b => decide (n ≤ b)

/-- what is not led to is struck, from block n on; nothing is struck if a block below n may name a later one -/
def gc (n : Nat) (vs : List Value) (st : AS) : List Value × AS :=
  if escOk n st.esc = true then
    let kept := reach st.H n (st.H.length * 64 + 4096) (lrefs vs) []
    let new := kept.map fun r => st.H.getD r .dead
    if closed n kept (lrefs vs) = true ∧ (new.all fun b => closed n kept (blkRefs b)) = true ∧ n ≤ st.H.length then
      (lren (renum n kept) vs, ⟨st.H.take n ++ new.map (renBlk (renum n kept)), none⟩)
    else (vs, st)
  else (vs, st)

def escBelow (n : Nat) : Option Nat → Option Nat
  | none => none
  | some b => if b < n then some b else none

section
variable {R : Type}

/-- a way to do rounds; ahead of each one what is not led to is struck, from a block on; to do rounds of which each may go several ways, and to go all of so many ways to one end -/
structure Loops where
  run : Nat → (List Value × AS → Option ((List Value × AS) ⊕ (AEx × List Value × AS))) → List Value × AS → Option (AEx × List Value × AS)
  any : {R : Type} → Nat → (((List Value × AS) ⊕ (AEx × List Value × AS) → Option R) → List Value × AS → Option R) → List Value × AS → (AEx × List Value × AS → Option R) → Option R
  all : {R : Type} → Nat → (Nat → Option R) → Option R

instance : CoeFun Loops (fun _ => Nat → (List Value × AS → Option ((List Value × AS) ⊕ (AEx × List Value × AS))) → List Value × AS → Option (AEx × List Value × AS)) := ⟨Loops.run⟩

/-- a round, with what stands ahead of it -/
def headed (n0 : Nat) (step : List Value × AS → Option ((List Value × AS) ⊕ (AEx × List Value × AS))) : List Value × AS → Option ((List Value × AS) ⊕ (AEx × List Value × AS)) := fun s => step (gc n0 s.1 s.2)

/-- rounds, each with what comes behind it, until one ends them -/
def roundsK (n0 : Nat) (step : ((List Value × AS) ⊕ (AEx × List Value × AS) → Option R) → List Value × AS → Option R) (k : AEx × List Value × AS → Option R) : Nat → List Value × AS → Option R
  | 0, _ => none
  | n + 1, s => step (fun x => match x with | .inl s' => roundsK n0 step k n s' | .inr r => k r) (gc n0 s.1 s.2)

open Classical in
/-- all of so many ways -/
noncomputable def allW (n : Nat) (f : Nat → Option R) : Option R :=
  if h : 0 < n ∧ ∃ r, ∀ i, i < n → f i = some r then some (Classical.choose h.2) else none

open Classical in
/-- rounds without a bound -/
noncomputable def anyW (n0 : Nat) (step : ((List Value × AS) ⊕ (AEx × List Value × AS) → Option R) → List Value × AS → Option R) (s : List Value × AS) (k : AEx × List Value × AS → Option R) : Option R :=
  if h : ∃ r n, ∀ m, n ≤ m → roundsK n0 step k m s = some r then some (Classical.choose h) else none

noncomputable def loopG : Loops := ⟨fun n0 step => loopW (headed n0 step), anyW, allW⟩

/-- with a bound for the rounds -/
def loopB (b : Nat) : Loops := ⟨fun n0 step => rounds (headed n0 step) b, fun n0 step s k => roundsK n0 step k b s, fun n f => if n = 1 then f 0 else none⟩

mutual
/-- are two values the very same? -/
def veq : Value → Value → Bool
  | .bool a, .bool b => a == b
  | .int j a, .int k b => decide (j = k) && decide (a = b)
  | .float j a, .float k b => decide (j = k) && a == b
  | .string a, .string b => decide (a.data.toList = b.data.toList)
  | .pointer none, .pointer none => true
  | .pointer (some a), .pointer (some b) => decide (a = b)
  | .slice none l c, .slice none m d => l == m && c == d
  | .slice (some a) l c, .slice (some b) m d => decide (a = b) && l == m && c == d
  | .map none, .map none => true
  | .map (some a), .map (some b) => a == b
  | .nilFunc, .nilFunc => true
  | .agg a, .agg b => veqA a b
  | .tuple a, .tuple b => veqA a b
  | _, _ => false
def veqA : Array Value → Array Value → Bool
  | ⟨a⟩, ⟨b⟩ => veqL a b
def veqL : List Value → List Value → Bool
  | [], [] => true
  | x :: xs, y :: ys => veq x y && veqL xs ys
  | _, _ => false
end

/-- 0: its answer hangs on its operands alone; 1: on memory, too, which it leaves as it is; 2: it may change memory -/
def opClass (P : Program) (o : Oper) : Nat :=
  match o.op with
  | .move _ | .assign _ | .pick .. | .build .. | .nilCheck _ | .binOp .. | .unOp .. | .makeFunc .. | .fieldAddr .. | .field .. | .indexAddr .. | .index .. | .extract .. => 0
  | .convert s d _ => match P.underlying s, P.underlying d with | some (.int _), some (.int _) => 0 | _, _ => 2
  | .load .. | .lookup .. | .slice .. => 1
  | .call c => match c.callee with | .builtin .len => 1 | .builtin .min | .builtin .max => 0 | _ => 2
  | _ => 2

/-- must i be done ahead of j? -/
def ancMask (acc : List Nat) : List Edge → Nat → Nat
  | [], m => m
  | e :: es, m => ancMask acc es (if Region.binds .any e = true then m ||| (1 <<< e.on) ||| acc.getD e.on 0 else m)
def ancGo : List Oper → List Nat → List Nat
  | [], acc => acc
  | o :: os, acc => ancGo os (acc ++ [ancMask acc o.after.toList 0])
def ancSets (ops : Array Oper) : List Nat := ancGo ops.toList []
def anc (ops : Array Oper) (_ j i : Nat) : Bool := ((ancSets ops).getD j 0).testBit i

/-- can an operation come now? -/
def readyB (ops : Array Oper) (listed : Array Bool) (i : Nat) : Bool :=
  !listed.getD i true && ((ops[i]?).map (·.after.all fun e => !Region.binds .any e || listed.getD e.on false)).getD false

def quietB (P : Program) (o : Oper) : Bool := decide (opClass P o < 2)

/-- an order for a region whose order is open: what only reads first -/
def drawOrder (P : Program) (ops : Array Oper) : Nat → Array Bool → List Nat
  | 0, _ => []
  | n + 1, listed =>
    match ((List.range ops.size).filter fun i => readyB ops listed i && ((ops[i]?).map (quietB P)).getD false) ++ (List.range ops.size).filter (readyB ops listed) with
    | [] => []
    | i :: _ => i :: drawOrder P ops n (listed.setIfInBounds i true)

/-- reads that may come ahead of, or behind, an operation -/
def besides (P : Program) (ops : Array Oper) (i : Nat) : List Nat :=
  match ops[i]? with
  | none => []
  | some o => if quietB P o = true then [] else (List.range ops.size).filter fun j => ((ops[j]?).map (opClass P · == 1)).getD false && !anc ops ops.size i j && !anc ops ops.size j i

/-- such reads answer the same behind it -/
def stillSo (P : Program) (ops : Array Oper) (i : Nat) (fr : List Value) (s : AS) : Bool :=
  (besides P ops i).all fun j => match ops[j]? with
    | some o => o.guard.isNone && (match o.dst with
      | some d => (eop P (fun _ _ _ => none) fr s o fun v _ => some (veq v (fr.getD d unk))) == some true
      | none => false)
    | none => false

/-- does what is still to come wait for a quiet operation, or look elsewhere? -/
def quietOk (P : Program) (ops : Array Oper) (i : Nat) (o : Oper) (listed : Array Bool) : Bool :=
  (List.range ops.size).all fun j => j == i || listed.getD j true || anc ops ops.size j i || (match ops[j]? with
    | none => true
    | some u => o.apart ops u && (opClass P o == 0 || quietB P u || (besides P ops j).contains i))

/-- does an order serve? -/
def drawOk (P : Program) (ops : Array Oper) : List Nat → Array Bool → Bool
  | [], listed => (List.range ops.size).all fun i => listed.getD i true
  | i :: is, listed =>
    (match ops[i]? with
    | none => false
    | some o => readyB ops listed i && (if quietB P o = true then quietOk P ops i o listed else (o.guard.isNone || (besides P ops i).isEmpty) && (List.range ops.size).all fun j => j == i || !readyB ops listed j)) &&
    drawOk P ops is (listed.setIfInBounds i true)

/-- what a read looks at, and where its answer goes, is written by nothing that does not come ahead of it -/
def readsApart (P : Program) (ops : Array Oper) : Bool :=
  (List.range ops.size).all fun j => match ops[j]? with
    | none => true
    | some u => opClass P u != 1 || (match u.dst with
      | none => false
      | some d => !(u.looksAt ops).contains d && (List.range ops.size).all fun i => i == j || (match ops[i]? with
        | none => true
        | some o => o.dst != some d && (match o.dst with
          | none => true
          | some e => !(u.looksAt ops).contains e || anc ops ops.size j i)))

def drawPlan (P : Program) (ops : Array Oper) : Option (List Nat × (Nat → List Value → AS → Bool)) :=
  let ord := drawOrder P ops ops.size (Array.replicate ops.size false)
  if P.follows .mixedOrders = true ∧ readsApart P ops = true ∧ drawOk P ops ord (Array.replicate ops.size false) = true then some (ord, stillSo P ops) else none

/-! Blocks that are made in no order with a call: they are taken to be made behind it. -/

/-- a literal -/
def litV : Value → Bool
  | .bool _ | .int _ _ | .string _ => true
  | _ => false

/-- does an operation make a block, whatever else is there? -/
def lateB (o : Oper) : Bool :=
  match o.op with
  | .alloc _ | .makeMap _ none | .buildSlice .. => true
  | _ => false

/-- and does it make it of literals? -/
def lateOk (P : Program) (fr : List Value) (o : Oper) : Bool :=
  match o.op with
  | .alloc _ | .makeMap _ none => true
  | .buildSlice _ len parts => (parts.toList.map fun p => ev fr p.2).all litV && decide (len < UNK)
  | _ => false

/-- the block, and its name -/
def lateK (P : Program) (fr : List Value) (o : Oper) : Option (Blk × (Nat → Value)) :=
  match o.op with
  | .alloc elem => match zeroP P elem with
    | some z => if plainL z.cells.toList = true ∧ allCells z.cells.toList = true then some (.cells z.cells.toList elem true, fun n => .pointer (some ⟨n, 0, none⟩)) else none
    | none => none
  | .makeMap _ none => some (.map [] 0, fun n => .map (some n))
  | .buildSlice t len parts =>
    if (parts.toList.map fun p => ev fr p.2).all litV = true ∧ len < UNK then
      match aBuildSlice P t len ((parts.toList.map (·.1)).zip (parts.toList.map fun p => ev fr p.2)) ⟨[], none⟩ with
      | some (_, ⟨[k], _⟩) => some (k, fun n => .slice (some ⟨n, 0, none⟩) len len)
      | _ => none
    else none
  | _ => none

/-- those that stand in no order with another operation that may change memory -/
def lates (P : Program) (ops : Array Oper) : List Nat :=
  (List.range ops.size).filter fun i => ((ops[i]?).map lateB).getD false && (List.range ops.size).any fun j =>
    j != i && ((ops[j]?).map fun o => !quietB P o).getD false && !anc ops ops.size i j && !anc ops ops.size j i

/-- what waits for one of them -/
def restB (ops : Array Oper) (l : List Nat) (j : Nat) : Bool := !l.contains j && l.any (anc ops ops.size j)

/-- they do nothing yet, and what waits for them is not there -/
def holdOps (ops : Array Oper) (l : List Nat) : Array Oper :=
  ((List.range ops.size).map fun i => match ops[i]? with
    | some o => if l.contains i = true then { o with op := .move (.global 0) } else if restB ops l i = true then { o with op := .move (.global 0), dst := none, after := #[], guard := none } else o
    | none => { dst := none, op := .move (.global 0), type := 0, pos := "", after := #[], guard := none }).toArray

def lateFine (P : Program) (ops : Array Oper) (l : List Nat) : Bool :=
  (l.all fun i => match ops[i]? with
    | some o => o.guard.isNone && (match o.dst with
      | some d => (List.range ops.size).all fun j => restB ops l j || (match ops[j]? with
        | some u => (u.dst != some d || j == i) && (anc ops ops.size i j || (match u.dst with | some e => !(o.looksAt ops).contains e | none => true))
        | none => true)
      | none => false)
    | none => false) &&
  ((List.range ops.size).all fun j => (List.range ops.size).all fun i => !restB ops l j || restB ops l i || anc ops ops.size j i) &&
  (l.all fun i => l.all fun j => !anc ops ops.size i j) &&
  ((List.range ops.size).all fun j => restB ops l j || (match ops[j]? with
    | some o => o.after.all fun e => !Region.binds .any e || (decide (e.on < ops.size) && !restB ops l e.on)
    | none => true))

def listedBy (n : Nat) (p : Nat → Bool) : Array Bool := ((List.range n).map p).toArray

def latePlan (P : Program) (nt : Nat) (ops : Array Oper) : Option (Array Oper × List Nat × List Nat × List Nat) :=
  let l := lates P ops
  let opsL := holdOps ops l
  let ord1 := drawOrder P opsL ops.size (listedBy ops.size (restB ops l))
  let ord2 := drawOrder P ops ops.size (listedBy ops.size fun i => !restB ops l i)
  if P.follows .mixedOrders = true ∧ readsApart P opsL = true ∧ drawOk P opsL ord1 (listedBy ops.size (restB ops l)) = true ∧
    readsApart P ops = true ∧ drawOk P ops ord2 (listedBy ops.size fun i => !restB ops l i) = true ∧ lateFine P ops l = true ∧ ord1.length + ord2.length ≤ ops.size ∧ (l.all fun i => match (ops[i]?).bind (·.dst) with | some d => decide (d < nt) | none => false) = true
  then some (opsL, ord1, l, ord2) else none

/-- they are made -/
def eopsLate (P : Program) (C : Callee) (ops : Array Oper) : List Nat → List Value → AS → (List Value → AS → Option R) → Option R
  | [], fr, st, k => k fr st
  | i :: is, fr, st, k => match ops[i]? with
    | none => none
    | some o => if lateOk P fr o = true then eop P C fr st o fun v s => eopsLate P C ops is (setD fr o.dst v) s k else none

/-- of a frame, the slots of a list -/
def packF (l : Option (List Nat)) (fr : List Value) : List Value :=
  match l with
  | none => fr
  | some l => l.map fun i => fr.getD i unk

def unpackGo (l : List Nat) (vs : List Value) : Nat → Nat → List Value
  | 0, _ => []
  | n + 1, i => (match findIx i l 0 with | some j => vs.getD j unk | none => unk) :: unpackGo l vs n (i + 1)

/-- the frame of such slots; all others are unknown -/
def unpackF (nt : Nat) (l : Option (List Nat)) (vs : List Value) : List Value :=
  match l with
  | none => vs
  | some l => unpackGo l vs nt 0

/-- where ways come together: slots that become values of their own -/
def jFrz (P : Program) (n0 : Nat) (vs : List Value) (st : AS) : Bool → List Value × AS
  | true => let q := frzL (frz P n0 8) vs st.H; (q.1, ⟨q.2, st.esc⟩)
  | false => (vs, st)

/-- what a round of a loop comes to: what is live there -/
def loopEnd (li lo : Option (List Nat)) : AEx → List Value → AS → Option ((List Value × AS) ⊕ (AEx × List Value × AS))
  | .normal, fr, st => some (.inl (packF li fr, st))
  | .exit i, fr, st => some (.inr (.exit i, packF lo fr, st))
  | .ret, fr, st => some (.inr (.ret, packF lo fr, st))

/-- does a region begin with a step of a walk? -/
def nextAt (ops : Array Oper) : Option (Operand × Option Tmp) :=
  match ops.toList with
  | [] => none
  | o :: _ => match o.op, o.guard with
    | .next x false, none => some (x, o.dst)
    | _, _ => none

def nextIn : Code → Bool
  | .region _ ops false => (nextAt ops).isSome
  | .seq a _ => nextIn a
  | _ => false

/-- code, and what comes behind it -/
def ecode (P : Program) (T : Tab) (nt n0 : Nat) (C : Callee) (L : Loops) : {R : Type} → Code → List Value → AS → (AEx → List Value → AS → Option R) → Option R
  | _, .skip, fr, st, k => k .normal fr st
  | _, .label _, fr, st, k => k .normal fr st
  | _, .region id ops draw, fr, st, k =>
    if draw = true then
      match drawPlan P ops with
      | none => match latePlan P nt ops with
        | none => none
        | some (opsL, ord1, l, ord2) => eops P C opsL (stillSo P opsL) ord1 [] (keep nt (T.at_ id) fr) st fun fr st => eopsLate P C ops l fr st fun fr st => eops P C ops (stillSo P ops) ord2 [] fr st fun fr st => k .normal fr st
      | some (ord, chk) => eops P C ops chk ord [] (keep nt (T.at_ id) fr) st fun fr st => k .normal fr st
    else match nextAt ops with
      | none => eops P C ops noChk (List.range ops.size) [] (keep nt (T.at_ id) fr) st fun fr st => k .normal fr st
      | some (x, d) => (aNext (ev (keep nt (T.at_ id) fr) x) st).bind fun q => L.all q.1 fun i =>
        eops P C ops noChk (List.range ops.size).tail [] (setD (keep nt (T.at_ id) fr) d (q.2 i).1) (q.2 i).2 fun fr st => k .normal fr st
  | _, .seq a b, fr, st, k => match (firstRegion b).bind T.jn with
    | none => ecode P T nt n0 C L a fr st fun e fr st => match e with
      | .normal => ecode P T nt n0 C L b fr st k
      | .exit i => k (.exit i) fr st
      | .ret => k .ret fr st
    | some l => (ecode P T nt n0 C L a fr st fun e fr st => some (e, packF (some l) fr, st)).bind fun r => match r.1 with
      | .normal => ecode P T nt n0 C L b (unpackF nt (some l) (jFrz P n0 r.2.1 r.2.2 (T.on (firstRegion b))).1) (jFrz P n0 r.2.1 r.2.2 (T.on (firstRegion b))).2 k
      | .exit i => k (.exit i) (unpackF nt (some l) r.2.1) r.2.2
      | .ret => k .ret (unpackF nt (some l) r.2.1) r.2.2
  | _, .cond c a b, fr, st, k => bcase (ev fr c) (ecode P T nt n0 C L a fr st k) (ecode P T nt n0 C L b fr st k)
  | _, .block id b, fr, st, k => ecode P T nt n0 C L b fr st fun e fr st => match e with
    | .normal => k .normal fr st
    | .exit i => if i = id then k .normal fr st else k (.exit i) fr st
    | .ret => k .ret fr st
  | _, .loop b, fr, st, k => if nextIn b = true then
    L.any n0 (fun k' s => ecode P T nt n0 C L b (unpackF nt ((firstRegion b).bind T.at_) s.1) s.2 fun e fr st => (loopEnd ((firstRegion b).bind T.at_) ((firstRegion b).bind T.out) e fr st).bind k')
      (packF ((firstRegion b).bind T.at_) fr, st) fun r => k r.1 (unpackF nt ((firstRegion b).bind T.out) (gc n0 r.2.1 r.2.2).1) (gc n0 r.2.1 r.2.2).2
    else (L.run n0 (fun s => ecode P T nt n0 C L b (unpackF nt ((firstRegion b).bind T.at_) s.1) s.2 (loopEnd ((firstRegion b).bind T.at_) ((firstRegion b).bind T.out))) (packF ((firstRegion b).bind T.at_) fr, st)).bind fun r => k r.1 (unpackF nt ((firstRegion b).bind T.out) r.2.1) r.2.2
  | _, .scope b, fr, st, k => ecode P T nt n0 C L b fr st k
  | _, .exit id, fr, st, k => k (.exit id) fr st
  | _, .ret, fr, st, k => k .ret fr st
  | _, _, _, _, _ => none

/-- a function's results -/
def resultV (P : Program) (fr : List Value) (st : AS) : ResultVar → Option Value
  | .tmp t => some (fr.getD t unk)
  | .cell a t => match isAggP P t, sizeP P t with
    | some g, some n => aLoad g n st (fr.getD a unk)
    | _, _ => none

def resultVs (P : Program) (fr : List Value) (st : AS) : List ResultVar → Option (List Value)
  | [] => some []
  | r :: rs => (resultV P fr st r).bind fun v => (resultVs P fr st rs).bind fun vs => some (v :: vs)

def oneOf : List Value → Value
  | [v] => v
  | vs => .tuple vs.toArray

/-- results become values of their own, unless they are to be kept -/
def endFrz (P : Program) (keep : Bool) (n0 : Nat) (vs : List Value) (H : List Blk) : List Value × List Blk := if keep = true then (vs, H) else frzL (frz P n0 8) vs H

/-- the end of a call -/
def finish (P : Program) (keep : Bool) (n0 : Nat) (rs : List ResultVar) (fr : List Value) (st : AS) : Option (Value × List Blk × Option Nat) :=
  (resultVs P fr st rs).bind fun vs =>
    let q := endFrz P keep n0 vs st.H
    let g := gc n0 q.1 ⟨q.2, st.esc⟩
    some (oneOf g.1, g.2.H, escBelow n0 g.2.esc)

/-- a function's body -/
def ebody (P : Program) (T : FuncId → Tab) (C : Callee) (L : Loops) : Callee := fun f args H =>
  match (T f).lives with
  | true => match args with
    | [] => some (.bool true, H, none)
    | _ :: _ => none
  | false => match P.funcs[f]? with
    | some fn => match fn.body with
      | some c =>
        if args.length ≤ fn.ntmps then
          ecode P (T f) fn.ntmps H.length C L c (args ++ List.replicate (fn.ntmps - args.length) undef) ⟨H, none⟩ fun e fr st => match e with
            | .normal | .ret => finish P (T f).keep H.length fn.results.toList fr st
            | .exit _ => none
        else none
      | none => none
    | none => none
end

/-- calls, so deep at most -/
noncomputable def callN (P : Program) (T : FuncId → Tab) : Nat → Callee
  | 0 => fun _ _ _ => none
  | n + 1 => ebody P T (callN P T n) loopG

/-- the same with a bound for the rounds: it can be reckoned -/
def callF (P : Program) (T : FuncId → Tab) : Nat → Callee
  | 0 => fun _ _ _ => none
  | n + 1 => ebody P T (callF P T n) (loopB (n * 4096 + 4096))

open Classical in
/-- calls without a bound -/
noncomputable def acall (P : Program) (T : FuncId → Tab) : Callee := fun f args H =>
  if h : ∃ n r, callN P T n f args H = some r then some (Classical.choose (Classical.choose_spec h)) else none

end Go.Am
