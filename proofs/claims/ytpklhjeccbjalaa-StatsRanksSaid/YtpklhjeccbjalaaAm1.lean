/- A part of the proof: Am1, Am2, Am3, Am4, Am5. Its conditions: none. -/
import Derived.Calls
import Derived.Orders
import Derived.Laws.Sem
import Derived.Laws.World
import Derived.Laws.Cells
import Derived.Laws.Rows
import Derived.Deep.AppendSrc
import Derived.Deep.Upon
import Derived.Laws.IdiomCopy
set_option linter.all false
set_option linter.unusedVariables false
set_option linter.unusedSimpArgs false
set_option linter.unnecessarySimpa false
section
namespace Go.Am

/-- a value of which nothing is known -/
def unk : Value := .chan none

mutual
/-- no address, nothing unknown: such a value is the same in every memory -/
def plain : Value → Bool
  | .bool _ | .int _ _ | .float _ _ | .string _ | .pointer none | .slice none _ _ | .map none | .nilFunc | .nilIface => true
  | .agg cs => plainA cs
  | .tuple vs => plainA vs
  | .func _ a b => plainA a && plainA b
  | _ => false
def plainA : Array Value → Bool
  | ⟨l⟩ => plainL l
def plainL : List Value → Bool
  | [] => true
  | v :: vs => plain v && plainL vs
end

mutual
/-- the blocks that a value names -/
def vrefs : Value → List Nat
  | .pointer (some a) => [a.block]
  | .slice (some a) _ _ => [a.block]
  | .map (some r) => [r]
  | .chan (some r) => [r]
  | .func _ first captured => arefs first ++ arefs captured
  | .iface _ v => vrefs v
  | .agg cs => arefs cs
  | .tuple vs => arefs vs
  | _ => []
def arefs : Array Value → List Nat
  | ⟨l⟩ => lrefs l
def lrefs : List Value → List Nat
  | [] => []
  | v :: vs => vrefs v ++ lrefs vs
end

mutual
/-- a value, its blocks renamed -/
def vren (σ : Nat → Nat) : Value → Value
  | .pointer (some a) => .pointer (some { a with block := σ a.block })
  | .slice (some a) l c => .slice (some { a with block := σ a.block }) l c
  | .map (some r) => .map (some (σ r))
  | .chan (some r) => .chan (some (σ r))
  | .func f first captured => .func f (aren σ first) (aren σ captured)
  | .iface t v => .iface t (vren σ v)
  | .agg cs => .agg (aren σ cs)
  | .tuple vs => .tuple (aren σ vs)
  | v => v
def aren (σ : Nat → Nat) : Array Value → Array Value
  | ⟨l⟩ => ⟨lren σ l⟩
def lren (σ : Nat → Nat) : List Value → List Value
  | [] => []
  | v :: vs => vren σ v :: lren σ vs
end

/-- one cell's value: no struct, no tuple -/
def cellV : Value → Bool
  | .agg _ | .tuple _ | .chan none => false
  | _ => true

/-- how a walk over a function's values stands: ready for a round, within one, or done: left by that exit, or (none) by the function's end -/
inductive LSt where
  | ready
  | busy
  | done (e : Option Nat)
  deriving DecidableEq, Inhabited

/-- a block: a row of cells (its own, or one that is only read), a map, or one that is gone -/
inductive Blk where
  | cells (cs : List Value) (elem : TypeId) (own : Bool)
  | map (es : List MapEntry) (clock : Nat)
  | iter (m : Option Nat) (since : Nat) (seen : List Nat) (stepped : Nat)
  | loop (me : FuncId) (ps : List Tmp) (assign body : Code) (fr : List Value) (s : LSt)
  | dead
  deriving Inhabited

/-- the blocks, and the least one into which the name of a later one was stored -/
structure AS where
  H : List Blk
  esc : Option Nat

/-- a capacity that is not known -/
def UNK : Nat := 9223372036854775808

def tLoad (isAgg : Bool) (size off : Nat) (row : Array Value) : Option Value :=
  if isAgg then (if off + size ≤ row.size then some (.agg ((row.toList.drop off).take size).toArray) else none) else row.toList[off]?
def tPtr (off : Nat) (row : Array Value) : Value := .iface off (.agg row)
def tSl (len : Nat) (row : List Value) : Value := .iface len (.tuple row.toArray)
def tIndex (size len off : Nat) (i : Int) (row : Array Value) : Option Value := if 0 ≤ i ∧ i < len then some (tPtr (off + i.toNat * size) row) else none
def tSlice (size len off l h : Nat) (row : Array Value) : Option Value := if off + len * size ≤ row.size ∧ len ≠ UNK then some (tSl (h - l) ((row.toList.drop (off + l * size)).take ((h - l) * size))) else none
def tField (off d : Nat) (row : Array Value) : Value := tPtr (off + d) row
def tSrc (n size : Nat) (row : Array Value) : Option (Nat × List Value) := if row.size = n * size ∧ row.toList.all cellV = true then some (n, row.toList) else none
def tStr (len : Nat) (row : Array Value) : Option (List Value) := if row.size = len then some row.toList else none
/-- a slice of which the capacity is its length -/
def tight : Value → Value
  | .iface n x => .iface n (.iface 0 x)
  | v => v
def tApp (n size : Nat) (row : Array Value) (new : List Value) : Option (List Value) := if row.size = n * size ∧ row.toList.all cellV = true then some (row.toList ++ new) else none
def tLen (n : Nat) : Value := .int .i64 n

def frzL (f : Value → List Blk → Value × List Blk) : List Value → List Blk → List Value × List Blk
  | [], H => ([], H)
  | v :: vs, H =>
    let r := f v H
    let q := frzL f vs r.2
    (r.1 :: q.1, q.2)

def minO : Option Nat → Nat → Option Nat
  | none, b => some b
  | some a, b => some (min a b)

/-- what is stored into block b: does it name a later one? -/
def escOf (e : Option Nat) (b : Nat) : List Nat → Option Nat
  | [] => e
  | r :: rs => if b < r then minO e b else escOf e b rs

def pureRun {α : Type} (P : Program) : Sem α → Option α
  | .pure a => some a
  | .program k => pureRun P (k P)
  | .mark _ k => pureRun P k
  | _ => none

def isAggP (P : Program) (t : TypeId) : Option Bool :=
  match P.underlying t with
  | some (.struct _) | some (.array _ _) => some true
  | some _ => some false
  | none => none

def sizeP (P : Program) (t : TypeId) : Option Nat := (P.info? t).map (·.size)
def bytesP (P : Program) (t : TypeId) : Option Nat := (P.info? t).map (·.bytes)
def zeroP (P : Program) (t : TypeId) : Option Value := (P.info? t).bind (·.zero)

/-- own rows, from block n0 on, that a value leads to become part of it: they are never written again -/
def frz (P : Program) (n0 : Nat) : Nat → Value → List Blk → Value × List Blk
  | 0, v, H => (v, H)
  | k + 1, v, H => match v with
    | .slice none 0 0 => (tSl 0 [], H)
    | .slice (some a) len c => match H[a.block]? with
      | some (.cells cs e true) => match sizeP P e with
        | some n =>
          if n0 ≤ a.block ∧ a.off + len * n ≤ cs.length then
            let r := frzL (frz P n0 k) ((cs.drop a.off).take (len * n)) (H.set a.block .dead)
            (tSl len r.1, r.2)
          else (.slice (some a) len c, H)
        | none => (.slice (some a) len c, H)
      | _ => (.slice (some a) len c, H)
    | .agg cs =>
      let r := frzL (frz P n0 k) cs.toList H
      (.agg r.1.toArray, r.2)
    | v => (v, H)

/-- n cells of a block from a place on -/
def cellsAt (H : List Blk) (b off n : Nat) : Option (List Value) :=
  match H[b]? with
  | some (.cells cs _ _) => if off + n ≤ cs.length then some ((cs.drop off).take n) else none
  | _ => none

def cellAt (H : List Blk) (b off : Nat) : Option Value :=
  match H[b]? with
  | some (.cells cs _ _) => cs[off]?
  | _ => none

/-- cells are written over a row's -/
def putCells (cs : List Value) (off : Nat) (vs : List Value) : List Value := cs.take off ++ vs ++ cs.drop (off + vs.length)

def allCells (l : List Value) : Bool := l.all cellV

/-- cells are stored -/
def storeL (st : AS) (b off : Nat) (vs : List Value) : Option AS :=
  match st.H[b]? with
  | some (.cells cs e true) =>
    if off + vs.length ≤ cs.length ∧ allCells vs = true then
      some ⟨st.H.set b (.cells (putCells cs off vs) e true), escOf st.esc b (lrefs vs)⟩
    else none
  | _ => none

/-- a new block -/
def newBlk (st : AS) (k : Blk) : AS := ⟨st.H ++ [k], st.esc⟩
def newPtr (st : AS) : Value := .pointer (some ⟨st.H.length, 0, none⟩)

/- What will never be written again stands in the value itself: '.iface len (.tuple row)' is a slice of so many elements with its cells, '.iface off (.agg row)' a pointer into such cells. -/
def aLoad (isAgg : Bool) (size : Nat) (st : AS) : Value → Option Value
  | .pointer (some a) => if isAgg then (cellsAt st.H a.block a.off size).map fun l => .agg l.toArray else cellAt st.H a.block a.off
  | .iface off (.agg row) => tLoad isAgg size off row
  | _ => none

def aStore (size : Nat) (st : AS) (p v : Value) : Option AS :=
  match p with
  | .pointer (some a) => if v.cells.toList.length = size then storeL st a.block a.off v.cells.toList else none
  | _ => none

def aBox (elem : TypeId) (v : Value) (st : AS) : Option (Value × AS) :=
  if allCells v.cells.toList then some (newPtr st, newBlk st (.cells v.cells.toList elem true)) else none

def aBuild (P : Program) (t : TypeId) (parts : List (Nat × Value)) : Option Value :=
  match zeroP P t with
  | some z => if plainL z.cells.toList = true ∧ (parts.all fun p => allCells p.2.cells.toList) = true then pureRun P (Instr.build t parts.toArray) else none
  | none => none

def aRow (elem : TypeId) (cells : List Value) (len cap : Nat) (st : AS) : Value × AS :=
  (.slice (some ⟨st.H.length, 0, none⟩) len cap, newBlk st (.cells cells elem true))

def aBuildSlice (P : Program) (t : TypeId) (len : Nat) (parts : List (Nat × Value)) (st : AS) : Option (Value × AS) :=
  match P.underlying t with
  | some (.slice elem) =>
    match sizeP P elem, zeroP P elem with
    | some size, some zero =>
      if len * size ≤ 16777216 ∧ 0 < size ∧ zero.cells.size = size ∧ (parts.all fun p => allCells p.2.cells.toList) = true ∧ allCells zero.cells.toList = true ∧ plainL zero.cells.toList = true then
        match Instr.fill (fun i => some (i * size, size)) ((Array.range (len * size)).map (zero.cells[· % zero.cells.size]!)) parts with
        | some cells => some (aRow elem cells.toList len len st)
        | none => none
      else none
    | _, _ => none
  | _ => none

def aFieldAddr (P : Program) (s : TypeId) (x : Value) (f : Nat) : Option Value :=
  match P.underlying s, x with
  | some (.struct fields), .pointer (some a) =>
    match fields[f]? with
    | some fd => match sizeP P fd.type with
      | some n => if n = 0 then none else some (.pointer (some (a.add fd.offset)))
      | none => none
    | none => none
  | some (.struct fields), .iface off (.agg row) =>
    match fields[f]? with
    | some fd => match sizeP P fd.type with
      | some n => if n = 0 then none else some (tField off fd.offset row)
      | none => none
    | none => none
  | _, _ => none

def aIndexAddr (P : Program) (t : TypeId) (x ix : Value) : Option Value :=
  match P.underlying t, x, ix with
  | some (.slice elem), .slice (some a) len _, .int _ i =>
    match sizeP P elem with
    | some n => if 0 ≤ i ∧ i < len then some (.pointer (some (a.add (i.toNat * n)))) else none
    | none => none
  | some (.array len elem), .pointer (some a), .int _ i =>
    match sizeP P elem with
    | some n => if 0 ≤ i ∧ i < len then some (.pointer (some (a.add (i.toNat * n)))) else none
    | none => none
  | some (.slice elem), .iface len (.tuple row), .int _ i =>
    match sizeP P elem with
    | some n => tIndex n len 0 i row
    | none => none
  | some (.array len elem), .iface off (.agg row), .int _ i =>
    match sizeP P elem with
    | some n => tIndex n len off i row
    | none => none
  | _, _, _ => none

/-- the bounds of a slice expression: low, high, and the new capacity -/
def aBounds (len cap : Nat) (lo hi mx : Option Value) : Option (Nat × Nat × Nat) :=
  let lim := if cap = UNK then len else cap
  let num : Option Value → Nat → Option Nat := fun o d => match o with
    | none => some d
    | some (.int _ i) => if 0 ≤ i then some i.toNat else none
    | _ => none
  match num lo 0, num hi len, num mx lim with
  | some l, some h, some m =>
    if l ≤ h ∧ h ≤ m ∧ m ≤ lim ∧ (mx.isSome = true → hi.isSome = true) ∧ m < UNK then some (l, h, if cap = UNK ∧ mx.isNone = true then UNK else m - l) else none
  | _, _, _ => none

def isPlainO : Option Value → Bool
  | none => true
  | some v => plain v

def aSlice (P : Program) (t : TypeId) (x : Value) (lo hi mx : Option Value) (st : AS) : Option Value :=
  match P.underlying t, x with
  | some (.slice elem), .slice a len cap =>
    match sizeP P elem, aBounds len cap lo hi mx with
    | some n, some (l, h, c) =>
      match a with
      | some a =>
        if c = UNK then
          match st.H[a.block]? with
          | some (.cells _ e _) => if sizeP P e = some n then some (.slice (some (a.add (l * n))) (h - l) c) else none
          | _ => none
        else some (.slice (some (a.add (l * n))) (h - l) c)
      | none => if len = 0 ∧ cap = 0 then some (.slice none 0 0) else none
    | _, _ => none
  | some (.array k elem), .pointer (some a) =>
    match sizeP P elem, aBounds k k lo hi mx with
    | some n, some (l, h, c) => if k = UNK then none else some (.slice (some (a.add (l * n))) (h - l) c)
    | _, _ => none
  | some (.slice elem), .iface len (.tuple row) =>
    match sizeP P elem, aBounds len UNK lo hi mx with
    | some n, some (l, h, c) => (tSlice n len 0 l h row).map fun v => if c = h - l then tight v else v
    | _, _ => none
  | some (.array k elem), .iface off (.agg row) =>
    match sizeP P elem, aBounds k k lo hi mx with
    | some n, some (l, h, _) => tSlice n k off l h row
    | _, _ => none
  | some .string, .string s => if isPlainO lo = true ∧ isPlainO hi = true ∧ mx.isNone = true then (pureRun P (Instr.slice t (.string s) lo hi none)).bind fun v => if plain v = true then some v else none else none
  | _, _ => none

/-- is one operand the bare nil, of the other's kind? -/
def aNilEq : TypeDesc → Value → Value → Option Bool
  | .pointer _, .pointer (some _), .pointer none | .pointer _, .pointer none, .pointer (some _) => some false
  | .slice _, .slice (some _) _ _, .slice none _ _ | .slice _, .slice none _ _, .slice (some _) _ _ => some false
  | .map _ _, .map (some _), .map none | .map _ _, .map none, .map (some _) => some false
  | .func _ _ _, .func _ _ _, .nilFunc | .func _ _ _, .nilFunc, .func _ _ _ => some false
  | .pointer _, .iface _ (.agg _), .pointer none | .pointer _, .pointer none, .iface _ (.agg _) => some false
  | .slice _, .iface (_ + 1) (.tuple _), .slice none _ _ | .slice _, .slice none _ _, .iface (_ + 1) (.tuple _) => some false
  | .slice _, .iface (_ + 1) (.iface 0 (.tuple _)), .slice none _ _ | .slice _, .slice none _ _, .iface (_ + 1) (.iface 0 (.tuple _)) => some false
  | _, _, _ => none

def aBin (P : Program) (op : BinOp) (t : TypeId) (ox oy : Operand) (x y : Value) : Option Value :=
  if plain x = true ∧ plain y = true then (pureRun P (do eqGuard op t ox oy x y; binOp op t x y)).bind fun v => if plain v = true then some v else none
  else match op, P.underlying t with
    | .eql, some d => (aNilEq d x y).map .bool
    | .neq, some d => (aNilEq d x y).map fun b => .bool (!b)
    | _, _ => none

def aUn (P : Program) (op : UnOp) (x : Value) : Option Value := if plain x = true then (pureRun P (Op.unary op x)).bind fun v => if plain v = true then some v else none else none

/-- the bytes that cells hold -/
def bytesOf : List Value → Option (List UInt8)
  | [] => some []
  | .int .u8 n :: r => (bytesOf r).map (UInt8.ofNat n.toNat :: ·)
  | _ :: _ => none

def isByte (P : Program) (t : TypeId) : Bool :=
  match P.underlying t, sizeP P t with
  | some (.int .u8), some 1 => true
  | _, _ => false

def aConv (P : Program) (s d : TypeId) (x : Value) (st : AS) : Option (Value × AS) :=
  match P.underlying s, P.underlying d, x with
  | some _, some (.int k), .int _ n => some (.int k (k.wrap n), st)
  | some .string, some .string, .string b => some (.string b, st)
  | some .string, some (.slice e), .string b =>
    if isByte P e then some (aRow e (b.data.toList.map fun c => .int .u8 c.toNat) b.size UNK st) else none
  | some (.slice e), some .string, .slice none _ _ => if isByte P e then some (.string .empty, st) else none
  | some (.slice e), some .string, .slice (some a) len _ =>
    if isByte P e then ((cellsAt st.H a.block a.off len).bind bytesOf).map fun l => (.string ⟨l.toArray⟩, st) else none
  | some (.slice _), some (.slice e), .slice (some a) len c =>
    match st.H[a.block]? with
    | some (.cells _ _ true) => if s = d ∧ isByte P e = true ∧ len ≠ 0 then some (.slice (some a) len c, st) else none
    | _ => none
  | some (.slice e), some .string, .iface len (.tuple row) =>
    if isByte P e = true then ((tStr len row).bind bytesOf).map fun l => (.string ⟨l.toArray⟩, st) else none
  | _, _, _ => none

def aMakeSlice (P : Program) (t : TypeId) (len cap : Value) (st : AS) : Option (Value × AS) :=
  match P.underlying t, len, cap with
  | some (.slice elem), .int _ l, .int _ c =>
    match sizeP P elem, bytesP P elem, zeroP P elem with
    | some size, some bytes, some zero =>
      if 0 ≤ l ∧ l ≤ c ∧ c * bytes ≤ 140737488355328 ∧ c ≤ 140737488355328 ∧ zero.cells.size = size ∧ 0 < size ∧ allCells zero.cells.toList = true ∧ plainL zero.cells.toList = true then
        some (aRow elem ((List.replicate c.toNat zero.cells.toList).flatten) l.toNat c.toNat st)
      else none
    | _, _, _ => none
  | _, _, _ => none

/-- the cells of what is appended, or copied: so many elements -/
def srcCells (size : Nat) (H : List Blk) : Value → Option (Nat × List Value)
  | .slice none n _ => if n = 0 then some (0, []) else none
  | .slice (some a) n _ => (cellsAt H a.block a.off (n * size)).map fun l => (n, l)
  | .string b => if size = 1 then some (b.size, b.data.toList.map fun c => .int .u8 c.toNat) else none
  | .iface n (.tuple row) => tSrc n size row
  | _ => none

def aAppend (P : Program) (argTypes : Array TypeId) (x y : Value) (st : AS) : Option (Value × AS) :=
  match argTypes.toList with
  | [sType, xType] => match P.underlying sType with
    | some (.slice elem) =>
      match sizeP P elem, bytesP P elem, zeroP P elem, srcCells ((sizeP P elem).getD 0) st.H y with
      | some size, some bytes, some zero, some (n, new) =>
        if (match P.underlying xType with | some (.slice _) | some .string => true | _ => false) = true ∧ size ≠ 0 ∧ bytes ≠ 0 ∧ zero.cells.size = size then
          match x with
          | .slice none len cap =>
            if len = 0 ∧ cap = 0 then
              if n = 0 then some (x, st) else if n * bytes ≤ 140737488355328 then some (aRow elem new n UNK st) else none
            else none
          | .slice (some a) len cap =>
            if n = 0 then some (x, st)
            else if (len + n) * bytes ≤ 140737488355328 then
              if cap ≠ UNK then
                if len + n ≤ cap then (storeL st a.block (a.off + len * size) new).map fun s => (.slice (some a) (len + n) cap, s)
                else (cellsAt st.H a.block a.off (len * size)).map fun old => aRow elem (old ++ new) (len + n) UNK st
              else match st.H[a.block]? with
                | some (.cells cs et true) =>
                  if et = elem ∧ a.off + len * size ≤ cs.length then
                    some (aRow elem ((cs.drop a.off).take (len * size) ++ new) (len + n) UNK ⟨st.H.set a.block .dead, st.esc⟩)
                  else none
                | _ => none
            else none
          | .iface len (.iface 0 (.tuple row)) =>
            if n ≠ 0 ∧ (len + n) * bytes ≤ 140737488355328 then (tApp len size row new).map fun cs => aRow elem cs (len + n) UNK st else none
          | _ => none
        else none
      | _, _, _, _ => none
    | _ => none
  | _ => none

def aCopy (P : Program) (argTypes : Array TypeId) (dst src : Value) (st : AS) : Option (Value × AS) :=
  match argTypes[0]? with
  | none => none
  | some t => match P.underlying t with
    | some (.slice elem) =>
      match sizeP P elem, srcCells ((sizeP P elem).getD 0) st.H src, dst with
      | some size, some (m, cells), .slice (some a) len _ =>
        if min m len = 0 then some (.int .i64 0, st) else
        (storeL st a.block a.off (cells.take (min m len * size))).map fun s => (.int .i64 (min m len : Nat), s)
      | some _, some (_, _), .slice none len _ => if len = 0 then some (.int .i64 0, st) else none
      | _, _, _ => none
    | _ => none

def aLen (P : Program) (t : TypeId) (x : Value) (st : AS) : Option Value :=
  match P.underlying t, x with
  | some .string, .string s => some (.int .i64 s.size)
  | some (.slice _), .slice _ n _ => some (.int .i64 n)
  | some (.slice _), .iface n (.tuple _) => some (tLen n)
  | some (.array n _), _ => some (.int .i64 n)
  | some (.map _ _), .map none => some (.int .i64 0)
  | some (.map _ _), .map (some r) => match st.H[r]? with
    | some (.map es _) => some (.int .i64 es.length)
    | _ => none
  | _, _ => none

/-- where a key stands among entries -/
def keyIx (P : Program) (kt : TypeId) (k : Value) : List MapEntry → Nat → Option (Option Nat)
  | [], _ => some none
  | e :: es, i => match pureRun P (Op.equal kt k e.key) with
    | some true => some (some i)
    | some false => keyIx P kt k es (i + 1)
    | none => none

def aLookup (P : Program) (t : TypeId) (m k : Value) (ok : Bool) (st : AS) : Option Value :=
  match P.underlying t with
  | some (.map key elem) =>
    match (match m with | .map none => some [] | .map (some r) => (match st.H[r]? with | some (.map es _) => some es | _ => none) | _ => none), zeroP P elem with
    | some es, some zero =>
      if plain k = true ∧ plain zero = true ∧ (pureRun P (Instr.checkKey es.isEmpty 10000 key k)).isSome = true ∧ (es.all fun e => plain e.key) = true then
        match keyIx P key k es 0 with
        | some (some i) => (es[i]?).map fun e => if ok then .tuple #[e.val, .bool true] else e.val
        | some none => some (if ok then .tuple #[zero, .bool false] else zero)
        | none => none
      else none
    | _, _ => none
  | _ => none

def aMapUpdate (P : Program) (t : TypeId) (m k v : Value) (st : AS) : Option AS :=
  match P.underlying t, m with
  | some (.map key _), .map (some r) =>
    match st.H[r]? with
    | some (.map es clock) =>
      if plain k = true ∧ (pureRun P (Instr.checkKey false 10000 key k)).isSome = true ∧ (es.all fun e => plain e.key) = true then
        match keyIx P key k es 0 with
        | some (some i) =>
          match es[i]? with
          | some e => if Instr.sameBits 10000 e.key k = true then
              some ⟨st.H.set r (.map (es.set i { e with key := k, val := v }) clock), escOf st.esc r (vrefs v)⟩ else none
          | none => none
        | some none => some ⟨st.H.set r (.map (es ++ [{ key := k, val := v, born := clock }]) (clock + 1)), escOf st.esc r (vrefs v)⟩
        | none => none
      else none
    | _ => none
  | _, _ => none

def aDelete (P : Program) (argTypes : Array TypeId) (m k : Value) (st : AS) : Option AS :=
  match (argTypes[0]?).bind P.underlying, m with
  | some (.map key _), .map (some r) =>
    match st.H[r]? with
    | some (.map es clock) =>
      if plain k = true ∧ (pureRun P (Instr.checkKey es.isEmpty 10000 key k)).isSome = true ∧ (es.all fun e => plain e.key) = true then
        match keyIx P key k es 0 with
        | some (some i) => some ⟨st.H.set r (.map (es.eraseIdx i) clock), st.esc⟩
        | some none => some st
        | none => none
      else none
    | _ => none
  | _, _ => none

def aClear (P : Program) (argTypes : Array TypeId) (m : Value) (st : AS) : Option AS :=
  match (argTypes[0]?).bind P.underlying, m with
  | some _, .map none => some st
  | some (.map _ _), .map (some r) =>
    match st.H[r]? with
    | some (.map _ clock) => some ⟨st.H.set r (.map [] clock), st.esc⟩
    | _ => none
  | _, _ => none

/-- a walk over a map begins -/
def aRange (P : Program) (t : TypeId) (x : Value) (st : AS) : Option (Value × AS) :=
  match P.underlying t, x with
  | some (.map _ _), .map none => some (newPtr st, newBlk st (.iter none 0 [] 0))
  | some (.map _ _), .map (some r) => match st.H[r]? with
    | some (.map _ clock) => some (newPtr st, newBlk st (.iter (some r) clock [] clock))
    | _ => none
  | _, _ => none

/-- what a walk may hand out next: so many ways, and each way's value and memory -/
def aNext (x : Value) (st : AS) : Option (Nat × (Nat → Value × AS)) :=
  match x with
  | .pointer (some ⟨b, 0, none⟩) => match st.H[b]? with
    | some (.iter none _ _ _) => some (1, fun _ => (.tuple #[.bool false], st))
    | some (.iter (some r) since seen stepped) => match st.H[r]? with
      | some (.map es clock) =>
        if (es.all fun e => decide (e.born < since)) = true ∧ since ≤ stepped then
          match es.filter fun e => !seen.contains e.born with
          | [] => some (1, fun _ => (.tuple #[.bool false], st))
          | e0 :: l => some (l.length + 1, fun i =>
            (.tuple #[.bool true, ((e0 :: l).getD i e0).key, ((e0 :: l).getD i e0).val], ⟨st.H.set b (.iter (some r) since (seen ++ [((e0 :: l).getD i e0).born]) clock), st.esc⟩))
        else none
      | _ => none
    | _ => none
  | _ => none

/-- what it handed out -/
def aEntry (x : Value) (st : AS) : Option Value :=
  match x with
  | .pointer (some ⟨b, 0, none⟩) => match st.H[b]? with
    | some (.iter (some r) _ seen stepped) => match seen.getLast?, st.H[r]? with
      | some q, some (.map es clock) => if clock = stepped then (es.find? (·.born == q)).map fun e => .tuple #[e.key, e.val] else none
      | _, _ => none
    | _ => none
  | _ => none

/-- a slice's row as an array: its address -/
def aArr (P : Program) (t : TypeId) (x : Value) : Option Value :=
  match P.underlying t, x with
  | some (.array n _), .slice (some a) len _ => if 0 < n ∧ n ≤ len then some (.pointer (some a)) else none
  | some (.array n _), .iface len (.tuple row) => if 0 < n ∧ n ≤ len then some (tPtr 0 row) else none
  | _, _ => none

def ev (fr : List Value) : Operand → Value
  | .tmp t => fr.getD t unk
  | .const v => if plain v then v else unk
  | .global _ => unk
  | .func f => .func (.func f) #[] #[]

def aMinMax (isMax : Bool) : List Value → Option Value
  | .int k x :: rest => rest.foldlM (init := .int k x) fun a b => match a, b with
    | .int k x, .int k' y => if k = k' then some (.int k (if isMax then (if y > x then y else x) else (if y < x then y else x))) else none
    | _, _ => none
  | _ => none

/-- what stands for a function behind it is a walk's yield -/
@[irreducible] def yidB : Nat := 4294967296

/-- the function that a function value names, and what is handed to it -/
def aFn (P : Program) (f : Value) (args : List Value) : Option (FuncId × List Value) :=
  match f with
  | .func (.func g) first captured =>
    match P.funcs[g]? with
    | some fn => if fn.body.isSome = true ∧ (fn.name == "runtime.NumGoroutine") = false ∧ g < yidB then some (g, first.toList ++ args ++ captured.toList) else none
    | none => none
  | .chan (some l) => some (l + yidB, args)
  | _ => none

def joinEsc : Option Nat → Option Nat → Option Nat
  | e, none => e
  | e, some b => minO e b

/-- what a call of a function comes to: its value, the blocks behind it, and what escaped -/
abbrev Callee := FuncId → List Value → List Blk → Option (Value × List Blk × Option Nat)

section
variable {R : Type}

def eBuiltin (P : Program) (b : Builtin) (argTypes : Array TypeId) (args : List Value) (st : AS) (k : Value → AS → Option R) : Option R :=
  match b, args with
  | .len, [x] => (argTypes[0]?).bind fun t => (aLen P t x st).bind (k · st)
  | .append, [x, y] => (aAppend P argTypes x y st).bind fun r => k r.1 r.2
  | .copy, [x, y] => (aCopy P argTypes x y st).bind fun r => k r.1 r.2
  | .delete, [x, y] => (aDelete P argTypes x y st).bind fun s => k (.tuple #[]) s
  | .clear, [x] => (aClear P argTypes x st).bind fun s => k (.tuple #[]) s
  | .max, l => (aMinMax true l).bind (k · st)
  | .min, l => (aMinMax false l).bind (k · st)
  | _, _ => none

def aPick (c a b : Value) : Option Value :=
  match c with
  | .bool true => some a
  | .bool false => some b
  | _ => none

def aNil (x : Value) : Option Value :=
  match x with
  | .pointer (some a) => some (.pointer (some a))
  | .iface o (.agg row) => some (.iface o (.agg row))
  | .func (.func f) a b => some (.func (.func f) a b)
  | _ => none

/-- one operation, and what comes behind it -/
def eop (P : Program) (C : Callee) (fr : List Value) (st : AS) (o : Oper) (k : Value → AS → Option R) : Option R :=
  match o.op with
  | .move x | .assign x => k (ev fr x) st
  | .pick c a b => (aPick (ev fr c) (ev fr a) (ev fr b)).bind (k · st)
  | .alloc elem => (zeroP P elem).bind fun z => if plainL z.cells.toList = true then (aBox elem z st).bind fun r => k r.1 r.2 else none
  | .box elem x => (aBox elem (ev fr x) st).bind fun r => k r.1 r.2
  | .build t parts => (aBuild P t (parts.toList.map fun p => (p.1, ev fr p.2))).bind (k · st)
  | .buildSlice t len parts => 
    let q := frzL (frz P 0 8) (parts.toList.map fun p => ev fr p.2) st.H
    (aBuildSlice P t len ((parts.toList.map (·.1)).zip q.1) ⟨q.2, st.esc⟩).bind fun r => k r.1 r.2
  | .load t a => match isAggP P t, sizeP P t with | some g, some n => (aLoad g n st (ev fr a)).bind (k · st) | _, _ => none
  | .store t a x => match sizeP P t with | some n => (aStore n st (ev fr a) (ev fr x)).bind fun s => k undef s | none => none
  | .nilCheck x => (aNil (ev fr x)).bind (k · st)
  | .binOp op t x y _ => (aBin P op t x y (ev fr x) (ev fr y)).bind (k · st)
  | .unOp op _ x => (aUn P op (ev fr x)).bind (k · st)
  | .convert s d x => (aConv P s d (ev fr x) st).bind fun r => k r.1 r.2
  | .makeFunc fn first captured => match fn with
    | .func f => k (.func (.func f) (first.toList.map (ev fr)).toArray (captured.toList.map (ev fr)).toArray) st
    | _ => none
  | .makeMap _ none => k (.map (some st.H.length)) (newBlk st (.map [] 0))
  | .makeSlice t l c => (aMakeSlice P t (ev fr l) (ev fr c) st).bind fun r => k r.1 r.2
  | .slice t x lo hi mx => (aSlice P t (ev fr x) (lo.map (ev fr)) (hi.map (ev fr)) (mx.map (ev fr)) st).bind (k · st)
  | .fieldAddr s x f => (aFieldAddr P s (ev fr x) f).bind (k · st)
  | .field t x f => (pureRun P (Instr.field t (ev fr x) f)).bind (k · st)
  | .indexAddr t x ix => (aIndexAddr P t (ev fr x) (ev fr ix)).bind (k · st)
  | .index t x ix => if plain (ev fr ix) = true then (pureRun P (Instr.index t (ev fr x) (ev fr ix))).bind (k · st) else none
  | .lookup t m ky ok => (aLookup P t (ev fr m) (ev fr ky) ok st).bind (k · st)
  | .mapUpdate t m ky x => (aMapUpdate P t (ev fr m) (ev fr ky) (ev fr x) st).bind fun s => k undef s
  | .insert t m ky x => (aMapUpdate P t (ev fr m) (ev fr ky) (ev fr x) st).bind fun s => k undef s
  | .sliceToArrayPointer t x => (aArr P t (ev fr x)).bind (k · st)
  | .range t x => (aRange P t (ev fr x) st).bind fun r => k r.1 r.2
  | .entry x => (aEntry (ev fr x) st).bind (k · st)
  | .extract t ix => (pureRun P (Instr.extract (ev fr t) ix)).bind (k · st)
  | .call c => match c.callee with
    | .value f => (aFn P (ev fr f) (c.args.toList.map (ev fr))).bind fun g => (C g.1 g.2 st.H).bind fun r => k r.1 ⟨r.2.1, joinEsc st.esc r.2.2⟩
    | .builtin b => eBuiltin P b c.argTypes (c.args.toList.map (ev fr)) st k
    | .invoke _ _ => none
  | _ => none

def setD (fr : List Value) (d : Option Tmp) (v : Value) : List Value :=
  match d with
  | some d => fr.set d v
  | none => fr

/-- is it so? Behind it the bool is known. -/
def bcase (v : Value) (a b : Option R) : Option R :=
  match v with
  | .bool true => a
  | .bool false => b
  | _ => none

/-- a region's operations, by their numbers, in an order; skipped: those that were not wanted; behind each one it is asked whether 'chk' holds -/
def eops (P : Program) (C : Callee) (ops : Array Oper) (chk : Nat → List Value → AS → Bool) : List Nat → List Nat → List Value → AS → (List Value → AS → Option R) → Option R
  | [], _, fr, st, k => k fr st
  | i :: is, sk, fr, st, k =>
    match ops[i]? with
    | none => none
    | some o =>
      match o.guard with
      | none => eop P C fr st o fun v s => if chk i (setD fr o.dst v) s = true then eops P C ops chk is sk (setD fr o.dst v) s k else none
      | some (j, want) =>
        match (ops[j]?).bind (·.dst) with
        | none => none
        | some d =>
          if sk.contains j = true then
            match fr.getD d unk with
            | .tuple _ => if chk i (setD fr o.dst undef) st = true then eops P C ops chk is (i :: sk) (setD fr o.dst undef) st k else none
            | _ => none
          else
            bcase (fr.getD d unk)
              (if want = true then eop P C (fr.set d (.bool true)) st o fun v s => if chk i (setD (fr.set d (.bool true)) o.dst v) s = true then eops P C ops chk is sk (setD (fr.set d (.bool true)) o.dst v) s k else none
                else if chk i (setD (fr.set d (.bool true)) o.dst undef) st = true then eops P C ops chk is (i :: sk) (setD (fr.set d (.bool true)) o.dst undef) st k else none)
              (if want = true then (if chk i (setD (fr.set d (.bool false)) o.dst undef) st = true then eops P C ops chk is (i :: sk) (setD (fr.set d (.bool false)) o.dst undef) st k else none)
                else eop P C (fr.set d (.bool false)) st o fun v s => if chk i (setD (fr.set d (.bool false)) o.dst v) s = true then eops P C ops chk is sk (setD (fr.set d (.bool false)) o.dst v) s k else none)

def noChk : Nat → List Value → AS → Bool := fun _ _ _ => true

inductive AEx where
  | normal
  | exit (id : Nat)
  | ret
  deriving DecidableEq, Inhabited

/-- the number of the first region of some code -/
def firstRegion : Code → Option Nat
  | .region id _ _ => some id
  | .seq a b => match firstRegion a with | some r => some r | none => firstRegion b
  | .cond _ a b => match firstRegion a with | some r => some r | none => firstRegion b
  | .block _ b | .loop b | .scope b => firstRegion b
  | _ => none

/-- of a frame only some slots are kept -/
def keepGo (l : List Nat) (fr : List Value) : Nat → Nat → List Value
  | 0, _ => []
  | n + 1, i => (if l.contains i = true then fr.getD i unk else unk) :: keepGo l fr n (i + 1)

def keep (n : Nat) (l : Option (List Nat)) (fr : List Value) : List Value :=
  match l with
  | none => fr
  | some l => keepGo l fr n 0

/-- what of a loop's frame is live at its head, and behind it -/
structure Tab where
  at_ : Nat → Option (List Nat)
  out : Nat → Option (List Nat)
  /-- are its results left as they are? -/
  keep : Bool := false
  /-- where ways come together: the slots that are live there -/
  jn : Nat → Option (List Nat) := fun _ => none
  /-- where ways come together: do the slots become values of their own there? -/
  fz : Nat → Bool := fun _ => false
  /-- has it no arguments, says it true whatever, and leaves all as it was? -/
  lives : Bool := false
  /-- do its arguments become values of their own when it is called? -/
  fza : Bool := false
  /-- where ways come together: is what is not led to struck there? -/
  gj : Nat → Bool := fun _ => false
  /-- whose is it? -/
  me : FuncId := 0
  /-- does it defer a call? -/
  dfr : Bool := false
  /-- is it not run, but told at once? -/
  sum : Option (List Value → List Blk → Option (Value × List Blk × Option Nat)) := none

/-- is a thing told of a region? -/
def Tab.on (T : Tab) : Option Nat → Bool
  | some i => T.fz i
  | none => false
def Tab.onG (T : Tab) : Option Nat → Bool
  | some i => T.gj i
  | none => false

/-- rounds, until one ends them -/
def rounds {σ ρ : Type} (step : σ → Option (σ ⊕ ρ)) : Nat → σ → Option ρ
  | 0, _ => none
  | n + 1, s => match step s with
    | none => none
    | some (.inr r) => some r
    | some (.inl s') => rounds step n s'

open Classical in
/-- rounds without a bound -/
noncomputable def loopW {σ ρ : Type} (step : σ → Option (σ ⊕ ρ)) (s : σ) : Option ρ :=
  if h : ∃ n r, rounds step n s = some r then some (Classical.choose (Classical.choose_spec h)) else none
end

/-- the blocks from n on that some values lead to, in the order in which they are met -/
def reach (H : List Blk) (n : Nat) : Nat → List Nat → List Nat → List Nat
  | 0, _, acc => acc
  | _ + 1, [], acc => acc
  | fuel + 1, r :: rs, acc =>
    if r < n then reach H n fuel rs acc
    else if acc.contains r = true then reach H n fuel rs acc
    else reach H n fuel ((match H[r]? with
      | some (.cells cs _ _) => lrefs cs
      | some (.map es _) => es.flatMap fun e => vrefs e.key ++ vrefs e.val
      | some (.iter m _ _ _) => m.toList
      | some (.loop _ _ _ _ fr _) => lrefs fr
      | _ => []) ++ rs) (acc ++ [r])

def findIx (r : Nat) : List Nat → Nat → Option Nat
  | [], _ => none
  | x :: xs, i => if x = r then some i else findIx r xs (i + 1)

/-- the new number of a block -/
def renum (n : Nat) (kept : List Nat) (r : Nat) : Nat := if r < n then r else match findIx r kept 0 with | some i => n + i | none => r

def renBlk (σ : Nat → Nat) : Blk → Blk
  | .cells cs e o => .cells (lren σ cs) e o
  | .map es c => .map (es.map fun e => { key := vren σ e.key, val := vren σ e.val, born := e.born }) c
  | .iter m a b c => .iter (m.map σ) a b c
  | .loop f ps x y fr s => .loop f ps x y (lren σ fr) s
  | .dead => .dead

/-- are all blocks that are named there, or below n? -/
def closed (n : Nat) (kept : List Nat) (l : List Nat) : Bool := l.all fun r => decide (r < n) || kept.contains r

def blkRefs : Blk → List Nat
  | .cells cs _ _ => lrefs cs
  | .map es _ => es.flatMap fun e => vrefs e.key ++ vrefs e.val
  | .iter m _ _ _ => m.toList
  | .loop _ _ _ _ fr _ => lrefs fr
  | .dead => []

/-- was nothing of block n or later stored into an earlier one? -/
def escOk (n : Nat) : Option Nat → Bool
  | none => true
  | some b => decide (n ≤ b)

/-- what is not led to is struck, from block n on; nothing is struck if a block below n may name a later one -/
def gc (n : Nat) (vs : List Value) (st : AS) : List Value × AS :=
  if escOk n st.esc = true then
    let kept := reach st.H n (st.H.length * 64 + 4096) (lrefs vs) []
    let new := kept.map fun r => st.H.getD r .dead
    if closed n kept (lrefs vs) = true ∧ (new.all fun b => closed n kept (blkRefs b)) = true ∧ n ≤ st.H.length then
      (lren (renum n kept) vs, ⟨st.H.take n ++ new.map (renBlk (renum n kept)), none⟩)
    else (vs, st)
  else (vs, st)

def escBelow (n : Nat) : Option Nat → Option Nat
  | none => none
  | some b => if b < n then some b else none

section
variable {R : Type}

/-- a way to do rounds; ahead of each one what is not led to is struck, from a block on; to do rounds of which each may go several ways, and to go all of so many ways to one end -/
structure Loops where
  run : Nat → (List Value × AS → Option ((List Value × AS) ⊕ (AEx × List Value × AS))) → List Value × AS → Option (AEx × List Value × AS)
  any : {R : Type} → Nat → (((List Value × AS) ⊕ (AEx × List Value × AS) → Option R) → List Value × AS → Option R) → List Value × AS → (AEx × List Value × AS → Option R) → Option R
  all : {R : Type} → Nat → (Nat → Option R) → Option R

instance : CoeFun Loops (fun _ => Nat → (List Value × AS → Option ((List Value × AS) ⊕ (AEx × List Value × AS))) → List Value × AS → Option (AEx × List Value × AS)) := ⟨Loops.run⟩

/-- a round, with what stands ahead of it -/
def headed (n0 : Nat) (step : List Value × AS → Option ((List Value × AS) ⊕ (AEx × List Value × AS))) : List Value × AS → Option ((List Value × AS) ⊕ (AEx × List Value × AS)) := fun s => step (gc n0 s.1 s.2)

/-- rounds, each with what comes behind it, until one ends them -/
def roundsK (n0 : Nat) (step : ((List Value × AS) ⊕ (AEx × List Value × AS) → Option R) → List Value × AS → Option R) (k : AEx × List Value × AS → Option R) : Nat → List Value × AS → Option R
  | 0, _ => none
  | n + 1, s => step (fun x => match x with | .inl s' => roundsK n0 step k n s' | .inr r => k r) (gc n0 s.1 s.2)

open Classical in
/-- all of so many ways -/
noncomputable def allW (n : Nat) (f : Nat → Option R) : Option R :=
  if h : 0 < n ∧ ∃ r, ∀ i, i < n → f i = some r then some (Classical.choose h.2) else none

open Classical in
/-- rounds without a bound -/
noncomputable def anyW (n0 : Nat) (step : ((List Value × AS) ⊕ (AEx × List Value × AS) → Option R) → List Value × AS → Option R) (s : List Value × AS) (k : AEx × List Value × AS → Option R) : Option R :=
  if h : ∃ r n, ∀ m, n ≤ m → roundsK n0 step k m s = some r then some (Classical.choose h) else none

noncomputable def loopG : Loops := ⟨fun n0 step => loopW (headed n0 step), anyW, allW⟩

/-- with a bound for the rounds -/
def loopB (b : Nat) : Loops := ⟨fun n0 step => rounds (headed n0 step) b, fun n0 step s k => roundsK n0 step k b s, fun n f => if n = 1 then f 0 else none⟩

mutual
/-- are two values the very same? -/
def veq : Value → Value → Bool
  | .bool a, .bool b => a == b
  | .int j a, .int k b => decide (j = k) && decide (a = b)
  | .float j a, .float k b => decide (j = k) && a == b
  | .string a, .string b => decide (a.data.toList = b.data.toList)
  | .pointer none, .pointer none => true
  | .pointer (some a), .pointer (some b) => decide (a = b)
  | .slice none l c, .slice none m d => l == m && c == d
  | .slice (some a) l c, .slice (some b) m d => decide (a = b) && l == m && c == d
  | .map none, .map none => true
  | .map (some a), .map (some b) => a == b
  | .nilFunc, .nilFunc => true
  | .agg a, .agg b => veqA a b
  | .tuple a, .tuple b => veqA a b
  | .iface i a, .iface j b => decide (i = j) && veq a b
  | _, _ => false
def veqA : Array Value → Array Value → Bool
  | ⟨a⟩, ⟨b⟩ => veqL a b
def veqL : List Value → List Value → Bool
  | [], [] => true
  | x :: xs, y :: ys => veq x y && veqL xs ys
  | _, _ => false
end

/-- 0: its answer hangs on its operands alone; 1: on memory, too, which it leaves as it is; 2: it may change memory -/
def opClass (P : Program) (o : Oper) : Nat :=
  match o.op with
  | .move _ | .assign _ | .pick .. | .build .. | .nilCheck _ | .binOp .. | .unOp .. | .makeFunc .. | .fieldAddr .. | .field .. | .indexAddr .. | .index .. | .extract .. => 0
  | .convert s d _ => match P.underlying s, P.underlying d with | some (.int _), some (.int _) => 0 | _, _ => 2
  | .load .. | .lookup .. | .slice .. => 1
  | .call c => match c.callee with | .builtin .len => 1 | .builtin .min | .builtin .max => 0 | _ => 2
  | _ => 2

/-- must i be done ahead of j? -/
def ancMask (acc : List Nat) : List Edge → Nat → Nat
  | [], m => m
  | e :: es, m => ancMask acc es (if Region.binds .any e = true then m ||| (1 <<< e.on) ||| acc.getD e.on 0 else m)
def ancGo : List Oper → List Nat → List Nat
  | [], acc => acc
  | o :: os, acc => ancGo os (acc ++ [ancMask acc o.after.toList 0])
def ancSets (ops : Array Oper) : List Nat := ancGo ops.toList []
def anc (ops : Array Oper) (_ j i : Nat) : Bool := ((ancSets ops).getD j 0).testBit i

/-- can an operation come now? -/
def readyB (ops : Array Oper) (listed : Array Bool) (i : Nat) : Bool :=
  !listed.getD i true && ((ops[i]?).map (·.after.all fun e => !Region.binds .any e || listed.getD e.on false)).getD false

def quietB (P : Program) (o : Oper) : Bool := decide (opClass P o < 2)

/-- an order for a region whose order is open: what only reads first -/
def drawOrder (P : Program) (ops : Array Oper) : Nat → Array Bool → List Nat
  | 0, _ => []
  | n + 1, listed =>
    match ((List.range ops.size).filter fun i => readyB ops listed i && ((ops[i]?).map (quietB P)).getD false) ++ (List.range ops.size).filter (readyB ops listed) with
    | [] => []
    | i :: _ => i :: drawOrder P ops n (listed.setIfInBounds i true)

/-- reads that may come ahead of, or behind, an operation -/
def besides (P : Program) (ops : Array Oper) (i : Nat) : List Nat :=
  match ops[i]? with
  | none => []
  | some o => if quietB P o = true then [] else (List.range ops.size).filter fun j => ((ops[j]?).map (opClass P · == 1)).getD false && !anc ops ops.size i j && !anc ops ops.size j i

/-- is an operation wanted, as far as the machine knows? -/
def wantedA (ops : Array Oper) (fr : List Value) (o : Oper) : Option Bool :=
  match o.guard with
  | none => some true
  | some (j, want) => match (ops[j]?).bind (·.dst) with
    | none => none
    | some d => match fr.getD d unk with
      | .bool b => some (b == want)
      | .tuple _ => some false
      | _ => none

/-- such reads answer the same behind it -/
def stillSo (P : Program) (ops : Array Oper) (i : Nat) (fr : List Value) (s : AS) : Bool :=
  (besides P ops i).all fun j => match ops[j]? with
    | some o => (match o.dst with
      | some d => (match wantedA ops fr o with
        | some true => (eop P (fun _ _ _ => none) fr s o fun v _ => some (veq v (fr.getD d unk))) == some true
        | some false => veq undef (fr.getD d unk)
        | none => false)
      | none => false)
    | none => false

/-- does what is still to come wait for a quiet operation, or look elsewhere? -/
def quietOk (P : Program) (ops : Array Oper) (i : Nat) (o : Oper) (listed : Array Bool) : Bool :=
  (List.range ops.size).all fun j => j == i || listed.getD j true || anc ops ops.size j i || (match ops[j]? with
    | none => true
    | some u => o.apart ops u && (opClass P o == 0 || quietB P u || (besides P ops j).contains i))

/-- does an order serve? -/
def drawOk (P : Program) (ops : Array Oper) : List Nat → Array Bool → Bool
  | [], listed => (List.range ops.size).all fun i => listed.getD i true
  | i :: is, listed =>
    (match ops[i]? with
    | none => false
    | some o => readyB ops listed i && (if quietB P o = true then quietOk P ops i o listed else (List.range ops.size).all fun j => j == i || !readyB ops listed j)) &&
    drawOk P ops is (listed.setIfInBounds i true)

/-- what a read looks at, and where its answer goes, is written by nothing that does not come ahead of it -/
def readsApart (P : Program) (ops : Array Oper) : Bool :=
  (List.range ops.size).all fun j => match ops[j]? with
    | none => true
    | some u => opClass P u != 1 || (match u.dst with
      | none => false
      | some d => !(u.looksAt ops).contains d && (List.range ops.size).all fun i => i == j || (match ops[i]? with
        | none => true
        | some o => o.dst != some d && (match o.dst with
          | none => true
          | some e => !(u.looksAt ops).contains e || anc ops ops.size j i)))

def drawPlan (P : Program) (ops : Array Oper) : Option (List Nat × (Nat → List Value → AS → Bool)) :=
  let ord := drawOrder P ops ops.size (Array.replicate ops.size false)
  if P.follows .mixedOrders = true ∧ readsApart P ops = true ∧ drawOk P ops ord (Array.replicate ops.size false) = true then some (ord, stillSo P ops) else none

/-! Blocks that are made in no order with a call: they are taken to be made behind it. -/

/-- a literal -/
def litV : Value → Bool
  | .bool _ | .int _ _ | .string _ => true
  | _ => false

/-- does an operation make a block, whatever else is there? -/
def lateB (o : Oper) : Bool :=
  match o.op with
  | .alloc _ | .makeMap _ none | .buildSlice .. => true
  | _ => false

/-- and does it make it of literals? -/
def lateOk (P : Program) (fr : List Value) (o : Oper) : Bool :=
  match o.op with
  | .alloc _ | .makeMap _ none => true
  | .buildSlice _ len parts => (parts.toList.map fun p => ev fr p.2).all litV && decide (len < UNK)
  | _ => false

/-- the block, and its name -/
def lateK (P : Program) (fr : List Value) (o : Oper) : Option (Blk × (Nat → Value)) :=
  match o.op with
  | .alloc elem => match zeroP P elem with
    | some z => if plainL z.cells.toList = true ∧ allCells z.cells.toList = true then some (.cells z.cells.toList elem true, fun n => .pointer (some ⟨n, 0, none⟩)) else none
    | none => none
  | .makeMap _ none => some (.map [] 0, fun n => .map (some n))
  | .buildSlice t len parts =>
    if (parts.toList.map fun p => ev fr p.2).all litV = true ∧ len < UNK then
      match aBuildSlice P t len ((parts.toList.map (·.1)).zip (parts.toList.map fun p => ev fr p.2)) ⟨[], none⟩ with
      | some (_, ⟨[k], _⟩) => some (k, fun n => .slice (some ⟨n, 0, none⟩) len len)
      | _ => none
    else none
  | _ => none

/-- those that stand in no order with another operation that may change memory -/
def lates (P : Program) (ops : Array Oper) : List Nat :=
  (List.range ops.size).filter fun i => ((ops[i]?).map lateB).getD false && (List.range ops.size).any fun j =>
    j != i && ((ops[j]?).map fun o => !quietB P o).getD false && !anc ops ops.size i j && !anc ops ops.size j i

/-- what waits for one of them -/
def restB (ops : Array Oper) (l : List Nat) (j : Nat) : Bool := !l.contains j && l.any (anc ops ops.size j)

/-- they do nothing yet, and what waits for them is not there -/
def holdOps (ops : Array Oper) (l : List Nat) : Array Oper :=
  ((List.range ops.size).map fun i => match ops[i]? with
    | some o => if l.contains i = true then { o with op := .move (.global 0) } else if restB ops l i = true then { o with op := .move (.global 0), dst := none, after := #[], guard := none } else o
    | none => { dst := none, op := .move (.global 0), type := 0, pos := "", after := #[], guard := none }).toArray

def lateFine (P : Program) (ops : Array Oper) (l : List Nat) : Bool :=
  (l.all fun i => match ops[i]? with
    | some o => o.guard.isNone && (match o.dst with
      | some d => (List.range ops.size).all fun j => restB ops l j || (match ops[j]? with
        | some u => (u.dst != some d || j == i) && (anc ops ops.size i j || (match u.dst with | some e => !(o.looksAt ops).contains e | none => true))
        | none => true)
      | none => false)
    | none => false) &&
  ((List.range ops.size).all fun j => (List.range ops.size).all fun i => !restB ops l j || restB ops l i || anc ops ops.size j i) &&
  (l.all fun i => l.all fun j => !anc ops ops.size i j) &&
  ((List.range ops.size).all fun j => restB ops l j || (match ops[j]? with
    | some o => o.after.all fun e => !Region.binds .any e || (decide (e.on < ops.size) && !restB ops l e.on)
    | none => true))

def listedBy (n : Nat) (p : Nat → Bool) : Array Bool := ((List.range n).map p).toArray

def latePlan (P : Program) (nt : Nat) (ops : Array Oper) : Option (Array Oper × List Nat × List Nat × List Nat) :=
  let l := lates P ops
  let opsL := holdOps ops l
  let ord1 := drawOrder P opsL ops.size (listedBy ops.size (restB ops l))
  let ord2 := drawOrder P ops ops.size (listedBy ops.size fun i => !restB ops l i)
  if P.follows .mixedOrders = true ∧ readsApart P opsL = true ∧ drawOk P opsL ord1 (listedBy ops.size (restB ops l)) = true ∧
    readsApart P ops = true ∧ drawOk P ops ord2 (listedBy ops.size fun i => !restB ops l i) = true ∧ lateFine P ops l = true ∧ ord1.length + ord2.length ≤ ops.size ∧ (l.all fun i => match (ops[i]?).bind (·.dst) with | some d => decide (d < nt) | none => false) = true
  then some (opsL, ord1, l, ord2) else none

/-- they are made -/
def eopsLate (P : Program) (C : Callee) (ops : Array Oper) : List Nat → List Value → AS → (List Value → AS → Option R) → Option R
  | [], fr, st, k => k fr st
  | i :: is, fr, st, k => match ops[i]? with
    | none => none
    | some o => if lateOk P fr o = true then eop P C fr st o fun v s => eopsLate P C ops is (setD fr o.dst v) s k else none

/-- of a frame, the slots of a list -/
def packF (l : Option (List Nat)) (fr : List Value) : List Value :=
  match l with
  | none => fr
  | some l => l.map fun i => fr.getD i unk

def unpackGo (l : List Nat) (vs : List Value) : Nat → Nat → List Value
  | 0, _ => []
  | n + 1, i => (match findIx i l 0 with | some j => vs.getD j unk | none => unk) :: unpackGo l vs n (i + 1)

/-- the frame of such slots; all others are unknown -/
def unpackF (nt : Nat) (l : Option (List Nat)) (vs : List Value) : List Value :=
  match l with
  | none => vs
  | some l => unpackGo l vs nt 0

/-- where ways come together: slots that become values of their own -/
def jFrz (P : Program) (n0 : Nat) (vs : List Value) (st : AS) : Bool → List Value × AS
  | true => let q := frzL (frz P n0 8) vs st.H; (q.1, ⟨q.2, st.esc⟩)
  | false => (vs, st)

/-- where ways come together: what is not led to is struck -/
def jGc (n0 : Nat) (q : List Value × AS) : Bool → List Value × AS
  | true => gc n0 q.1 q.2
  | false => q

/-- what a round of a loop comes to: what is live there -/
def loopEnd (li lo : Option (List Nat)) : AEx → List Value → AS → Option ((List Value × AS) ⊕ (AEx × List Value × AS))
  | .normal, fr, st => some (.inl (packF li fr, st))
  | .exit i, fr, st => some (.inr (.exit i, packF lo fr, st))
  | .ret, fr, st => some (.inr (.ret, packF lo fr, st))

/-- does a region begin with a step of a walk? -/
def nextAt (ops : Array Oper) : Option (Operand × Option Tmp) :=
  match ops.toList with
  | [] => none
  | o :: _ => match o.op, o.guard with
    | .next x false, none => some (x, o.dst)
    | _, _ => none

/-- how a walk over a function's values was left -/
def loopPend (H : List Blk) (l : Nat) : Option AEx :=
  match H[l]? with
  | some (.loop _ _ _ _ _ .ready) => some .normal
  | some (.loop _ _ _ _ _ (.done none)) => some .ret
  | some (.loop _ _ _ _ _ (.done (some i))) => some (.exit i)
  | _ => none

/-- what is handed to a round -/
def setPs (fr : List Value) : List Tmp → List Value → List Value
  | t :: ts, v :: vs => setPs (fr.set t v) ts vs
  | _, _ => fr

/-- a walk's block, in another state -/
def setLoop (l : Nat) (st : AS) (ok : LSt → Bool) (s' : LSt) : Option AS :=
  match st.H[l]? with
  | some (.loop f ps x y fr s) => if ok s = true then some ⟨st.H.set l (.loop f ps x y fr s'), st.esc⟩ else none
  | _ => none

def LSt.isReady : LSt → Bool
  | .ready => true
  | _ => false
def LSt.isBusy : LSt → Bool
  | .busy => true
  | _ => false

/-- how a round ends -/
def roundSt : AEx → LSt
  | .normal => .ready
  | .exit i => .done (some i)
  | .ret => .done none
def roundV : AEx → Bool
  | .normal => true
  | _ => false

def nextIn : Code → Bool
  | .region _ ops false => (nextAt ops).isSome
  | .seq a _ => nextIn a
  | _ => false

/-- code, and what comes behind it -/
def ecode (P : Program) (T : Tab) (nt n0 : Nat) (C : Callee) (L : Loops) : {R : Type} → Code → List Value → AS → (AEx → List Value → AS → Option R) → Option R
  | _, .skip, fr, st, k => k .normal fr st
  | _, .label _, fr, st, k => k .normal fr st
  | _, .region id ops draw, fr, st, k =>
    if draw = true then
      match drawPlan P ops with
      | none => match latePlan P nt ops with
        | none => none
        | some (opsL, ord1, l, ord2) => eops P C opsL (stillSo P opsL) ord1 [] (keep nt (T.at_ id) fr) st fun fr st => eopsLate P C ops l fr st fun fr st => eops P C ops (stillSo P ops) ord2 [] fr st fun fr st => k .normal fr st
      | some (ord, chk) => eops P C ops chk ord [] (keep nt (T.at_ id) fr) st fun fr st => k .normal fr st
    else match nextAt ops with
      | none => eops P C ops noChk (List.range ops.size) [] (keep nt (T.at_ id) fr) st fun fr st => k .normal fr st
      | some (x, d) => (aNext (ev (keep nt (T.at_ id) fr) x) st).bind fun q => L.all q.1 fun i =>
        eops P C ops noChk (List.range ops.size).tail [] (setD (keep nt (T.at_ id) fr) d (q.2 i).1) (q.2 i).2 fun fr st => k .normal fr st
  | _, .seq a b, fr, st, k => match (firstRegion b).bind T.jn with
    | none => ecode P T nt n0 C L a fr st fun e fr st => match e with
      | .normal => ecode P T nt n0 C L b fr st k
      | .exit i => k (.exit i) fr st
      | .ret => k .ret fr st
    | some l => (ecode P T nt n0 C L a fr st fun e fr st => some (e, packF (some l) fr, st)).bind fun r => match r.1 with
      | .normal => ecode P T nt n0 C L b (unpackF nt (some l) (jGc n0 (jFrz P n0 r.2.1 r.2.2 (T.on (firstRegion b))) (T.onG (firstRegion b))).1) (jGc n0 (jFrz P n0 r.2.1 r.2.2 (T.on (firstRegion b))) (T.onG (firstRegion b))).2 k
      | .exit i => k (.exit i) (unpackF nt (some l) r.2.1) r.2.2
      | .ret => k .ret (unpackF nt (some l) r.2.1) r.2.2
  | _, .cond c a b, fr, st, k => bcase (ev fr c) (ecode P T nt n0 C L a fr st k) (ecode P T nt n0 C L b fr st k)
  | _, .block id b, fr, st, k => ecode P T nt n0 C L b fr st fun e fr st => match e with
    | .normal => k .normal fr st
    | .exit i => if i = id then k .normal fr st else k (.exit i) fr st
    | .ret => k .ret fr st
  | _, .loop b, fr, st, k => if nextIn b = true then
    L.any n0 (fun k' s => ecode P T nt n0 C L b (unpackF nt ((firstRegion b).bind T.at_) s.1) s.2 fun e fr st => (loopEnd ((firstRegion b).bind T.at_) ((firstRegion b).bind T.out) e fr st).bind k')
      (packF ((firstRegion b).bind T.at_) fr, st) fun r => k r.1 (unpackF nt ((firstRegion b).bind T.out) (gc n0 r.2.1 r.2.2).1) (gc n0 r.2.1 r.2.2).2
    else (L.run n0 (fun s => ecode P T nt n0 C L b (unpackF nt ((firstRegion b).bind T.at_) s.1) s.2 (loopEnd ((firstRegion b).bind T.at_) ((firstRegion b).bind T.out))) (packF ((firstRegion b).bind T.at_) fr, st)).bind fun r => k r.1 (unpackF nt ((firstRegion b).bind T.out) r.2.1) r.2.2
  | _, .scope b, fr, st, k => ecode P T nt n0 C L b fr st k
  | _, .rangeFunc g ps assign body, fr, st, k =>
    (aFn P (ev fr g) [.chan (some st.H.length)]).bind fun q => if q.1 < yidB then (C q.1 q.2 (st.H ++ [.loop T.me ps.toList assign body fr .ready])).bind fun r =>
    (loopPend r.2.1 st.H.length).bind fun e => k e fr ⟨r.2.1.set st.H.length .dead, joinEsc st.esc r.2.2⟩ else none
  | _, .exit id, fr, st, k => k (.exit id) fr st
  | _, .ret, fr, st, k => k .ret fr st
  | _, _, _, _, _ => none

/-- is a call deferred in some code? -/
def hasDefer : Code → Bool
  | .region _ ops _ => ops.any fun o => match o.op with | .defer _ => true | _ => false
  | .seq a b | .cond _ a b | .rangeFunc _ _ a b => hasDefer a || hasDefer b
  | .block _ b | .loop b | .scope b => hasDefer b
  | _ => false

/-- the call that a region defers in the end -/
def deferAt (ops : Array Oper) : Option Call :=
  match ops[ops.size - 1]? with
  | some o => match o.op, o.guard, o.dst with
    | .defer c, none, none => some c
    | _, _, _ => none
  | none => none

def deferIn : Code → Bool
  | .region _ ops false => (deferAt ops).isSome
  | .seq a b => deferIn a || deferIn b
  | _ => false

/-- code up to the call that it defers; what comes behind it is handed on -/
def edef (P : Program) (T : Tab) (nt n0 : Nat) (C : Callee) (L : Loops) : {R : Type} → Code → List Value → AS → (List Value → AS → Call → List Code → Option R) → Option R
  | _, .seq a b, fr, st, k => if deferIn a = true then edef P T nt n0 C L a fr st fun fr st c rest => k fr st c (rest ++ [b])
    else ecode P T nt n0 C L a fr st fun e fr st => match e with
      | .normal => edef P T nt n0 C L b fr st k
      | _ => none
  | _, .region id ops draw, fr, st, k => if draw = true then none else match deferAt ops with
    | some c => eops P C ops noChk (List.range (ops.size - 1)) [] (keep nt (T.at_ id) fr) st fun fr st => k fr st c []
    | none => none
  | _, _, _, _, _ => none

/-- codes, one behind the other -/
def eseq (P : Program) (T : Tab) (nt n0 : Nat) (C : Callee) (L : Loops) {R : Type} : List Code → List Value → AS → (AEx → List Value → AS → Option R) → Option R
  | [], fr, st, k => k .normal fr st
  | c :: cs, fr, st, k => ecode P T nt n0 C L c fr st fun e fr st => match e with
    | .normal => eseq P T nt n0 C L cs fr st k
    | .exit i => k (.exit i) fr st
    | .ret => k .ret fr st

/-- a function's results -/
def resultV (P : Program) (fr : List Value) (st : AS) : ResultVar → Option Value
  | .tmp t => some (fr.getD t unk)
  | .cell a t => match isAggP P t, sizeP P t with
    | some g, some n => aLoad g n st (fr.getD a unk)
    | _, _ => none

def resultVs (P : Program) (fr : List Value) (st : AS) : List ResultVar → Option (List Value)
  | [] => some []
  | r :: rs => (resultV P fr st r).bind fun v => (resultVs P fr st rs).bind fun vs => some (v :: vs)

def oneOf : List Value → Value
  | [v] => v
  | vs => .tuple vs.toArray

/-- results become values of their own, unless they are to be kept -/
def endFrz (P : Program) (keep : Bool) (n0 : Nat) (vs : List Value) (H : List Blk) : List Value × List Blk := if keep = true then (vs, H) else frzL (frz P n0 8) vs H

/-- a function that defers no call -/
def plainD (P : Program) (f : FuncId) : Bool :=
  match (P.funcs[f]?).bind (·.body) with
  | some c => !hasDefer c
  | none => false

/-- the end of a call -/
def finish (P : Program) (keep : Bool) (n0 : Nat) (rs : List ResultVar) (fr : List Value) (st : AS) : Option (Value × List Blk × Option Nat) :=
  (resultVs P fr st rs).bind fun vs =>
    let q := endFrz P keep n0 vs st.H
    let g := if keep = true then (q.1, ⟨q.2, st.esc⟩) else gc n0 q.1 ⟨q.2, st.esc⟩
    some (oneOf g.1, g.2.H, escBelow n0 g.2.esc)

/-- a round of a walk over a function's values: a call of yield -/
def eround (P : Program) (T : FuncId → Tab) (C : Callee) (L : Loops) (l : Nat) (args : List Value) (H : List Blk) : Option (Value × List Blk × Option Nat) :=
  match H[l]? with
  | some (.loop f ps assign body fr .ready) =>
    if args.length = ps.length then
      ecode P (T f) fr.length H.length C L assign (setPs fr ps args) ⟨H, none⟩ fun e fr1 st1 => match e with
        | .normal => (setLoop l st1 LSt.isReady .busy).bind fun st2 => ecode P (T f) fr.length H.length C L body fr1 st2 fun e _ st3 =>
          (setLoop l st3 LSt.isBusy (roundSt e)).bind fun st4 => some (.bool (roundV e), (gc H.length [] st4).2.H, escBelow H.length (gc H.length [] st4).2.esc)
        | _ => none
    else none
  | _ => none

/-- the body of a function that defers a call -/
def edbody (P : Program) (T : Tab) (nd : FuncId → Bool) (C : Callee) (L : Loops) (fn : Func) (c : Code) (fr : List Value) (H : List Blk) : Option (Value × List Blk × Option Nat) :=
  edef P T fn.ntmps H.length C L c fr ⟨H, none⟩ fun fr1 st1 cl rest => match cl.callee with
    | .value f => (aFn P (ev fr1 f) (cl.args.toList.map (ev fr1))).bind fun d => if d.1 < yidB ∧ d.2 ≠ [] ∧ plainD P d.1 = true ∧ nd d.1 = true then
        eseq P T fn.ntmps st1.H.length C L rest fr1 ⟨st1.H, none⟩ fun e fr2 st2 => match e with
          | .exit _ => none
          | _ => (C d.1 d.2 st2.H).bind fun r => finish P T.keep H.length fn.results.toList fr2 ⟨r.2.1, joinEsc st1.esc (joinEsc st2.esc r.2.2)⟩
      else none
    | _ => none

/-- is it run? -/
def noSum (T : FuncId → Tab) (f : FuncId) : Bool := match (T f).sum with
  | none => true
  | some _ => false

/-- a function's body -/
def ebody0 (P : Program) (T : FuncId → Tab) (C : Callee) (L : Loops) : Callee := fun f args H =>
  cond (Nat.ble yidB f) (eround P T C L (f - yidB) args H) <|
  match (T f).sum with
  | some g => g args H
  | none =>
  match (T f).lives with
  | true => match args with
    | [] => some (.bool true, H, none)
    | _ :: _ => none
  | false => match P.funcs[f]? with
    | some fn => match fn.body with
      | some c =>
        if args.length ≤ fn.ntmps then
          match (T f).dfr with
          | true => if hasDefer c = true then edbody P (T f) (noSum T) C L fn c (args ++ List.replicate (fn.ntmps - args.length) undef) H else none
          | false =>
          ecode P (T f) fn.ntmps H.length C L c (args ++ List.replicate (fn.ntmps - args.length) undef) ⟨H, none⟩ fun e fr st => match e with
            | .normal | .ret => finish P (T f).keep H.length fn.results.toList fr st
            | .exit _ => none
        else none
      | none => none
    | none => none

/-- a call: the body, behind what becomes of the arguments -/
def ebody (P : Program) (T : FuncId → Tab) (C : Callee) (L : Loops) : Callee := fun f args H => ebody0 P T C L f (jFrz P 0 args ⟨H, none⟩ (T f).fza).1 (jFrz P 0 args ⟨H, none⟩ (T f).fza).2.H
end

/-- calls, so deep at most -/
noncomputable def callN (P : Program) (T : FuncId → Tab) : Nat → Callee
  | 0 => fun _ _ _ => none
  | n + 1 => ebody P T (callN P T n) loopG

/-- the same with a bound for the rounds: it can be reckoned -/
def callF (P : Program) (T : FuncId → Tab) : Nat → Callee
  | 0 => fun _ _ _ => none
  | n + 1 => ebody P T (callF P T n) (loopB (n * 4096 + 4096))

open Classical in
/-- calls without a bound -/
noncomputable def acall (P : Program) (T : FuncId → Tab) : Callee := fun f args H =>
  if h : ∃ n r, callN P T n f args H = some r then some (Classical.choose (Classical.choose_spec h)) else none

end Go.Am

end
section
namespace Go.Am

/-- where the blocks are, and the rows that nothing writes any more -/
structure Ren where
  at_ : Nat → Option (Nat × Nat)
  fz : Nat → Option (Array Value)
instance : CoeFun Ren (fun _ => Nat → Option (Nat × Nat)) := ⟨Ren.at_⟩
abbrev Sh := Nat → Option (TypeId × Nat)

/-- the model's value that an abstract one stands for -/
inductive VRel (P : Program) (ρ : Ren) (sh : Sh) : Value → Value → Prop
  | any (v : Value) : VRel P ρ sh (.chan none) v
  | same (v : Value) (h : plain v = true) : VRel P ρ sh v v
  | ptr {b o cb base : Nat} (h : ρ b = some (cb, base)) : VRel P ρ sh (.pointer (some ⟨b, o, none⟩)) (.pointer (some ⟨cb, base + o, none⟩))
  | slice {b o cb base len cap cap' : Nat} (h : ρ b = some (cb, base)) (hc : cap ≠ UNK → cap' = cap) (hl : len ≤ cap')
      (hu : cap = UNK → ∃ e n, sh cb = some (e, n) ∧ base + o + cap' * P.cellsOf e ≤ n) :
      VRel P ρ sh (.slice (some ⟨b, o, none⟩) len cap) (.slice (some ⟨cb, base + o, none⟩) len cap')
  | slice0 {b o : Nat} {a' : Addr} {cap : Nat} (hb : (ρ b).isSome = true) (hc : cap ≠ UNK → cap = 0) : VRel P ρ sh (.slice (some ⟨b, o, none⟩) 0 cap) (.slice (some a') 0 0)
  | map {r cr : Nat} (h : ρ r = some (cr, 0)) : VRel P ρ sh (.map (some r)) (.map (some cr))
  | yld {r cr : Nat} (h : ρ r = some (cr, 0)) : VRel P ρ sh (.chan (some r)) (.func (.yield cr) #[] #[])
  | func {fn : Fn} {a a' b b' : Array Value} (ha : a.size = a'.size) (hb : b.size = b'.size)
      (ha' : ∀ i (h1 : i < a.size) (h2 : i < a'.size), VRel P ρ sh a[i] a'[i]) (hb' : ∀ i (h1 : i < b.size) (h2 : i < b'.size), VRel P ρ sh b[i] b'[i]) :
      VRel P ρ sh (.func fn a b) (.func fn a' b')
  | agg {a a' : Array Value} (ha : a.size = a'.size) (ha' : ∀ i (h1 : i < a.size) (h2 : i < a'.size), VRel P ρ sh a[i] a'[i]) : VRel P ρ sh (.agg a) (.agg a')
  | tuple {a a' : Array Value} (ha : a.size = a'.size) (ha' : ∀ i (h1 : i < a.size) (h2 : i < a'.size), VRel P ρ sh a[i] a'[i]) : VRel P ρ sh (.tuple a) (.tuple a')
  | tree {len cb base cap' : Nat} {a a' c : Array Value} (hz : ρ.fz cb = some c) (hc : (c.toList.drop base).take a'.size = a'.toList) (hl : len ≤ cap')
      (ha : a.size = a'.size) (ha' : ∀ i (h1 : i < a.size) (h2 : i < a'.size), VRel P ρ sh a[i] a'[i]) : VRel P ρ sh (.iface len (.tuple a)) (.slice (some ⟨cb, base, none⟩) len cap')
  | tree0 {a' : Option Addr} {cap' : Nat} (hn : a' = none → cap' = 0) : VRel P ρ sh (.iface 0 (.tuple #[])) (.slice a' 0 cap')
  | tptr {off cb base : Nat} {a a' c : Array Value} (hz : ρ.fz cb = some c) (hc : (c.toList.drop base).take a'.size = a'.toList)
      (ha : a.size = a'.size) (ha' : ∀ i (h1 : i < a.size) (h2 : i < a'.size), VRel P ρ sh a[i] a'[i]) : VRel P ρ sh (.iface off (.agg a)) (.pointer (some ⟨cb, base + off, none⟩))
  | tight {len : Nat} {a : Array Value} {a' : Option Addr} (h : VRel P ρ sh (.iface len (.tuple a)) (.slice a' len len)) : VRel P ρ sh (.iface len (.iface 0 (.tuple a))) (.slice a' len len)

/-- lists of values, one by one -/
def LRel (P : Program) (ρ : Ren) (sh : Sh) (l l' : List Value) : Prop := l.length = l'.length ∧ ∀ (i : Nat) (v : Value), l[i]? = some v → ∃ v' : Value, l'[i]? = some v' ∧ VRel P ρ sh v v'

section
variable {P : Program} {ρ ρ' : Ren} {sh sh' : Sh}

theorem plainL_get {l : List Value} (h : plainL l = true) : ∀ (i : Nat) v, l[i]? = some v → plain v = true := by
  induction l with
  | nil => intro i v hv; simp at hv
  | cons x xs ih =>
    simp only [plainL, Bool.and_eq_true] at h
    intro i v hv
    cases i with
    | zero => simp at hv; subst hv; exact h.1
    | succ i => simp at hv; exact ih h.2 i v hv

theorem plainA_get {a : Array Value} (h : plainA a = true) (i : Nat) (hi : i < a.size) : plain a[i] = true := by
  cases a with | mk l => exact plainL_get h i _ (by simp [List.getElem?_eq_getElem, hi])

theorem LRel.refl_plain {l : List Value} (h : plainL l = true) : LRel P ρ sh l l :=
  ⟨rfl, fun i v hv => ⟨v, hv, .same v (plainL_get h i v hv)⟩⟩

theorem LRel.nil : LRel P ρ sh [] [] := ⟨rfl, fun i v h => by simp at h⟩

theorem LRel.cons {v v' : Value} {l l' : List Value} (h : VRel P ρ sh v v') (hl : LRel P ρ sh l l') : LRel P ρ sh (v :: l) (v' :: l') := by
  refine ⟨by simp [hl.1], fun i x hx => ?_⟩
  cases i with
  | zero => simp at hx; subst hx; exact ⟨v', by simp, h⟩
  | succ i => simp at hx; obtain ⟨y, hy, hr⟩ := hl.2 i x hx; exact ⟨y, by simpa using hy, hr⟩

theorem LRel.head {v v' : Value} {l l' : List Value} (h : LRel P ρ sh (v :: l) (v' :: l')) : VRel P ρ sh v v' ∧ LRel P ρ sh l l' := by
  obtain ⟨hl, hi⟩ := h
  constructor
  · obtain ⟨y, hy, hr⟩ := hi 0 v (by simp); simp at hy; subst hy; exact hr
  · refine ⟨by simpa using hl, fun i x hx => ?_⟩
    obtain ⟨y, hy, hr⟩ := hi (i + 1) x (by simpa using hx)
    exact ⟨y, by simpa using hy, hr⟩

theorem LRel.append {a a' b b' : List Value} (h : LRel P ρ sh a a') (h' : LRel P ρ sh b b') : LRel P ρ sh (a ++ b) (a' ++ b') := by
  refine ⟨by simp [h.1, h'.1], fun i v hv => ?_⟩
  by_cases hi : i < a.length
  · rw [List.getElem?_append_left hi] at hv
    obtain ⟨y, hy, hr⟩ := h.2 i v hv
    exact ⟨y, by rw [List.getElem?_append_left (h.1 ▸ hi)]; exact hy, hr⟩
  · have hi' : a.length ≤ i := Nat.le_of_not_lt hi
    rw [List.getElem?_append_right hi'] at hv
    obtain ⟨y, hy, hr⟩ := h'.2 _ v hv
    exact ⟨y, by rw [List.getElem?_append_right (h.1 ▸ hi'), ← h.1]; exact hy, hr⟩

theorem LRel.take {a a' : List Value} (h : LRel P ρ sh a a') (n : Nat) : LRel P ρ sh (a.take n) (a'.take n) := by
  refine ⟨by simp [h.1], fun i v hv => ?_⟩
  rw [List.getElem?_take] at hv
  split at hv
  · rename_i hi
    obtain ⟨y, hy, hr⟩ := h.2 i v hv
    exact ⟨y, by rw [List.getElem?_take, if_pos hi]; exact hy, hr⟩
  · simp at hv

theorem LRel.drop {a a' : List Value} (h : LRel P ρ sh a a') (n : Nat) : LRel P ρ sh (a.drop n) (a'.drop n) := by
  refine ⟨by simp [h.1], fun i v hv => ?_⟩
  rw [List.getElem?_drop] at hv
  obtain ⟨y, hy, hr⟩ := h.2 _ v hv
  exact ⟨y, by rw [List.getElem?_drop]; exact hy, hr⟩

theorem LRel.set {a a' : List Value} (h : LRel P ρ sh a a') (n : Nat) {v v' : Value} (hv : VRel P ρ sh v v') : LRel P ρ sh (a.set n v) (a'.set n v') := by
  refine ⟨by simp [h.1], fun i x hx => ?_⟩
  by_cases hi : n = i
  · subst hi
    by_cases hn : n < a.length
    · rw [List.getElem?_set_self hn] at hx; simp at hx; subst hx
      exact ⟨v', by rw [List.getElem?_set_self (h.1 ▸ hn)], hv⟩
    · rw [List.getElem?_eq_none (by simpa using Nat.le_of_not_lt hn)] at hx; simp at hx
  · rw [List.getElem?_set_ne hi] at hx
    obtain ⟨y, hy, hr⟩ := h.2 i x hx
    exact ⟨y, by rw [List.getElem?_set_ne hi]; exact hy, hr⟩

theorem LRel.getD {a a' : List Value} (h : LRel P ρ sh a a') (n : Nat) (d : Value) : VRel P ρ sh (a.getD n unk) (a'.getD n d) := by
  by_cases hn : n < a.length
  · obtain ⟨y, hy, hr⟩ := h.2 n a[n] (List.getElem?_eq_getElem hn)
    simp [List.getD, List.getElem?_eq_getElem hn, hy, hr]
  · simp [List.getD, List.getElem?_eq_none (Nat.le_of_not_lt hn)]
    exact .any _

theorem LRel.flatten_replicate {l : List Value} (h : plainL l = true) (n : Nat) : LRel P ρ sh (List.replicate n l).flatten (List.replicate n l).flatten := by
  induction n with
  | zero => exact .nil
  | succ n ih => rw [List.replicate_succ, List.flatten_cons]; exact (LRel.refl_plain h).append ih

/-- arrays' relation as lists' -/
theorem LRel.of_arr {a a' : Array Value} (ha : a.size = a'.size) (ha' : ∀ i (h1 : i < a.size) (h2 : i < a'.size), VRel P ρ sh a[i] a'[i]) : LRel P ρ sh a.toList a'.toList := by
  refine ⟨by simpa using ha, fun i v hv => ?_⟩
  have hi : i < a.size := by
    by_cases h : i < a.size
    · exact h
    · rw [List.getElem?_eq_none (by simpa using Nat.le_of_not_lt h)] at hv; simp at hv
  have e : a[i] = v := by
    rw [List.getElem?_eq_getElem (by simpa using hi)] at hv; simpa using hv
  subst e
  exact ⟨a'[i], by rw [List.getElem?_eq_getElem (by simpa [← ha] using hi)]; simp, ha' i hi (ha ▸ hi)⟩

theorem LRel.arr {a a' : Array Value} (h : LRel P ρ sh a.toList a'.toList) : a.size = a'.size ∧ ∀ i (_ : i < a.size) (_ : i < a'.size), VRel P ρ sh a[i] a'[i] := by
  have hs : a.size = a'.size := by simpa using h.1
  refine ⟨hs, fun i h1 h2 => ?_⟩
  obtain ⟨y, hy, hr⟩ := h.2 i a[i] (by rw [List.getElem?_eq_getElem (by simpa using h1)]; simp)
  rw [List.getElem?_eq_getElem (by simpa using h2)] at hy
  simp at hy; subst hy; exact hr

theorem VRel.agg_list {l l' : List Value} (h : LRel P ρ sh l l') : VRel P ρ sh (.agg l.toArray) (.agg l'.toArray) := by
  have := LRel.arr (a := l.toArray) (a' := l'.toArray) (by simpa using h)
  exact .agg this.1 this.2

theorem VRel.tuple_list {l l' : List Value} (h : LRel P ρ sh l l') : VRel P ρ sh (.tuple l.toArray) (.tuple l'.toArray) := by
  have := LRel.arr (a := l.toArray) (a' := l'.toArray) (by simpa using h)
  exact .tuple this.1 this.2

/-- a known value: what it stands for is itself -/
theorem VRel.eq_of_plain {v v' : Value} (h : VRel P ρ sh v v') : plain v = true → v' = v := by
  induction h with
  | any v => intro h; simp [plain] at h
  | same v _ => intro _; rfl
  | ptr _ => intro h; simp [plain] at h
  | slice _ _ _ _ => intro h; simp [plain] at h
  | slice0 _ _ => intro h; simp [plain] at h
  | map _ => intro h; simp [plain] at h
  | yld _ => intro h; simp [plain] at h
  | tree _ _ _ _ _ _ => intro h; simp [plain] at h
  | tree0 _ => intro h; simp [plain] at h
  | tptr _ _ _ _ _ => intro h; simp [plain] at h
  | tight _ _ => intro h; simp [plain] at h
  | @func fn a a' b b' ha hb _ _ iha ihb =>
    intro h
    simp only [plain, Bool.and_eq_true] at h
    have e1 : a' = a := by
      apply Array.ext ha.symm
      intro i h1 h2; exact iha i h2 h1 (plainA_get h.1 i h2)
    have e2 : b' = b := by
      apply Array.ext hb.symm
      intro i h1 h2; exact ihb i h2 h1 (plainA_get h.2 i h2)
    rw [e1, e2]
  | @agg a a' ha _ iha =>
    intro h
    simp only [plain] at h
    have e1 : a' = a := by
      apply Array.ext ha.symm
      intro i h1 h2; exact iha i h2 h1 (plainA_get h i h2)
    rw [e1]
  | @tuple a a' ha _ iha =>
    intro h
    simp only [plain] at h
    have e1 : a' = a := by
      apply Array.ext ha.symm
      intro i h1 h2; exact iha i h2 h1 (plainA_get h i h2)
    rw [e1]

theorem LRel.eq_of_plain {l l' : List Value} (h : LRel P ρ sh l l') (hp : plainL l = true) : l' = l := by
  apply List.ext_getElem? fun i => ?_
  cases hi : l[i]? with
  | none => rw [List.getElem?_eq_none_iff] at hi ⊢; rw [← h.1]; exact hi
  | some v =>
    obtain ⟨y, hy, hr⟩ := h.2 i v hi
    rw [hy, hr.eq_of_plain (plainL_get hp i v hi)]

theorem plainL_arr {a : Array Value} : plainA a = plainL a.toList := by cases a; rfl

theorem VRel.agg_inv {a : Array Value} {v : Value} (h : VRel P ρ sh (.agg a) v) : ∃ a', v = .agg a' ∧ LRel P ρ sh a.toList a'.toList := by
  cases h with
  | same _ h => exact ⟨a, rfl, .refl_plain (by simpa [plain, plainL_arr] using h)⟩
  | agg ha ha' => exact ⟨_, rfl, .of_arr ha ha'⟩

theorem VRel.tuple_inv {a : Array Value} {v : Value} (h : VRel P ρ sh (.tuple a) v) : ∃ a', v = .tuple a' ∧ LRel P ρ sh a.toList a'.toList := by
  cases h with
  | same _ h => exact ⟨a, rfl, .refl_plain (by simpa [plain, plainL_arr] using h)⟩
  | tuple ha ha' => exact ⟨_, rfl, .of_arr ha ha'⟩

theorem VRel.ptree_inv {len : Nat} {a : Array Value} {v : Value} (h : VRel P ρ sh (.iface len (.tuple a)) v) :
    (∃ cb base cap' c a', v = .slice (some ⟨cb, base, none⟩) len cap' ∧ ρ.fz cb = some c ∧ (c.toList.drop base).take a'.length = a' ∧ len ≤ cap' ∧ LRel P ρ sh a.toList a') ∨
    (len = 0 ∧ a = #[] ∧ ∃ a' cap', (a' = none → cap' = 0) ∧ v = .slice a' 0 cap') := by
  cases h with
  | same _ h => simp [plain] at h
  | tree hz hc hl ha ha' => exact .inl ⟨_, _, _, _, _, rfl, hz, by simpa using hc, hl, .of_arr ha ha'⟩
  | tree0 hn => exact .inr ⟨rfl, rfl, _, _, hn, rfl⟩

theorem VRel.tptr_inv {off : Nat} {a : Array Value} {v : Value} (h : VRel P ρ sh (.iface off (.agg a)) v) :
    ∃ cb base c a', v = .pointer (some ⟨cb, base + off, none⟩) ∧ ρ.fz cb = some c ∧ (c.toList.drop base).take a'.length = a' ∧ LRel P ρ sh a.toList a' := by
  cases h with
  | same _ h => simp [plain] at h
  | tptr hz hc ha ha' => exact ⟨_, _, _, _, rfl, hz, by simpa using hc, .of_arr ha ha'⟩

theorem VRel.tptr_list {off cb base : Nat} {a a' : List Value} {c : Array Value} (hz : ρ.fz cb = some c) (hc : (c.toList.drop base).take a'.length = a') (h : LRel P ρ sh a a') :
    VRel P ρ sh (.iface off (.agg a.toArray)) (.pointer (some ⟨cb, base + off, none⟩)) := by
  have := LRel.arr (a := a.toArray) (a' := a'.toArray) (by simpa using h)
  exact .tptr hz (by simpa using hc) this.1 this.2

theorem VRel.tree_list {len cb base cap' : Nat} {a a' : List Value} {c : Array Value} (hz : ρ.fz cb = some c) (hc : (c.toList.drop base).take a'.length = a') (hl : len ≤ cap') (h : LRel P ρ sh a a') :
    VRel P ρ sh (.iface len (.tuple a.toArray)) (.slice (some ⟨cb, base, none⟩) len cap') := by
  have := LRel.arr (a := a.toArray) (a' := a'.toArray) (by simpa using h)
  exact .tree hz (by simpa using hc) hl this.1 this.2

theorem VRel.func_inv {fn : Fn} {a b : Array Value} {v : Value} (h : VRel P ρ sh (.func fn a b) v) : ∃ a' b', v = .func fn a' b' ∧ LRel P ρ sh a.toList a'.toList ∧ LRel P ρ sh b.toList b'.toList := by
  cases h with
  | same _ h =>
    simp only [plain, Bool.and_eq_true, plainL_arr] at h
    exact ⟨a, b, rfl, .refl_plain h.1, .refl_plain h.2⟩
  | func ha hb ha' hb' => exact ⟨_, _, rfl, .of_arr ha ha', .of_arr hb hb'⟩

theorem VRel.yld_inv {r : Nat} {v : Value} (h : VRel P ρ sh (.chan (some r)) v) : ∃ cr, ρ r = some (cr, 0) ∧ v = .func (.yield cr) #[] #[] := by
  cases h with
  | same _ h => simp [plain] at h
  | yld h => exact ⟨_, h, rfl⟩

theorem VRel.bool_inv {b : Bool} {v : Value} (h : VRel P ρ sh (.bool b) v) : v = .bool b := h.eq_of_plain rfl
theorem VRel.int_inv {k : IntKind} {n : Int} {v : Value} (h : VRel P ρ sh (.int k n) v) : v = .int k n := h.eq_of_plain rfl
theorem VRel.string_inv {s : ByteArray} {v : Value} (h : VRel P ρ sh (.string s) v) : v = .string s := h.eq_of_plain rfl

theorem VRel.ptr_inv {a : Addr} {v : Value} (h : VRel P ρ sh (.pointer (some a)) v) : ∃ cb base, a.spot = none ∧ ρ a.block = some (cb, base) ∧ v = .pointer (some ⟨cb, base + a.off, none⟩) := by
  cases h with
  | same _ h => simp [plain] at h
  | ptr h => exact ⟨_, _, rfl, h, rfl⟩

/-- a single cell stays one -/
theorem VRel.cellV {v v' : Value} (h : VRel P ρ sh v v') (hc : cellV v = true) : v'.cells = #[v'] ∧ v.cells = #[v] ∧ v'.oneCell' = true := by
  cases h with
  | any v => simp [Am.cellV] at hc
  | same v h => cases v <;> simp_all [Am.cellV, Value.cells, Value.oneCell']
  | ptr _ => exact ⟨rfl, rfl, rfl⟩
  | slice _ _ _ _ => exact ⟨rfl, rfl, rfl⟩
  | slice0 _ _ => exact ⟨rfl, rfl, rfl⟩
  | map _ => exact ⟨rfl, rfl, rfl⟩
  | yld _ => exact ⟨rfl, rfl, rfl⟩
  | func _ _ _ _ => exact ⟨rfl, rfl, rfl⟩
  | agg _ _ => simp [Am.cellV] at hc
  | tuple _ _ => simp [Am.cellV] at hc
  | tree _ _ _ _ _ => exact ⟨rfl, rfl, rfl⟩
  | tree0 _ => exact ⟨rfl, rfl, rfl⟩
  | tptr _ _ _ _ => exact ⟨rfl, rfl, rfl⟩
  | tight _ => exact ⟨rfl, rfl, rfl⟩

theorem mem_lrefs {l : List Value} {b : Nat} : b ∈ lrefs l ↔ ∃ v ∈ l, b ∈ vrefs v := by
  induction l with
  | nil => simp [lrefs]
  | cons x xs ih => simp [lrefs, ih]

theorem arefs_list (a : Array Value) : arefs a = lrefs a.toList := by cases a; rfl
theorem aren_list (σ : Nat → Nat) (a : Array Value) : aren σ a = (lren σ a.toList).toArray := by cases a; rfl
theorem lren_map (σ : Nat → Nat) (l : List Value) : lren σ l = l.map (vren σ) := by
  induction l with
  | nil => rfl
  | cons x xs ih => simp [lren, ih]

theorem mem_arefs {a : Array Value} {i b : Nat} (hi : i < a.size) (h : b ∈ vrefs a[i]) : b ∈ arefs a := by
  rw [arefs_list, mem_lrefs]
  exact ⟨a[i], by simp, h⟩

theorem aren_size (σ : Nat → Nat) (a : Array Value) : (aren σ a).size = a.size := by rw [aren_list, lren_map]; simp
theorem aren_get (σ : Nat → Nat) (a : Array Value) (i : Nat) (h : i < (aren σ a).size) (h' : i < a.size) : (aren σ a)[i] = vren σ a[i] := by
  simp only [aren_list, lren_map]; simp

theorem vren_plain (σ : Nat → Nat) {P : Program} {ρ : Ren} {sh : Sh} {v v' : Value} (h : VRel P ρ sh v v') : plain v = true → vren σ v = v := by
  induction h with
  | any v => intro h; simp [plain] at h
  | same v h => intro _; exact plain_ren σ v h
  | ptr _ => intro h; simp [plain] at h
  | slice _ _ _ _ => intro h; simp [plain] at h
  | slice0 _ _ => intro h; simp [plain] at h
  | map _ => intro h; simp [plain] at h
  | yld _ => intro h; simp [plain] at h
  | func _ _ _ _ _ _ => intro h; exact plain_ren σ _ h
  | agg _ _ _ => intro h; exact plain_ren σ _ h
  | tuple _ _ _ => intro h; exact plain_ren σ _ h
  | tree _ _ _ _ _ _ => intro h; simp [plain] at h
  | tree0 _ => intro h; simp [plain] at h
  | tptr _ _ _ _ _ => intro h; simp [plain] at h
  | tight _ _ => intro h; simp [plain] at h
where
  plain_ren (σ : Nat → Nat) : ∀ v, plain v = true → vren σ v = v
    | .bool _, _ | .int _ _, _ | .float _ _, _ | .string _, _ | .pointer none, _ | .slice none _ _, _ | .map none, _ | .nilFunc, _ | .nilIface, _ => rfl
    | .agg ⟨l⟩, h => by simp only [vren, aren]; rw [plain_renL σ l (by simpa [plain, plainA] using h)]
    | .tuple ⟨l⟩, h => by simp only [vren, aren]; rw [plain_renL σ l (by simpa [plain, plainA] using h)]
    | .func f ⟨a⟩ ⟨b⟩, h => by
      simp only [plain, plainA, Bool.and_eq_true] at h
      simp only [vren, aren]; rw [plain_renL σ a h.1, plain_renL σ b h.2]
    | .complex _ _ _, h => rfl
    | .pointer (some _), h => by simp [plain] at h
    | .slice (some _) _ _, h => by simp [plain] at h
    | .map (some _), h => by simp [plain] at h
    | .chan none, h => rfl
    | .chan (some _), h => by simp [plain] at h
    | .iface _ _, h => by simp [plain] at h
  plain_renL (σ : Nat → Nat) : ∀ l, plainL l = true → lren σ l = l
    | [], _ => rfl
    | v :: vs, h => by
      simp only [plainL, Bool.and_eq_true] at h
      simp only [lren]; rw [plain_ren σ v h.1, plain_renL σ vs h.2]

/-- the blocks that a value names are renamed; the model's value stays -/
theorem VRel.ren {σ : Nat → Nat} {v v' : Value} (h : VRel P ρ sh v v') (hz : ∀ cb c, ρ.fz cb = some c → ρ'.fz cb = some c) : (∀ b ∈ vrefs v, ρ' (σ b) = ρ b) → (∀ r x, sh r = some x → sh' r = some x) → VRel P ρ' sh' (vren σ v) v' := by
  induction h with
  | any v => intro _ _; exact .any v
  | same v h => intro _ _; rw [vren_plain.plain_ren σ v h]; exact .same v h
  | ptr h => intro hr _; exact .ptr (by rw [hr _ (by simp [vrefs])]; exact h)
  | slice h hc hl hu =>
    intro hr hs
    exact .slice (by rw [hr _ (by simp [vrefs])]; exact h) hc hl (fun e => let ⟨e, n, h1, h2⟩ := hu e; ⟨e, n, hs _ _ h1, h2⟩)
  | slice0 hb hc => intro hr _; exact .slice0 (by rw [hr _ (by simp [vrefs])]; exact hb) hc
  | map h => intro hr _; exact .map (by rw [hr _ (by simp [vrefs])]; exact h)
  | yld h => intro hr _; exact .yld (by rw [hr _ (by simp [vrefs])]; exact h)
  | @func fn a a' b b' ha hb _ _ iha ihb =>
    intro hr hs
    refine .func (by rw [aren_size]; exact ha) (by rw [aren_size]; exact hb) (fun i h1 h2 => ?_) (fun i h1 h2 => ?_)
    · rw [aren_size] at h1
      rw [aren_get _ _ _ _ h1]
      exact iha i h1 h2 (fun c hc => hr c (by simp [vrefs, mem_arefs h1 hc])) hs
    · rw [aren_size] at h1
      rw [aren_get _ _ _ _ h1]
      exact ihb i h1 h2 (fun c hc => hr c (by simp [vrefs, mem_arefs h1 hc])) hs
  | @agg a a' ha _ iha =>
    intro hr hs
    refine .agg (by rw [aren_size]; exact ha) (fun i h1 h2 => ?_)
    rw [aren_size] at h1
    rw [aren_get _ _ _ _ h1]
    exact iha i h1 h2 (fun c hc => hr c (by simp [vrefs, mem_arefs h1 hc])) hs
  | @tuple a a' ha _ iha =>
    intro hr hs
    refine .tuple (by rw [aren_size]; exact ha) (fun i h1 h2 => ?_)
    rw [aren_size] at h1
    rw [aren_get _ _ _ _ h1]
    exact iha i h1 h2 (fun c hc => hr c (by simp [vrefs, mem_arefs h1 hc])) hs
  | tree h1 hc hl ha _ iha =>
    intro hr hs
    refine .tree (hz _ _ h1) hc hl (by rw [aren_size]; exact ha) (fun i h1 h2 => ?_)
    rw [aren_size] at h1
    rw [aren_get _ _ _ _ h1]
    exact iha i h1 h2 (fun c hc => hr c (by simp [vrefs, mem_arefs h1 hc])) hs
  | tree0 hn => intro _ _; exact .tree0 hn
  | tptr h1 hc ha _ iha =>
    intro hr hs
    refine .tptr (hz _ _ h1) hc (by rw [aren_size]; exact ha) (fun i h1 h2 => ?_)
    rw [aren_size] at h1
    rw [aren_get _ _ _ _ h1]
    exact iha i h1 h2 (fun c hc => hr c (by simp [vrefs, mem_arefs h1 hc])) hs
  | tight _ ih => intro hr hs; exact .tight (ih (fun b hb => hr b (by simpa [vrefs] using hb)) hs)

theorem VRel.congr {v v' : Value} (h : VRel P ρ sh v v') (hz : ∀ cb c, ρ.fz cb = some c → ρ'.fz cb = some c) : (∀ b ∈ vrefs v, ρ' b = ρ b) → VRel P ρ' sh v v' := by
  induction h with
  | any v => intro _; exact .any v
  | same v h => intro _; exact .same v h
  | ptr h => intro hr; exact .ptr (by rw [hr _ (by simp [vrefs])]; exact h)
  | slice h hc hl hu => intro hr; exact .slice (by rw [hr _ (by simp [vrefs])]; exact h) hc hl hu
  | slice0 hb hc => intro hr; exact .slice0 (by rw [hr _ (by simp [vrefs])]; exact hb) hc
  | map h => intro hr; exact .map (by rw [hr _ (by simp [vrefs])]; exact h)
  | yld h => intro hr; exact .yld (by rw [hr _ (by simp [vrefs])]; exact h)
  | @func fn a a' b b' ha hb _ _ iha ihb =>
    intro hr
    exact .func ha hb (fun i h1 h2 => iha i h1 h2 (fun c hc => hr c (by simp [vrefs, mem_arefs h1 hc]))) (fun i h1 h2 => ihb i h1 h2 (fun c hc => hr c (by simp [vrefs, mem_arefs h1 hc])))
  | @agg a a' ha _ iha => intro hr; exact .agg ha (fun i h1 h2 => iha i h1 h2 (fun c hc => hr c (by simp [vrefs, mem_arefs h1 hc])))
  | @tuple a a' ha _ iha => intro hr; exact .tuple ha (fun i h1 h2 => iha i h1 h2 (fun c hc => hr c (by simp [vrefs, mem_arefs h1 hc])))
  | tree h1 hc hl ha _ iha => intro hr; exact .tree (hz _ _ h1) hc hl ha (fun i h1 h2 => iha i h1 h2 (fun c hc => hr c (by simp [vrefs, mem_arefs h1 hc])))
  | tree0 hn => intro _; exact .tree0 hn
  | tptr h1 hc ha _ iha => intro hr; exact .tptr (hz _ _ h1) hc ha (fun i h1 h2 => iha i h1 h2 (fun c hc => hr c (by simp [vrefs, mem_arefs h1 hc])))
  | tight _ ih => intro hr; exact .tight (ih (fun b hb => hr b (by simpa [vrefs] using hb)))

/-- what a value stands for hangs on the blocks that are known alone -/
theorem VRel.mono {v v' : Value} (h : VRel P ρ sh v v') (hz : ∀ cb c, ρ.fz cb = some c → ρ'.fz cb = some c) (hr : ∀ b x, ρ b = some x → ρ' b = some x) (hs : ∀ r x, sh r = some x → sh' r = some x) : VRel P ρ' sh' v v' := by
  induction h with
  | any v => exact .any v
  | same v h => exact .same v h
  | ptr h => exact .ptr (hr _ _ h)
  | slice h hc hl hu => exact .slice (hr _ _ h) hc hl (fun e => let ⟨e, n, h1, h2⟩ := hu e; ⟨e, n, hs _ _ h1, h2⟩)
  | slice0 hb hc => exact .slice0 (by obtain ⟨x, hx⟩ := Option.isSome_iff_exists.1 hb; rw [hr _ _ hx]; rfl) hc
  | map h => exact .map (hr _ _ h)
  | yld h => exact .yld (hr _ _ h)
  | func ha hb _ _ iha ihb => exact .func ha hb (fun i h1 h2 => iha i h1 h2) (fun i h1 h2 => ihb i h1 h2)
  | agg ha _ iha => exact .agg ha (fun i h1 h2 => iha i h1 h2)
  | tuple ha _ iha => exact .tuple ha (fun i h1 h2 => iha i h1 h2)
  | tree h1 hc hl ha _ iha => exact .tree (hz _ _ h1) hc hl ha (fun i h1 h2 => iha i h1 h2)
  | tree0 hn => exact .tree0 hn
  | tptr h1 hc ha _ iha => exact .tptr (hz _ _ h1) hc ha (fun i h1 h2 => iha i h1 h2)
  | tight _ ih => exact .tight ih

theorem LRel.mono {l l' : List Value} (h : LRel P ρ sh l l') (hz : ∀ cb c, ρ.fz cb = some c → ρ'.fz cb = some c) (hr : ∀ b x, ρ b = some x → ρ' b = some x) (hs : ∀ r x, sh r = some x → sh' r = some x) : LRel P ρ' sh' l l' :=
  ⟨h.1, fun i v hv => let ⟨y, hy, hv⟩ := h.2 i v hv; ⟨y, hy, hv.mono hz hr hs⟩⟩

theorem LRel.ren {σ : Nat → Nat} {l l' : List Value} (h : LRel P ρ sh l l') (hz : ∀ cb c, ρ.fz cb = some c → ρ'.fz cb = some c) (hr : ∀ b ∈ lrefs l, ρ' (σ b) = ρ b) (hs : ∀ r x, sh r = some x → sh' r = some x) : LRel P ρ' sh' (lren σ l) l' := by
  rw [lren_map]
  refine ⟨by simp [h.1], fun i v hv => ?_⟩
  rw [List.getElem?_map] at hv
  cases hi : l[i]? with
  | none => simp [hi] at hv
  | some u =>
    simp [hi] at hv; subst hv
    obtain ⟨y, hy, hv⟩ := h.2 i u hi
    exact ⟨y, hy, hv.ren hz (fun b hb => hr b (mem_lrefs.2 ⟨u, List.mem_of_getElem? hi, hb⟩)) hs⟩

/-- every block that a related value names is known -/
theorem VRel.known {v v' : Value} (h : VRel P ρ sh v v') : ∀ b ∈ vrefs v, (ρ b).isSome = true := by
  induction h with
  | any v => intro b hb; simp [vrefs] at hb
  | same v h => intro b hb; rw [plain_refs v h] at hb; simp at hb
  | ptr h => intro b hb; simp [vrefs] at hb; subst hb; rw [h]; rfl
  | slice h _ _ _ => intro b hb; simp [vrefs] at hb; subst hb; rw [h]; rfl
  | slice0 h _ => intro b hb; simp [vrefs] at hb; subst hb; exact h
  | map h => intro b hb; simp [vrefs] at hb; subst hb; rw [h]; rfl
  | yld h => intro b hb; simp [vrefs] at hb; subst hb; rw [h]; rfl
  | @func fn a a' b b' ha hb _ _ iha ihb =>
    intro c hc
    simp only [vrefs, List.mem_append, arefs_list, mem_lrefs] at hc
    rcases hc with ⟨v, hv, hc⟩ | ⟨v, hv, hc⟩
    · obtain ⟨i, hi, rfl⟩ := Array.getElem_of_mem (by simpa using hv); exact iha i hi (ha ▸ hi) c hc
    · obtain ⟨i, hi, rfl⟩ := Array.getElem_of_mem (by simpa using hv); exact ihb i hi (hb ▸ hi) c hc
  | @agg a a' ha _ iha =>
    intro c hc
    simp only [vrefs, arefs_list, mem_lrefs] at hc
    obtain ⟨v, hv, hc⟩ := hc
    obtain ⟨i, hi, rfl⟩ := Array.getElem_of_mem (by simpa using hv); exact iha i hi (ha ▸ hi) c hc
  | @tuple a a' ha _ iha =>
    intro c hc
    simp only [vrefs, arefs_list, mem_lrefs] at hc
    obtain ⟨v, hv, hc⟩ := hc
    obtain ⟨i, hi, rfl⟩ := Array.getElem_of_mem (by simpa using hv); exact iha i hi (ha ▸ hi) c hc
  | @tree _ _ _ _ a a' _ _ _ _ ha _ iha =>
    intro c hc
    simp only [vrefs, arefs_list, mem_lrefs] at hc
    obtain ⟨v, hv, hc⟩ := hc
    obtain ⟨i, hi, rfl⟩ := Array.getElem_of_mem (by simpa using hv); exact iha i hi (ha ▸ hi) c hc
  | tree0 _ => intro b hb; simp [vrefs, arefs, lrefs] at hb
  | @tptr _ _ _ a a' _ _ _ ha _ iha =>
    intro c hc
    simp only [vrefs, arefs_list, mem_lrefs] at hc
    obtain ⟨v, hv, hc⟩ := hc
    obtain ⟨i, hi, rfl⟩ := Array.getElem_of_mem (by simpa using hv); exact iha i hi (ha ▸ hi) c hc
  | tight _ ih => intro b hb; exact ih b (by simpa [vrefs] using hb)
where
  plain_refs : ∀ v, plain v = true → vrefs v = []
    | .bool _, _ | .int _ _, _ | .float _ _, _ | .string _, _ | .pointer none, _ | .slice none _ _, _ | .map none, _ | .nilFunc, _ | .nilIface, _ => rfl
    | .agg ⟨l⟩, h => by simp only [vrefs, arefs]; exact plain_refsL l (by simpa [plain, plainA] using h)
    | .tuple ⟨l⟩, h => by simp only [vrefs, arefs]; exact plain_refsL l (by simpa [plain, plainA] using h)
    | .func f ⟨a⟩ ⟨b⟩, h => by
      simp only [plain, plainA, Bool.and_eq_true] at h
      simp only [vrefs, arefs]; rw [plain_refsL a h.1, plain_refsL b h.2]; rfl
    | .complex _ _ _, h => rfl
    | .pointer (some _), h => by simp [plain] at h
    | .slice (some _) _ _, h => by simp [plain] at h
    | .map (some _), h => by simp [plain] at h
    | .chan none, h => rfl
    | .chan (some _), h => by simp [plain] at h
    | .iface _ _, h => by simp [plain] at h
  plain_refsL : ∀ l, plainL l = true → lrefs l = []
    | [], _ => rfl
    | v :: vs, h => by
      simp only [plainL, Bool.and_eq_true] at h
      simp only [lrefs]; rw [plain_refs v h.1, plain_refsL vs h.2]; rfl

theorem LRel.known {l l' : List Value} (h : LRel P ρ sh l l') : ∀ b ∈ lrefs l, (ρ b).isSome = true := by
  intro b hb
  obtain ⟨v, hv, hb⟩ := mem_lrefs.1 hb
  obtain ⟨i, hi⟩ := List.mem_iff_getElem?.1 hv
  obtain ⟨y, _, hr⟩ := h.2 i v hi
  exact hr.known b hb

end
end Go.Am

end
section
namespace Go.Am

def ERel (P : Program) (ρ : Ren) (sh : Sh) (e ce : MapEntry) : Prop := VRel P ρ sh e.key ce.key ∧ VRel P ρ sh e.val ce.val ∧ ce.born = e.born

/-- is a block written by nobody else? -/
def Blk.owns : Blk → Bool
  | .cells _ _ own => own
  | .map _ _ => true
  | .iter _ _ _ _ => true
  | .loop .. => true
  | .dead => false

def Blk.live : Blk → Bool
  | .dead => false
  | _ => true

/-- what is frozen of a row of so many cells lies behind them -/
def FzOk (n : Nat) (fz : Nat × Nat) : Prop := fz = (0, 0) ∨ n ≤ fz.1

theorem FzOk.not {n : Nat} {fz : Nat × Nat} (h : FzOk n fz) : ∀ i, i < n → ¬ (fz.1 ≤ i ∧ i < fz.2) := by
  intro i hi hx
  rcases h with rfl | h
  · simp at hx
  · omega

/-- the map that is walked -/
def IRel (ρ : Ren) (m cm : Option Nat) : Prop := (m = none ∧ cm = none) ∨ ∃ r cr, m = some r ∧ cm = some cr ∧ ρ r = some (cr, 0)

/-- how the model's record of a walk stands -/
def LStRel : LSt → Loop → Prop
  | .ready, r => r.state = .ready ∧ r.pending = none
  | .busy, _ => True
  | .done none, r => r.state = .done ∧ r.pending = some .ret
  | .done (some i), r => r.state = .done ∧ r.pending = some (.exit i)

def BRel (P : Program) (ρ : Ren) (sh : Sh) (k : Blk) (base : Nat) (o : Obj) : Prop :=
  match k with
  | .cells cs e own => ∃ carr fz, o = .cells carr e fz ∧ LRel P ρ sh cs ((carr.toList.drop base).take cs.length) ∧
      (own = true → FzOk carr.size fz) ∧ allCells cs = true
  | .map es clock => base = 0 ∧ ∃ ces, o = .map ces clock ∧ ces.size = es.length ∧ ∀ (i : Nat) (e : MapEntry), es[i]? = some e → ∃ ce : MapEntry, ces[i]? = some ce ∧ ERel P ρ sh e ce
  | .iter m a b c => base = 0 ∧ ∃ cm, o = .mapIter cm a b.toArray c ∧ IRel ρ m cm
  | .loop _ ps x y fr s => base = 0 ∧ ∃ r, o = .loop r ∧ r.params.toList = ps ∧ r.assign = x ∧ r.body = y ∧ LRel P ρ sh fr r.tmps.toList ∧ LStRel s r
  | .dead => True

/-- a block of the model that the machine may write -/
def Owned (ρ : Ren) (H : List Blk) (cb : Nat) : Prop := ∃ (b : Nat) (k : Blk) (x : Nat), H[b]? = some k ∧ k.owns = true ∧ ρ b = some (cb, x)

/-- a block of the model that a live one stands for -/
def Mapped (ρ : Ren) (H : List Blk) (cb : Nat) : Prop := (∃ (b : Nat) (k : Blk) (x : Nat), H[b]? = some k ∧ k.live = true ∧ ρ b = some (cb, x)) ∨ ∃ c, ρ.fz cb = some c

structure Rel (P : Program) (ρ : Ren) (H : List Blk) (w : World) : Prop where
  blk : ∀ (b : Nat) (k : Blk), H[b]? = some k → k.live = true → ∃ cb base o, ρ b = some (cb, base) ∧ w.heap[cb]? = some o ∧ BRel P ρ w.shape? k base o
  uniq : ∀ (b b' : Nat) (k k' : Blk), H[b]? = some k → H[b']? = some k' → k.owns = true → k'.live = true → b ≠ b' → ∀ cb x y, ρ b = some (cb, x) → ρ b' ≠ some (cb, y)
  dom : ∀ b, H.length ≤ b → ρ b = none
  frozen : ∀ cb c, ρ.fz cb = some c → (∃ e fz, w.heap[cb]? = some (.cells c e fz)) ∧ ¬ Owned ρ H cb

structure Step (n : Nat) (ρ : Ren) (H : List Blk) (w : World) (ρ' : Ren) (H' : List Blk) (w' : World) : Prop where
  ext : ∀ b, b < n → ρ' b = ρ b
  shape : ∀ r x, w.shape? r = some x → w'.shape? r = some x
  size : w.heap.size ≤ w'.heap.size
  keep : ∀ cb, cb < w.heap.size → ¬ Owned ρ H cb → w'.heap[cb]? = w.heap[cb]?
  own : ∀ cb, cb < w.heap.size → Owned ρ' H' cb → Owned ρ H cb
  os : w'.os = w.os
  output : w'.output = w.output
  fz : ∀ cb c, ρ.fz cb = some c → ρ'.fz cb = some c
  old : ∀ cb, cb < w.heap.size → Mapped ρ' H' cb → Mapped ρ H cb
  loops : ∀ (cb : Nat) (r : Loop), w.heap[cb]? = some (.loop r) → ∃ r', w'.heap[cb]? = some (.loop r')

section
variable {P : Program} {ρ ρ' ρ'' : Ren} {H H' H'' : List Blk} {w w' w'' : World}

theorem Step.refl (n : Nat) : Step n ρ H w ρ H w := ⟨fun _ _ => rfl, fun _ _ h => h, Nat.le_refl _, fun _ _ _ => rfl, fun _ _ h => h, rfl, rfl, fun _ _ h => h, fun _ _ h => h, fun _ r h => ⟨r, h⟩⟩

theorem Step.trans {n : Nat} (h : Step n ρ H w ρ' H' w') (h' : Step n ρ' H' w' ρ'' H'' w'') : Step n ρ H w ρ'' H'' w'' where
  ext b hb := (h'.ext b hb).trans (h.ext b hb)
  shape r x hx := h'.shape r x (h.shape r x hx)
  size := Nat.le_trans h.size h'.size
  keep cb hlt ho := (h'.keep cb (Nat.lt_of_lt_of_le hlt h.size) (fun h2 => ho (h.own cb hlt h2))).trans (h.keep cb hlt ho)
  own cb hlt ho := h.own cb hlt (h'.own cb (Nat.lt_of_lt_of_le hlt h.size) ho)
  os := h'.os.trans h.os
  output := h'.output.trans h.output
  fz cb c hc := h'.fz cb c (h.fz cb c hc)
  old cb hlt ho := h.old cb hlt (h'.old cb (Nat.lt_of_lt_of_le hlt h.size) ho)
  loops cb r hr := let ⟨r', h1⟩ := h.loops cb r hr; h'.loops cb r' h1

theorem Step.less {n m : Nat} (h : Step n ρ H w ρ' H' w') (hm : m ≤ n) : Step m ρ H w ρ' H' w' := { h with ext := fun b hb => h.ext b (Nat.lt_of_lt_of_le hb hm) }

/-- the machine's draws change nothing that is spoken of -/
theorem Rel.congr (h : Rel P ρ H w) (hh : w'.heap = w.heap) : Rel P ρ H w' := by
  have hs : w'.shape? = w.shape? := by funext r; simp [World.shape?, hh]
  exact ⟨fun b k hb hl => by obtain ⟨cb, base, o, h1, h2, h3⟩ := h.blk b k hb hl; exact ⟨cb, base, o, h1, by rw [hh]; exact h2, by rw [hs]; exact h3⟩, h.uniq, h.dom, fun cb c hc => by rw [hh]; exact h.frozen cb c hc⟩

theorem Step.congr (n : Nat) (hh : w'.heap = w.heap) (ho : w'.os = w.os) (hu : w'.output = w.output) : Step n ρ H w ρ H w' where
  ext _ _ := rfl
  shape r x hx := by simpa [World.shape?, hh] using hx
  size := by rw [hh]; exact Nat.le_refl _
  keep _ _ _ := by rw [hh]
  own _ _ h := h
  os := ho
  output := hu
  fz _ _ h := h
  old _ _ h := h
  loops _ r h := ⟨r, by rw [hh]; exact h⟩

theorem Rel.mk2 {n : Nat} (h : Rel P ρ H w) (hz : ρ'.fz = ρ.fz) (blk : ∀ (b : Nat) (k : Blk), H'[b]? = some k → k.live = true → ∃ cb base o, ρ' b = some (cb, base) ∧ w'.heap[cb]? = some o ∧ BRel P ρ' w'.shape? k base o)
    (uniq : ∀ (b b' : Nat) (k k' : Blk), H'[b]? = some k → H'[b']? = some k' → k.owns = true → k'.live = true → b ≠ b' → ∀ cb x y, ρ' b = some (cb, x) → ρ' b' ≠ some (cb, y))
    (dom : ∀ b, H'.length ≤ b → ρ' b = none) (S : Step n ρ H w ρ' H' w') : Rel P ρ' H' w' ∧ Step n ρ H w ρ' H' w' := by
  refine ⟨⟨blk, uniq, dom, fun cb c hc => ?_⟩, S⟩
  rw [hz] at hc
  obtain ⟨⟨e, fz, h1⟩, h2⟩ := h.frozen cb c hc
  have hlt : cb < w.heap.size := by
    by_cases hi : cb < w.heap.size
    · exact hi
    · rw [Array.getElem?_eq_none (Nat.le_of_not_lt hi)] at h1; simp at h1
  exact ⟨⟨e, fz, by rw [S.keep cb hlt h2]; exact h1⟩, fun ho => h2 (S.own cb hlt ho)⟩

theorem BRel.mono {k : Blk} {base : Nat} {o : Obj} {sh sh' : Sh} (h : BRel P ρ sh k base o) (hz : ∀ cb c, ρ.fz cb = some c → ρ'.fz cb = some c) (hr : ∀ b x, ρ b = some x → ρ' b = some x) (hs : ∀ r x, sh r = some x → sh' r = some x) : BRel P ρ' sh' k base o := by
  cases k with
  | cells cs e own => obtain ⟨carr, fz, h1, h2, h3⟩ := h; exact ⟨carr, fz, h1, h2.mono hz hr hs, h3⟩
  | map es clock =>
    obtain ⟨h0, ces, h1, h2, h3⟩ := h
    exact ⟨h0, ces, h1, h2, fun i e he => by obtain ⟨ce, hc, hk, hv, hb⟩ := h3 i e he; exact ⟨ce, hc, hk.mono hz hr hs, hv.mono hz hr hs, hb⟩⟩
  | iter m a b c =>
    obtain ⟨h0, cm, h1, h2⟩ := h
    exact ⟨h0, cm, h1, h2.imp id fun ⟨r, cr, g1, g2, g3⟩ => ⟨r, cr, g1, g2, hr _ _ g3⟩⟩
  | loop f ps x y fr s =>
    obtain ⟨h0, r, h1, h2, h3, h4, h5, h6⟩ := h
    exact ⟨h0, r, h1, h2, h3, h4, h5.mono hz hr hs, h6⟩
  | dead => trivial

theorem lt_of_get {α : Type} {l : List α} {i : Nat} {x : α} (h : l[i]? = some x) : i < l.length := by
  by_cases hi : i < l.length
  · exact hi
  · rw [List.getElem?_eq_none (Nat.le_of_not_lt hi)] at h; simp at h

theorem lt_of_getA {α : Type} {l : Array α} {i : Nat} {x : α} (h : l[i]? = some x) : i < l.size := by
  by_cases hi : i < l.size
  · exact hi
  · rw [Array.getElem?_eq_none (Nat.le_of_not_lt hi)] at h; simp at h

def upd (ρ : Ren) (b : Nat) (x : Nat × Nat) : Ren := ⟨fun c => if c = b then some x else ρ c, ρ.fz⟩

theorem upd_mono {b : Nat} (hd : ρ b = none) {x : Nat × Nat} : ∀ c y, ρ c = some y → upd ρ b x c = some y := by
  intro c y hc
  show (if c = b then some x else ρ c) = some y
  split
  · rename_i h; subst h; rw [hd] at hc; simp at hc
  · exact hc

theorem shape_alloc (w : World) (o : Obj) : ∀ r x, w.shape? r = some x → (w.alloc o).shape? r = some x := by
  intro r x hx
  have hlt : r < w.heap.size := by
    by_cases h : r < w.heap.size
    · exact h
    · simp [World.shape?, Array.getElem?_eq_none (Nat.le_of_not_lt h)] at hx
  simpa [World.shape?, heap_alloc_old w o r hlt] using hx

/-- a new block, abstract and the model's -/
theorem alloc_rel (h : Rel P ρ H w) (k : Blk) (o : Obj) (hb : BRel P (upd ρ H.length (w.heap.size, 0)) (w.alloc o).shape? k 0 o) :
    Rel P (upd ρ H.length (w.heap.size, 0)) (H ++ [k]) (w.alloc o) ∧ Step H.length ρ H w (upd ρ H.length (w.heap.size, 0)) (H ++ [k]) (w.alloc o) := by
  have hd : ρ H.length = none := h.dom _ (Nat.le_refl _)
  have hlt : ∀ {b : Nat} {cb base : Nat} {k : Blk}, H[b]? = some k → k.live = true → ρ b = some (cb, base) → cb < w.heap.size := by
    intro b cb base k hk hl hr
    obtain ⟨cb', base', o', h1, h2, _⟩ := h.blk b k hk hl
    rw [h1] at hr; simp at hr; rw [← hr.1]; exact lt_of_getA h2
  have hold : ∀ {b : Nat} {k' : Blk}, (H ++ [k])[b]? = some k' → b ≠ H.length → H[b]? = some k' ∧ upd ρ H.length (w.heap.size, 0) b = ρ b := by
    intro b k' hk hne
    have hlt : b < H.length := by have := lt_of_get hk; simp at this; omega
    rw [List.getElem?_append_left hlt] at hk
    exact ⟨hk, by simp [upd, hne]⟩
  refine h.mk2 rfl (fun b k' hk hl => ?_) (fun b b' k1 k2 hk1 hk2 ho hl hne cb x y hr hr' => ?_) (fun b hb' => ?_) ?_
  · by_cases hbe : b = H.length
    · subst hbe
      simp at hk; subst hk
      exact ⟨w.heap.size, 0, o, by simp [upd], heap_alloc_new w o, hb⟩
    · obtain ⟨hk', hr'⟩ := hold hk hbe
      obtain ⟨cb, base, o', h1, h2, h3⟩ := h.blk b k' hk' hl
      exact ⟨cb, base, o', by rw [hr']; exact h1, by rw [heap_alloc_old _ _ _ (lt_of_getA h2)]; exact h2, h3.mono (fun _ _ h => h) (upd_mono hd) (shape_alloc w o)⟩
  · by_cases hb1 : b = H.length
    · by_cases hb2 : b' = H.length
      · exact hne (hb1.trans hb2.symm)
      · obtain ⟨hk', hr2⟩ := hold hk2 hb2
        rw [hr2] at hr'
        subst hb1; simp [upd] at hr
        have := hlt hk' hl hr'; omega
    · obtain ⟨hk1', hr1⟩ := hold hk1 hb1
      rw [hr1] at hr
      by_cases hb2 : b' = H.length
      · subst hb2; simp [upd] at hr'
        have hl1 : k1.live = true := by cases k1 <;> simp_all [Blk.owns, Blk.live]
        have := hlt hk1' hl1 hr; omega
      · obtain ⟨hk2', hr2⟩ := hold hk2 hb2
        rw [hr2] at hr'
        exact h.uniq b b' k1 k2 hk1' hk2' ho hl hne cb x y hr hr'
  · simp at hb'
    have : b ≠ H.length := by omega
    simp [upd, this]; exact h.dom b (by omega)
  · refine ⟨fun b hb' => by simp [upd, Nat.ne_of_lt hb'], shape_alloc w o, by rw [World.size_alloc]; omega, fun cb hc _ => heap_alloc_old w o cb hc, fun cb hc ho => ?_, rfl, rfl, fun _ _ h => h, fun cb hc ho => ho.elim (fun ho => .inl ?_) .inr, fun cb r hr => ⟨r, by rw [heap_alloc_old w o cb (lt_of_getA hr)]; exact hr⟩⟩
    all_goals
      obtain ⟨b, k', x, hk, hown, hr⟩ := ho
      by_cases hbe : b = H.length
      · subst hbe; simp [upd] at hr; omega
      · obtain ⟨hk', hr'⟩ := hold hk hbe
        exact ⟨b, k', x, hk', hown, by rw [← hr']; exact hr⟩

/-- a block of the model is put in place of another -/
def setBlk (w : World) (cb : Nat) (o : Obj) : World := { w with heap := w.heap.setIfInBounds cb o }

theorem setBlk_same {w : World} {cb : Nat} {o : Obj} (h : cb < w.heap.size) : (setBlk w cb o).heap[cb]? = some o := by simp [setBlk, h]
theorem setBlk_other {w : World} {cb i : Nat} {o : Obj} (h : i ≠ cb) : (setBlk w cb o).heap[i]? = w.heap[i]? := by
  simp only [setBlk]; rw [Array.getElem?_setIfInBounds_ne (Ne.symm h)]
theorem setBlk_size {w : World} {cb : Nat} {o : Obj} : (setBlk w cb o).heap.size = w.heap.size := by simp [setBlk]

theorem setBlk_shape {w : World} {cb : Nat} {o o' : Obj} (h : w.heap[cb]? = some o') (hs : (match o' with | .cells c e _ => some (e, c.size) | _ => none) = (match o with | .cells c e _ => some (e, c.size) | _ => none)) :
    (setBlk w cb o).shape? = w.shape? := by
  funext r
  by_cases hr : r = cb
  · subst hr
    simp only [World.shape?, setBlk_same (lt_of_getA h), h]
    cases o <;> cases o' <;> simp_all
  · simp only [World.shape?, setBlk_other hr]

theorem setBlk_loops {w : World} {cb : Nat} {o o' : Obj} (h : w.heap[cb]? = some o) (hlp : ∀ r, o = .loop r → ∃ r', o' = .loop r') (c : Nat) (r : Loop) (hr : w.heap[c]? = some (.loop r)) : ∃ r', (setBlk w cb o').heap[c]? = some (.loop r') := by
  by_cases hc : c = cb
  · subst hc
    rw [h] at hr
    obtain ⟨r', hr'⟩ := hlp r (Option.some.inj hr)
    exact ⟨r', by rw [setBlk_same (lt_of_getA h), hr']⟩
  · exact ⟨r, by rw [setBlk_other hc]; exact hr⟩

/-- an owned block is written anew, abstract and the model's -/
theorem set_rel (h : Rel P ρ H w) {b : Nat} {k k' : Blk} {cb base : Nat} {o o' : Obj} (hk : H[b]? = some k) (ho : k.owns = true) (hr : ρ b = some (cb, base)) (ho' : w.heap[cb]? = some o)
    (hk' : k'.owns = true) (hs : (match o with | .cells c e _ => some (e, c.size) | _ => none) = (match o' with | .cells c e _ => some (e, c.size) | _ => none))
    (hb : BRel P ρ w.shape? k' base o') (hlp : ∀ r, o = .loop r → ∃ r', o' = .loop r' := by intro r h; cases h) : Rel P ρ (H.set b k') (setBlk w cb o') ∧ Step H.length ρ H w ρ (H.set b k') (setBlk w cb o') := by
  have hsh := setBlk_shape (o := o') ho' hs
  have hblt := lt_of_get hk
  have hclt := lt_of_getA ho'
  have hl : k.live = true := by cases k <;> simp_all [Blk.owns, Blk.live]
  have hold : ∀ {c : Nat} {k1 : Blk}, (H.set b k')[c]? = some k1 → c ≠ b → H[c]? = some k1 := by
    intro c k1 h1 hne; rwa [List.getElem?_set_ne (Ne.symm hne)] at h1
  have hkown : ∀ {c : Nat} {k1 : Blk}, (H.set b k')[c]? = some k1 → k1.owns = true → ∃ k2, H[c]? = some k2 ∧ k2.owns = true := by
    intro c k1 h1 h2
    by_cases hc : c = b
    · subst hc; exact ⟨k, hk, ho⟩
    · exact ⟨k1, hold h1 hc, h2⟩
  have hklive : ∀ {c : Nat} {k1 : Blk}, (H.set b k')[c]? = some k1 → k1.live = true → ∃ k2, H[c]? = some k2 ∧ k2.live = true := by
    intro c k1 h1 h2
    by_cases hc : c = b
    · subst hc; exact ⟨k, hk, hl⟩
    · exact ⟨k1, hold h1 hc, h2⟩
  refine h.mk2 rfl (fun c k1 h1 hl1 => ?_) (fun c c' k1 k2 h1 h2 hown hlv hne x y z hx hy => ?_) (fun c hc => h.dom c (by simpa using hc)) ?_
  · by_cases hc : c = b
    · subst hc
      rw [List.getElem?_set_self hblt] at h1; simp at h1; subst h1
      exact ⟨cb, base, o', hr, setBlk_same hclt, by rw [hsh]; exact hb⟩
    · have h1' := hold h1 hc
      obtain ⟨cb1, base1, o1, e1, e2, e3⟩ := h.blk c k1 h1' hl1
      have hne : cb1 ≠ cb := fun he => by subst he; exact h.uniq b c k k1 hk h1' ho hl1 (Ne.symm hc) _ _ _ hr e1
      exact ⟨cb1, base1, o1, e1, by rw [setBlk_other hne]; exact e2, by rw [hsh]; exact e3⟩
  · obtain ⟨k3, h3, h3'⟩ := hkown h1 hown
    obtain ⟨k4, h4, h4'⟩ := hklive h2 hlv
    exact h.uniq c c' k3 k4 h3 h4 h3' h4' hne x y z hx hy
  · refine ⟨fun _ _ => rfl, fun r x hx => by rw [hsh]; exact hx, by rw [setBlk_size]; exact Nat.le_refl _, fun c hc hn => ?_, fun c hc hn => ?_, rfl, rfl, fun _ _ h => h, fun c hc hn => hn.elim (fun hn => .inl ?_) .inr, setBlk_loops ho' hlp⟩
    · exact setBlk_other (fun he => hn (by subst he; exact ⟨b, k, base, hk, ho, hr⟩))
    · obtain ⟨c', k1, x, h1, h2, h3⟩ := hn
      obtain ⟨k3, h5, h6⟩ := hkown h1 h2
      exact ⟨c', k3, x, h5, h6, h3⟩
    · obtain ⟨c', k1, x, h1, h2, h3⟩ := hn
      obtain ⟨k3, h5, h6⟩ := hklive h1 h2
      exact ⟨c', k3, x, h5, h6, h3⟩

/-- an owned block is given up -/
theorem kill_rel (h : Rel P ρ H w) {b : Nat} : Rel P ρ (H.set b .dead) w ∧ Step H.length ρ H w ρ (H.set b .dead) w := by
  have hold : ∀ {c : Nat} {k1 : Blk}, (H.set b .dead)[c]? = some k1 → k1.live = true → H[c]? = some k1 := by
    intro c k1 h1 hl
    by_cases hc : c = b
    · subst hc
      by_cases hlt : c < H.length
      · rw [List.getElem?_set_self hlt] at h1; simp at h1; subst h1; simp [Blk.live] at hl
      · have := lt_of_get h1; simp at this; omega
    · rwa [List.getElem?_set_ne (Ne.symm hc)] at h1
  have hol : ∀ {k : Blk}, k.owns = true → k.live = true := by intro k; cases k <;> simp [Blk.owns, Blk.live]
  refine h.mk2 rfl (fun c k1 h1 hl1 => h.blk c k1 (hold h1 hl1) hl1) (fun c c' k1 k2 h1 h2 hown hlv hne => h.uniq c c' k1 k2 (hold h1 (hol hown)) (hold h2 hlv) hown hlv hne) (fun c hc => h.dom c (by simpa using hc))
    ⟨fun _ _ => rfl, fun _ _ hx => hx, Nat.le_refl _, fun _ _ _ => rfl, fun c hc hn => ?_, rfl, rfl, fun _ _ h => h, fun c hc hn => hn.elim (fun hn => .inl ?_) .inr, fun _ r h => ⟨r, h⟩⟩
  · obtain ⟨c', k1, x, h1, h2, h3⟩ := hn
    exact ⟨c', k1, x, hold h1 (hol h2), h2, h3⟩
  · obtain ⟨c', k1, x, h1, h2, h3⟩ := hn
    exact ⟨c', k1, x, hold h1 h2, h2, h3⟩

/-- a block that was given up goes on under a new name, at a later place of the same block of the model -/
theorem move_rel (h : Rel P ρ H w) {b : Nat} {k k' : Blk} {cb base base' : Nat} {o o' : Obj} (hk : H[b]? = some k) (ho : k.owns = true) (hr : ρ b = some (cb, base)) (ho' : w.heap[cb]? = some o)
    (hk' : k'.owns = true) (hs : (match o with | .cells c e _ => some (e, c.size) | _ => none) = (match o' with | .cells c e _ => some (e, c.size) | _ => none))
    (hb : BRel P (upd ρ H.length (cb, base')) w.shape? k' base' o') (hlp : ∀ r, o = .loop r → ∃ r', o' = .loop r' := by intro r h; cases h) :
    Rel P (upd ρ H.length (cb, base')) (H.set b .dead ++ [k']) (setBlk w cb o') ∧ Step H.length ρ H w (upd ρ H.length (cb, base')) (H.set b .dead ++ [k']) (setBlk w cb o') := by
  have hsh := setBlk_shape (o := o') ho' hs
  have hclt := lt_of_getA ho'
  have hd : ρ H.length = none := h.dom _ (Nat.le_refl _)
  have hblt := lt_of_get hk
  have hol : ∀ {k : Blk}, k.owns = true → k.live = true := by intro k; cases k <;> simp [Blk.owns, Blk.live]
  have hold : ∀ {c : Nat} {k1 : Blk}, (H.set b .dead ++ [k'])[c]? = some k1 → k1.live = true → c ≠ H.length → H[c]? = some k1 ∧ c ≠ b ∧ upd ρ H.length (cb, base') c = ρ c := by
    intro c k1 h1 hl hne
    have hlt : c < H.length := by have := lt_of_get h1; simp at this; omega
    rw [List.getElem?_append_left (by simpa using hlt)] at h1
    by_cases hc : c = b
    · subst hc; rw [List.getElem?_set_self hlt] at h1; simp at h1; subst h1; simp [Blk.live] at hl
    · exact ⟨by rwa [List.getElem?_set_ne (Ne.symm hc)] at h1, hc, by simp [upd, hne]⟩
  have hnew : ∀ {k1 : Blk}, (H.set b .dead ++ [k'])[H.length]? = some k1 → k1 = k' := by
    intro k1 h1; rw [List.getElem?_append_right (by simp)] at h1; simp at h1; exact h1.symm
  refine h.mk2 rfl (fun c k1 h1 hl1 => ?_) (fun c c' k1 k2 h1 h2 hown hlv hne x y z hx hy => ?_) (fun c hc => ?_) ?_
  · by_cases hc : c = H.length
    · subst hc; have := hnew h1; subst this
      exact ⟨cb, base', o', by simp [upd], setBlk_same hclt, by rw [hsh]; exact hb⟩
    · obtain ⟨h1', hcb, hu⟩ := hold h1 hl1 hc
      obtain ⟨cb1, base1, o1, e1, e2, e3⟩ := h.blk c k1 h1' hl1
      have hne : cb1 ≠ cb := fun he => by subst he; exact h.uniq b c k k1 hk h1' ho hl1 (Ne.symm hcb) _ _ _ hr e1
      exact ⟨cb1, base1, o1, by rw [hu]; exact e1, by rw [setBlk_other hne]; exact e2, by rw [hsh]; exact e3.mono (fun _ _ h => h) (upd_mono hd) (fun _ _ h => h)⟩
  · by_cases hc : c = H.length
    · by_cases hc' : c' = H.length
      · exact hne (hc.trans hc'.symm)
      · obtain ⟨h2', hcb, hu⟩ := hold h2 hlv hc'
        rw [hu] at hy
        subst hc; simp [upd] at hx
        exact h.uniq b c' k k2 hk h2' ho hlv (Ne.symm hcb) cb base z hr (by rw [hy, hx.1])
    · obtain ⟨h1', hcb, hu⟩ := hold h1 (hol hown) hc
      rw [hu] at hx
      by_cases hc' : c' = H.length
      · subst hc'; simp [upd] at hy
        exact h.uniq c b k1 k h1' hk hown (hol ho) hcb x y base hx (by rw [hr, hy.1])
      · obtain ⟨h2', hcb', hu'⟩ := hold h2 hlv hc'
        rw [hu'] at hy
        exact h.uniq c c' k1 k2 h1' h2' hown hlv hne x y z hx hy
  · simp at hc
    have : c ≠ H.length := by omega
    simp [upd, this]; exact h.dom c (by omega)
  · refine ⟨fun c hc => by simp [upd, Nat.ne_of_lt hc], fun r x hx => by rw [hsh]; exact hx, by rw [setBlk_size]; exact Nat.le_refl _, fun c hc hn => ?_, fun c hc hn => ?_, rfl, rfl, fun _ _ h => h, fun c hc hn => hn.elim (fun hn => .inl ?_) .inr, setBlk_loops ho' hlp⟩
    · exact setBlk_other (fun he => hn (by subst he; exact ⟨b, k, base, hk, ho, hr⟩))
    · obtain ⟨c', k1, x, h1, h2, h3⟩ := hn
      by_cases hc' : c' = H.length
      · subst hc'; simp [upd] at h3; rw [← h3.1]; exact ⟨b, k, base, hk, ho, hr⟩
      · obtain ⟨h1', _, hu⟩ := hold h1 (hol h2) hc'
        exact ⟨c', k1, x, h1', h2, by rw [← hu]; exact h3⟩
    · obtain ⟨c', k1, x, h1, h2, h3⟩ := hn
      by_cases hc' : c' = H.length
      · subst hc'; simp [upd] at h3; rw [← h3.1]; exact ⟨b, k, base, hk, hol ho, hr⟩
      · obtain ⟨h1', _, hu⟩ := hold h1 h2 hc'
        exact ⟨c', k1, x, h1', h2, by rw [← hu]; exact h3⟩

end
end Go.Am

end
section
namespace Go.Am

section
variable {P : Program} {ρ ρ' : Ren} {H : List Blk} {w : World}

theorem pureRun_run {α : Type} : ∀ (s : Sem α) (v : α), pureRun P s = some v → ∀ w, s.run P w = .ok v w
  | .pure a, v, h, w => by simp [pureRun] at h; subst h; rfl
  | .program k, v, h, w => by simp only [pureRun] at h; simp only [Sem.run]; exact pureRun_run (k P) v h w
  | .mark _ k, v, h, w => by simp only [pureRun] at h; simp only [Sem.run]; exact pureRun_run k v h w
  | .load .., v, h, w | .store .., v, h, w | .new .., v, h, w | .shape .., v, h, w | .freeze .., v, h, w | .frozen .., v, h, w
  | .getObj .., v, h, w | .setObj .., v, h, w | .choose .., v, h, w | .sys .., v, h, w | .halt .., v, h, w => by simp [pureRun] at h

theorem sizeP_info {t : TypeId} {n : Nat} (h : sizeP P t = some n) : ∃ i, P.info? t = some i ∧ i.size = n := by
  unfold sizeP at h; cases hi : P.info? t with
  | none => simp [hi] at h
  | some i => simp [hi] at h; exact ⟨i, rfl, h⟩

theorem run_sizeP {t : TypeId} {n : Nat} (h : sizeP P t = some n) (w : World) : (sizeOf t).run P w = .ok n w := by
  obtain ⟨i, hi, hn⟩ := sizeP_info h
  simp [sizeOf, typeInfo, hi, hn]

theorem run_zeroP {t : TypeId} {z : Value} (h : zeroP P t = some z) (w : World) : (zeroValue t).run P w = .ok z w := by
  unfold zeroP at h; cases hi : P.info? t with
  | none => simp [hi] at h
  | some i => simp [hi] at h; simp [zeroValue, typeInfo, hi, h]

theorem run_isAggP {t : TypeId} {g : Bool} (h : isAggP P t = some g) (w : World) : (isAgg t).run P w = .ok g w := by
  unfold isAggP at h
  cases hu : P.underlying t with
  | none => simp [hu] at h
  | some d => cases d <;> simp_all [isAgg, run_underlying hu]

/-- the cells of a block, and the model's -/
theorem cells_get (h : Rel P ρ H w) {b : Nat} {cs : List Value} {e : TypeId} {own : Bool} (hb : H[b]? = some (.cells cs e own)) :
    ∃ cb base carr fz, ρ b = some (cb, base) ∧ w.heap[cb]? = some (.cells carr e fz) ∧ (∀ (i : Nat) (v : Value), cs[i]? = some v → ∃ cv : Value, carr[base + i]? = some cv ∧ VRel P ρ w.shape? v cv) ∧
      (cs ≠ [] → base + cs.length ≤ carr.size) ∧ LRel P ρ w.shape? cs ((carr.toList.drop base).take cs.length) ∧
      (own = true → FzOk carr.size fz) ∧ allCells cs = true := by
  obtain ⟨cb, base, o, h1, h2, carr, fz, rfl, h3, h4⟩ := h.blk b _ hb rfl
  refine ⟨cb, base, carr, fz, h1, h2, fun i v hv => ?_, fun hne => ?_, h3, h4⟩
  · obtain ⟨y, hy, hr⟩ := h3.2 i v hv
    refine ⟨y, ?_, hr⟩
    rw [List.getElem?_take] at hy
    split at hy
    · rw [List.getElem?_drop] at hy; simpa using hy
    · simp at hy
  · have := h3.1
    simp at this
    have : 0 < cs.length := List.length_pos_iff.2 hne
    omega

theorem cell_at {w : World} {cb : Nat} {carr : Array Value} {e : TypeId} {fz : Nat × Nat} (h : w.heap[cb]? = some (.cells carr e fz)) (off : Nat) : w.cell? ⟨cb, off, none⟩ = carr[off]? := by
  simp [World.cell?, h]

theorem add_none (cb off i : Nat) : (⟨cb, off, none⟩ : Addr).add i = ⟨cb, off + i, none⟩ := by unfold Addr.add; split <;> simp_all

/-- abstract cells, read, and the model's -/
theorem cellsAt_rel (h : Rel P ρ H w) {b off n cb base : Nat} {l : List Value} (hc : cellsAt H b off n = some l) (hr : ρ b = some (cb, base)) :
    ∃ l', l'.length = n ∧ l.length = n ∧ LRel P ρ w.shape? l l' ∧ ∀ (j : Nat) (v : Value), l'[j]? = some v → w.cell? ((⟨cb, base + off, none⟩ : Addr).add j) = some v := by
  unfold cellsAt at hc
  split at hc
  · rename_i cs e own hb
    split at hc
    · rename_i hle
      simp at hc
      obtain ⟨cb', base', carr, fz, h1, h2, h3, _, h5, _⟩ := cells_get h hb
      rw [h1] at hr; simp at hr; obtain ⟨rfl, rfl⟩ := hr
      have hL := (h5.drop off).take n
      rw [hc] at hL
      have hn : l.length = n := by rw [← hc]; simp; omega
      refine ⟨_, by rw [← hL.1]; exact hn, hn, hL, fun j v hv => ?_⟩
      rw [add_none, cell_at h2]
      rw [List.getElem?_take] at hv
      split at hv
      · rw [List.getElem?_drop, List.getElem?_take] at hv
        split at hv
        · rw [List.getElem?_drop] at hv
          simpa [Nat.add_assoc] using hv
        · simp at hv
      · simp at hv
    · simp at hc
  · simp at hc

/-- the cells of a row that nothing writes any more -/
theorem fz_cell (h : Rel P ρ H w) {cb base : Nat} {c : Array Value} {l : List Value} (hz : ρ.fz cb = some c) (hc : (c.toList.drop base).take l.length = l) (i : Nat) (v : Value) (hv : l[i]? = some v) :
    w.cell? ⟨cb, base + i, none⟩ = some v := by
  obtain ⟨⟨e, fz, h1⟩, _⟩ := h.frozen cb c hz
  rw [cell_at h1]
  rw [← hc, List.getElem?_take] at hv
  split at hv
  · rw [List.getElem?_drop] at hv; simpa using hv
  · simp at hv

theorem aLoad_sound (h : Rel P ρ H w) {t : TypeId} {g : Bool} {n : Nat} {e : Option Nat} {p cp v : Value} (hg : isAggP P t = some g) (hn : sizeP P t = some n) (hv : aLoad g n ⟨H, e⟩ p = some v)
    (hp : VRel P ρ w.shape? p cp) : ∃ cv, (Instr.loadAt t cp).run P w = .ok cv w ∧ VRel P ρ w.shape? v cv := by
  cases p with
  | pointer a =>
    cases a with
    | none => simp [aLoad] at hv
    | some a =>
      obtain ⟨cb, base, hs, hr, rfl⟩ := hp.ptr_inv
      simp only [aLoad] at hv
      cases g with
      | true =>
        simp at hv
        obtain ⟨l, hl, rfl⟩ := hv
        obtain ⟨l', hl1, hl2, hL, hc⟩ := cellsAt_rel h hl hr
        refine ⟨.agg l'.toArray, ?_, .agg_list hL⟩
        have := run_loadCells_list (P := P) w ⟨cb, base + a.off, none⟩ l' hc
        rw [hl1] at this
        simp [Instr.loadAt, Instr.sureAddr, loadVar, run_isAggP hg, run_sizeP hn, this]
      | false =>
        simp [cellAt] at hv
        split at hv
        · rename_i cs e' own hb
          obtain ⟨cb', base', carr, fz, h1, h2, h3, _, _, _⟩ := cells_get h hb
          rw [h1] at hr; simp at hr; obtain ⟨rfl, rfl⟩ := hr
          obtain ⟨cv, hcv, hr⟩ := h3 _ _ hv
          refine ⟨cv, ?_, hr⟩
          have : w.cell? ⟨cb', base' + a.off, none⟩ = some cv := by rw [cell_at h2]; exact hcv
          simp [Instr.loadAt, Instr.sureAddr, loadVar, run_isAggP hg, run_load, this]
        · simp at hv
  | iface off x =>
    cases x with
    | agg row =>
      obtain ⟨cb, base, c, a', rfl, hz, hc, hL⟩ := hp.tptr_inv
      simp only [aLoad, tLoad] at hv
      cases g with
      | true =>
        simp only [if_true] at hv
        split at hv
        · rename_i hle
          simp at hv
          subst hv
          have hL2 := (hL.drop off).take n
          have hlen : row.size = a'.length := by simpa using hL.1
          refine ⟨.agg ((a'.drop off).take n).toArray, ?_, by simpa using VRel.agg_list hL2⟩
          have hl1 : ((a'.drop off).take n).length = n := by rw [List.length_take, List.length_drop]; omega
          have := run_loadCells_list (P := P) w ⟨cb, base + off, none⟩ ((a'.drop off).take n) (fun j v hv => by
            rw [add_none, Nat.add_assoc]
            refine fz_cell h hz hc (off + j) v ?_
            rw [List.getElem?_take] at hv
            split at hv
            · rwa [List.getElem?_drop] at hv
            · simp at hv)
          rw [hl1] at this
          simp [Instr.loadAt, Instr.sureAddr, loadVar, run_isAggP hg, run_sizeP hn, this]
        · simp at hv
      | false =>
        simp only [Bool.false_eq_true, if_false] at hv
        obtain ⟨cv, hcv, hr⟩ := hL.2 _ _ hv
        refine ⟨cv, ?_, hr⟩
        have : w.cell? ⟨cb, base + off, none⟩ = some cv := fz_cell h hz hc off cv hcv
        simp [Instr.loadAt, Instr.sureAddr, loadVar, run_isAggP hg, run_load, this]
    | _ => simp [aLoad] at hv
  | _ => simp [aLoad] at hv

theorem putCells_length {cs vs : List Value} {off : Nat} (h : off + vs.length ≤ cs.length) : (putCells cs off vs).length = cs.length := by
  simp [putCells]; omega

theorem putCells_get {cs vs : List Value} {off : Nat} (h : off + vs.length ≤ cs.length) (i : Nat) :
    (putCells cs off vs)[i]? = if i < off then cs[i]? else if i < off + vs.length then vs[i - off]? else cs[i]? := by
  unfold putCells
  by_cases h1 : i < off
  · rw [List.getElem?_append_left (by simp; omega), List.getElem?_append_left (by simp; omega), List.getElem?_take]; simp [h1]
  · by_cases h2 : i < off + vs.length
    · rw [List.getElem?_append_left (by simp; omega), List.getElem?_append_right (by simp; omega)]
      simp [h1, h2]; congr 1; omega
    · rw [List.getElem?_append_right (by simp; omega), List.getElem?_drop]
      simp [h1, h2]; congr 1; omega

/-- the model's cells, set one by one -/
theorem heap_setCells (cb : Nat) (e : TypeId) (fz : Nat × Nat) : ∀ (vs : List Value) (o : Nat) (w : World) (carr : Array Value), w.heap[cb]? = some (.cells carr e fz) → o + vs.length ≤ carr.size →
    w.setCells cb o vs = setBlk w cb (.cells (putCells carr.toList o vs).toArray e fz)
  | [], o, w, carr, h, hl => by
    have hlt := lt_of_getA h
    simp only [World.setCells, setBlk, putCells]
    have : (List.take o carr.toList ++ [] ++ List.drop (o + ([] : List Value).length) carr.toList).toArray = carr := by simp
    rw [this]
    have e : w.heap.setIfInBounds cb (.cells carr e fz) = w.heap := by
      apply Array.ext_getElem?; intro i
      by_cases hi : i = cb
      · subst hi; rw [Array.getElem?_setIfInBounds_self_of_lt hlt, h]
      · rw [Array.getElem?_setIfInBounds_ne (Ne.symm hi)]
    rw [e]
  | v :: r, o, w, carr, h, hl => by
    have hlt := lt_of_getA h
    simp at hl
    have e1 : w.setCell ⟨cb, o, none⟩ v = setBlk w cb (.cells (carr.setIfInBounds o v) e fz) := by
      simp only [World.setCell, setBlk]
      congr 1
      apply Array.ext_getElem?; intro i
      rw [Array.getElem?_modify]
      by_cases hi : cb = i
      · subst hi; rw [Array.getElem?_setIfInBounds_self_of_lt hlt]; simp [h]
      · rw [Array.getElem?_setIfInBounds_ne hi]; simp [hi]
    rw [World.setCells, e1, heap_setCells cb e fz r (o + 1) _ (carr.setIfInBounds o v) (setBlk_same hlt) (by simp; omega)]
    simp only [setBlk]
    congr 1
    apply Array.ext_getElem?; intro i
    by_cases hi : i = cb
    · subst hi
      rw [Array.getElem?_setIfInBounds_self_of_lt (by simpa using hlt), Array.getElem?_setIfInBounds_self_of_lt hlt]
      congr 3
      apply List.ext_getElem?; intro j
      rw [putCells_get (by simp; omega), putCells_get (by simp; omega)]
      simp only [Array.toList_setIfInBounds, List.length_cons]
      by_cases h1 : j < o
      · simp [h1, Nat.lt_succ_of_lt h1, List.getElem?_set_ne (by omega : o ≠ j)]
      · by_cases h2 : j = o
        · subst h2; simp; rw [List.getElem?_set_self (by simp; omega)]
        · have h3 : ¬ j < o + 1 := by omega
          simp only [h1, h3, if_false]
          by_cases h4 : j < o + 1 + r.length
          · have h5 : j < o + (r.length + 1) := by omega
            simp only [h4, h5, if_true]
            obtain ⟨m, rfl⟩ : ∃ m, j = o + 1 + m := ⟨j - (o + 1), by omega⟩
            rw [show o + 1 + m - o = m + 1 by omega, show o + 1 + m - (o + 1) = m by omega]; simp
          · have h5 : ¬ j < o + (r.length + 1) := by omega
            simp only [h4, h5, if_false]
            rw [List.getElem?_set_ne (by omega)]
    · rw [Array.getElem?_setIfInBounds_ne (Ne.symm hi), Array.getElem?_setIfInBounds_ne (Ne.symm hi), Array.getElem?_setIfInBounds_ne (Ne.symm hi)]

theorem allCells_get {l : List Value} (h : allCells l = true) {i : Nat} {v : Value} (hv : l[i]? = some v) : cellV v = true := by
  unfold allCells at h
  rw [List.all_eq_true] at h
  exact h v (List.mem_of_getElem? hv)

theorem one_of {l l' : List Value} {sh : Sh} (hL : LRel P ρ sh l l') (h : allCells l = true) : ∀ u ∈ l', u.oneCell' = true := by
  intro u hu
  obtain ⟨i, hi⟩ := List.mem_iff_getElem?.1 hu
  have hlt : i < l.length := by rw [hL.1]; exact lt_of_get hi
  obtain ⟨y, hy, hr⟩ := hL.2 i l[i] (List.getElem?_eq_getElem hlt)
  rw [hi] at hy; simp at hy; subst hy
  exact (hr.cellV (allCells_get h (List.getElem?_eq_getElem hlt))).2.2

theorem LRel.put {cs vs cs' vs' : List Value} {sh : Sh} {off : Nat} (h : LRel P ρ sh cs cs') (h' : LRel P ρ sh vs vs') : LRel P ρ sh (putCells cs off vs) (putCells cs' off vs') := by
  unfold putCells; rw [h'.1]
  exact ((h.take off).append h').append (h.drop _)

theorem allCells_append {a b : List Value} : allCells (a ++ b) = (allCells a && allCells b) := by simp [allCells]
theorem allCells_take {a : List Value} (h : allCells a = true) (n : Nat) : allCells (a.take n) = true := by
  unfold allCells at *; rw [List.all_eq_true] at *; exact fun x hx => h x (List.mem_of_mem_take hx)
theorem allCells_drop {a : List Value} (h : allCells a = true) (n : Nat) : allCells (a.drop n) = true := by
  unfold allCells at *; rw [List.all_eq_true] at *; exact fun x hx => h x (List.mem_of_mem_drop hx)

/-- cells are stored, abstract and the model's -/
theorem storeL_sound (h : Rel P ρ H w) {b off cb base : Nat} {e : Option Nat} {vs vs' : List Value} {s : AS} (hs : storeL ⟨H, e⟩ b off vs = some s) (hr : ρ b = some (cb, base))
    (hL : LRel P ρ w.shape? vs vs') : Rel P ρ s.H (w.setCells cb (base + off) vs') ∧ Step H.length ρ H w ρ s.H (w.setCells cb (base + off) vs') ∧ s.H.length = H.length ∧
      (∀ j, j < vs'.length → (w.cell? ⟨cb, base + off + j, none⟩).isSome = true) ∧ (∀ j, j < vs'.length → w.frozen? ⟨cb, base + off + j, none⟩ = false) ∧ (∀ u ∈ vs', u.oneCell' = true) := by
  unfold storeL at hs
  split at hs
  · rename_i cs et hb
    split at hs
    · rename_i hle
      obtain ⟨hle, hac⟩ := hle
      simp at hs; subst hs
      obtain ⟨cb', base', carr, fz, h1, h2, h3, h4, h5, h6⟩ := cells_get h hb
      rw [h1] at hr; simp at hr; obtain ⟨rfl, rfl⟩ := hr
      have hfz0 := h6.1 rfl
      have hfz := hfz0.not
      have hcs := h6.2
      have hvl := hL.1
      have hsz : vs' ≠ [] → base' + off + vs'.length ≤ carr.size := by
        intro hne
        have : 0 < vs'.length := List.length_pos_iff.2 hne
        have := h4 (fun he => by subst he; exact absurd hle (by simp only [List.length_nil]; omega))
        omega
      by_cases hne : vs' = []
      · subst hne
        have : vs = [] := by simpa using hvl
        subst this
        have e1 : putCells cs off [] = cs := by simp [putCells]
        have e2 : H.set b (.cells cs et true) = H := by
          apply List.ext_getElem?; intro i
          by_cases hi : b = i
          · subst hi; rw [List.getElem?_set_self (lt_of_get hb), hb]
          · rw [List.getElem?_set_ne hi]
        simp only [e1, e2, World.setCells]
        exact ⟨h, .refl _, by trivial, fun j hj => by simp at hj, fun j hj => by simp at hj, fun u hu => by simp at hu⟩
      · have hsz := hsz hne
        rw [heap_setCells cb' et fz vs' (base' + off) w carr h2 hsz]
        have hpl : (putCells carr.toList (base' + off) vs').length = carr.size := by rw [putCells_length (by simpa using hsz)]; simp
        have := set_rel h (k' := .cells (putCells cs off vs) et true) (o' := .cells (putCells carr.toList (base' + off) vs').toArray et fz) hb rfl h1 h2 rfl (by simp [hpl])
          (by
            refine ⟨_, fz, rfl, ?_, fun _ => by simpa [hpl] using hfz0, ?_⟩
            · have e : List.take (putCells cs off vs).length (List.drop base' (putCells carr.toList (base' + off) vs').toArray.toList) = putCells ((carr.toList.drop base').take cs.length) off vs' := by
                have hcl : cs.length = ((carr.toList.drop base').take cs.length).length := h5.1
                apply List.ext_getElem?; intro i
                rw [putCells_length hle, List.getElem?_take, List.getElem?_drop]
                rw [putCells_get (by simpa using hsz), putCells_get (by rw [← hcl, ← hvl]; exact hle)]
                by_cases h0 : i < cs.length
                · simp only [h0, if_true, List.getElem?_take, List.getElem?_drop]
                  by_cases h1 : i < off
                  · simp [h1, h0]
                  · by_cases h2 : i < off + vs'.length
                    · have h2' : base' + i < base' + off + vs'.length := by omega
                      have h1' : ¬ base' + i < base' + off := by omega
                      simp only [h1, h1', h2, h2', if_true, if_false]
                      congr 1; omega
                    · have h2' : ¬ base' + i < base' + off + vs'.length := by omega
                      have h1' : ¬ base' + i < base' + off := by omega
                      simp [h1, h1', h2, h2', h0]
                · have h1 : ¬ i < off := by omega
                  have h2 : ¬ i < off + vs'.length := by omega
                  simp [h0, h1, h2, List.getElem?_take]
              rw [e]
              exact h5.put hL
            · unfold putCells
              rw [allCells_append, allCells_append, allCells_take hcs, allCells_drop hcs, hac]; rfl)
        refine ⟨this.1, this.2, by simp, fun j hj => ?_, fun j hj => ?_, one_of hL hac⟩
        · rw [cell_at h2, Array.getElem?_eq_getElem (by omega)]; rfl
        · simp only [World.frozen?, h2]
          have := hfz (base' + off + j) (by omega)
          simp only [Bool.and_eq_false_iff, decide_eq_false_iff_not]
          by_cases hx : fz.1 ≤ base' + off + j
          · exact .inr (fun hy => this ⟨hx, hy⟩)
          · exact .inl hx
    · simp at hs
  · simp at hs

theorem cells_rel {v cv : Value} {sh : Sh} (h : VRel P ρ sh v cv) (hc : allCells v.cells.toList = true) : LRel P ρ sh v.cells.toList cv.cells.toList := by
  cases v with
  | agg a => obtain ⟨a', rfl, hL⟩ := h.agg_inv; exact hL
  | tuple a => simp [Value.cells, allCells, cellV] at hc
  | chan c =>
    cases c with
    | none => simp [Value.cells, allCells, cellV] at hc
    | some c =>
      obtain ⟨h1, h2, _⟩ := h.cellV rfl
      rw [h1, h2]
      exact .cons h .nil
  | _ =>
    obtain ⟨h1, h2, _⟩ := h.cellV rfl
    rw [h1, h2]
    exact .cons h .nil

theorem aStore_sound (h : Rel P ρ H w) {t : TypeId} {n : Nat} {e : Option Nat} {p cp v cv : Value} {s : AS} (hn : sizeP P t = some n) (hs : aStore n ⟨H, e⟩ p v = some s)
    (hp : VRel P ρ w.shape? p cp) (hv : VRel P ρ w.shape? v cv) :
    ∃ w', (Instr.storeAt t cp cv).run P w = .ok () w' ∧ Rel P ρ s.H w' ∧ Step H.length ρ H w ρ s.H w' ∧ s.H.length = H.length := by
  cases p with
  | pointer a =>
    cases a with
    | none => simp [aStore] at hs
    | some a =>
      obtain ⟨cb, base, hsp, hr, rfl⟩ := hp.ptr_inv
      simp only [aStore] at hs
      split at hs
      · rename_i hl
        have hac : allCells v.cells.toList = true := by
          unfold storeL at hs; split at hs
          · split at hs
            · rename_i hh; exact hh.2
            · simp at hs
          · simp at hs
        have hL := cells_rel hv hac
        obtain ⟨h1, h2, h3, h4, h5, h6⟩ := storeL_sound h hs hr hL
        refine ⟨_, ?_, h1, h2, h3⟩
        have hsz : cv.cells.size = n := by have := hL.1; simp at this hl; omega
        have := run_storeCells_cells (P := P) cb (base + a.off) cv.cells.toList 0 w (by simpa using h4) (by simpa using h5) h6
        simp only [Nat.add_zero] at this
        simp [Instr.storeAt, Instr.sureAddr, storeVar, run_sizeP hn, hsz, this]
      · simp at hs
  | _ => simp [aStore] at hs

/-- a new row -/
theorem row_sound (h : Rel P ρ H w) {e : TypeId} {cs cs' : List Value} {extra : List Value} {own : Bool} (hL : LRel P ρ w.shape? cs cs') (hac : allCells cs = true) :
    Rel P (upd ρ H.length (w.heap.size, 0)) (H ++ [.cells cs e own]) (w.alloc (.cells (cs' ++ extra).toArray e)) ∧
    Step H.length ρ H w (upd ρ H.length (w.heap.size, 0)) (H ++ [.cells cs e own]) (w.alloc (.cells (cs' ++ extra).toArray e)) := by
  refine alloc_rel h _ _ ⟨_, (0, 0), rfl, ?_, fun _ => .inl rfl, hac⟩
  have : List.take cs.length (List.drop 0 (cs' ++ extra).toArray.toList) = cs' := by simp [hL.1]
  rw [this]
  exact hL.mono (fun _ _ h => h) (upd_mono (h.dom _ (Nat.le_refl _))) (shape_alloc _ _)

theorem upd_self (ρ : Ren) (b : Nat) (x : Nat × Nat) : upd ρ b x b = some x := by simp [upd]

theorem aBox_sound (h : Rel P ρ H w) {elem : TypeId} {e : Option Nat} {v cv pv : Value} {s : AS} (hs : aBox elem v ⟨H, e⟩ = some (pv, s)) (hv : VRel P ρ w.shape? v cv) :
    ∃ ρ' cpv, (Instr.box elem cv).run P w = .ok cpv (w.alloc (.cells cv.cells elem)) ∧ Rel P ρ' s.H (w.alloc (.cells cv.cells elem)) ∧ Step H.length ρ H w ρ' s.H (w.alloc (.cells cv.cells elem)) ∧
      H.length ≤ s.H.length ∧ VRel P ρ' (w.alloc (.cells cv.cells elem)).shape? pv cpv := by
  unfold aBox at hs
  split at hs
  · rename_i hac
    simp [newPtr, newBlk] at hs
    obtain ⟨rfl, rfl⟩ := hs
    have hL := cells_rel hv hac
    have := row_sound h (e := elem) (extra := []) (own := true) hL hac
    simp only [List.append_nil, Array.toArray_toList] at this
    refine ⟨_, .pointer (some ⟨w.heap.size, 0, none⟩), ?_, this.1, this.2, by simp, ?_⟩
    · simp [Instr.box, newVar, newRow]
    · exact .ptr (upd_self _ _ _)
  · simp at hs

end
end Go.Am

end
section
namespace Go.Am

section
variable {P : Program} {ρ ρ' : Ren} {H : List Blk} {w : World}

theorem pureRun_bind {α β : Type} (x : Sem α) (f : α → Sem β) : pureRun P (x >>= f) = (pureRun P x).bind fun a => pureRun P (f a) := by
  show pureRun P (x.bind f) = _
  induction x with
  | pure a => rfl
  | program k ih => simp only [Sem.bind, pureRun]; exact ih P
  | mark m k ih => simp only [Sem.bind, pureRun]; exact ih
  | _ => rfl

theorem pure_bounds {α : Type} (k : IntKind) (i y : Int) (c : BoundsCode) : pureRun P (boundsPanic k i y c : Sem α) = none := by
  unfold boundsPanic runtimePanic
  split <;> simp [pureRun_bind, choose, pureRun, program, goPanic, Functor.map, bind, Sem.bind, pure]

theorem parts_rel {sh : Sh} {parts parts' : List (Nat × Value)} (h : parts.map (·.1) = parts'.map (·.1)) (hr : LRel P ρ sh (parts.map (·.2)) (parts'.map (·.2))) :
    ∀ {i v rest}, parts = (i, v) :: rest → ∃ v' rest', parts' = (i, v') :: rest' ∧ VRel P ρ sh v v' ∧ rest.map (·.1) = rest'.map (·.1) ∧ LRel P ρ sh (rest.map (·.2)) (rest'.map (·.2)) := by
  intro i v rest he
  subst he
  cases parts' with
  | nil => simp at h
  | cons p r =>
    obtain ⟨j, u⟩ := p
    simp only [List.map_cons, List.cons.injEq] at h
    obtain ⟨h1, h2⟩ := h
    subst h1
    have := LRel.head hr
    exact ⟨u, r, rfl, this.1, h2, this.2⟩

theorem zipIdx_fold {sh : Sh} (off : Nat) : ∀ (l l' : List Value) (cs cs' : Array Value) (k : Nat), LRel P ρ sh l l' → LRel P ρ sh cs.toList cs'.toList →
    LRel P ρ sh ((l.zipIdx k).foldl (fun cs x => cs.setIfInBounds (off + x.2) x.1) cs).toList ((l'.zipIdx k).foldl (fun cs x => cs.setIfInBounds (off + x.2) x.1) cs').toList
  | [], l', cs, cs', k, hl, hc => by
    have : l' = [] := by have := hl.1; simp at this; exact List.eq_nil_of_length_eq_zero this.symm
    subst this; simpa using hc
  | v :: l, [], cs, cs', k, hl, hc => by have := hl.1; simp at this
  | v :: l, v' :: l', cs, cs', k, hl, hc => by
    have := hl.head
    simp only [List.zipIdx_cons, List.foldl_cons]
    refine zipIdx_fold off l l' _ _ (k + 1) this.2 ?_
    simp only [Array.toList_setIfInBounds]
    exact hc.set _ this.1

theorem fold_arr (off : Nat) (a : Array Value) (cs : Array Value) : a.zipIdx.foldl (fun cs x => cs.setIfInBounds (off + x.2) x.1) cs = (a.toList.zipIdx 0).foldl (fun cs x => cs.setIfInBounds (off + x.2) x.1) cs := by
  rw [← Array.foldl_toList]; simp

theorem fill_rel {sh : Sh} (place : Nat → Option (Nat × Nat)) : ∀ (parts parts' : List (Nat × Value)) (cs cs' r : Array Value), parts.map (·.1) = parts'.map (·.1) → LRel P ρ sh (parts.map (·.2)) (parts'.map (·.2)) →
    (parts.all fun p => allCells p.2.cells.toList) = true → LRel P ρ sh cs.toList cs'.toList → Instr.fill place cs parts = some r →
    ∃ r', Instr.fill place cs' parts' = some r' ∧ LRel P ρ sh r.toList r'.toList
  | [], parts', cs, cs', r, h1, h2, h3, h4, h => by
    have : parts' = [] := by simpa using h1.symm
    subst this
    simp [Instr.fill] at h; subst h
    exact ⟨cs', rfl, h4⟩
  | (i, v) :: rest, parts', cs, cs', r, h1, h2, h3, h4, h => by
    obtain ⟨v', rest', rfl, hv, h5, h6⟩ := parts_rel h1 h2 rfl
    simp only [List.all_cons, Bool.and_eq_true] at h3
    have hL := cells_rel hv h3.1
    have hsz : v.cells.size = v'.cells.size := by have := hL.1; simpa using this
    have hcz : cs.size = cs'.size := by have := h4.1; simpa using this
    simp only [Instr.fill] at h ⊢
    cases hp : place i with
    | none => simp [hp] at h
    | some x =>
      obtain ⟨off, size⟩ := x
      simp only [hp] at h ⊢
      rw [← hsz, ← hcz]
      split at h
      · simp at h
      · rename_i hn
        rw [if_neg hn]
        refine fill_rel place rest rest' _ _ r h5 h6 h3.2 ?_ h
        have := zipIdx_fold (P := P) (ρ := ρ) (sh := sh) off v.cells.toList v'.cells.toList cs cs' 0 hL h4
        rw [← fold_arr, ← fold_arr] at this
        exact this

theorem zeroP_of {t : TypeId} {z : Value} (h : pureRun P (zeroValue t) = some z) : zeroP P t = some z := by
  unfold zeroValue typeInfo at h
  simp only [pureRun_bind, program, pureRun, Option.bind_some] at h
  cases hi : P.info? t with
  | none => simp [hi, stuck, pureRun] at h
  | some i =>
    simp [hi, pureRun, pure] at h
    cases hz : i.zero with
    | none => simp [hz, unsupported, pureRun] at h
    | some z' => simp [hz, pureRun] at h; subst h; simp [zeroP, hi, hz]

theorem aBuild_sound {sh : Sh} {t : TypeId} {parts parts' : List (Nat × Value)} {v : Value} (h1 : parts.map (·.1) = parts'.map (·.1)) (h2 : LRel P ρ sh (parts.map (·.2)) (parts'.map (·.2)))
    (h : aBuild P t parts = some v) : ∃ cv, (∀ w, (Instr.build t parts'.toArray).run P w = .ok cv w) ∧ VRel P ρ sh v cv := by
  unfold aBuild at h
  split at h
  case h_2 => simp at h
  rename_i z0 hz0
  split at h
  · rename_i hh
    obtain ⟨hpz, hac⟩ := hh
    unfold Instr.build at h
    simp only [pureRun_bind] at h
    cases hz : pureRun P (zeroValue t) with
    | none => simp [hz] at h
    | some z =>
      have hzz := zeroP_of hz
      rw [hz0] at hzz; simp at hzz; subst hzz
      simp only [hz, Option.bind_some] at h
      cases hd : pureRun P (underlying t) with
      | none => simp [hd] at h
      | some d =>
        simp only [hd, Option.bind_some] at h
        have hz' := pureRun_run _ _ hz
        have hd' := pureRun_run _ _ hd
        cases d with
        | struct fields =>
          simp only [pureRun_bind] at h
          generalize hm : pureRun P (fields.mapM fun f => do pure (f.offset, ← sizeOf f.type)) = m at h
          cases m with
          | none => simp at h
          | some places =>
            have hm' := pureRun_run _ _ hm
            simp only [Option.bind_some] at h
            split at h
            · rename_i cells hf
              simp [pureRun, pure] at h; subst h
              obtain ⟨r', hr', hL⟩ := fill_rel (P := P) (ρ := ρ) (sh := sh) _ parts parts' z0.cells z0.cells cells h1 h2 hac (.refl_plain hpz) hf
              refine ⟨.agg r', fun w => ?_, .agg (LRel.arr hL).1 (LRel.arr hL).2⟩
              simp only [Instr.build, Sem.run_bind, hz', hd', hm', Result.andThen_ok]
              simp [hr']
            · simp [stuck, pureRun] at h
        | array n elem =>
          simp only [pureRun_bind] at h
          cases hs : pureRun P (sizeOf elem) with
          | none => simp [hs] at h
          | some size =>
            simp only [hs, Option.bind_some] at h
            have hs' := pureRun_run _ _ hs
            split at h
            · rename_i cells hf
              simp [pureRun, pure] at h; subst h
              obtain ⟨r', hr', hL⟩ := fill_rel (P := P) (ρ := ρ) (sh := sh) _ parts parts' z0.cells z0.cells cells h1 h2 hac (.refl_plain hpz) hf
              refine ⟨.agg r', fun w => ?_, .agg (LRel.arr hL).1 (LRel.arr hL).2⟩
              simp only [Instr.build, Sem.run_bind, hz', hd', hs', Result.andThen_ok]
              simp [hr']
            · simp [stuck, pureRun] at h
        | _ => simp [stuck, pureRun] at h
  · simp at h

theorem fieldAddr_sound {sh : Sh} {s : TypeId} {x cx v : Value} {f : Nat} (h : aFieldAddr P s x f = some v) (hx : VRel P ρ sh x cx) :
    ∃ cv, (∀ w, (Instr.fieldAt s cx f).run P w = .ok cv w) ∧ VRel P ρ sh v cv := by
  unfold aFieldAddr at h
  split at h
  · rename_i fields a hu
    split at h
    · rename_i fd hf
      split at h
      · rename_i n hn
        split at h
        · simp at h
        · rename_i hn0
          simp at h; subst h
          obtain ⟨cb, base, hs, hr, rfl⟩ := hx.ptr_inv
          obtain ⟨ab, ao, asp⟩ := a
          simp only at hs hr; subst hs
          refine ⟨.pointer (some ⟨cb, base + ao + fd.offset, none⟩), fun w => ?_, ?_⟩
          · simp [Instr.fieldAt, run_underlying hu, hf, Instr.sureAddr, fieldPlace, run_sizeP hn, hn0, add_none]
          · rw [add_none, Nat.add_assoc]; exact .ptr hr
      · simp at h
    · simp at h
  · rename_i fields off row hu
    split at h
    · rename_i fd hf
      split at h
      · rename_i n hn
        split at h
        · simp at h
        · rename_i hn0
          simp at h; subst h
          obtain ⟨cb, base, c, a', rfl, hz, hc, hL⟩ := hx.tptr_inv
          refine ⟨.pointer (some ⟨cb, base + off + fd.offset, none⟩), fun w => ?_, ?_⟩
          · simp [Instr.fieldAt, run_underlying hu, hf, Instr.sureAddr, fieldPlace, run_sizeP hn, hn0, add_none]
          · rw [Nat.add_assoc]; simpa [tField, tPtr] using VRel.tptr_list hz hc hL
      · simp at h
    · simp at h
  · simp at h

theorem VRel.slice_inv {sh : Sh} {a : Addr} {len cap : Nat} {v : Value} (h : VRel P ρ sh (.slice (some a) len cap) v) :
    (∃ cb base cap', a.spot = none ∧ ρ a.block = some (cb, base) ∧ v = .slice (some ⟨cb, base + a.off, none⟩) len cap' ∧ (cap ≠ UNK → cap' = cap) ∧ len ≤ cap' ∧ (cap = UNK → ∃ e n, sh cb = some (e, n) ∧ base + a.off + cap' * P.cellsOf e ≤ n)) ∨
    (∃ a', a.spot = none ∧ (ρ a.block).isSome = true ∧ v = .slice (some a') 0 0 ∧ len = 0 ∧ (cap ≠ UNK → cap = 0)) := by
  cases h with
  | same _ h => simp [plain] at h
  | slice h hc hl hu => exact .inl ⟨_, _, _, rfl, h, rfl, hc, hl, hu⟩
  | slice0 hb hc => exact .inr ⟨_, rfl, hb, rfl, rfl, hc⟩

theorem indexAddr_sound {sh : Sh} {t : TypeId} {x cx ix cix v : Value} (h : aIndexAddr P t x ix = some v) (hx : VRel P ρ sh x cx) (hix : VRel P ρ sh ix cix) :
    ∃ cv, (∀ w, (Instr.indexAt t cx cix).run P w = .ok cv w) ∧ VRel P ρ sh v cv := by
  unfold aIndexAddr at h
  split at h
  · rename_i elem a len cap k i hu
    split at h
    · rename_i n hn
      split at h
      · rename_i hi
        simp at h; subst h
        have := hix.int_inv; subst this
        rcases hx.slice_inv with ⟨cb, base, cap', hs, hr, rfl, _, hl, _⟩ | ⟨a', hs, _, rfl, rfl, _⟩
        · obtain ⟨ab, ao, asp⟩ := a
          simp only at hs hr; subst hs
          refine ⟨.pointer (some ⟨cb, base + ao + i.toNat * n, none⟩), fun w => ?_, ?_⟩
          · simp [Instr.indexAt, asIntOf, run_underlying hu, run_sizeP hn, hi, add_none]
          · rw [add_none, Nat.add_assoc]; exact .ptr hr
        · omega
      · simp at h
    · simp at h
  · rename_i len elem a k i hu
    split at h
    · rename_i n hn
      split at h
      · rename_i hi
        simp at h; subst h
        have := hix.int_inv; subst this
        obtain ⟨cb, base, hs, hr, rfl⟩ := hx.ptr_inv
        obtain ⟨ab, ao, asp⟩ := a
        simp only at hs hr; subst hs
        refine ⟨.pointer (some ⟨cb, base + ao + i.toNat * n, none⟩), fun w => ?_, ?_⟩
        · simp [Instr.indexAt, asIntOf, run_underlying hu, Instr.sureAddr, run_sizeP hn, hi, add_none]
        · rw [add_none, Nat.add_assoc]; exact .ptr hr
      · simp at h
    · simp at h
  · rename_i elem len row k i hu
    split at h
    · rename_i n hn
      unfold tIndex at h
      split at h
      · rename_i hi
        simp at h; subst h
        have := hix.int_inv; subst this
        rcases hx.ptree_inv with ⟨cb, base, cap', c, a', rfl, hz, hc, hl, hL⟩ | ⟨rfl, _⟩
        · refine ⟨.pointer (some ⟨cb, base + i.toNat * n, none⟩), fun w => ?_, ?_⟩
          · simp [Instr.indexAt, asIntOf, run_underlying hu, run_sizeP hn, hi, add_none]
          · simpa [tPtr] using VRel.tptr_list hz hc hL
        · omega
      · simp at h
    · simp at h
  · rename_i len elem off row k i hu
    split at h
    · rename_i n hn
      unfold tIndex at h
      split at h
      · rename_i hi
        simp at h; subst h
        have := hix.int_inv; subst this
        obtain ⟨cb, base, c, a', rfl, hz, hc, hL⟩ := hx.tptr_inv
        refine ⟨.pointer (some ⟨cb, base + off + i.toNat * n, none⟩), fun w => ?_, ?_⟩
        · simp [Instr.indexAt, asIntOf, run_underlying hu, Instr.sureAddr, run_sizeP hn, hi, add_none]
        · rw [Nat.add_assoc]; simpa [tPtr] using VRel.tptr_list hz hc hL
      · simp at h
    · simp at h
  · simp at h

/-- a part of a struct's or an array's cells -/
theorem part_rel {sh : Sh} {t : TypeId} {cs cs' : Array Value} {off : Nat} {v : Value} (h : pureRun P (part t cs off) = some v) (hL : LRel P ρ sh cs.toList cs'.toList) :
    ∃ cv, (∀ w, (part t cs' off).run P w = .ok cv w) ∧ VRel P ρ sh v cv := by
  unfold part at h
  simp only [pureRun_bind] at h
  cases hg : pureRun P (isAgg t) with
  | none => simp [hg] at h
  | some g =>
    have hg' := pureRun_run _ _ hg
    simp only [hg, Option.bind_some] at h
    cases g with
    | true =>
      simp only [if_true, pureRun_bind] at h
      cases hs : pureRun P (sizeOf t) with
      | none => simp [hs] at h
      | some n =>
        have hs' := pureRun_run _ _ hs
        simp [hs, pureRun, pure] at h; subst h
        refine ⟨.agg (cs'.extract off (off + n)), fun w => by simp [part, hg', hs'], ?_⟩
        have := LRel.arr (a := cs.extract off (off + n)) (a' := cs'.extract off (off + n)) (by simpa using (hL.drop off).take n)
        exact .agg this.1 this.2
    | false =>
      simp at h
      cases hc : cs[off]? with
      | none => simp [hc, stuck, pureRun] at h
      | some u =>
        simp [hc, pureRun, pure] at h; subst h
        obtain ⟨y, hy, hr⟩ := hL.2 off u (by simpa using hc)
        refine ⟨y, fun w => ?_, hr⟩
        have : cs'[off]? = some y := by simpa using hy
        simp [part, hg', this]

theorem field_sound {sh : Sh} {t : TypeId} {x cx v : Value} {f : Nat} (h : pureRun P (Instr.field t x f) = some v) (hx : VRel P ρ sh x cx) :
    ∃ cv, (∀ w, (Instr.field t cx f).run P w = .ok cv w) ∧ VRel P ρ sh v cv := by
  unfold Instr.field at h
  simp only [pureRun_bind] at h
  cases hd : pureRun P (underlying t) with
  | none => simp [hd] at h
  | some d =>
    have hd' := pureRun_run _ _ hd
    simp only [hd, Option.bind_some] at h
    cases d with
    | struct fields =>
      simp only at h
      cases hf : fields[f]? with
      | none => simp [hf, stuck, pureRun] at h
      | some fd =>
        simp only [hf] at h
        cases x with
        | agg cs =>
          obtain ⟨cs', rfl, hL⟩ := hx.agg_inv
          simp [asAgg, pureRun_bind, pureRun, pure] at h
          obtain ⟨cv, h1, h2⟩ := part_rel h hL
          exact ⟨cv, fun w => by simp [Instr.field, hd', hf, asAgg, h1], h2⟩
        | _ => simp [asAgg, pureRun_bind, pureRun, stuck] at h
    | _ => simp [stuck, pureRun] at h

theorem extract_sound {sh : Sh} {x cx v : Value} {i : Nat} (h : pureRun P (Instr.extract x i) = some v) (hx : VRel P ρ sh x cx) :
    ∃ cv, (∀ w, (Instr.extract cx i).run P w = .ok cv w) ∧ VRel P ρ sh v cv := by
  cases x with
  | tuple vs =>
    obtain ⟨vs', rfl, hL⟩ := hx.tuple_inv
    simp only [Instr.extract] at h
    cases hc : vs[i]? with
    | none => simp [hc, stuck, pureRun] at h
    | some u =>
      simp [hc, pureRun, pure] at h; subst h
      obtain ⟨y, hy, hr⟩ := hL.2 i u (by simpa using hc)
      have : vs'[i]? = some y := by simpa using hy
      exact ⟨y, fun w => by simp [Instr.extract, this], hr⟩
  | _ => simp [Instr.extract, stuck, pureRun] at h

theorem index_sound {sh : Sh} {t : TypeId} {x cx ix cix v : Value} (hp : plain ix = true) (h : pureRun P (Instr.index t x ix) = some v) (hx : VRel P ρ sh x cx) (hix : VRel P ρ sh ix cix) :
    ∃ cv, (∀ w, (Instr.index t cx cix).run P w = .ok cv w) ∧ VRel P ρ sh v cv := by
  have := hix.eq_of_plain hp; subst this
  cases x with
  | agg cs =>
    obtain ⟨cs', rfl, hL⟩ := hx.agg_inv
    unfold Instr.index at h
    simp only [pureRun_bind] at h
    cases hk : pureRun P (asIntOf cix) with
    | none => simp [hk] at h
    | some ki =>
      obtain ⟨k, i⟩ := ki
      have hk' := pureRun_run _ _ hk
      simp only [hk, Option.bind_some] at h
      cases hd : pureRun P (underlying t) with
      | none => simp [hd] at h
      | some d =>
        have hd' := pureRun_run _ _ hd
        simp only [hd, Option.bind_some] at h
        cases d with
        | array len elem =>
          simp only at h
          split at h
          · rename_i hi
            simp only [pureRun_bind] at h
            cases hs : pureRun P (sizeOf elem) with
            | none => simp [hs] at h
            | some n =>
              have hs' := pureRun_run _ _ hs
              simp only [hs, Option.bind_some] at h
              obtain ⟨cv, h1, h2⟩ := part_rel h hL
              exact ⟨cv, fun w => by simp [Instr.index, hk', hd', hs', hi, h1], h2⟩
          · exfalso
            rw [pure_bounds] at h; simp at h
        | _ => simp [stuck, pureRun] at h
  | string s =>
    have := hx.string_inv; subst this
    have hv := h
    unfold Instr.index at h
    refine ⟨v, fun w => pureRun_run _ _ hv w, ?_⟩
    simp only [pureRun_bind] at h
    cases hk : pureRun P (asIntOf cix) with
    | none => simp [hk] at h
    | some ki =>
      simp only [hk, Option.bind_some] at h
      cases hd : pureRun P (underlying t) with
      | none => simp [hd] at h
      | some d =>
        simp only [hd, Option.bind_some] at h
        cases d with
        | string =>
          simp only at h
          split at h
          · simp [pureRun, pure] at h; subst h; exact .same _ rfl
          · exfalso
            rw [pure_bounds] at h; simp at h
        | _ => simp [stuck, pureRun] at h
  | _ =>
    exfalso
    unfold Instr.index at h
    simp only [pureRun_bind] at h
    cases hk : pureRun P (asIntOf cix) with
    | none => simp [hk] at h
    | some ki =>
      simp only [hk, Option.bind_some] at h
      cases hd : pureRun P (underlying t) with
      | none => simp [hd] at h
      | some d =>
        simp only [hd, Option.bind_some] at h
        cases d <;> simp [stuck, pureRun] at h

end
end Go.Am

end
