/-
  No cell of these rows narrows 'for every input' (looked for: loops, veiled, ifaces, maps, wideKeys, modest, calm, conditions, laid).
  DERIVED. THE GIVEN ROWS OF THIS SEAT. 4 by the template 'for every input the law returns true; each argument reads behind the call as it read before'; 0 by the template 'total and deterministic' (their statements: YtgpfiiebfhdjhaaTotals.lean).
  GIVEN WITH THE SEED: the statements are not yours to turn. If you find one false, say at which input.
  Laid BY PROGRAM, IN A SANDBOX (cutbox-rows.mjs): the forced cells as the released guide's own fill.sh prints them over the translation f6b961d0672947a2… (all of the seat's roots in one cut). By AI agents, Wed Nov 11 2026. No macro, syntax, notation, axiom, sorry.
-/
import Derived.Test.YtgpfiiebfhdjhaaChecked
import GoSem.Claim
import GoSem.ClaimJoined
import GoSem.ClaimMapViews
import Derived.JoinedTies
import Derived.KernelRfl
namespace Go.Proofs.Ytgpfiiebfhdjhaa
/- THE CELL 'sum', in the pinned program and in every row, IS THE sha256 OF THE DUMP (.gsa) THAT YtgpfiiebfhdjhaaProg.lean LOADS. Nothing in Lean hashes anything: it is a label: what it is worth is what the hold of that sum in a sandbox is worth. -/
noncomputable def Try.pinned : Pinned := { name := "ytgpfiiebfhdjhaa", sum := "f6b961d0672947a2aa59bbe83c6892568ee3f343a9ff5587e0cc4e12b49ed095", checked := Try.checked }
namespace Rows
def none {H : Type} : Left H := { results := [], args := [] }

/-- 'twainlaw14.ItreeHeight': WHATEVER THE INPUT: true; the input reads as it did. -/
def itreeHeightSpec : ChangeSpec := { name := "itreeHeight", fn := fun _ => fun
  | [d1, d2, d3] => { results := [.lit (.bool true)], args := [d1, d2, d3] }
  | _ => none }
def itreeHeightRow : OpenClaim := { program := "ytgpfiiebfhdjhaa", sum := "f6b961d0672947a2aa59bbe83c6892568ee3f343a9ff5587e0cc4e12b49ed095", func := "twain/twainlaw14.ItreeHeight", spec := "itreeHeight", unfollowed := true, recurses := true, apart := false }
def ItreeHeightSaid : Prop := itreeHeightRow.holds Try.pinned (OpenSpec.ofChange itreeHeightSpec)

/-- ITS FALSE NEIGHBOUR: 'it returns false'. Refute it at one input. -/
def itreeHeightWrong : ChangeSpec := { name := "itreeHeight", fn := fun _ => fun
  | [d1, d2, d3] => { results := [.lit (.bool false)], args := [d1, d2, d3] }
  | _ => none }
def ItreeHeightWrongFalsely : Prop := itreeHeightRow.holds Try.pinned (OpenSpec.ofChange itreeHeightWrong)

/-- 'twainlaw14.ItreeFinds': WHATEVER THE INPUT: true; the input reads as it did. -/
def itreeFindsSpec : ChangeSpec := { name := "itreeFinds", fn := fun _ => fun
  | [d1, d2] => { results := [.lit (.bool true)], args := [d1, d2] }
  | _ => none }
def itreeFindsRow : OpenClaim := { program := "ytgpfiiebfhdjhaa", sum := "f6b961d0672947a2aa59bbe83c6892568ee3f343a9ff5587e0cc4e12b49ed095", func := "twain/twainlaw14.ItreeFinds", spec := "itreeFinds", unfollowed := true, recurses := true, apart := false }
def ItreeFindsSaid : Prop := itreeFindsRow.holds Try.pinned (OpenSpec.ofChange itreeFindsSpec)

/-- ITS FALSE NEIGHBOUR: 'it returns false'. Refute it at one input. -/
def itreeFindsWrong : ChangeSpec := { name := "itreeFinds", fn := fun _ => fun
  | [d1, d2] => { results := [.lit (.bool false)], args := [d1, d2] }
  | _ => none }
def ItreeFindsWrongFalsely : Prop := itreeFindsRow.holds Try.pinned (OpenSpec.ofChange itreeFindsWrong)

/-- 'twainlaw14.ItreeActs': WHATEVER THE INPUT: true; the input reads as it did. -/
def itreeActsSpec : ChangeSpec := { name := "itreeActs", fn := fun _ => fun
  | [d1, d2] => { results := [.lit (.bool true)], args := [d1, d2] }
  | _ => none }
def itreeActsRow : OpenClaim := { program := "ytgpfiiebfhdjhaa", sum := "f6b961d0672947a2aa59bbe83c6892568ee3f343a9ff5587e0cc4e12b49ed095", func := "twain/twainlaw14.ItreeActs", spec := "itreeActs", unfollowed := true, recurses := true, apart := false }
def ItreeActsSaid : Prop := itreeActsRow.holds Try.pinned (OpenSpec.ofChange itreeActsSpec)

/-- ITS FALSE NEIGHBOUR: 'it returns false'. Refute it at one input. -/
def itreeActsWrong : ChangeSpec := { name := "itreeActs", fn := fun _ => fun
  | [d1, d2] => { results := [.lit (.bool false)], args := [d1, d2] }
  | _ => none }
def ItreeActsWrongFalsely : Prop := itreeActsRow.holds Try.pinned (OpenSpec.ofChange itreeActsWrong)

/-- 'twainlaw14.ItreeNone': WHATEVER THE INPUT: true; the input reads as it did. -/
def itreeNoneSpec : ChangeSpec := { name := "itreeNone", fn := fun _ => fun
  | [d] => { results := [.lit (.bool true)], args := [d] }
  | _ => none }
def itreeNoneRow : OpenClaim := { program := "ytgpfiiebfhdjhaa", sum := "f6b961d0672947a2aa59bbe83c6892568ee3f343a9ff5587e0cc4e12b49ed095", func := "twain/twainlaw14.ItreeNone", spec := "itreeNone", unfollowed := true, recurses := true, apart := false }
def ItreeNoneSaid : Prop := itreeNoneRow.holds Try.pinned (OpenSpec.ofChange itreeNoneSpec)

/-- ITS FALSE NEIGHBOUR: 'it returns false'. Refute it at one input. -/
def itreeNoneWrong : ChangeSpec := { name := "itreeNone", fn := fun _ => fun
  | [d] => { results := [.lit (.bool false)], args := [d] }
  | _ => none }
def ItreeNoneWrongFalsely : Prop := itreeNoneRow.holds Try.pinned (OpenSpec.ofChange itreeNoneWrong)

/- THE SECOND FORM. 'bulk': how many values and letters a reading holds, each counted each time it is reached (what is shared counts as often as it is met; a slice's spare places count too). A statement '..UptoSaid' is the law's where the arguments, and the package variables that the reading takes, are together of bulk at most 1048576: NARROWER than '..Said'. Prove '..Said' where nothing that the law and all that it calls make is longer than what came in: it says more and counts as full. Else prove '..UptoSaid'. A law counts once. -/
mutual
def uptoBulk {H : Type} : DataW H → Nat
  | .lit (.string bytes) => bytes.length + 1
  | .lit _ => 1
  | .nil => 1
  | .ptr d => uptoBulk d + 1
  | .slice elems spare => uptoBulkAll elems + uptoBulkAll spare + 1
  | .agg parts => uptoBulkAll parts + 1
  | .iface _ d => uptoBulk d + 1
  | .map entries => uptoBulkEntries entries + 1
  | .held _ => 1
def uptoBulkAll {H : Type} : List (DataW H) → Nat
  | [] => 0
  | d :: r => uptoBulk d + uptoBulkAll r
def uptoBulkEntries {H : Type} : List (Lit × DataW H) → Nat
  | [] => 0
  | x :: r => uptoBulkEntry x + uptoBulkEntries r
def uptoBulkEntry {H : Type} : Lit × DataW H → Nat
  | (.string bytes, d) => bytes.length + uptoBulk d + 1
  | (_, d) => uptoBulk d + 1
 end
def uptoSmall : (H : Type) → List (DataW H) → Bool := fun _ ds => decide (uptoBulkAll ds ≤ 1048576)
def OpenSpec.upto (s : _root_.Go.ChangeSpec) : _root_.Go.OpenSpec := { _root_.Go.OpenSpec.ofChange s with cond := some uptoSmall }

/-- 'twainlaw14.ItreeHeight', WHERE WHAT IT READS IS OF BULK AT MOST 1048576: true; the input reads as it did. -/
def itreeHeightUptoRow : OpenClaim := { program := "ytgpfiiebfhdjhaa", sum := "f6b961d0672947a2aa59bbe83c6892568ee3f343a9ff5587e0cc4e12b49ed095", func := "twain/twainlaw14.ItreeHeight", spec := "itreeHeight", unfollowed := true, recurses := true, apart := false, narrowed := true }
def ItreeHeightUptoSaid : Prop := itreeHeightUptoRow.holds Try.pinned (OpenSpec.upto itreeHeightSpec)

/-- 'twainlaw14.ItreeFinds', WHERE WHAT IT READS IS OF BULK AT MOST 1048576: true; the input reads as it did. -/
def itreeFindsUptoRow : OpenClaim := { program := "ytgpfiiebfhdjhaa", sum := "f6b961d0672947a2aa59bbe83c6892568ee3f343a9ff5587e0cc4e12b49ed095", func := "twain/twainlaw14.ItreeFinds", spec := "itreeFinds", unfollowed := true, recurses := true, apart := false, narrowed := true }
def ItreeFindsUptoSaid : Prop := itreeFindsUptoRow.holds Try.pinned (OpenSpec.upto itreeFindsSpec)

/-- 'twainlaw14.ItreeActs', WHERE WHAT IT READS IS OF BULK AT MOST 1048576: true; the input reads as it did. -/
def itreeActsUptoRow : OpenClaim := { program := "ytgpfiiebfhdjhaa", sum := "f6b961d0672947a2aa59bbe83c6892568ee3f343a9ff5587e0cc4e12b49ed095", func := "twain/twainlaw14.ItreeActs", spec := "itreeActs", unfollowed := true, recurses := true, apart := false, narrowed := true }
def ItreeActsUptoSaid : Prop := itreeActsUptoRow.holds Try.pinned (OpenSpec.upto itreeActsSpec)

/-- 'twainlaw14.ItreeNone', WHERE WHAT IT READS IS OF BULK AT MOST 1048576: true; the input reads as it did. -/
def itreeNoneUptoRow : OpenClaim := { program := "ytgpfiiebfhdjhaa", sum := "f6b961d0672947a2aa59bbe83c6892568ee3f343a9ff5587e0cc4e12b49ed095", func := "twain/twainlaw14.ItreeNone", spec := "itreeNone", unfollowed := true, recurses := true, apart := false, narrowed := true }
def ItreeNoneUptoSaid : Prop := itreeNoneUptoRow.holds Try.pinned (OpenSpec.upto itreeNoneSpec)

end Rows
end Go.Proofs.Ytgpfiiebfhdjhaa
