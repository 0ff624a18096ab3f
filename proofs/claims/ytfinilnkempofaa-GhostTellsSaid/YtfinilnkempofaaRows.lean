/-
  No cell of these rows narrows 'for every input' (looked for: loops, veiled, ifaces, maps, wideKeys, modest, calm, conditions, laid).
  DERIVED. THE GIVEN ROWS OF THIS SEAT. 6 by the template 'for every input the law returns true; each argument reads behind the call as it read before'; 0 by the template 'total and deterministic' (their statements: YtfinilnkempofaaTotals.lean).
  GIVEN WITH THE SEED: the statements are not yours to turn. If you find one false, say at which input.
  Laid BY PROGRAM, IN A SANDBOX (cutbox-rows.mjs): the forced cells as the released guide's own fill.sh prints them over the translation 67605c7f47c675ce… (all of the seat's roots in one cut). By AI agents, Wed Nov 11 2026. No macro, syntax, notation, axiom, sorry.
-/
import Derived.Test.YtfinilnkempofaaChecked
import GoSem.Claim
import GoSem.ClaimJoined
import GoSem.ClaimMapViews
import Derived.JoinedTies
import Derived.KernelRfl
namespace Go.Proofs.Ytfinilnkempofaa
/- THE CELL 'sum', in the pinned program and in every row, IS THE sha256 OF THE DUMP (.gsa) THAT YtfinilnkempofaaProg.lean LOADS. Nothing in Lean hashes anything: it is a label: what it is worth is what the hold of that sum in a sandbox is worth. -/
noncomputable def Try.pinned : Pinned := { name := "ytfinilnkempofaa", sum := "67605c7f47c675ce6d06201a258ede5d1821e0c0c17b79d29dd7eebeca55e1cd", checked := Try.checked }
namespace Rows
def none {H : Type} : Left H := { results := [], args := [] }

/-- 'twainlaw36.HistoryTells': WHATEVER THE INPUT: true; the input reads as it did. -/
def historyTellsSpec : ChangeSpec := { name := "historyTells", fn := fun _ => fun
  | [d1, d2] => { results := [.lit (.bool true)], args := [d1, d2] }
  | _ => none }
def historyTellsRow : OpenClaim := { program := "ytfinilnkempofaa", sum := "67605c7f47c675ce6d06201a258ede5d1821e0c0c17b79d29dd7eebeca55e1cd", func := "twain/twainlaw36.HistoryTells", spec := "historyTells", unfollowed := true, recurses := true, plainKeys := false, apart := false }
def HistoryTellsSaid : Prop := historyTellsRow.holds Try.pinned (OpenSpec.ofChange historyTellsSpec)

/-- ITS FALSE NEIGHBOUR: 'it returns false'. Refute it at one input. -/
def historyTellsWrong : ChangeSpec := { name := "historyTells", fn := fun _ => fun
  | [d1, d2] => { results := [.lit (.bool false)], args := [d1, d2] }
  | _ => none }
def HistoryTellsWrongFalsely : Prop := historyTellsRow.holds Try.pinned (OpenSpec.ofChange historyTellsWrong)

/-- 'twainlaw36.HistoryOrder': WHATEVER THE INPUT: true; the input reads as it did. -/
def historyOrderSpec : ChangeSpec := { name := "historyOrder", fn := fun _ => fun
  | [d1, d2] => { results := [.lit (.bool true)], args := [d1, d2] }
  | _ => none }
def historyOrderRow : OpenClaim := { program := "ytfinilnkempofaa", sum := "67605c7f47c675ce6d06201a258ede5d1821e0c0c17b79d29dd7eebeca55e1cd", func := "twain/twainlaw36.HistoryOrder", spec := "historyOrder", unfollowed := true, recurses := true, plainKeys := false, apart := false }
def HistoryOrderSaid : Prop := historyOrderRow.holds Try.pinned (OpenSpec.ofChange historyOrderSpec)

/-- ITS FALSE NEIGHBOUR: 'it returns false'. Refute it at one input. -/
def historyOrderWrong : ChangeSpec := { name := "historyOrder", fn := fun _ => fun
  | [d1, d2] => { results := [.lit (.bool false)], args := [d1, d2] }
  | _ => none }
def HistoryOrderWrongFalsely : Prop := historyOrderRow.holds Try.pinned (OpenSpec.ofChange historyOrderWrong)

/-- 'twainlaw37.RegisterFits': WHATEVER THE INPUT: true; the input reads as it did. -/
def registerFitsSpec : ChangeSpec := { name := "registerFits", fn := fun _ => fun
  | [d1, d2, d3] => { results := [.lit (.bool true)], args := [d1, d2, d3] }
  | _ => none }
def registerFitsRow : OpenClaim := { program := "ytfinilnkempofaa", sum := "67605c7f47c675ce6d06201a258ede5d1821e0c0c17b79d29dd7eebeca55e1cd", func := "twain/twainlaw37.RegisterFits", spec := "registerFits", unfollowed := true, recurses := true, plainKeys := false, apart := false }
def RegisterFitsSaid : Prop := registerFitsRow.holds Try.pinned (OpenSpec.ofChange registerFitsSpec)

/-- ITS FALSE NEIGHBOUR: 'it returns false'. Refute it at one input. -/
def registerFitsWrong : ChangeSpec := { name := "registerFits", fn := fun _ => fun
  | [d1, d2, d3] => { results := [.lit (.bool false)], args := [d1, d2, d3] }
  | _ => none }
def RegisterFitsWrongFalsely : Prop := registerFitsRow.holds Try.pinned (OpenSpec.ofChange registerFitsWrong)

/-- 'twainlaw37.RegisterOrders': WHATEVER THE INPUT: true; the input reads as it did. -/
def registerOrdersSpec : ChangeSpec := { name := "registerOrders", fn := fun _ => fun
  | [d1, d2, d3] => { results := [.lit (.bool true)], args := [d1, d2, d3] }
  | _ => none }
def registerOrdersRow : OpenClaim := { program := "ytfinilnkempofaa", sum := "67605c7f47c675ce6d06201a258ede5d1821e0c0c17b79d29dd7eebeca55e1cd", func := "twain/twainlaw37.RegisterOrders", spec := "registerOrders", unfollowed := true, recurses := true, plainKeys := false, apart := false }
def RegisterOrdersSaid : Prop := registerOrdersRow.holds Try.pinned (OpenSpec.ofChange registerOrdersSpec)

/-- ITS FALSE NEIGHBOUR: 'it returns false'. Refute it at one input. -/
def registerOrdersWrong : ChangeSpec := { name := "registerOrders", fn := fun _ => fun
  | [d1, d2, d3] => { results := [.lit (.bool false)], args := [d1, d2, d3] }
  | _ => none }
def RegisterOrdersWrongFalsely : Prop := registerOrdersRow.holds Try.pinned (OpenSpec.ofChange registerOrdersWrong)

/-- 'twainlaw49.GhostTells': WHATEVER THE INPUT: true; the input reads as it did. -/
def ghostTellsSpec : ChangeSpec := { name := "ghostTells", fn := fun _ => fun
  | [d1, d2] => { results := [.lit (.bool true)], args := [d1, d2] }
  | _ => none }
def ghostTellsRow : OpenClaim := { program := "ytfinilnkempofaa", sum := "67605c7f47c675ce6d06201a258ede5d1821e0c0c17b79d29dd7eebeca55e1cd", func := "twain/twainlaw49.GhostTells", spec := "ghostTells", unfollowed := true, recurses := true, plainKeys := false, apart := false }
def GhostTellsSaid : Prop := ghostTellsRow.holds Try.pinned (OpenSpec.ofChange ghostTellsSpec)

/-- ITS FALSE NEIGHBOUR: 'it returns false'. Refute it at one input. -/
def ghostTellsWrong : ChangeSpec := { name := "ghostTells", fn := fun _ => fun
  | [d1, d2] => { results := [.lit (.bool false)], args := [d1, d2] }
  | _ => none }
def GhostTellsWrongFalsely : Prop := ghostTellsRow.holds Try.pinned (OpenSpec.ofChange ghostTellsWrong)

/-- 'twainlaw49.GhostOrder': WHATEVER THE INPUT: true; the input reads as it did. -/
def ghostOrderSpec : ChangeSpec := { name := "ghostOrder", fn := fun _ => fun
  | [d1, d2] => { results := [.lit (.bool true)], args := [d1, d2] }
  | _ => none }
def ghostOrderRow : OpenClaim := { program := "ytfinilnkempofaa", sum := "67605c7f47c675ce6d06201a258ede5d1821e0c0c17b79d29dd7eebeca55e1cd", func := "twain/twainlaw49.GhostOrder", spec := "ghostOrder", unfollowed := true, recurses := true, plainKeys := false, apart := false }
def GhostOrderSaid : Prop := ghostOrderRow.holds Try.pinned (OpenSpec.ofChange ghostOrderSpec)

/-- ITS FALSE NEIGHBOUR: 'it returns false'. Refute it at one input. -/
def ghostOrderWrong : ChangeSpec := { name := "ghostOrder", fn := fun _ => fun
  | [d1, d2] => { results := [.lit (.bool false)], args := [d1, d2] }
  | _ => none }
def GhostOrderWrongFalsely : Prop := ghostOrderRow.holds Try.pinned (OpenSpec.ofChange ghostOrderWrong)

/- THE SECOND FORM. 'bulk': how many values and letters a reading holds, each counted each time it is reached (what is shared counts as often as it is met; a slice's spare places count too). A statement '..UptoSaid' is the law's where the arguments, and the package variables that the reading takes, are together of bulk at most 1048576: NARROWER than '..Said'. Prove '..Said' where nothing that the law and all that it calls make is longer than what came in: it says more and counts as full. Else prove '..UptoSaid'. A law counts once. -/
mutual
def uptoBulk {H : Type} : DataW H → Nat
  | .lit (.string bytes) => bytes.length + 1
  | .lit _ => 1
  | .nil => 1
  | .ptr d => uptoBulk d + 1
  | .slice elems spare => uptoBulkAll elems + uptoBulkAll spare + 1
  | .agg parts => uptoBulkAll parts + 1
  | .iface _ d => uptoBulk d + 1
  | .map entries => uptoBulkEntries entries + 1
  | .held _ => 1
def uptoBulkAll {H : Type} : List (DataW H) → Nat
  | [] => 0
  | d :: r => uptoBulk d + uptoBulkAll r
def uptoBulkEntries {H : Type} : List (Lit × DataW H) → Nat
  | [] => 0
  | x :: r => uptoBulkEntry x + uptoBulkEntries r
def uptoBulkEntry {H : Type} : Lit × DataW H → Nat
  | (.string bytes, d) => bytes.length + uptoBulk d + 1
  | (_, d) => uptoBulk d + 1
 end
def uptoSmall : (H : Type) → List (DataW H) → Bool := fun _ ds => decide (uptoBulkAll ds ≤ 1048576)
def OpenSpec.upto (s : _root_.Go.ChangeSpec) : _root_.Go.OpenSpec := { _root_.Go.OpenSpec.ofChange s with cond := some uptoSmall }

/-- 'twainlaw36.HistoryTells', WHERE WHAT IT READS IS OF BULK AT MOST 1048576: true; the input reads as it did. -/
def historyTellsUptoRow : OpenClaim := { program := "ytfinilnkempofaa", sum := "67605c7f47c675ce6d06201a258ede5d1821e0c0c17b79d29dd7eebeca55e1cd", func := "twain/twainlaw36.HistoryTells", spec := "historyTells", unfollowed := true, recurses := true, plainKeys := false, apart := false, narrowed := true }
def HistoryTellsUptoSaid : Prop := historyTellsUptoRow.holds Try.pinned (OpenSpec.upto historyTellsSpec)

/-- 'twainlaw36.HistoryOrder', WHERE WHAT IT READS IS OF BULK AT MOST 1048576: true; the input reads as it did. -/
def historyOrderUptoRow : OpenClaim := { program := "ytfinilnkempofaa", sum := "67605c7f47c675ce6d06201a258ede5d1821e0c0c17b79d29dd7eebeca55e1cd", func := "twain/twainlaw36.HistoryOrder", spec := "historyOrder", unfollowed := true, recurses := true, plainKeys := false, apart := false, narrowed := true }
def HistoryOrderUptoSaid : Prop := historyOrderUptoRow.holds Try.pinned (OpenSpec.upto historyOrderSpec)

/-- 'twainlaw37.RegisterFits', WHERE WHAT IT READS IS OF BULK AT MOST 1048576: true; the input reads as it did. -/
def registerFitsUptoRow : OpenClaim := { program := "ytfinilnkempofaa", sum := "67605c7f47c675ce6d06201a258ede5d1821e0c0c17b79d29dd7eebeca55e1cd", func := "twain/twainlaw37.RegisterFits", spec := "registerFits", unfollowed := true, recurses := true, plainKeys := false, apart := false, narrowed := true }
def RegisterFitsUptoSaid : Prop := registerFitsUptoRow.holds Try.pinned (OpenSpec.upto registerFitsSpec)

/-- 'twainlaw37.RegisterOrders', WHERE WHAT IT READS IS OF BULK AT MOST 1048576: true; the input reads as it did. -/
def registerOrdersUptoRow : OpenClaim := { program := "ytfinilnkempofaa", sum := "67605c7f47c675ce6d06201a258ede5d1821e0c0c17b79d29dd7eebeca55e1cd", func := "twain/twainlaw37.RegisterOrders", spec := "registerOrders", unfollowed := true, recurses := true, plainKeys := false, apart := false, narrowed := true }
def RegisterOrdersUptoSaid : Prop := registerOrdersUptoRow.holds Try.pinned (OpenSpec.upto registerOrdersSpec)

/-- 'twainlaw49.GhostTells', WHERE WHAT IT READS IS OF BULK AT MOST 1048576: true; the input reads as it did. -/
def ghostTellsUptoRow : OpenClaim := { program := "ytfinilnkempofaa", sum := "67605c7f47c675ce6d06201a258ede5d1821e0c0c17b79d29dd7eebeca55e1cd", func := "twain/twainlaw49.GhostTells", spec := "ghostTells", unfollowed := true, recurses := true, plainKeys := false, apart := false, narrowed := true }
def GhostTellsUptoSaid : Prop := ghostTellsUptoRow.holds Try.pinned (OpenSpec.upto ghostTellsSpec)

/-- 'twainlaw49.GhostOrder', WHERE WHAT IT READS IS OF BULK AT MOST 1048576: true; the input reads as it did. -/
def ghostOrderUptoRow : OpenClaim := { program := "ytfinilnkempofaa", sum := "67605c7f47c675ce6d06201a258ede5d1821e0c0c17b79d29dd7eebeca55e1cd", func := "twain/twainlaw49.GhostOrder", spec := "ghostOrder", unfollowed := true, recurses := true, plainKeys := false, apart := false, narrowed := true }
def GhostOrderUptoSaid : Prop := ghostOrderUptoRow.holds Try.pinned (OpenSpec.upto ghostOrderSpec)

end Rows
end Go.Proofs.Ytfinilnkempofaa
