/-
  No cell of these rows narrows 'for every input' (looked for: loops, veiled, ifaces, maps, wideKeys, modest, calm, conditions, laid).
  DERIVED. THE GIVEN ROWS OF THIS SEAT. 5 by the template 'for every input the law returns true; each argument reads behind the call as it read before'; 0 by the template 'total and deterministic' (their statements: YthdoihdngldlfaaGreatTotals.lean).
  GIVEN WITH THE SEED: the statements are not yours to turn. If you find one false, say at which input.
  Laid BY PROGRAM, IN A SANDBOX (cutbox-rows.mjs): the forced cells as the released guide's own fill.sh prints them over the translation eca6c667590a5453… (all of the seat's roots in one cut). By AI agents, Wed Nov 11 2026. No macro, syntax, notation, axiom, sorry.
-/
import Derived.Test.YthdoihdngldlfaaGreatChecked
import GoSem.Claim
import GoSem.ClaimJoined
import GoSem.ClaimMapViews
import Derived.JoinedTies
import Derived.KernelRfl
namespace Go.Proofs.YthdoihdngldlfaaGreat
/- THE CELL 'sum', in the pinned program and in every row, IS THE sha256 OF THE DUMP (.gsa) THAT YthdoihdngldlfaaGreatProg.lean LOADS. Nothing in Lean hashes anything: it is a label: what it is worth is what the hold of that sum in a sandbox is worth. -/
noncomputable def Tryz.pinned : Pinned := { name := "ythdoihdngldlfaagreat", sum := "eca6c667590a545395dfd9c7cdceef8e3a701f4d2ef6782bff18d5a15bddb713", checked := Tryz.checked }
namespace Rows
def none {H : Type} : Left H := { results := [], args := [] }

/-- 'twainlaw39.AuditNone': WHATEVER THE INPUT: true; the input reads as it did. -/
def auditNoneSpec : ChangeSpec := { name := "auditNone", fn := fun _ => fun
  | [d] => { results := [.lit (.bool true)], args := [d] }
  | _ => none }
def auditNoneRow : OpenClaim := { program := "ythdoihdngldlfaagreat", sum := "eca6c667590a545395dfd9c7cdceef8e3a701f4d2ef6782bff18d5a15bddb713", func := "twain/twainlaw39.AuditNone", spec := "auditNone", unfollowed := true, recurses := true, plainKeys := false, apart := false }
def AuditNoneSaid : Prop := auditNoneRow.holds Tryz.pinned (OpenSpec.ofChange auditNoneSpec)

/-- ITS FALSE NEIGHBOUR: 'it returns false'. Refute it at one input. -/
def auditNoneWrong : ChangeSpec := { name := "auditNone", fn := fun _ => fun
  | [d] => { results := [.lit (.bool false)], args := [d] }
  | _ => none }
def AuditNoneWrongFalsely : Prop := auditNoneRow.holds Tryz.pinned (OpenSpec.ofChange auditNoneWrong)

/-- 'twainlaw31.MirrorNone': WHATEVER THE INPUT: true; the input reads as it did. -/
def mirrorNoneSpec : ChangeSpec := { name := "mirrorNone", fn := fun _ => fun
  | [d] => { results := [.lit (.bool true)], args := [d] }
  | _ => none }
def mirrorNoneRow : OpenClaim := { program := "ythdoihdngldlfaagreat", sum := "eca6c667590a545395dfd9c7cdceef8e3a701f4d2ef6782bff18d5a15bddb713", func := "twain/twainlaw31.MirrorNone", spec := "mirrorNone", unfollowed := true, recurses := true, plainKeys := false, apart := false }
def MirrorNoneSaid : Prop := mirrorNoneRow.holds Tryz.pinned (OpenSpec.ofChange mirrorNoneSpec)

/-- ITS FALSE NEIGHBOUR: 'it returns false'. Refute it at one input. -/
def mirrorNoneWrong : ChangeSpec := { name := "mirrorNone", fn := fun _ => fun
  | [d] => { results := [.lit (.bool false)], args := [d] }
  | _ => none }
def MirrorNoneWrongFalsely : Prop := mirrorNoneRow.holds Tryz.pinned (OpenSpec.ofChange mirrorNoneWrong)

/-- 'twainlaw32.NodeNone': WHATEVER THE INPUT: true; the input reads as it did. -/
def nodeNoneSpec : ChangeSpec := { name := "nodeNone", fn := fun _ => fun
  | [d] => { results := [.lit (.bool true)], args := [d] }
  | _ => none }
def nodeNoneRow : OpenClaim := { program := "ythdoihdngldlfaagreat", sum := "eca6c667590a545395dfd9c7cdceef8e3a701f4d2ef6782bff18d5a15bddb713", func := "twain/twainlaw32.NodeNone", spec := "nodeNone", unfollowed := true, recurses := true, plainKeys := false, apart := false }
def NodeNoneSaid : Prop := nodeNoneRow.holds Tryz.pinned (OpenSpec.ofChange nodeNoneSpec)

/-- ITS FALSE NEIGHBOUR: 'it returns false'. Refute it at one input. -/
def nodeNoneWrong : ChangeSpec := { name := "nodeNone", fn := fun _ => fun
  | [d] => { results := [.lit (.bool false)], args := [d] }
  | _ => none }
def NodeNoneWrongFalsely : Prop := nodeNoneRow.holds Tryz.pinned (OpenSpec.ofChange nodeNoneWrong)

/-- 'twainlaw34.WorldNone': WHATEVER THE INPUT: true; the input reads as it did. -/
def worldNoneSpec : ChangeSpec := { name := "worldNone", fn := fun _ => fun
  | [d] => { results := [.lit (.bool true)], args := [d] }
  | _ => none }
def worldNoneRow : OpenClaim := { program := "ythdoihdngldlfaagreat", sum := "eca6c667590a545395dfd9c7cdceef8e3a701f4d2ef6782bff18d5a15bddb713", func := "twain/twainlaw34.WorldNone", spec := "worldNone", unfollowed := true, recurses := true, plainKeys := false, apart := false }
def WorldNoneSaid : Prop := worldNoneRow.holds Tryz.pinned (OpenSpec.ofChange worldNoneSpec)

/-- ITS FALSE NEIGHBOUR: 'it returns false'. Refute it at one input. -/
def worldNoneWrong : ChangeSpec := { name := "worldNone", fn := fun _ => fun
  | [d] => { results := [.lit (.bool false)], args := [d] }
  | _ => none }
def WorldNoneWrongFalsely : Prop := worldNoneRow.holds Tryz.pinned (OpenSpec.ofChange worldNoneWrong)

/-- 'twainlaw35.FairNone': WHATEVER THE INPUT: true; the input reads as it did. -/
def fairNoneSpec : ChangeSpec := { name := "fairNone", fn := fun _ => fun
  | [d] => { results := [.lit (.bool true)], args := [d] }
  | _ => none }
def fairNoneRow : OpenClaim := { program := "ythdoihdngldlfaagreat", sum := "eca6c667590a545395dfd9c7cdceef8e3a701f4d2ef6782bff18d5a15bddb713", func := "twain/twainlaw35.FairNone", spec := "fairNone", unfollowed := true, recurses := true, plainKeys := false, apart := false }
def FairNoneSaid : Prop := fairNoneRow.holds Tryz.pinned (OpenSpec.ofChange fairNoneSpec)

/-- ITS FALSE NEIGHBOUR: 'it returns false'. Refute it at one input. -/
def fairNoneWrong : ChangeSpec := { name := "fairNone", fn := fun _ => fun
  | [d] => { results := [.lit (.bool false)], args := [d] }
  | _ => none }
def FairNoneWrongFalsely : Prop := fairNoneRow.holds Tryz.pinned (OpenSpec.ofChange fairNoneWrong)

/- THE SECOND FORM. 'bulk': how many values and letters a reading holds, each counted each time it is reached (what is shared counts as often as it is met; a slice's spare places count too). A statement '..UptoSaid' is the law's where the arguments, and the package variables that the reading takes, are together of bulk at most 1048576: NARROWER than '..Said'. Prove '..Said' where nothing that the law and all that it calls make is longer than what came in: it says more and counts as full. Else prove '..UptoSaid'. A law counts once. -/
mutual
def uptoBulk {H : Type} : DataW H → Nat
  | .lit (.string bytes) => bytes.length + 1
  | .lit _ => 1
  | .nil => 1
  | .ptr d => uptoBulk d + 1
  | .slice elems spare => uptoBulkAll elems + uptoBulkAll spare + 1
  | .agg parts => uptoBulkAll parts + 1
  | .iface _ d => uptoBulk d + 1
  | .map entries => uptoBulkEntries entries + 1
  | .held _ => 1
def uptoBulkAll {H : Type} : List (DataW H) → Nat
  | [] => 0
  | d :: r => uptoBulk d + uptoBulkAll r
def uptoBulkEntries {H : Type} : List (Lit × DataW H) → Nat
  | [] => 0
  | x :: r => uptoBulkEntry x + uptoBulkEntries r
def uptoBulkEntry {H : Type} : Lit × DataW H → Nat
  | (.string bytes, d) => bytes.length + uptoBulk d + 1
  | (_, d) => uptoBulk d + 1
 end
def uptoSmall : (H : Type) → List (DataW H) → Bool := fun _ ds => decide (uptoBulkAll ds ≤ 1048576)
def OpenSpec.upto (s : _root_.Go.ChangeSpec) : _root_.Go.OpenSpec := { _root_.Go.OpenSpec.ofChange s with cond := some uptoSmall }

/-- 'twainlaw39.AuditNone', WHERE WHAT IT READS IS OF BULK AT MOST 1048576: true; the input reads as it did. -/
def auditNoneUptoRow : OpenClaim := { program := "ythdoihdngldlfaagreat", sum := "eca6c667590a545395dfd9c7cdceef8e3a701f4d2ef6782bff18d5a15bddb713", func := "twain/twainlaw39.AuditNone", spec := "auditNone", unfollowed := true, recurses := true, plainKeys := false, apart := false, narrowed := true }
def AuditNoneUptoSaid : Prop := auditNoneUptoRow.holds Tryz.pinned (OpenSpec.upto auditNoneSpec)

/-- 'twainlaw31.MirrorNone', WHERE WHAT IT READS IS OF BULK AT MOST 1048576: true; the input reads as it did. -/
def mirrorNoneUptoRow : OpenClaim := { program := "ythdoihdngldlfaagreat", sum := "eca6c667590a545395dfd9c7cdceef8e3a701f4d2ef6782bff18d5a15bddb713", func := "twain/twainlaw31.MirrorNone", spec := "mirrorNone", unfollowed := true, recurses := true, plainKeys := false, apart := false, narrowed := true }
def MirrorNoneUptoSaid : Prop := mirrorNoneUptoRow.holds Tryz.pinned (OpenSpec.upto mirrorNoneSpec)

/-- 'twainlaw32.NodeNone', WHERE WHAT IT READS IS OF BULK AT MOST 1048576: true; the input reads as it did. -/
def nodeNoneUptoRow : OpenClaim := { program := "ythdoihdngldlfaagreat", sum := "eca6c667590a545395dfd9c7cdceef8e3a701f4d2ef6782bff18d5a15bddb713", func := "twain/twainlaw32.NodeNone", spec := "nodeNone", unfollowed := true, recurses := true, plainKeys := false, apart := false, narrowed := true }
def NodeNoneUptoSaid : Prop := nodeNoneUptoRow.holds Tryz.pinned (OpenSpec.upto nodeNoneSpec)

/-- 'twainlaw34.WorldNone', WHERE WHAT IT READS IS OF BULK AT MOST 1048576: true; the input reads as it did. -/
def worldNoneUptoRow : OpenClaim := { program := "ythdoihdngldlfaagreat", sum := "eca6c667590a545395dfd9c7cdceef8e3a701f4d2ef6782bff18d5a15bddb713", func := "twain/twainlaw34.WorldNone", spec := "worldNone", unfollowed := true, recurses := true, plainKeys := false, apart := false, narrowed := true }
def WorldNoneUptoSaid : Prop := worldNoneUptoRow.holds Tryz.pinned (OpenSpec.upto worldNoneSpec)

/-- 'twainlaw35.FairNone', WHERE WHAT IT READS IS OF BULK AT MOST 1048576: true; the input reads as it did. -/
def fairNoneUptoRow : OpenClaim := { program := "ythdoihdngldlfaagreat", sum := "eca6c667590a545395dfd9c7cdceef8e3a701f4d2ef6782bff18d5a15bddb713", func := "twain/twainlaw35.FairNone", spec := "fairNone", unfollowed := true, recurses := true, plainKeys := false, apart := false, narrowed := true }
def FairNoneUptoSaid : Prop := fairNoneUptoRow.holds Tryz.pinned (OpenSpec.upto fairNoneSpec)

end Rows
end Go.Proofs.YthdoihdngldlfaaGreat
