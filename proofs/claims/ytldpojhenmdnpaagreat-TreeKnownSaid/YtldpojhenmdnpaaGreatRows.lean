/-
  No cell of these rows narrows 'for every input' (looked for: loops, veiled, ifaces, maps, wideKeys, modest, calm, conditions, laid).
  DERIVED. THE GIVEN ROWS OF THIS SEAT. 5 by the template 'for every input the law returns true; each argument reads behind the call as it read before'; 0 by the template 'total and deterministic' (their statements: YtldpojhenmdnpaaGreatTotals.lean).
  GIVEN WITH THE SEED: the statements are not yours to turn. If you find one false, say at which input.
  Laid BY PROGRAM, IN A SANDBOX (cutbox-rows.mjs): the forced cells as the released guide's own fill.sh prints them over the translation 3a5cdc1cbd4caa64… (all of the seat's roots in one cut). By AI agents, Wed Nov 11 2026. No macro, syntax, notation, axiom, sorry.
-/
import Derived.Test.YtldpojhenmdnpaaGreatChecked
import GoSem.Claim
import GoSem.ClaimJoined
import GoSem.ClaimMapViews
import Derived.JoinedTies
import Derived.KernelRfl
namespace Go.Proofs.YtldpojhenmdnpaaGreat
/- THE CELL 'sum', in the pinned program and in every row, IS THE sha256 OF THE DUMP (.gsa) THAT YtldpojhenmdnpaaGreatProg.lean LOADS. Nothing in Lean hashes anything: it is a label: what it is worth is what the hold of that sum in a sandbox is worth. -/
noncomputable def Tryz.pinned : Pinned := { name := "ytldpojhenmdnpaagreat", sum := "3a5cdc1cbd4caa64c5f1a53d363b52fc973b57083fbca9bd988226c909a7f12f", checked := Tryz.checked }
namespace Rows
def none {H : Type} : Left H := { results := [], args := [] }

/-- 'coupletlaw12.TreeHighest': WHATEVER THE INPUT: true; the input reads as it did. -/
def treeHighestSpec : ChangeSpec := { name := "treeHighest", fn := fun _ => fun
  | [d] => { results := [.lit (.bool true)], args := [d] }
  | _ => none }
def treeHighestRow : OpenClaim := { program := "ytldpojhenmdnpaagreat", sum := "3a5cdc1cbd4caa64c5f1a53d363b52fc973b57083fbca9bd988226c909a7f12f", func := "couplet/coupletlaw12.TreeHighest", spec := "treeHighest", inPlace := ["slices.overlaps[couplet/fence.child]", "slices.overlaps[string]"], unfollowed := true, recurses := true, apart := false }
def TreeHighestSaid : Prop := treeHighestRow.holds Tryz.pinned (OpenSpec.ofChange treeHighestSpec)

/-- ITS FALSE NEIGHBOUR: 'it returns false'. Refute it at one input. -/
def treeHighestWrong : ChangeSpec := { name := "treeHighest", fn := fun _ => fun
  | [d] => { results := [.lit (.bool false)], args := [d] }
  | _ => none }
def TreeHighestWrongFalsely : Prop := treeHighestRow.holds Tryz.pinned (OpenSpec.ofChange treeHighestWrong)

/-- 'coupletlaw12.TreeAway': WHATEVER THE INPUT: true; the input reads as it did. -/
def treeAwaySpec : ChangeSpec := { name := "treeAway", fn := fun _ => fun
  | [d1, d2] => { results := [.lit (.bool true)], args := [d1, d2] }
  | _ => none }
def treeAwayRow : OpenClaim := { program := "ytldpojhenmdnpaagreat", sum := "3a5cdc1cbd4caa64c5f1a53d363b52fc973b57083fbca9bd988226c909a7f12f", func := "couplet/coupletlaw12.TreeAway", spec := "treeAway", inPlace := ["slices.overlaps[couplet/fence.child]", "slices.overlaps[string]"], unfollowed := true, recurses := true, apart := false }
def TreeAwaySaid : Prop := treeAwayRow.holds Tryz.pinned (OpenSpec.ofChange treeAwaySpec)

/-- ITS FALSE NEIGHBOUR: 'it returns false'. Refute it at one input. -/
def treeAwayWrong : ChangeSpec := { name := "treeAway", fn := fun _ => fun
  | [d1, d2] => { results := [.lit (.bool false)], args := [d1, d2] }
  | _ => none }
def TreeAwayWrongFalsely : Prop := treeAwayRow.holds Tryz.pinned (OpenSpec.ofChange treeAwayWrong)

/-- 'coupletlaw12.TreeReload': WHATEVER THE INPUT: true; the input reads as it did. -/
def treeReloadSpec : ChangeSpec := { name := "treeReload", fn := fun _ => fun
  | [d] => { results := [.lit (.bool true)], args := [d] }
  | _ => none }
def treeReloadRow : OpenClaim := { program := "ytldpojhenmdnpaagreat", sum := "3a5cdc1cbd4caa64c5f1a53d363b52fc973b57083fbca9bd988226c909a7f12f", func := "couplet/coupletlaw12.TreeReload", spec := "treeReload", inPlace := ["slices.overlaps[couplet/fence.child]", "slices.overlaps[string]"], unfollowed := true, recurses := true, apart := false }
def TreeReloadSaid : Prop := treeReloadRow.holds Tryz.pinned (OpenSpec.ofChange treeReloadSpec)

/-- ITS FALSE NEIGHBOUR: 'it returns false'. Refute it at one input. -/
def treeReloadWrong : ChangeSpec := { name := "treeReload", fn := fun _ => fun
  | [d] => { results := [.lit (.bool false)], args := [d] }
  | _ => none }
def TreeReloadWrongFalsely : Prop := treeReloadRow.holds Tryz.pinned (OpenSpec.ofChange treeReloadWrong)

/-- 'coupletlaw12.TreeLoads': WHATEVER THE INPUT: true; the input reads as it did. -/
def treeLoadsSpec : ChangeSpec := { name := "treeLoads", fn := fun _ => fun
  | [d1, d2, d3] => { results := [.lit (.bool true)], args := [d1, d2, d3] }
  | _ => none }
def treeLoadsRow : OpenClaim := { program := "ytldpojhenmdnpaagreat", sum := "3a5cdc1cbd4caa64c5f1a53d363b52fc973b57083fbca9bd988226c909a7f12f", func := "couplet/coupletlaw12.TreeLoads", spec := "treeLoads", inPlace := ["slices.overlaps[couplet/fence.child]", "slices.overlaps[string]"], unfollowed := true, recurses := true, apart := false }
def TreeLoadsSaid : Prop := treeLoadsRow.holds Tryz.pinned (OpenSpec.ofChange treeLoadsSpec)

/-- ITS FALSE NEIGHBOUR: 'it returns false'. Refute it at one input. -/
def treeLoadsWrong : ChangeSpec := { name := "treeLoads", fn := fun _ => fun
  | [d1, d2, d3] => { results := [.lit (.bool false)], args := [d1, d2, d3] }
  | _ => none }
def TreeLoadsWrongFalsely : Prop := treeLoadsRow.holds Tryz.pinned (OpenSpec.ofChange treeLoadsWrong)

/-- 'coupletlaw12.TreeKnown': WHATEVER THE INPUT: true; the input reads as it did. -/
def treeKnownSpec : ChangeSpec := { name := "treeKnown", fn := fun _ => fun
  | [] => { results := [.lit (.bool true)], args := [] }
  | _ => none }
def treeKnownRow : OpenClaim := { program := "ytldpojhenmdnpaagreat", sum := "3a5cdc1cbd4caa64c5f1a53d363b52fc973b57083fbca9bd988226c909a7f12f", func := "couplet/coupletlaw12.TreeKnown", spec := "treeKnown", inPlace := ["slices.overlaps[couplet/fence.child]", "slices.overlaps[string]"], unfollowed := true, recurses := true, apart := false }
def TreeKnownSaid : Prop := treeKnownRow.holds Tryz.pinned (OpenSpec.ofChange treeKnownSpec)

/-- ITS FALSE NEIGHBOUR: 'it returns false'. Refute it at one input. -/
def treeKnownWrong : ChangeSpec := { name := "treeKnown", fn := fun _ => fun
  | [] => { results := [.lit (.bool false)], args := [] }
  | _ => none }
def TreeKnownWrongFalsely : Prop := treeKnownRow.holds Tryz.pinned (OpenSpec.ofChange treeKnownWrong)

/- THE SECOND FORM. 'bulk': how many values and letters a reading holds, each counted each time it is reached (what is shared counts as often as it is met; a slice's spare places count too). A statement '..UptoSaid' is the law's where the arguments, and the package variables that the reading takes, are together of bulk at most 1048576: NARROWER than '..Said'. Prove '..Said' where nothing that the law and all that it calls make is longer than what came in: it says more and counts as full. Else prove '..UptoSaid'. A law counts once. -/
mutual
def uptoBulk {H : Type} : DataW H → Nat
  | .lit (.string bytes) => bytes.length + 1
  | .lit _ => 1
  | .nil => 1
  | .ptr d => uptoBulk d + 1
  | .slice elems spare => uptoBulkAll elems + uptoBulkAll spare + 1
  | .agg parts => uptoBulkAll parts + 1
  | .iface _ d => uptoBulk d + 1
  | .map entries => uptoBulkEntries entries + 1
  | .held _ => 1
def uptoBulkAll {H : Type} : List (DataW H) → Nat
  | [] => 0
  | d :: r => uptoBulk d + uptoBulkAll r
def uptoBulkEntries {H : Type} : List (Lit × DataW H) → Nat
  | [] => 0
  | x :: r => uptoBulkEntry x + uptoBulkEntries r
def uptoBulkEntry {H : Type} : Lit × DataW H → Nat
  | (.string bytes, d) => bytes.length + uptoBulk d + 1
  | (_, d) => uptoBulk d + 1
 end
def uptoSmall : (H : Type) → List (DataW H) → Bool := fun _ ds => decide (uptoBulkAll ds ≤ 1048576)
def OpenSpec.upto (s : _root_.Go.ChangeSpec) : _root_.Go.OpenSpec := { _root_.Go.OpenSpec.ofChange s with cond := some uptoSmall }

/-- 'coupletlaw12.TreeHighest', WHERE WHAT IT READS IS OF BULK AT MOST 1048576: true; the input reads as it did. -/
def treeHighestUptoRow : OpenClaim := { program := "ytldpojhenmdnpaagreat", sum := "3a5cdc1cbd4caa64c5f1a53d363b52fc973b57083fbca9bd988226c909a7f12f", func := "couplet/coupletlaw12.TreeHighest", spec := "treeHighest", inPlace := ["slices.overlaps[couplet/fence.child]", "slices.overlaps[string]"], unfollowed := true, recurses := true, apart := false, narrowed := true }
def TreeHighestUptoSaid : Prop := treeHighestUptoRow.holds Tryz.pinned (OpenSpec.upto treeHighestSpec)

/-- 'coupletlaw12.TreeAway', WHERE WHAT IT READS IS OF BULK AT MOST 1048576: true; the input reads as it did. -/
def treeAwayUptoRow : OpenClaim := { program := "ytldpojhenmdnpaagreat", sum := "3a5cdc1cbd4caa64c5f1a53d363b52fc973b57083fbca9bd988226c909a7f12f", func := "couplet/coupletlaw12.TreeAway", spec := "treeAway", inPlace := ["slices.overlaps[couplet/fence.child]", "slices.overlaps[string]"], unfollowed := true, recurses := true, apart := false, narrowed := true }
def TreeAwayUptoSaid : Prop := treeAwayUptoRow.holds Tryz.pinned (OpenSpec.upto treeAwaySpec)

/-- 'coupletlaw12.TreeReload', WHERE WHAT IT READS IS OF BULK AT MOST 1048576: true; the input reads as it did. -/
def treeReloadUptoRow : OpenClaim := { program := "ytldpojhenmdnpaagreat", sum := "3a5cdc1cbd4caa64c5f1a53d363b52fc973b57083fbca9bd988226c909a7f12f", func := "couplet/coupletlaw12.TreeReload", spec := "treeReload", inPlace := ["slices.overlaps[couplet/fence.child]", "slices.overlaps[string]"], unfollowed := true, recurses := true, apart := false, narrowed := true }
def TreeReloadUptoSaid : Prop := treeReloadUptoRow.holds Tryz.pinned (OpenSpec.upto treeReloadSpec)

/-- 'coupletlaw12.TreeLoads', WHERE WHAT IT READS IS OF BULK AT MOST 1048576: true; the input reads as it did. -/
def treeLoadsUptoRow : OpenClaim := { program := "ytldpojhenmdnpaagreat", sum := "3a5cdc1cbd4caa64c5f1a53d363b52fc973b57083fbca9bd988226c909a7f12f", func := "couplet/coupletlaw12.TreeLoads", spec := "treeLoads", inPlace := ["slices.overlaps[couplet/fence.child]", "slices.overlaps[string]"], unfollowed := true, recurses := true, apart := false, narrowed := true }
def TreeLoadsUptoSaid : Prop := treeLoadsUptoRow.holds Tryz.pinned (OpenSpec.upto treeLoadsSpec)

/-- 'coupletlaw12.TreeKnown', WHERE WHAT IT READS IS OF BULK AT MOST 1048576: true; the input reads as it did. -/
def treeKnownUptoRow : OpenClaim := { program := "ytldpojhenmdnpaagreat", sum := "3a5cdc1cbd4caa64c5f1a53d363b52fc973b57083fbca9bd988226c909a7f12f", func := "couplet/coupletlaw12.TreeKnown", spec := "treeKnown", inPlace := ["slices.overlaps[couplet/fence.child]", "slices.overlaps[string]"], unfollowed := true, recurses := true, apart := false, narrowed := true }
def TreeKnownUptoSaid : Prop := treeKnownUptoRow.holds Tryz.pinned (OpenSpec.upto treeKnownSpec)

end Rows
end Go.Proofs.YtldpojhenmdnpaaGreat
