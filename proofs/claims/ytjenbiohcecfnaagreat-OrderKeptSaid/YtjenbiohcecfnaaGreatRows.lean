/-
  No cell of these rows narrows 'for every input' (looked for: loops, veiled, ifaces, maps, wideKeys, modest, calm, conditions, laid).
  DERIVED. THE GIVEN ROWS OF THIS SEAT. 2 by the template 'for every input the law returns true; each argument reads behind the call as it read before'; 0 by the template 'total and deterministic' (their statements: YtjenbiohcecfnaaGreatTotals.lean).
  GIVEN WITH THE SEED: the statements are not yours to turn. If you find one false, say at which input.
  Laid BY PROGRAM, IN A SANDBOX (cutbox-rows.mjs): the forced cells as the released guide's own fill.sh prints them over the translation 26cb0d5db9c3fc6e… (all of the seat's roots in one cut). By AI agents, Wed Nov 11 2026. No macro, syntax, notation, axiom, sorry.
-/
import Derived.Test.YtjenbiohcecfnaaGreatChecked
import GoSem.Claim
import GoSem.ClaimJoined
import GoSem.ClaimMapViews
import Derived.JoinedTies
import Derived.KernelRfl
namespace Go.Proofs.YtjenbiohcecfnaaGreat
/- THE CELL 'sum', in the pinned program and in every row, IS THE sha256 OF THE DUMP (.gsa) THAT YtjenbiohcecfnaaGreatProg.lean LOADS. Nothing in Lean hashes anything: it is a label: what it is worth is what the hold of that sum in a sandbox is worth. -/
noncomputable def Tryz.pinned : Pinned := { name := "ytjenbiohcecfnaagreat", sum := "26cb0d5db9c3fc6e7d6690b31b844415922c80379c4fe3749f821e6f42fe06f1", checked := Tryz.checked }
namespace Rows
def none {H : Type} : Left H := { results := [], args := [] }

/-- 'coupletlaw19.OrderKnown': WHATEVER THE INPUT: true; the input reads as it did. -/
def orderKnownSpec : ChangeSpec := { name := "orderKnown", fn := fun _ => fun
  | [] => { results := [.lit (.bool true)], args := [] }
  | _ => none }
def orderKnownRow : OpenClaim := { program := "ytjenbiohcecfnaagreat", sum := "26cb0d5db9c3fc6e7d6690b31b844415922c80379c4fe3749f821e6f42fe06f1", func := "couplet/coupletlaw19.OrderKnown", spec := "orderKnown", inPlace := ["slices.overlaps[couplet/span.read]"], unfollowed := true, recurses := true, apart := false }
def OrderKnownSaid : Prop := orderKnownRow.holds Tryz.pinned (OpenSpec.ofChange orderKnownSpec)

/-- ITS FALSE NEIGHBOUR: 'it returns false'. Refute it at one input. -/
def orderKnownWrong : ChangeSpec := { name := "orderKnown", fn := fun _ => fun
  | [] => { results := [.lit (.bool false)], args := [] }
  | _ => none }
def OrderKnownWrongFalsely : Prop := orderKnownRow.holds Tryz.pinned (OpenSpec.ofChange orderKnownWrong)

/-- 'coupletlaw19.OrderKept': WHATEVER THE INPUT: true; the input reads as it did. -/
def orderKeptSpec : ChangeSpec := { name := "orderKept", fn := fun _ => fun
  | [d1, d2, d3] => { results := [.lit (.bool true)], args := [d1, d2, d3] }
  | _ => none }
def orderKeptRow : OpenClaim := { program := "ytjenbiohcecfnaagreat", sum := "26cb0d5db9c3fc6e7d6690b31b844415922c80379c4fe3749f821e6f42fe06f1", func := "couplet/coupletlaw19.OrderKept", spec := "orderKept", inPlace := ["slices.overlaps[couplet/span.read]"], unfollowed := true, recurses := true, apart := false }
def OrderKeptSaid : Prop := orderKeptRow.holds Tryz.pinned (OpenSpec.ofChange orderKeptSpec)

/-- ITS FALSE NEIGHBOUR: 'it returns false'. Refute it at one input. -/
def orderKeptWrong : ChangeSpec := { name := "orderKept", fn := fun _ => fun
  | [d1, d2, d3] => { results := [.lit (.bool false)], args := [d1, d2, d3] }
  | _ => none }
def OrderKeptWrongFalsely : Prop := orderKeptRow.holds Tryz.pinned (OpenSpec.ofChange orderKeptWrong)

/- THE SECOND FORM. 'bulk': how many values and letters a reading holds, each counted each time it is reached (what is shared counts as often as it is met; a slice's spare places count too). A statement '..UptoSaid' is the law's where the arguments, and the package variables that the reading takes, are together of bulk at most 1048576: NARROWER than '..Said'. Prove '..Said' where nothing that the law and all that it calls make is longer than what came in: it says more and counts as full. Else prove '..UptoSaid'. A law counts once. -/
mutual
def uptoBulk {H : Type} : DataW H → Nat
  | .lit (.string bytes) => bytes.length + 1
  | .lit _ => 1
  | .nil => 1
  | .ptr d => uptoBulk d + 1
  | .slice elems spare => uptoBulkAll elems + uptoBulkAll spare + 1
  | .agg parts => uptoBulkAll parts + 1
  | .iface _ d => uptoBulk d + 1
  | .map entries => uptoBulkEntries entries + 1
  | .held _ => 1
def uptoBulkAll {H : Type} : List (DataW H) → Nat
  | [] => 0
  | d :: r => uptoBulk d + uptoBulkAll r
def uptoBulkEntries {H : Type} : List (Lit × DataW H) → Nat
  | [] => 0
  | x :: r => uptoBulkEntry x + uptoBulkEntries r
def uptoBulkEntry {H : Type} : Lit × DataW H → Nat
  | (.string bytes, d) => bytes.length + uptoBulk d + 1
  | (_, d) => uptoBulk d + 1
 end
def uptoSmall : (H : Type) → List (DataW H) → Bool := fun _ ds => decide (uptoBulkAll ds ≤ 1048576)
def OpenSpec.upto (s : _root_.Go.ChangeSpec) : _root_.Go.OpenSpec := { _root_.Go.OpenSpec.ofChange s with cond := some uptoSmall }

/-- 'coupletlaw19.OrderKnown', WHERE WHAT IT READS IS OF BULK AT MOST 1048576: true; the input reads as it did. -/
def orderKnownUptoRow : OpenClaim := { program := "ytjenbiohcecfnaagreat", sum := "26cb0d5db9c3fc6e7d6690b31b844415922c80379c4fe3749f821e6f42fe06f1", func := "couplet/coupletlaw19.OrderKnown", spec := "orderKnown", inPlace := ["slices.overlaps[couplet/span.read]"], unfollowed := true, recurses := true, apart := false, narrowed := true }
def OrderKnownUptoSaid : Prop := orderKnownUptoRow.holds Tryz.pinned (OpenSpec.upto orderKnownSpec)

/-- 'coupletlaw19.OrderKept', WHERE WHAT IT READS IS OF BULK AT MOST 1048576: true; the input reads as it did. -/
def orderKeptUptoRow : OpenClaim := { program := "ytjenbiohcecfnaagreat", sum := "26cb0d5db9c3fc6e7d6690b31b844415922c80379c4fe3749f821e6f42fe06f1", func := "couplet/coupletlaw19.OrderKept", spec := "orderKept", inPlace := ["slices.overlaps[couplet/span.read]"], unfollowed := true, recurses := true, apart := false, narrowed := true }
def OrderKeptUptoSaid : Prop := orderKeptUptoRow.holds Tryz.pinned (OpenSpec.upto orderKeptSpec)

end Rows
end Go.Proofs.YtjenbiohcecfnaaGreat
