/-
  No cell of these rows narrows 'for every input' (looked for: loops, veiled, ifaces, maps, wideKeys, modest, calm, conditions, laid).
  DERIVED. THE GIVEN ROWS OF THIS SEAT. 5 by the template 'for every input the law returns true; each argument reads behind the call as it read before'; 0 by the template 'total and deterministic' (their statements: YtldhcjfhlfgleaaTotals.lean).
  GIVEN WITH THE SEED: the statements are not yours to turn. If you find one false, say at which input.
  Laid BY PROGRAM, IN A SANDBOX (cutbox-rows.mjs): the forced cells as the released guide's own fill.sh prints them over the translation 19c5810e60d2c062… (all of the seat's roots in one cut). By AI agents, Wed Nov 11 2026. No macro, syntax, notation, axiom, sorry.
-/
import Derived.Test.YtldhcjfhlfgleaaChecked
import GoSem.Claim
import GoSem.ClaimJoined
import GoSem.ClaimMapViews
import Derived.JoinedTies
import Derived.KernelRfl
namespace Go.Proofs.Ytldhcjfhlfgleaa
/- THE CELL 'sum', in the pinned program and in every row, IS THE sha256 OF THE DUMP (.gsa) THAT YtldhcjfhlfgleaaProg.lean LOADS. Nothing in Lean hashes anything: it is a label: what it is worth is what the hold of that sum in a sandbox is worth. -/
noncomputable def Try.pinned : Pinned := { name := "ytldhcjfhlfgleaa", sum := "19c5810e60d2c062b4d0cdc037283ebbc12a1c02ba9d4c2c074c792693d430c4", checked := Try.checked }
namespace Rows
def none {H : Type} : Left H := { results := [], args := [] }

/-- 'coupletlaw18.TablePlays': WHATEVER THE INPUT: true; the input reads as it did. -/
def tablePlaysSpec : ChangeSpec := { name := "tablePlays", fn := fun _ => fun
  | [d1, d2] => { results := [.lit (.bool true)], args := [d1, d2] }
  | _ => none }
def tablePlaysRow : OpenClaim := { program := "ytldhcjfhlfgleaa", sum := "19c5810e60d2c062b4d0cdc037283ebbc12a1c02ba9d4c2c074c792693d430c4", func := "couplet/coupletlaw18.TablePlays", spec := "tablePlays", unfollowed := true, recurses := true, apart := false }
def TablePlaysSaid : Prop := tablePlaysRow.holds Try.pinned (OpenSpec.ofChange tablePlaysSpec)

/-- ITS FALSE NEIGHBOUR: 'it returns false'. Refute it at one input. -/
def tablePlaysWrong : ChangeSpec := { name := "tablePlays", fn := fun _ => fun
  | [d1, d2] => { results := [.lit (.bool false)], args := [d1, d2] }
  | _ => none }
def TablePlaysWrongFalsely : Prop := tablePlaysRow.holds Try.pinned (OpenSpec.ofChange tablePlaysWrong)

/-- 'coupletlaw18.TableNever': WHATEVER THE INPUT: true; the input reads as it did. -/
def tableNeverSpec : ChangeSpec := { name := "tableNever", fn := fun _ => fun
  | [d1, d2] => { results := [.lit (.bool true)], args := [d1, d2] }
  | _ => none }
def tableNeverRow : OpenClaim := { program := "ytldhcjfhlfgleaa", sum := "19c5810e60d2c062b4d0cdc037283ebbc12a1c02ba9d4c2c074c792693d430c4", func := "couplet/coupletlaw18.TableNever", spec := "tableNever", unfollowed := true, recurses := true, apart := false }
def TableNeverSaid : Prop := tableNeverRow.holds Try.pinned (OpenSpec.ofChange tableNeverSpec)

/-- ITS FALSE NEIGHBOUR: 'it returns false'. Refute it at one input. -/
def tableNeverWrong : ChangeSpec := { name := "tableNever", fn := fun _ => fun
  | [d1, d2] => { results := [.lit (.bool false)], args := [d1, d2] }
  | _ => none }
def TableNeverWrongFalsely : Prop := tableNeverRow.holds Try.pinned (OpenSpec.ofChange tableNeverWrong)

/-- 'coupletlaw18.TableSlices': WHATEVER THE INPUT: true; the input reads as it did. -/
def tableSlicesSpec : ChangeSpec := { name := "tableSlices", fn := fun _ => fun
  | [d1, d2, d3] => { results := [.lit (.bool true)], args := [d1, d2, d3] }
  | _ => none }
def tableSlicesRow : OpenClaim := { program := "ytldhcjfhlfgleaa", sum := "19c5810e60d2c062b4d0cdc037283ebbc12a1c02ba9d4c2c074c792693d430c4", func := "couplet/coupletlaw18.TableSlices", spec := "tableSlices", unfollowed := true, recurses := true, apart := false }
def TableSlicesSaid : Prop := tableSlicesRow.holds Try.pinned (OpenSpec.ofChange tableSlicesSpec)

/-- ITS FALSE NEIGHBOUR: 'it returns false'. Refute it at one input. -/
def tableSlicesWrong : ChangeSpec := { name := "tableSlices", fn := fun _ => fun
  | [d1, d2, d3] => { results := [.lit (.bool false)], args := [d1, d2, d3] }
  | _ => none }
def TableSlicesWrongFalsely : Prop := tableSlicesRow.holds Try.pinned (OpenSpec.ofChange tableSlicesWrong)

/-- 'coupletlaw18.TableRanges': WHATEVER THE INPUT: true; the input reads as it did. -/
def tableRangesSpec : ChangeSpec := { name := "tableRanges", fn := fun _ => fun
  | [d1, d2, d3] => { results := [.lit (.bool true)], args := [d1, d2, d3] }
  | _ => none }
def tableRangesRow : OpenClaim := { program := "ytldhcjfhlfgleaa", sum := "19c5810e60d2c062b4d0cdc037283ebbc12a1c02ba9d4c2c074c792693d430c4", func := "couplet/coupletlaw18.TableRanges", spec := "tableRanges", unfollowed := true, recurses := true, apart := false }
def TableRangesSaid : Prop := tableRangesRow.holds Try.pinned (OpenSpec.ofChange tableRangesSpec)

/-- ITS FALSE NEIGHBOUR: 'it returns false'. Refute it at one input. -/
def tableRangesWrong : ChangeSpec := { name := "tableRanges", fn := fun _ => fun
  | [d1, d2, d3] => { results := [.lit (.bool false)], args := [d1, d2, d3] }
  | _ => none }
def TableRangesWrongFalsely : Prop := tableRangesRow.holds Try.pinned (OpenSpec.ofChange tableRangesWrong)

/-- 'coupletlaw18.TableKnown': WHATEVER THE INPUT: true; the input reads as it did. -/
def tableKnownSpec : ChangeSpec := { name := "tableKnown", fn := fun _ => fun
  | [] => { results := [.lit (.bool true)], args := [] }
  | _ => none }
def tableKnownRow : OpenClaim := { program := "ytldhcjfhlfgleaa", sum := "19c5810e60d2c062b4d0cdc037283ebbc12a1c02ba9d4c2c074c792693d430c4", func := "couplet/coupletlaw18.TableKnown", spec := "tableKnown", unfollowed := true, recurses := true, apart := false }
def TableKnownSaid : Prop := tableKnownRow.holds Try.pinned (OpenSpec.ofChange tableKnownSpec)

/-- ITS FALSE NEIGHBOUR: 'it returns false'. Refute it at one input. -/
def tableKnownWrong : ChangeSpec := { name := "tableKnown", fn := fun _ => fun
  | [] => { results := [.lit (.bool false)], args := [] }
  | _ => none }
def TableKnownWrongFalsely : Prop := tableKnownRow.holds Try.pinned (OpenSpec.ofChange tableKnownWrong)

/- THE SECOND FORM. 'bulk': how many values and letters a reading holds, each counted each time it is reached (what is shared counts as often as it is met; a slice's spare places count too). A statement '..UptoSaid' is the law's where the arguments, and the package variables that the reading takes, are together of bulk at most 1048576: NARROWER than '..Said'. Prove '..Said' where nothing that the law and all that it calls make is longer than what came in: it says more and counts as full. Else prove '..UptoSaid'. A law counts once. -/
mutual
def uptoBulk {H : Type} : DataW H → Nat
  | .lit (.string bytes) => bytes.length + 1
  | .lit _ => 1
  | .nil => 1
  | .ptr d => uptoBulk d + 1
  | .slice elems spare => uptoBulkAll elems + uptoBulkAll spare + 1
  | .agg parts => uptoBulkAll parts + 1
  | .iface _ d => uptoBulk d + 1
  | .map entries => uptoBulkEntries entries + 1
  | .held _ => 1
def uptoBulkAll {H : Type} : List (DataW H) → Nat
  | [] => 0
  | d :: r => uptoBulk d + uptoBulkAll r
def uptoBulkEntries {H : Type} : List (Lit × DataW H) → Nat
  | [] => 0
  | x :: r => uptoBulkEntry x + uptoBulkEntries r
def uptoBulkEntry {H : Type} : Lit × DataW H → Nat
  | (.string bytes, d) => bytes.length + uptoBulk d + 1
  | (_, d) => uptoBulk d + 1
 end
def uptoSmall : (H : Type) → List (DataW H) → Bool := fun _ ds => decide (uptoBulkAll ds ≤ 1048576)
def OpenSpec.upto (s : _root_.Go.ChangeSpec) : _root_.Go.OpenSpec := { _root_.Go.OpenSpec.ofChange s with cond := some uptoSmall }

/-- 'coupletlaw18.TablePlays', WHERE WHAT IT READS IS OF BULK AT MOST 1048576: true; the input reads as it did. -/
def tablePlaysUptoRow : OpenClaim := { program := "ytldhcjfhlfgleaa", sum := "19c5810e60d2c062b4d0cdc037283ebbc12a1c02ba9d4c2c074c792693d430c4", func := "couplet/coupletlaw18.TablePlays", spec := "tablePlays", unfollowed := true, recurses := true, apart := false, narrowed := true }
def TablePlaysUptoSaid : Prop := tablePlaysUptoRow.holds Try.pinned (OpenSpec.upto tablePlaysSpec)

/-- 'coupletlaw18.TableNever', WHERE WHAT IT READS IS OF BULK AT MOST 1048576: true; the input reads as it did. -/
def tableNeverUptoRow : OpenClaim := { program := "ytldhcjfhlfgleaa", sum := "19c5810e60d2c062b4d0cdc037283ebbc12a1c02ba9d4c2c074c792693d430c4", func := "couplet/coupletlaw18.TableNever", spec := "tableNever", unfollowed := true, recurses := true, apart := false, narrowed := true }
def TableNeverUptoSaid : Prop := tableNeverUptoRow.holds Try.pinned (OpenSpec.upto tableNeverSpec)

/-- 'coupletlaw18.TableSlices', WHERE WHAT IT READS IS OF BULK AT MOST 1048576: true; the input reads as it did. -/
def tableSlicesUptoRow : OpenClaim := { program := "ytldhcjfhlfgleaa", sum := "19c5810e60d2c062b4d0cdc037283ebbc12a1c02ba9d4c2c074c792693d430c4", func := "couplet/coupletlaw18.TableSlices", spec := "tableSlices", unfollowed := true, recurses := true, apart := false, narrowed := true }
def TableSlicesUptoSaid : Prop := tableSlicesUptoRow.holds Try.pinned (OpenSpec.upto tableSlicesSpec)

/-- 'coupletlaw18.TableRanges', WHERE WHAT IT READS IS OF BULK AT MOST 1048576: true; the input reads as it did. -/
def tableRangesUptoRow : OpenClaim := { program := "ytldhcjfhlfgleaa", sum := "19c5810e60d2c062b4d0cdc037283ebbc12a1c02ba9d4c2c074c792693d430c4", func := "couplet/coupletlaw18.TableRanges", spec := "tableRanges", unfollowed := true, recurses := true, apart := false, narrowed := true }
def TableRangesUptoSaid : Prop := tableRangesUptoRow.holds Try.pinned (OpenSpec.upto tableRangesSpec)

/-- 'coupletlaw18.TableKnown', WHERE WHAT IT READS IS OF BULK AT MOST 1048576: true; the input reads as it did. -/
def tableKnownUptoRow : OpenClaim := { program := "ytldhcjfhlfgleaa", sum := "19c5810e60d2c062b4d0cdc037283ebbc12a1c02ba9d4c2c074c792693d430c4", func := "couplet/coupletlaw18.TableKnown", spec := "tableKnown", unfollowed := true, recurses := true, apart := false, narrowed := true }
def TableKnownUptoSaid : Prop := tableKnownUptoRow.holds Try.pinned (OpenSpec.upto tableKnownSpec)

end Rows
end Go.Proofs.Ytldhcjfhlfgleaa
