/-
  No cell of these rows narrows 'for every input' (looked for: loops, veiled, ifaces, maps, wideKeys, modest, calm, conditions, laid).
  DERIVED. THE GIVEN ROWS OF THIS SEAT. 5 by the template 'for every input the law returns true; each argument reads behind the call as it read before'; 0 by the template 'total and deterministic' (their statements: YtfbfihfmlenklaaTotals.lean).
  GIVEN WITH THE SEED: the statements are not yours to turn. If you find one false, say at which input.
  Laid BY PROGRAM, IN A SANDBOX (cutbox-rows.mjs): the forced cells as the released guide's own fill.sh prints them over the translation cc03c1cd31de03e6… (all of the seat's roots in one cut). By AI agents, Wed Nov 11 2026. No macro, syntax, notation, axiom, sorry.
-/
import Derived.Test.YtfbfihfmlenklaaChecked
import GoSem.Claim
import GoSem.ClaimJoined
import GoSem.ClaimMapViews
import Derived.JoinedTies
import Derived.KernelRfl
namespace Go.Proofs.Ytfbfihfmlenklaa
/- THE CELL 'sum', in the pinned program and in every row, IS THE sha256 OF THE DUMP (.gsa) THAT YtfbfihfmlenklaaProg.lean LOADS. Nothing in Lean hashes anything: it is a label: what it is worth is what the hold of that sum in a sandbox is worth. -/
noncomputable def Try.pinned : Pinned := { name := "ytfbfihfmlenklaa", sum := "cc03c1cd31de03e69b99e84a95f01cccf46ba981883ca1d12be68a6e81b5fb63", checked := Try.checked }
namespace Rows
def none {H : Type} : Left H := { results := [], args := [] }

/-- 'coupletlaw20.DepsPlays': WHATEVER THE INPUT: true; the input reads as it did. -/
def depsPlaysSpec : ChangeSpec := { name := "depsPlays", fn := fun _ => fun
  | [d] => { results := [.lit (.bool true)], args := [d] }
  | _ => none }
def depsPlaysRow : OpenClaim := { program := "ytfbfihfmlenklaa", sum := "cc03c1cd31de03e69b99e84a95f01cccf46ba981883ca1d12be68a6e81b5fb63", func := "couplet/coupletlaw20.DepsPlays", spec := "depsPlays", unfollowed := true, recurses := true, plainKeys := false, apart := false }
def DepsPlaysSaid : Prop := depsPlaysRow.holds Try.pinned (OpenSpec.ofChange depsPlaysSpec)

/-- ITS FALSE NEIGHBOUR: 'it returns false'. Refute it at one input. -/
def depsPlaysWrong : ChangeSpec := { name := "depsPlays", fn := fun _ => fun
  | [d] => { results := [.lit (.bool false)], args := [d] }
  | _ => none }
def DepsPlaysWrongFalsely : Prop := depsPlaysRow.holds Try.pinned (OpenSpec.ofChange depsPlaysWrong)

/-- 'coupletlaw20.DepsEnds': WHATEVER THE INPUT: true; the input reads as it did. -/
def depsEndsSpec : ChangeSpec := { name := "depsEnds", fn := fun _ => fun
  | [d1, d2] => { results := [.lit (.bool true)], args := [d1, d2] }
  | _ => none }
def depsEndsRow : OpenClaim := { program := "ytfbfihfmlenklaa", sum := "cc03c1cd31de03e69b99e84a95f01cccf46ba981883ca1d12be68a6e81b5fb63", func := "couplet/coupletlaw20.DepsEnds", spec := "depsEnds", unfollowed := true, recurses := true, plainKeys := false, apart := false }
def DepsEndsSaid : Prop := depsEndsRow.holds Try.pinned (OpenSpec.ofChange depsEndsSpec)

/-- ITS FALSE NEIGHBOUR: 'it returns false'. Refute it at one input. -/
def depsEndsWrong : ChangeSpec := { name := "depsEnds", fn := fun _ => fun
  | [d1, d2] => { results := [.lit (.bool false)], args := [d1, d2] }
  | _ => none }
def DepsEndsWrongFalsely : Prop := depsEndsRow.holds Try.pinned (OpenSpec.ofChange depsEndsWrong)

/-- 'coupletlaw20.DepsTake': WHATEVER THE INPUT: true; the input reads as it did. -/
def depsTakeSpec : ChangeSpec := { name := "depsTake", fn := fun _ => fun
  | [d1, d2] => { results := [.lit (.bool true)], args := [d1, d2] }
  | _ => none }
def depsTakeRow : OpenClaim := { program := "ytfbfihfmlenklaa", sum := "cc03c1cd31de03e69b99e84a95f01cccf46ba981883ca1d12be68a6e81b5fb63", func := "couplet/coupletlaw20.DepsTake", spec := "depsTake", unfollowed := true, recurses := true, plainKeys := false, apart := false }
def DepsTakeSaid : Prop := depsTakeRow.holds Try.pinned (OpenSpec.ofChange depsTakeSpec)

/-- ITS FALSE NEIGHBOUR: 'it returns false'. Refute it at one input. -/
def depsTakeWrong : ChangeSpec := { name := "depsTake", fn := fun _ => fun
  | [d1, d2] => { results := [.lit (.bool false)], args := [d1, d2] }
  | _ => none }
def DepsTakeWrongFalsely : Prop := depsTakeRow.holds Try.pinned (OpenSpec.ofChange depsTakeWrong)

/-- 'coupletlaw20.DepsReady': WHATEVER THE INPUT: true; the input reads as it did. -/
def depsReadySpec : ChangeSpec := { name := "depsReady", fn := fun _ => fun
  | [d1, d2] => { results := [.lit (.bool true)], args := [d1, d2] }
  | _ => none }
def depsReadyRow : OpenClaim := { program := "ytfbfihfmlenklaa", sum := "cc03c1cd31de03e69b99e84a95f01cccf46ba981883ca1d12be68a6e81b5fb63", func := "couplet/coupletlaw20.DepsReady", spec := "depsReady", unfollowed := true, recurses := true, plainKeys := false, apart := false }
def DepsReadySaid : Prop := depsReadyRow.holds Try.pinned (OpenSpec.ofChange depsReadySpec)

/-- ITS FALSE NEIGHBOUR: 'it returns false'. Refute it at one input. -/
def depsReadyWrong : ChangeSpec := { name := "depsReady", fn := fun _ => fun
  | [d1, d2] => { results := [.lit (.bool false)], args := [d1, d2] }
  | _ => none }
def DepsReadyWrongFalsely : Prop := depsReadyRow.holds Try.pinned (OpenSpec.ofChange depsReadyWrong)

/-- 'coupletlaw20.DepsKnown': WHATEVER THE INPUT: true; the input reads as it did. -/
def depsKnownSpec : ChangeSpec := { name := "depsKnown", fn := fun _ => fun
  | [] => { results := [.lit (.bool true)], args := [] }
  | _ => none }
def depsKnownRow : OpenClaim := { program := "ytfbfihfmlenklaa", sum := "cc03c1cd31de03e69b99e84a95f01cccf46ba981883ca1d12be68a6e81b5fb63", func := "couplet/coupletlaw20.DepsKnown", spec := "depsKnown", unfollowed := true, recurses := true, plainKeys := false, apart := false }
def DepsKnownSaid : Prop := depsKnownRow.holds Try.pinned (OpenSpec.ofChange depsKnownSpec)

/-- ITS FALSE NEIGHBOUR: 'it returns false'. Refute it at one input. -/
def depsKnownWrong : ChangeSpec := { name := "depsKnown", fn := fun _ => fun
  | [] => { results := [.lit (.bool false)], args := [] }
  | _ => none }
def DepsKnownWrongFalsely : Prop := depsKnownRow.holds Try.pinned (OpenSpec.ofChange depsKnownWrong)

/- THE SECOND FORM. 'bulk': how many values and letters a reading holds, each counted each time it is reached (what is shared counts as often as it is met; a slice's spare places count too). A statement '..UptoSaid' is the law's where the arguments, and the package variables that the reading takes, are together of bulk at most 1048576: NARROWER than '..Said'. Prove '..Said' where nothing that the law and all that it calls make is longer than what came in: it says more and counts as full. Else prove '..UptoSaid'. A law counts once. -/
mutual
def uptoBulk {H : Type} : DataW H → Nat
  | .lit (.string bytes) => bytes.length + 1
  | .lit _ => 1
  | .nil => 1
  | .ptr d => uptoBulk d + 1
  | .slice elems spare => uptoBulkAll elems + uptoBulkAll spare + 1
  | .agg parts => uptoBulkAll parts + 1
  | .iface _ d => uptoBulk d + 1
  | .map entries => uptoBulkEntries entries + 1
  | .held _ => 1
def uptoBulkAll {H : Type} : List (DataW H) → Nat
  | [] => 0
  | d :: r => uptoBulk d + uptoBulkAll r
def uptoBulkEntries {H : Type} : List (Lit × DataW H) → Nat
  | [] => 0
  | x :: r => uptoBulkEntry x + uptoBulkEntries r
def uptoBulkEntry {H : Type} : Lit × DataW H → Nat
  | (.string bytes, d) => bytes.length + uptoBulk d + 1
  | (_, d) => uptoBulk d + 1
 end
def uptoSmall : (H : Type) → List (DataW H) → Bool := fun _ ds => decide (uptoBulkAll ds ≤ 1048576)
def OpenSpec.upto (s : _root_.Go.ChangeSpec) : _root_.Go.OpenSpec := { _root_.Go.OpenSpec.ofChange s with cond := some uptoSmall }

/-- 'coupletlaw20.DepsPlays', WHERE WHAT IT READS IS OF BULK AT MOST 1048576: true; the input reads as it did. -/
def depsPlaysUptoRow : OpenClaim := { program := "ytfbfihfmlenklaa", sum := "cc03c1cd31de03e69b99e84a95f01cccf46ba981883ca1d12be68a6e81b5fb63", func := "couplet/coupletlaw20.DepsPlays", spec := "depsPlays", unfollowed := true, recurses := true, plainKeys := false, apart := false, narrowed := true }
def DepsPlaysUptoSaid : Prop := depsPlaysUptoRow.holds Try.pinned (OpenSpec.upto depsPlaysSpec)

/-- 'coupletlaw20.DepsEnds', WHERE WHAT IT READS IS OF BULK AT MOST 1048576: true; the input reads as it did. -/
def depsEndsUptoRow : OpenClaim := { program := "ytfbfihfmlenklaa", sum := "cc03c1cd31de03e69b99e84a95f01cccf46ba981883ca1d12be68a6e81b5fb63", func := "couplet/coupletlaw20.DepsEnds", spec := "depsEnds", unfollowed := true, recurses := true, plainKeys := false, apart := false, narrowed := true }
def DepsEndsUptoSaid : Prop := depsEndsUptoRow.holds Try.pinned (OpenSpec.upto depsEndsSpec)

/-- 'coupletlaw20.DepsTake', WHERE WHAT IT READS IS OF BULK AT MOST 1048576: true; the input reads as it did. -/
def depsTakeUptoRow : OpenClaim := { program := "ytfbfihfmlenklaa", sum := "cc03c1cd31de03e69b99e84a95f01cccf46ba981883ca1d12be68a6e81b5fb63", func := "couplet/coupletlaw20.DepsTake", spec := "depsTake", unfollowed := true, recurses := true, plainKeys := false, apart := false, narrowed := true }
def DepsTakeUptoSaid : Prop := depsTakeUptoRow.holds Try.pinned (OpenSpec.upto depsTakeSpec)

/-- 'coupletlaw20.DepsReady', WHERE WHAT IT READS IS OF BULK AT MOST 1048576: true; the input reads as it did. -/
def depsReadyUptoRow : OpenClaim := { program := "ytfbfihfmlenklaa", sum := "cc03c1cd31de03e69b99e84a95f01cccf46ba981883ca1d12be68a6e81b5fb63", func := "couplet/coupletlaw20.DepsReady", spec := "depsReady", unfollowed := true, recurses := true, plainKeys := false, apart := false, narrowed := true }
def DepsReadyUptoSaid : Prop := depsReadyUptoRow.holds Try.pinned (OpenSpec.upto depsReadySpec)

/-- 'coupletlaw20.DepsKnown', WHERE WHAT IT READS IS OF BULK AT MOST 1048576: true; the input reads as it did. -/
def depsKnownUptoRow : OpenClaim := { program := "ytfbfihfmlenklaa", sum := "cc03c1cd31de03e69b99e84a95f01cccf46ba981883ca1d12be68a6e81b5fb63", func := "couplet/coupletlaw20.DepsKnown", spec := "depsKnown", unfollowed := true, recurses := true, plainKeys := false, apart := false, narrowed := true }
def DepsKnownUptoSaid : Prop := depsKnownUptoRow.holds Try.pinned (OpenSpec.upto depsKnownSpec)

end Rows
end Go.Proofs.Ytfbfihfmlenklaa
