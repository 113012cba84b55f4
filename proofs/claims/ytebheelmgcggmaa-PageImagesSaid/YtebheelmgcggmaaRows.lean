/-
  No cell of these rows narrows 'for every input' (looked for: loops, veiled, ifaces, maps, wideKeys, modest, calm, conditions, laid).
  DERIVED. THE GIVEN ROWS OF THIS SEAT. 4 by the template 'for every input the law returns true; each argument reads behind the call as it read before'; 0 by the template 'total and deterministic' (their statements: YtebheelmgcggmaaTotals.lean).
  GIVEN WITH THE SEED: the statements are not yours to turn. If you find one false, say at which input.
  Laid BY PROGRAM, IN A SANDBOX (cutbox-rows.mjs): the forced cells as the released guide's own fill.sh prints them over the translation d9f431bf78271194… (all of the seat's roots in one cut). By AI agents, Wed Nov 11 2026. No macro, syntax, notation, axiom, sorry.
-/
import Derived.Test.YtebheelmgcggmaaChecked
import GoSem.Claim
import GoSem.ClaimJoined
import GoSem.ClaimMapViews
import Derived.JoinedTies
import Derived.KernelRfl
namespace Go.Proofs.Ytebheelmgcggmaa
/- THE CELL 'sum', in the pinned program and in every row, IS THE sha256 OF THE DUMP (.gsa) THAT YtebheelmgcggmaaProg.lean LOADS. Nothing in Lean hashes anything: it is a label: what it is worth is what the hold of that sum in a sandbox is worth. -/
noncomputable def Try.pinned : Pinned := { name := "ytebheelmgcggmaa", sum := "d9f431bf78271194e3df32549dcd35aae183dd51140fdb81e18bb4380b5379ef", checked := Try.checked }
namespace Rows
def none {H : Type} : Left H := { results := [], args := [] }

/-- 'coupletlaw10.PageHighest': WHATEVER THE INPUT: true; the input reads as it did. -/
def pageHighestSpec : ChangeSpec := { name := "pageHighest", fn := fun _ => fun
  | [d1, d2] => { results := [.lit (.bool true)], args := [d1, d2] }
  | _ => none }
def pageHighestRow : OpenClaim := { program := "ytebheelmgcggmaa", sum := "d9f431bf78271194e3df32549dcd35aae183dd51140fdb81e18bb4380b5379ef", func := "couplet/coupletlaw10.PageHighest", spec := "pageHighest", unfollowed := true, recurses := true, apart := false }
def PageHighestSaid : Prop := pageHighestRow.holds Try.pinned (OpenSpec.ofChange pageHighestSpec)

/-- ITS FALSE NEIGHBOUR: 'it returns false'. Refute it at one input. -/
def pageHighestWrong : ChangeSpec := { name := "pageHighest", fn := fun _ => fun
  | [d1, d2] => { results := [.lit (.bool false)], args := [d1, d2] }
  | _ => none }
def PageHighestWrongFalsely : Prop := pageHighestRow.holds Try.pinned (OpenSpec.ofChange pageHighestWrong)

/-- 'coupletlaw10.PageAgain': WHATEVER THE INPUT: true; the input reads as it did. -/
def pageAgainSpec : ChangeSpec := { name := "pageAgain", fn := fun _ => fun
  | [d1, d2, d3] => { results := [.lit (.bool true)], args := [d1, d2, d3] }
  | _ => none }
def pageAgainRow : OpenClaim := { program := "ytebheelmgcggmaa", sum := "d9f431bf78271194e3df32549dcd35aae183dd51140fdb81e18bb4380b5379ef", func := "couplet/coupletlaw10.PageAgain", spec := "pageAgain", unfollowed := true, recurses := true, apart := false }
def PageAgainSaid : Prop := pageAgainRow.holds Try.pinned (OpenSpec.ofChange pageAgainSpec)

/-- ITS FALSE NEIGHBOUR: 'it returns false'. Refute it at one input. -/
def pageAgainWrong : ChangeSpec := { name := "pageAgain", fn := fun _ => fun
  | [d1, d2, d3] => { results := [.lit (.bool false)], args := [d1, d2, d3] }
  | _ => none }
def PageAgainWrongFalsely : Prop := pageAgainRow.holds Try.pinned (OpenSpec.ofChange pageAgainWrong)

/-- 'coupletlaw10.PageImages': WHATEVER THE INPUT: true; the input reads as it did. -/
def pageImagesSpec : ChangeSpec := { name := "pageImages", fn := fun _ => fun
  | [d1, d2, d3] => { results := [.lit (.bool true)], args := [d1, d2, d3] }
  | _ => none }
def pageImagesRow : OpenClaim := { program := "ytebheelmgcggmaa", sum := "d9f431bf78271194e3df32549dcd35aae183dd51140fdb81e18bb4380b5379ef", func := "couplet/coupletlaw10.PageImages", spec := "pageImages", unfollowed := true, recurses := true, apart := false }
def PageImagesSaid : Prop := pageImagesRow.holds Try.pinned (OpenSpec.ofChange pageImagesSpec)

/-- ITS FALSE NEIGHBOUR: 'it returns false'. Refute it at one input. -/
def pageImagesWrong : ChangeSpec := { name := "pageImages", fn := fun _ => fun
  | [d1, d2, d3] => { results := [.lit (.bool false)], args := [d1, d2, d3] }
  | _ => none }
def PageImagesWrongFalsely : Prop := pageImagesRow.holds Try.pinned (OpenSpec.ofChange pageImagesWrong)

/-- 'coupletlaw10.PageSplits': WHATEVER THE INPUT: true; the input reads as it did. -/
def pageSplitsSpec : ChangeSpec := { name := "pageSplits", fn := fun _ => fun
  | [d1, d2, d3] => { results := [.lit (.bool true)], args := [d1, d2, d3] }
  | _ => none }
def pageSplitsRow : OpenClaim := { program := "ytebheelmgcggmaa", sum := "d9f431bf78271194e3df32549dcd35aae183dd51140fdb81e18bb4380b5379ef", func := "couplet/coupletlaw10.PageSplits", spec := "pageSplits", unfollowed := true, recurses := true, apart := false }
def PageSplitsSaid : Prop := pageSplitsRow.holds Try.pinned (OpenSpec.ofChange pageSplitsSpec)

/-- ITS FALSE NEIGHBOUR: 'it returns false'. Refute it at one input. -/
def pageSplitsWrong : ChangeSpec := { name := "pageSplits", fn := fun _ => fun
  | [d1, d2, d3] => { results := [.lit (.bool false)], args := [d1, d2, d3] }
  | _ => none }
def PageSplitsWrongFalsely : Prop := pageSplitsRow.holds Try.pinned (OpenSpec.ofChange pageSplitsWrong)

/- THE SECOND FORM. 'bulk': how many values and letters a reading holds, each counted each time it is reached (what is shared counts as often as it is met; a slice's spare places count too). A statement '..UptoSaid' is the law's where the arguments, and the package variables that the reading takes, are together of bulk at most 1048576: NARROWER than '..Said'. Prove '..Said' where nothing that the law and all that it calls make is longer than what came in: it says more and counts as full. Else prove '..UptoSaid'. A law counts once. -/
mutual
def uptoBulk {H : Type} : DataW H → Nat
  | .lit (.string bytes) => bytes.length + 1
  | .lit _ => 1
  | .nil => 1
  | .ptr d => uptoBulk d + 1
  | .slice elems spare => uptoBulkAll elems + uptoBulkAll spare + 1
  | .agg parts => uptoBulkAll parts + 1
  | .iface _ d => uptoBulk d + 1
  | .map entries => uptoBulkEntries entries + 1
  | .held _ => 1
def uptoBulkAll {H : Type} : List (DataW H) → Nat
  | [] => 0
  | d :: r => uptoBulk d + uptoBulkAll r
def uptoBulkEntries {H : Type} : List (Lit × DataW H) → Nat
  | [] => 0
  | x :: r => uptoBulkEntry x + uptoBulkEntries r
def uptoBulkEntry {H : Type} : Lit × DataW H → Nat
  | (.string bytes, d) => bytes.length + uptoBulk d + 1
  | (_, d) => uptoBulk d + 1
 end
def uptoSmall : (H : Type) → List (DataW H) → Bool := fun _ ds => decide (uptoBulkAll ds ≤ 1048576)
def OpenSpec.upto (s : _root_.Go.ChangeSpec) : _root_.Go.OpenSpec := { _root_.Go.OpenSpec.ofChange s with cond := some uptoSmall }

/-- 'coupletlaw10.PageHighest', WHERE WHAT IT READS IS OF BULK AT MOST 1048576: true; the input reads as it did. -/
def pageHighestUptoRow : OpenClaim := { program := "ytebheelmgcggmaa", sum := "d9f431bf78271194e3df32549dcd35aae183dd51140fdb81e18bb4380b5379ef", func := "couplet/coupletlaw10.PageHighest", spec := "pageHighest", unfollowed := true, recurses := true, apart := false, narrowed := true }
def PageHighestUptoSaid : Prop := pageHighestUptoRow.holds Try.pinned (OpenSpec.upto pageHighestSpec)

/-- 'coupletlaw10.PageAgain', WHERE WHAT IT READS IS OF BULK AT MOST 1048576: true; the input reads as it did. -/
def pageAgainUptoRow : OpenClaim := { program := "ytebheelmgcggmaa", sum := "d9f431bf78271194e3df32549dcd35aae183dd51140fdb81e18bb4380b5379ef", func := "couplet/coupletlaw10.PageAgain", spec := "pageAgain", unfollowed := true, recurses := true, apart := false, narrowed := true }
def PageAgainUptoSaid : Prop := pageAgainUptoRow.holds Try.pinned (OpenSpec.upto pageAgainSpec)

/-- 'coupletlaw10.PageImages', WHERE WHAT IT READS IS OF BULK AT MOST 1048576: true; the input reads as it did. -/
def pageImagesUptoRow : OpenClaim := { program := "ytebheelmgcggmaa", sum := "d9f431bf78271194e3df32549dcd35aae183dd51140fdb81e18bb4380b5379ef", func := "couplet/coupletlaw10.PageImages", spec := "pageImages", unfollowed := true, recurses := true, apart := false, narrowed := true }
def PageImagesUptoSaid : Prop := pageImagesUptoRow.holds Try.pinned (OpenSpec.upto pageImagesSpec)

/-- 'coupletlaw10.PageSplits', WHERE WHAT IT READS IS OF BULK AT MOST 1048576: true; the input reads as it did. -/
def pageSplitsUptoRow : OpenClaim := { program := "ytebheelmgcggmaa", sum := "d9f431bf78271194e3df32549dcd35aae183dd51140fdb81e18bb4380b5379ef", func := "couplet/coupletlaw10.PageSplits", spec := "pageSplits", unfollowed := true, recurses := true, apart := false, narrowed := true }
def PageSplitsUptoSaid : Prop := pageSplitsUptoRow.holds Try.pinned (OpenSpec.upto pageSplitsSpec)

end Rows
end Go.Proofs.Ytebheelmgcggmaa
