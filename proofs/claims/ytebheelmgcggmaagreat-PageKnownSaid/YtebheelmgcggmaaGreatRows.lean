/-
  No cell of these rows narrows 'for every input' (looked for: loops, veiled, ifaces, maps, wideKeys, modest, calm, conditions, laid).
  DERIVED. THE GIVEN ROWS OF THIS SEAT. 4 by the template 'for every input the law returns true; each argument reads behind the call as it read before'; 0 by the template 'total and deterministic' (their statements: YtebheelmgcggmaaGreatTotals.lean).
  GIVEN WITH THE SEED: the statements are not yours to turn. If you find one false, say at which input.
  Laid BY PROGRAM, IN A SANDBOX (cutbox-rows.mjs): the forced cells as the released guide's own fill.sh prints them over the translation 9ec6c01d7b68325f… (all of the seat's roots in one cut). By AI agents, Wed Nov 11 2026. No macro, syntax, notation, axiom, sorry.
-/
import Derived.Test.YtebheelmgcggmaaGreatChecked
import GoSem.Claim
import GoSem.ClaimJoined
import GoSem.ClaimMapViews
import Derived.JoinedTies
import Derived.KernelRfl
namespace Go.Proofs.YtebheelmgcggmaaGreat
/- THE CELL 'sum', in the pinned program and in every row, IS THE sha256 OF THE DUMP (.gsa) THAT YtebheelmgcggmaaGreatProg.lean LOADS. Nothing in Lean hashes anything: it is a label: what it is worth is what the hold of that sum in a sandbox is worth. -/
noncomputable def Tryz.pinned : Pinned := { name := "ytebheelmgcggmaagreat", sum := "9ec6c01d7b68325fd2bb2db86257e6e4b94f4fb10f101607b5ff52326f7cfad7", checked := Tryz.checked }
namespace Rows
def none {H : Type} : Left H := { results := [], args := [] }

/-- 'coupletlaw10.PageDoes': WHATEVER THE INPUT: true; the input reads as it did. -/
def pageDoesSpec : ChangeSpec := { name := "pageDoes", fn := fun _ => fun
  | [d1, d2, d3] => { results := [.lit (.bool true)], args := [d1, d2, d3] }
  | _ => none }
def pageDoesRow : OpenClaim := { program := "ytebheelmgcggmaagreat", sum := "9ec6c01d7b68325fd2bb2db86257e6e4b94f4fb10f101607b5ff52326f7cfad7", func := "couplet/coupletlaw10.PageDoes", spec := "pageDoes", unfollowed := true, recurses := true, apart := false }
def PageDoesSaid : Prop := pageDoesRow.holds Tryz.pinned (OpenSpec.ofChange pageDoesSpec)

/-- ITS FALSE NEIGHBOUR: 'it returns false'. Refute it at one input. -/
def pageDoesWrong : ChangeSpec := { name := "pageDoes", fn := fun _ => fun
  | [d1, d2, d3] => { results := [.lit (.bool false)], args := [d1, d2, d3] }
  | _ => none }
def PageDoesWrongFalsely : Prop := pageDoesRow.holds Tryz.pinned (OpenSpec.ofChange pageDoesWrong)

/-- 'coupletlaw10.PageReads': WHATEVER THE INPUT: true; the input reads as it did. -/
def pageReadsSpec : ChangeSpec := { name := "pageReads", fn := fun _ => fun
  | [d] => { results := [.lit (.bool true)], args := [d] }
  | _ => none }
def pageReadsRow : OpenClaim := { program := "ytebheelmgcggmaagreat", sum := "9ec6c01d7b68325fd2bb2db86257e6e4b94f4fb10f101607b5ff52326f7cfad7", func := "couplet/coupletlaw10.PageReads", spec := "pageReads", unfollowed := true, recurses := true, apart := false }
def PageReadsSaid : Prop := pageReadsRow.holds Tryz.pinned (OpenSpec.ofChange pageReadsSpec)

/-- ITS FALSE NEIGHBOUR: 'it returns false'. Refute it at one input. -/
def pageReadsWrong : ChangeSpec := { name := "pageReads", fn := fun _ => fun
  | [d] => { results := [.lit (.bool false)], args := [d] }
  | _ => none }
def PageReadsWrongFalsely : Prop := pageReadsRow.holds Tryz.pinned (OpenSpec.ofChange pageReadsWrong)

/-- 'coupletlaw10.PageParts': WHATEVER THE INPUT: true; the input reads as it did. -/
def pagePartsSpec : ChangeSpec := { name := "pageParts", fn := fun _ => fun
  | [d1, d2] => { results := [.lit (.bool true)], args := [d1, d2] }
  | _ => none }
def pagePartsRow : OpenClaim := { program := "ytebheelmgcggmaagreat", sum := "9ec6c01d7b68325fd2bb2db86257e6e4b94f4fb10f101607b5ff52326f7cfad7", func := "couplet/coupletlaw10.PageParts", spec := "pageParts", unfollowed := true, recurses := true, apart := false }
def PagePartsSaid : Prop := pagePartsRow.holds Tryz.pinned (OpenSpec.ofChange pagePartsSpec)

/-- ITS FALSE NEIGHBOUR: 'it returns false'. Refute it at one input. -/
def pagePartsWrong : ChangeSpec := { name := "pageParts", fn := fun _ => fun
  | [d1, d2] => { results := [.lit (.bool false)], args := [d1, d2] }
  | _ => none }
def PagePartsWrongFalsely : Prop := pagePartsRow.holds Tryz.pinned (OpenSpec.ofChange pagePartsWrong)

/-- 'coupletlaw10.PageKnown': WHATEVER THE INPUT: true; the input reads as it did. -/
def pageKnownSpec : ChangeSpec := { name := "pageKnown", fn := fun _ => fun
  | [] => { results := [.lit (.bool true)], args := [] }
  | _ => none }
def pageKnownRow : OpenClaim := { program := "ytebheelmgcggmaagreat", sum := "9ec6c01d7b68325fd2bb2db86257e6e4b94f4fb10f101607b5ff52326f7cfad7", func := "couplet/coupletlaw10.PageKnown", spec := "pageKnown", unfollowed := true, recurses := true, apart := false }
def PageKnownSaid : Prop := pageKnownRow.holds Tryz.pinned (OpenSpec.ofChange pageKnownSpec)

/-- ITS FALSE NEIGHBOUR: 'it returns false'. Refute it at one input. -/
def pageKnownWrong : ChangeSpec := { name := "pageKnown", fn := fun _ => fun
  | [] => { results := [.lit (.bool false)], args := [] }
  | _ => none }
def PageKnownWrongFalsely : Prop := pageKnownRow.holds Tryz.pinned (OpenSpec.ofChange pageKnownWrong)

/- THE SECOND FORM. 'bulk': how many values and letters a reading holds, each counted each time it is reached (what is shared counts as often as it is met; a slice's spare places count too). A statement '..UptoSaid' is the law's where the arguments, and the package variables that the reading takes, are together of bulk at most 1048576: NARROWER than '..Said'. Prove '..Said' where nothing that the law and all that it calls make is longer than what came in: it says more and counts as full. Else prove '..UptoSaid'. A law counts once. -/
mutual
def uptoBulk {H : Type} : DataW H → Nat
  | .lit (.string bytes) => bytes.length + 1
  | .lit _ => 1
  | .nil => 1
  | .ptr d => uptoBulk d + 1
  | .slice elems spare => uptoBulkAll elems + uptoBulkAll spare + 1
  | .agg parts => uptoBulkAll parts + 1
  | .iface _ d => uptoBulk d + 1
  | .map entries => uptoBulkEntries entries + 1
  | .held _ => 1
def uptoBulkAll {H : Type} : List (DataW H) → Nat
  | [] => 0
  | d :: r => uptoBulk d + uptoBulkAll r
def uptoBulkEntries {H : Type} : List (Lit × DataW H) → Nat
  | [] => 0
  | x :: r => uptoBulkEntry x + uptoBulkEntries r
def uptoBulkEntry {H : Type} : Lit × DataW H → Nat
  | (.string bytes, d) => bytes.length + uptoBulk d + 1
  | (_, d) => uptoBulk d + 1
 end
def uptoSmall : (H : Type) → List (DataW H) → Bool := fun _ ds => decide (uptoBulkAll ds ≤ 1048576)
def OpenSpec.upto (s : _root_.Go.ChangeSpec) : _root_.Go.OpenSpec := { _root_.Go.OpenSpec.ofChange s with cond := some uptoSmall }

/-- 'coupletlaw10.PageDoes', WHERE WHAT IT READS IS OF BULK AT MOST 1048576: true; the input reads as it did. -/
def pageDoesUptoRow : OpenClaim := { program := "ytebheelmgcggmaagreat", sum := "9ec6c01d7b68325fd2bb2db86257e6e4b94f4fb10f101607b5ff52326f7cfad7", func := "couplet/coupletlaw10.PageDoes", spec := "pageDoes", unfollowed := true, recurses := true, apart := false, narrowed := true }
def PageDoesUptoSaid : Prop := pageDoesUptoRow.holds Tryz.pinned (OpenSpec.upto pageDoesSpec)

/-- 'coupletlaw10.PageReads', WHERE WHAT IT READS IS OF BULK AT MOST 1048576: true; the input reads as it did. -/
def pageReadsUptoRow : OpenClaim := { program := "ytebheelmgcggmaagreat", sum := "9ec6c01d7b68325fd2bb2db86257e6e4b94f4fb10f101607b5ff52326f7cfad7", func := "couplet/coupletlaw10.PageReads", spec := "pageReads", unfollowed := true, recurses := true, apart := false, narrowed := true }
def PageReadsUptoSaid : Prop := pageReadsUptoRow.holds Tryz.pinned (OpenSpec.upto pageReadsSpec)

/-- 'coupletlaw10.PageParts', WHERE WHAT IT READS IS OF BULK AT MOST 1048576: true; the input reads as it did. -/
def pagePartsUptoRow : OpenClaim := { program := "ytebheelmgcggmaagreat", sum := "9ec6c01d7b68325fd2bb2db86257e6e4b94f4fb10f101607b5ff52326f7cfad7", func := "couplet/coupletlaw10.PageParts", spec := "pageParts", unfollowed := true, recurses := true, apart := false, narrowed := true }
def PagePartsUptoSaid : Prop := pagePartsUptoRow.holds Tryz.pinned (OpenSpec.upto pagePartsSpec)

/-- 'coupletlaw10.PageKnown', WHERE WHAT IT READS IS OF BULK AT MOST 1048576: true; the input reads as it did. -/
def pageKnownUptoRow : OpenClaim := { program := "ytebheelmgcggmaagreat", sum := "9ec6c01d7b68325fd2bb2db86257e6e4b94f4fb10f101607b5ff52326f7cfad7", func := "couplet/coupletlaw10.PageKnown", spec := "pageKnown", unfollowed := true, recurses := true, apart := false, narrowed := true }
def PageKnownUptoSaid : Prop := pageKnownUptoRow.holds Tryz.pinned (OpenSpec.upto pageKnownSpec)

end Rows
end Go.Proofs.YtebheelmgcggmaaGreat
