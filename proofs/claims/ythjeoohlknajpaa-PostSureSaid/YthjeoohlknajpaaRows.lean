/-
  No cell of these rows narrows 'for every input' (looked for: loops, veiled, ifaces, maps, wideKeys, modest, calm, conditions, laid).
  DERIVED. THE GIVEN ROWS OF THIS SEAT. 3 by the template 'for every input the law returns true; each argument reads behind the call as it read before'; 0 by the template 'total and deterministic' (their statements: YthjeoohlknajpaaTotals.lean).
  GIVEN WITH THE SEED: the statements are not yours to turn. If you find one false, say at which input.
  Laid BY PROGRAM, IN A SANDBOX (cutbox-rows.mjs): the forced cells as the released guide's own fill.sh prints them over the translation e36e707bd695ec5a… (all of the seat's roots in one cut). By AI agents, Wed Nov 11 2026. No macro, syntax, notation, axiom, sorry.
-/
import Derived.Test.YthjeoohlknajpaaChecked
import GoSem.Claim
import GoSem.ClaimJoined
import GoSem.ClaimMapViews
import Derived.JoinedTies
import Derived.KernelRfl
namespace Go.Proofs.Ythjeoohlknajpaa
/- THE CELL 'sum', in the pinned program and in every row, IS THE sha256 OF THE DUMP (.gsa) THAT YthjeoohlknajpaaProg.lean LOADS. Nothing in Lean hashes anything: it is a label: what it is worth is what the hold of that sum in a sandbox is worth. -/
noncomputable def Try.pinned : Pinned := { name := "ythjeoohlknajpaa", sum := "e36e707bd695ec5adf671e8479120358416d9ac1c5120706827d083afc4788f0", checked := Try.checked }
namespace Rows
def none {H : Type} : Left H := { results := [], args := [] }

/-- 'coupletlaw21.PostSure': WHATEVER THE INPUT: true; the input reads as it did. -/
def postSureSpec : ChangeSpec := { name := "postSure", fn := fun _ => fun
  | [d1, d2] => { results := [.lit (.bool true)], args := [d1, d2] }
  | _ => none }
def postSureRow : OpenClaim := { program := "ythjeoohlknajpaa", sum := "e36e707bd695ec5adf671e8479120358416d9ac1c5120706827d083afc4788f0", func := "couplet/coupletlaw21.PostSure", spec := "postSure", unfollowed := true, recurses := true, apart := false }
def PostSureSaid : Prop := postSureRow.holds Try.pinned (OpenSpec.ofChange postSureSpec)

/-- ITS FALSE NEIGHBOUR: 'it returns false'. Refute it at one input. -/
def postSureWrong : ChangeSpec := { name := "postSure", fn := fun _ => fun
  | [d1, d2] => { results := [.lit (.bool false)], args := [d1, d2] }
  | _ => none }
def PostSureWrongFalsely : Prop := postSureRow.holds Try.pinned (OpenSpec.ofChange postSureWrong)

/-- 'coupletlaw21.PostTrims': WHATEVER THE INPUT: true; the input reads as it did. -/
def postTrimsSpec : ChangeSpec := { name := "postTrims", fn := fun _ => fun
  | [d1, d2, d3] => { results := [.lit (.bool true)], args := [d1, d2, d3] }
  | _ => none }
def postTrimsRow : OpenClaim := { program := "ythjeoohlknajpaa", sum := "e36e707bd695ec5adf671e8479120358416d9ac1c5120706827d083afc4788f0", func := "couplet/coupletlaw21.PostTrims", spec := "postTrims", unfollowed := true, recurses := true, apart := false }
def PostTrimsSaid : Prop := postTrimsRow.holds Try.pinned (OpenSpec.ofChange postTrimsSpec)

/-- ITS FALSE NEIGHBOUR: 'it returns false'. Refute it at one input. -/
def postTrimsWrong : ChangeSpec := { name := "postTrims", fn := fun _ => fun
  | [d1, d2, d3] => { results := [.lit (.bool false)], args := [d1, d2, d3] }
  | _ => none }
def PostTrimsWrongFalsely : Prop := postTrimsRow.holds Try.pinned (OpenSpec.ofChange postTrimsWrong)

/-- 'coupletlaw21.PostKnown': WHATEVER THE INPUT: true; the input reads as it did. -/
def postKnownSpec : ChangeSpec := { name := "postKnown", fn := fun _ => fun
  | [] => { results := [.lit (.bool true)], args := [] }
  | _ => none }
def postKnownRow : OpenClaim := { program := "ythjeoohlknajpaa", sum := "e36e707bd695ec5adf671e8479120358416d9ac1c5120706827d083afc4788f0", func := "couplet/coupletlaw21.PostKnown", spec := "postKnown", unfollowed := true, recurses := true, apart := false }
def PostKnownSaid : Prop := postKnownRow.holds Try.pinned (OpenSpec.ofChange postKnownSpec)

/-- ITS FALSE NEIGHBOUR: 'it returns false'. Refute it at one input. -/
def postKnownWrong : ChangeSpec := { name := "postKnown", fn := fun _ => fun
  | [] => { results := [.lit (.bool false)], args := [] }
  | _ => none }
def PostKnownWrongFalsely : Prop := postKnownRow.holds Try.pinned (OpenSpec.ofChange postKnownWrong)

/- THE SECOND FORM. 'bulk': how many values and letters a reading holds, each counted each time it is reached (what is shared counts as often as it is met; a slice's spare places count too). A statement '..UptoSaid' is the law's where the arguments, and the package variables that the reading takes, are together of bulk at most 1048576: NARROWER than '..Said'. Prove '..Said' where nothing that the law and all that it calls make is longer than what came in: it says more and counts as full. Else prove '..UptoSaid'. A law counts once. -/
mutual
def uptoBulk {H : Type} : DataW H → Nat
  | .lit (.string bytes) => bytes.length + 1
  | .lit _ => 1
  | .nil => 1
  | .ptr d => uptoBulk d + 1
  | .slice elems spare => uptoBulkAll elems + uptoBulkAll spare + 1
  | .agg parts => uptoBulkAll parts + 1
  | .iface _ d => uptoBulk d + 1
  | .map entries => uptoBulkEntries entries + 1
  | .held _ => 1
def uptoBulkAll {H : Type} : List (DataW H) → Nat
  | [] => 0
  | d :: r => uptoBulk d + uptoBulkAll r
def uptoBulkEntries {H : Type} : List (Lit × DataW H) → Nat
  | [] => 0
  | x :: r => uptoBulkEntry x + uptoBulkEntries r
def uptoBulkEntry {H : Type} : Lit × DataW H → Nat
  | (.string bytes, d) => bytes.length + uptoBulk d + 1
  | (_, d) => uptoBulk d + 1
 end
def uptoSmall : (H : Type) → List (DataW H) → Bool := fun _ ds => decide (uptoBulkAll ds ≤ 1048576)
def OpenSpec.upto (s : _root_.Go.ChangeSpec) : _root_.Go.OpenSpec := { _root_.Go.OpenSpec.ofChange s with cond := some uptoSmall }

/-- 'coupletlaw21.PostSure', WHERE WHAT IT READS IS OF BULK AT MOST 1048576: true; the input reads as it did. -/
def postSureUptoRow : OpenClaim := { program := "ythjeoohlknajpaa", sum := "e36e707bd695ec5adf671e8479120358416d9ac1c5120706827d083afc4788f0", func := "couplet/coupletlaw21.PostSure", spec := "postSure", unfollowed := true, recurses := true, apart := false, narrowed := true }
def PostSureUptoSaid : Prop := postSureUptoRow.holds Try.pinned (OpenSpec.upto postSureSpec)

/-- 'coupletlaw21.PostTrims', WHERE WHAT IT READS IS OF BULK AT MOST 1048576: true; the input reads as it did. -/
def postTrimsUptoRow : OpenClaim := { program := "ythjeoohlknajpaa", sum := "e36e707bd695ec5adf671e8479120358416d9ac1c5120706827d083afc4788f0", func := "couplet/coupletlaw21.PostTrims", spec := "postTrims", unfollowed := true, recurses := true, apart := false, narrowed := true }
def PostTrimsUptoSaid : Prop := postTrimsUptoRow.holds Try.pinned (OpenSpec.upto postTrimsSpec)

/-- 'coupletlaw21.PostKnown', WHERE WHAT IT READS IS OF BULK AT MOST 1048576: true; the input reads as it did. -/
def postKnownUptoRow : OpenClaim := { program := "ythjeoohlknajpaa", sum := "e36e707bd695ec5adf671e8479120358416d9ac1c5120706827d083afc4788f0", func := "couplet/coupletlaw21.PostKnown", spec := "postKnown", unfollowed := true, recurses := true, apart := false, narrowed := true }
def PostKnownUptoSaid : Prop := postKnownUptoRow.holds Try.pinned (OpenSpec.upto postKnownSpec)

end Rows
end Go.Proofs.Ythjeoohlknajpaa
