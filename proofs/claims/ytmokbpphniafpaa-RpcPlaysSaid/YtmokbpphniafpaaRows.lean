/-
  No cell of these rows narrows 'for every input' (looked for: loops, veiled, ifaces, maps, wideKeys, modest, calm, conditions, laid).
  DERIVED. THE GIVEN ROWS OF THIS SEAT. 5 by the template 'for every input the law returns true; each argument reads behind the call as it read before'; 0 by the template 'total and deterministic' (their statements: YtmokbpphniafpaaTotals.lean).
  GIVEN WITH THE SEED: the statements are not yours to turn. If you find one false, say at which input.
  Laid BY PROGRAM, IN A SANDBOX (cutbox-rows.mjs): the forced cells as the released guide's own fill.sh prints them over the translation 5610163b69a50109… (all of the seat's roots in one cut). By AI agents, Wed Nov 11 2026. No macro, syntax, notation, axiom, sorry.
-/
import Derived.Test.YtmokbpphniafpaaChecked
import GoSem.Claim
import GoSem.ClaimJoined
import GoSem.ClaimMapViews
import Derived.JoinedTies
import Derived.KernelRfl
namespace Go.Proofs.Ytmokbpphniafpaa
/- THE CELL 'sum', in the pinned program and in every row, IS THE sha256 OF THE DUMP (.gsa) THAT YtmokbpphniafpaaProg.lean LOADS. Nothing in Lean hashes anything: it is a label: what it is worth is what the hold of that sum in a sandbox is worth. -/
noncomputable def Try.pinned : Pinned := { name := "ytmokbpphniafpaa", sum := "5610163b69a50109e971cc0353aabb7b7f481f522c19b03834f36a7cd49bbd0c", checked := Try.checked }
namespace Rows
def none {H : Type} : Left H := { results := [], args := [] }

/-- 'coupletlaw22.RpcPlays': WHATEVER THE INPUT: true; the input reads as it did. -/
def rpcPlaysSpec : ChangeSpec := { name := "rpcPlays", fn := fun _ => fun
  | [d] => { results := [.lit (.bool true)], args := [d] }
  | _ => none }
def rpcPlaysRow : OpenClaim := { program := "ytmokbpphniafpaa", sum := "5610163b69a50109e971cc0353aabb7b7f481f522c19b03834f36a7cd49bbd0c", func := "couplet/coupletlaw22.RpcPlays", spec := "rpcPlays", unfollowed := true, recurses := true, apart := false }
def RpcPlaysSaid : Prop := rpcPlaysRow.holds Try.pinned (OpenSpec.ofChange rpcPlaysSpec)

/-- ITS FALSE NEIGHBOUR: 'it returns false'. Refute it at one input. -/
def rpcPlaysWrong : ChangeSpec := { name := "rpcPlays", fn := fun _ => fun
  | [d] => { results := [.lit (.bool false)], args := [d] }
  | _ => none }
def RpcPlaysWrongFalsely : Prop := rpcPlaysRow.holds Try.pinned (OpenSpec.ofChange rpcPlaysWrong)

/-- 'coupletlaw22.RpcDue': WHATEVER THE INPUT: true; the input reads as it did. -/
def rpcDueSpec : ChangeSpec := { name := "rpcDue", fn := fun _ => fun
  | [d1, d2] => { results := [.lit (.bool true)], args := [d1, d2] }
  | _ => none }
def rpcDueRow : OpenClaim := { program := "ytmokbpphniafpaa", sum := "5610163b69a50109e971cc0353aabb7b7f481f522c19b03834f36a7cd49bbd0c", func := "couplet/coupletlaw22.RpcDue", spec := "rpcDue", unfollowed := true, recurses := true, apart := false }
def RpcDueSaid : Prop := rpcDueRow.holds Try.pinned (OpenSpec.ofChange rpcDueSpec)

/-- ITS FALSE NEIGHBOUR: 'it returns false'. Refute it at one input. -/
def rpcDueWrong : ChangeSpec := { name := "rpcDue", fn := fun _ => fun
  | [d1, d2] => { results := [.lit (.bool false)], args := [d1, d2] }
  | _ => none }
def RpcDueWrongFalsely : Prop := rpcDueRow.holds Try.pinned (OpenSpec.ofChange rpcDueWrong)

/-- 'coupletlaw22.RpcOnce': WHATEVER THE INPUT: true; the input reads as it did. -/
def rpcOnceSpec : ChangeSpec := { name := "rpcOnce", fn := fun _ => fun
  | [d1, d2] => { results := [.lit (.bool true)], args := [d1, d2] }
  | _ => none }
def rpcOnceRow : OpenClaim := { program := "ytmokbpphniafpaa", sum := "5610163b69a50109e971cc0353aabb7b7f481f522c19b03834f36a7cd49bbd0c", func := "couplet/coupletlaw22.RpcOnce", spec := "rpcOnce", unfollowed := true, recurses := true, apart := false }
def RpcOnceSaid : Prop := rpcOnceRow.holds Try.pinned (OpenSpec.ofChange rpcOnceSpec)

/-- ITS FALSE NEIGHBOUR: 'it returns false'. Refute it at one input. -/
def rpcOnceWrong : ChangeSpec := { name := "rpcOnce", fn := fun _ => fun
  | [d1, d2] => { results := [.lit (.bool false)], args := [d1, d2] }
  | _ => none }
def RpcOnceWrongFalsely : Prop := rpcOnceRow.holds Try.pinned (OpenSpec.ofChange rpcOnceWrong)

/-- 'coupletlaw22.RpcIds': WHATEVER THE INPUT: true; the input reads as it did. -/
def rpcIdsSpec : ChangeSpec := { name := "rpcIds", fn := fun _ => fun
  | [d] => { results := [.lit (.bool true)], args := [d] }
  | _ => none }
def rpcIdsRow : OpenClaim := { program := "ytmokbpphniafpaa", sum := "5610163b69a50109e971cc0353aabb7b7f481f522c19b03834f36a7cd49bbd0c", func := "couplet/coupletlaw22.RpcIds", spec := "rpcIds", unfollowed := true, recurses := true, apart := false }
def RpcIdsSaid : Prop := rpcIdsRow.holds Try.pinned (OpenSpec.ofChange rpcIdsSpec)

/-- ITS FALSE NEIGHBOUR: 'it returns false'. Refute it at one input. -/
def rpcIdsWrong : ChangeSpec := { name := "rpcIds", fn := fun _ => fun
  | [d] => { results := [.lit (.bool false)], args := [d] }
  | _ => none }
def RpcIdsWrongFalsely : Prop := rpcIdsRow.holds Try.pinned (OpenSpec.ofChange rpcIdsWrong)

/-- 'coupletlaw22.RpcKnown': WHATEVER THE INPUT: true; the input reads as it did. -/
def rpcKnownSpec : ChangeSpec := { name := "rpcKnown", fn := fun _ => fun
  | [] => { results := [.lit (.bool true)], args := [] }
  | _ => none }
def rpcKnownRow : OpenClaim := { program := "ytmokbpphniafpaa", sum := "5610163b69a50109e971cc0353aabb7b7f481f522c19b03834f36a7cd49bbd0c", func := "couplet/coupletlaw22.RpcKnown", spec := "rpcKnown", unfollowed := true, recurses := true, apart := false }
def RpcKnownSaid : Prop := rpcKnownRow.holds Try.pinned (OpenSpec.ofChange rpcKnownSpec)

/-- ITS FALSE NEIGHBOUR: 'it returns false'. Refute it at one input. -/
def rpcKnownWrong : ChangeSpec := { name := "rpcKnown", fn := fun _ => fun
  | [] => { results := [.lit (.bool false)], args := [] }
  | _ => none }
def RpcKnownWrongFalsely : Prop := rpcKnownRow.holds Try.pinned (OpenSpec.ofChange rpcKnownWrong)

/- THE SECOND FORM. 'bulk': how many values and letters a reading holds, each counted each time it is reached (what is shared counts as often as it is met; a slice's spare places count too). A statement '..UptoSaid' is the law's where the arguments, and the package variables that the reading takes, are together of bulk at most 1048576: NARROWER than '..Said'. Prove '..Said' where nothing that the law and all that it calls make is longer than what came in: it says more and counts as full. Else prove '..UptoSaid'. A law counts once. -/
mutual
def uptoBulk {H : Type} : DataW H → Nat
  | .lit (.string bytes) => bytes.length + 1
  | .lit _ => 1
  | .nil => 1
  | .ptr d => uptoBulk d + 1
  | .slice elems spare => uptoBulkAll elems + uptoBulkAll spare + 1
  | .agg parts => uptoBulkAll parts + 1
  | .iface _ d => uptoBulk d + 1
  | .map entries => uptoBulkEntries entries + 1
  | .held _ => 1
def uptoBulkAll {H : Type} : List (DataW H) → Nat
  | [] => 0
  | d :: r => uptoBulk d + uptoBulkAll r
def uptoBulkEntries {H : Type} : List (Lit × DataW H) → Nat
  | [] => 0
  | x :: r => uptoBulkEntry x + uptoBulkEntries r
def uptoBulkEntry {H : Type} : Lit × DataW H → Nat
  | (.string bytes, d) => bytes.length + uptoBulk d + 1
  | (_, d) => uptoBulk d + 1
 end
def uptoSmall : (H : Type) → List (DataW H) → Bool := fun _ ds => decide (uptoBulkAll ds ≤ 1048576)
def OpenSpec.upto (s : _root_.Go.ChangeSpec) : _root_.Go.OpenSpec := { _root_.Go.OpenSpec.ofChange s with cond := some uptoSmall }

/-- 'coupletlaw22.RpcPlays', WHERE WHAT IT READS IS OF BULK AT MOST 1048576: true; the input reads as it did. -/
def rpcPlaysUptoRow : OpenClaim := { program := "ytmokbpphniafpaa", sum := "5610163b69a50109e971cc0353aabb7b7f481f522c19b03834f36a7cd49bbd0c", func := "couplet/coupletlaw22.RpcPlays", spec := "rpcPlays", unfollowed := true, recurses := true, apart := false, narrowed := true }
def RpcPlaysUptoSaid : Prop := rpcPlaysUptoRow.holds Try.pinned (OpenSpec.upto rpcPlaysSpec)

/-- 'coupletlaw22.RpcDue', WHERE WHAT IT READS IS OF BULK AT MOST 1048576: true; the input reads as it did. -/
def rpcDueUptoRow : OpenClaim := { program := "ytmokbpphniafpaa", sum := "5610163b69a50109e971cc0353aabb7b7f481f522c19b03834f36a7cd49bbd0c", func := "couplet/coupletlaw22.RpcDue", spec := "rpcDue", unfollowed := true, recurses := true, apart := false, narrowed := true }
def RpcDueUptoSaid : Prop := rpcDueUptoRow.holds Try.pinned (OpenSpec.upto rpcDueSpec)

/-- 'coupletlaw22.RpcOnce', WHERE WHAT IT READS IS OF BULK AT MOST 1048576: true; the input reads as it did. -/
def rpcOnceUptoRow : OpenClaim := { program := "ytmokbpphniafpaa", sum := "5610163b69a50109e971cc0353aabb7b7f481f522c19b03834f36a7cd49bbd0c", func := "couplet/coupletlaw22.RpcOnce", spec := "rpcOnce", unfollowed := true, recurses := true, apart := false, narrowed := true }
def RpcOnceUptoSaid : Prop := rpcOnceUptoRow.holds Try.pinned (OpenSpec.upto rpcOnceSpec)

/-- 'coupletlaw22.RpcIds', WHERE WHAT IT READS IS OF BULK AT MOST 1048576: true; the input reads as it did. -/
def rpcIdsUptoRow : OpenClaim := { program := "ytmokbpphniafpaa", sum := "5610163b69a50109e971cc0353aabb7b7f481f522c19b03834f36a7cd49bbd0c", func := "couplet/coupletlaw22.RpcIds", spec := "rpcIds", unfollowed := true, recurses := true, apart := false, narrowed := true }
def RpcIdsUptoSaid : Prop := rpcIdsUptoRow.holds Try.pinned (OpenSpec.upto rpcIdsSpec)

/-- 'coupletlaw22.RpcKnown', WHERE WHAT IT READS IS OF BULK AT MOST 1048576: true; the input reads as it did. -/
def rpcKnownUptoRow : OpenClaim := { program := "ytmokbpphniafpaa", sum := "5610163b69a50109e971cc0353aabb7b7f481f522c19b03834f36a7cd49bbd0c", func := "couplet/coupletlaw22.RpcKnown", spec := "rpcKnown", unfollowed := true, recurses := true, apart := false, narrowed := true }
def RpcKnownUptoSaid : Prop := rpcKnownUptoRow.holds Try.pinned (OpenSpec.upto rpcKnownSpec)

end Rows
end Go.Proofs.Ytmokbpphniafpaa
