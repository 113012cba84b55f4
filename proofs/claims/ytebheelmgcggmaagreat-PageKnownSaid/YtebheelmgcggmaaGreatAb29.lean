/-
  A law with arguments: from what is proved of the view to what the form asks.
-/
import Derived.Test.YtebheelmgcggmaaGreatAb28
import Derived.ChangeOld
namespace Go.Ab
set_option linter.unusedSimpArgs false
set_option linter.unusedVariables false
section
variable {H : Type} {enc : TypeId × Value → H} {P : Program} {w w' : World} {sp : Nat → Bool} {held : Bool}
noncomputable def RdV (P : Program) (h : AHeap) (k : Nat) (t : TypeId) (v : Value) : Prop :=
  match P.underlying t with
  | some (.struct _) => ∃ vs, v = .agg vs.toArray ∧ Rd P h k t vs
  | some (.array _ _) => ∃ vs, v = .agg vs.toArray ∧ Rd P h k t vs
  | _ => Rd P h k t [v]
noncomputable def RdArgs (P : Program) (h : AHeap) (k : Nat) : List TypeId → List Value → Prop
  | [], [] => True
  | t :: ts, v :: vs => RdV P h k t v ∧ RdArgs P h k ts vs
  | _, _ => False
end
end Go.Ab
