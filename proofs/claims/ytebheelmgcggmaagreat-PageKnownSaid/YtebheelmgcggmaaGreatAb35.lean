/-
  Maps with keys of whatever kind; going through a map.
-/
import Derived.Test.YtebheelmgcggmaaGreatAb34
namespace Go.Ab
set_option linter.unusedSimpArgs false
set_option linter.unusedVariables false
section
variable {κ : Type}
noncomputable def mkK (enc : κ → Value) (l : List (κ × Value × Nat)) : List AEnt := l.map fun x => ⟨enc x.1, x.2.1, x.2.2⟩
noncomputable def idxK [DecidableEq κ] (a : κ) : List (κ × Value × Nat) → Nat → Option (Nat × Value)
  | [], _ => none
  | x :: l, i => bif decide (a = x.1) then some (i, x.2.1) else idxK a l (i + 1)
variable {P : Program} {T : Tr TI} {h : AHeap} {enc : κ → Value}
variable {t kt et : TypeId} {ti : TI} {a : κ} {r j clock : Nat} {l : List (κ × Value × Nat)} {v u : Value}
end
end Go.Ab
