/-
  Maps with keys of whatever kind; going through a map.
-/
import Derived.Test.YtebheelmgcggmaaGreatAb34
namespace Go.Ab
set_option linter.unusedSimpArgs false
set_option linter.unusedVariables false
section
variable {κ : Type}
def mkK (enc : κ → Value) (l : List (κ × Value × Nat)) : List AEnt := l.map fun x => ⟨enc x.1, x.2.1, x.2.2⟩
def idxK [DecidableEq κ] (a : κ) : List (κ × Value × Nat) → Nat → Option (Nat × Value)
  | [], _ => none
  | x :: l, i => bif decide (a = x.1) then some (i, x.2.1) else idxK a l (i + 1)
structure KeyOK [DecidableEq κ] (P : Program) (T : Tr TI) (kt : TypeId) (enc : κ → Value) : Prop where
  find : ∀ (a : κ) (l : List (κ × Value × Nat)), aFind P T kt (enc a) (mkK enc l) = some (idxK a l 0)
  ok : ∀ (e : Bool) (a : κ), keyOk P e kt (enc a) = true
  bits : ∀ a : κ, Instr.sameBits 10000 (enc a) (enc a) = true
variable {P : Program} {T : Tr TI} {h : AHeap} {enc : κ → Value}
variable {t kt et : TypeId} {ti : TI} {a : κ} {r j clock : Nat} {l : List (κ × Value × Nat)} {v u : Value}
end
end Go.Ab
