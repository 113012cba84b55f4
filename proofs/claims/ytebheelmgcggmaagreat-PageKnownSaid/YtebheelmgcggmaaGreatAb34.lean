/-
  Slices of strings that are read only.
-/
import Derived.Test.YtebheelmgcggmaaGreatAb33
namespace Go.Ab
set_option linter.unusedSimpArgs false
set_option linter.unusedVariables false
theorem aguard_un {ops : Array Oper} {a : Tr Value} {o : Oper} {j : Nat} {want : Bool} {d : Tmp} (h1 : o.guard = some (j, want)) (h2 : (ops[j]?).bind (·.dst) = some d) (h3 : a.get d = some (.tuple #[])) : aguard ops a o = some false := by
  simp only [aguard, h1, h2, h3]
end Go.Ab
