/-
  Regions whose order is left open, with rows that are made late.
-/
import Derived.Test.YtebheelmgcggmaaGreatAb37
namespace Go.Ab
set_option linter.unusedSimpArgs false
set_option linter.unusedVariables false
section
variable {P : Program} {T : Tr TI}
variable {cx : Cx} {ops : Array Oper} {a0 : Tr Value} {h0 : AHeap}
open Classical in
end
end Go.Ab
