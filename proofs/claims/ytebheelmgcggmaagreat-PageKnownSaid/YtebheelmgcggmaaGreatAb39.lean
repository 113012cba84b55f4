/-
  Comparing structs.
-/
import Derived.Test.YtebheelmgcggmaaGreatAb38
namespace Go.Ab
set_option linter.unusedSimpArgs false
set_option linter.unusedVariables false
section
variable {P : Program} {T : Tr TI}
end
end Go.Ab
