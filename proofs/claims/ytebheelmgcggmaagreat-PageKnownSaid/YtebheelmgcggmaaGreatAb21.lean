/-
  A call's own rubbish is dropped from the view; what it hands back gets the next number.
-/
import Derived.Test.YtebheelmgcggmaaGreatAb20
namespace Go.Ab
set_option linter.unusedSimpArgs false
set_option linter.unusedVariables false
end Go.Ab
