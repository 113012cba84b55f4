/-
  The function works of the Order laws, by the evaluator.
-/
import Derived.Test.YtjenbiohcecfnaaTy
import Derived.Test.YtjenbiohcecfnaaAb37
namespace Go.Proofs.Ytjenbiohcecfnaa
open Go.Ab
set_option linter.unusedSimpArgs false
set_option linter.unusedVariables false
set_option maxRecDepth 1000000 in
theorem worksRan : Ab.isTrue (Ab.evCall (Ab.envOf Try.prog 133 74) (Ab.ev (Ab.envOf Try.prog 133 74) 1000) 10 [] ⟨0, .leaf⟩) = true := by kernel_rfl
theorem works_c (h : AHeap) : FWp Try.prog 10 [] h fun u h' => u = .bool true ∧ h' = h :=
  FWp.ofClosed rfl (fun w => closed_true (Ab.envOf_ok Try.prog 133 74 (by kernel_rfl)) 1000 worksRan w)
end Go.Proofs.Ytjenbiohcecfnaa
