/-
  The function works of the Table laws, by the evaluator.
-/
import Derived.Test.YtldhcjfhlfgleaaTy
import Derived.Test.YtldhcjfhlfgleaaAb37
namespace Go.Proofs.Ytldhcjfhlfgleaa
open Go.Ab
set_option linter.unusedSimpArgs false
set_option linter.unusedVariables false
set_option maxRecDepth 1000000 in
theorem worksRan : Ab.isTrue (Ab.evCall (Ab.envOf Try.prog 131 83) (Ab.ev (Ab.envOf Try.prog 131 83) 1000) 9 [] ⟨0, .leaf⟩) = true := by kernel_rfl
theorem works_c (h : AHeap) : FWp Try.prog 9 [] h fun u h' => u = .bool true ∧ h' = h :=
  FWp.ofClosed rfl (fun w => closed_true (Ab.envOf_ok Try.prog 131 83 (by kernel_rfl)) 1000 worksRan w)
end Go.Proofs.Ytldhcjfhlfgleaa
