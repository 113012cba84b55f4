/-
  The function works of the Order laws, by the evaluator.
-/
import Derived.Test.YtjenbiohcecfnaaGreatTy
import Derived.Test.YtjenbiohcecfnaaGreatAb37
namespace Go.Proofs.YtjenbiohcecfnaaGreat
open Go.Ab
set_option linter.unusedSimpArgs false
set_option linter.unusedVariables false
set_option maxRecDepth 1000000 in
theorem worksRan : Ab.isTrue (Ab.evCall (Ab.envOf Tryz.prog 204 136) (Ab.ev (Ab.envOf Tryz.prog 204 136) 1000) 12 [] ⟨0, .leaf⟩) = true := by kernel_rfl
theorem works_c (h : AHeap) : FWp Tryz.prog 12 [] h fun u h' => u = .bool true ∧ h' = h :=
  FWp.ofClosed rfl (fun w => closed_true (Ab.envOf_ok Tryz.prog 204 136 (by kernel_rfl)) 1000 worksRan w)
end Go.Proofs.YtjenbiohcecfnaaGreat
