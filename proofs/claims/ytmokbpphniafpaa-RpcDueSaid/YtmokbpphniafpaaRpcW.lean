/-
  The function works of the Rpc laws, by the evaluator.
-/
import Derived.Test.YtmokbpphniafpaaKS
namespace Go.Proofs.Ytmokbpphniafpaa
open Go.Ab
set_option linter.unusedSimpArgs false
set_option linter.unusedVariables false
set_option maxRecDepth 1000000 in
theorem worksRan : Ab.isTrue (Ab.evCall SortU.envK (Ab.ev SortU.envK 1000) 21 [] ⟨0, .leaf⟩) = true := by kernel_rfl
theorem works_c (h : AHeap) : FWp Try.prog 21 [] h fun u h' => u = .bool true ∧ h' = h :=
  FWp.ofClosed rfl (fun w => closed_true SortU.envK_ok 1000 worksRan w)

end Go.Proofs.Ytmokbpphniafpaa
