/-
  A piece of the run.
-/
import Derived.Test.YtimbhgkiohbkdaaGreatCkX
namespace Go.Proofs.YtimbhgkiohbkdaaGreat
open Go.Ab Go.Ab.Nx Go.Ab.Nx.Zx Go.Ab.Nx.Lx Go.Ab.Nx.Sx Go.Ab.Nx.Dx Go.Ab.Nx.Mx
set_option maxRecDepth 1000000
theorem q10 : okSt .normal (chainZ envQ 3 326 none callK (takeS 1 (dropS 9 bodyK)) (mkA sg9.tmps) (mkH sg9.next sg9.rows)) sg10 = true := by kernel_rfl
end Go.Proofs.YtimbhgkiohbkdaaGreat
