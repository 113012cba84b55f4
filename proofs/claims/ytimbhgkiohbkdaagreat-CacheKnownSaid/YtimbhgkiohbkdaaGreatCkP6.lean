/-
  A piece of the run. A piece of the run.
-/
import Derived.Test.YtimbhgkiohbkdaaGreatCkX
namespace Go.Proofs.YtimbhgkiohbkdaaGreat
open Go.Ab Go.Ab.Nx Go.Ab.Nx.Zx Go.Ab.Nx.Lx Go.Ab.Nx.Sx Go.Ab.Nx.Dx Go.Ab.Nx.Mx
set_option maxRecDepth 1000000
theorem q6 : okSt .normal (chainZ envQ 3 326 none callK (takeS 2 (dropS 4 bodyK)) (mkA sg4.tmps) (mkH sg4.next sg4.rows)) sg6 = true := by kernel_rfl
end Go.Proofs.YtimbhgkiohbkdaaGreat
namespace Go.Proofs.YtimbhgkiohbkdaaGreat
open Go.Ab Go.Ab.Nx Go.Ab.Nx.Zx Go.Ab.Nx.Lx Go.Ab.Nx.Sx Go.Ab.Nx.Dx Go.Ab.Nx.Mx
set_option maxRecDepth 1000000
theorem q9 : okSt .normal (chainZ envQ 3 326 none callK (takeS 2 (dropS 7 bodyK)) (mkA sg7.tmps) (mkH sg7.next sg7.rows)) sg9 = true := by kernel_rfl
end Go.Proofs.YtimbhgkiohbkdaaGreat
