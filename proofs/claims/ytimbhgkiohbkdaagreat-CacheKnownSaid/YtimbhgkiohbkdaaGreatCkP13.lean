/-
  A piece of the run. A piece of the run. The last piece of the run.
-/
import Derived.Test.YtimbhgkiohbkdaaGreatCkX
namespace Go.Proofs.YtimbhgkiohbkdaaGreat
open Go.Ab Go.Ab.Nx Go.Ab.Nx.Zx Go.Ab.Nx.Lx Go.Ab.Nx.Sx Go.Ab.Nx.Dx Go.Ab.Nx.Mx
set_option maxRecDepth 1000000
theorem q13 : okSt .normal (chainZ envQ 3 326 none callK (takeS 3 (dropS 10 bodyK)) (mkA sg10.tmps) (mkH sg10.next sg10.rows)) sg13 = true := by kernel_rfl
end Go.Proofs.YtimbhgkiohbkdaaGreat
namespace Go.Proofs.YtimbhgkiohbkdaaGreat
open Go.Ab Go.Ab.Nx Go.Ab.Nx.Zx Go.Ab.Nx.Lx Go.Ab.Nx.Sx Go.Ab.Nx.Dx Go.Ab.Nx.Mx
set_option maxRecDepth 1000000
theorem q16 : okSt .normal (chainZ envQ 3 326 none callK (takeS 3 (dropS 13 bodyK)) (mkA sg13.tmps) (mkH sg13.next sg13.rows)) sg16 = true := by kernel_rfl
end Go.Proofs.YtimbhgkiohbkdaaGreat
namespace Go.Proofs.YtimbhgkiohbkdaaGreat
open Go.Ab Go.Ab.Nx Go.Ab.Nx.Zx Go.Ab.Nx.Lx Go.Ab.Nx.Sx Go.Ab.Nx.Dx Go.Ab.Nx.Mx
set_option maxRecDepth 1000000
theorem qz : okEnd envQ Tryz.f3 ((compC (dropS 16 bodyK) envQ 3 326).run none callK (mkA sg16.tmps) (mkH sg16.next sg16.rows)) = true := by kernel_rfl
end Go.Proofs.YtimbhgkiohbkdaaGreat
