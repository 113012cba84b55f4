/-
  The run in pieces: the others.
-/
import Derived.Test.YtldpojhenmdnpaaGreatTkS
namespace Go.Proofs.YtldpojhenmdnpaaGreat
open Go.Ab Go.Ab.Nx Go.Ab.Nx.Zx Go.Ab.Nx.Lx Go.Ab.Nx.Sx Go.Ab.Nx.Dx Go.Ab.Nx.Mx
set_option maxRecDepth 1000000
theorem r50 : okSt .normal (roundsZ envT 7 Tryz.f7.ntmps none callK loopK 5 (mkA sg50.tmps) (mkH sg50.next sg50.rows)) sg55 = true := by kernel_rfl
theorem r55 : okSt .normal (roundsZ envT 7 Tryz.f7.ntmps none callK loopK 4 (mkA sg55.tmps) (mkH sg55.next sg55.rows)) sg59 = true := by kernel_rfl
theorem r59 : okSt .normal (roundsZ envT 7 Tryz.f7.ntmps none callK loopK 4 (mkA sg59.tmps) (mkH sg59.next sg59.rows)) sg63 = true := by kernel_rfl
theorem r63 : okSt .normal (roundsZ envT 7 Tryz.f7.ntmps none callK loopK 2 (mkA sg63.tmps) (mkH sg63.next sg63.rows)) sg65 = true := by kernel_rfl
theorem rE : okSt (.exit 0) (loopZ lim (compC loopK envT 7 Tryz.f7.ntmps).run none callK (mkA sg65.tmps) (mkH sg65.next sg65.rows)) sg65 = true := by kernel_rfl
theorem rZ : okEnd envT Tryz.f7 ((compC restK envT 7 Tryz.f7.ntmps).run none callK (mkA sg65.tmps) (mkH sg65.next sg65.rows)) = true := by kernel_rfl
end Go.Proofs.YtldpojhenmdnpaaGreat
