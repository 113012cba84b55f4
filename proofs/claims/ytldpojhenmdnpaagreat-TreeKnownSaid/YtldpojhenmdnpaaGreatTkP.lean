/-
  The run in pieces: the first ones.
-/
import Derived.Test.YtldpojhenmdnpaaGreatTkS
namespace Go.Proofs.YtldpojhenmdnpaaGreat
open Go.Ab Go.Ab.Nx Go.Ab.Nx.Zx Go.Ab.Nx.Lx Go.Ab.Nx.Sx Go.Ab.Nx.Dx Go.Ab.Nx.Mx
set_option maxRecDepth 1000000
theorem r0 : okSt .normal (chainZ envT 7 Tryz.f7.ntmps none callK (takeS 6 bodyK) (.leaf) ⟨0, .leaf⟩) sg0 = true := by kernel_rfl
theorem rF : okSt .normal ((compC firstK envT 7 Tryz.f7.ntmps).run none callK (mkA sg0.tmps) (mkH sg0.next sg0.rows)) sg1 = true := by kernel_rfl
theorem r1 : okSt .normal (roundsZ envT 7 Tryz.f7.ntmps none callK loopK 22 (mkA sg1.tmps) (mkH sg1.next sg1.rows)) sg23 = true := by kernel_rfl
theorem r23 : okSt .normal (roundsZ envT 7 Tryz.f7.ntmps none callK loopK 9 (mkA sg23.tmps) (mkH sg23.next sg23.rows)) sg32 = true := by kernel_rfl
theorem r32 : okSt .normal (roundsZ envT 7 Tryz.f7.ntmps none callK loopK 7 (mkA sg32.tmps) (mkH sg32.next sg32.rows)) sg39 = true := by kernel_rfl
theorem r39 : okSt .normal (roundsZ envT 7 Tryz.f7.ntmps none callK loopK 6 (mkA sg39.tmps) (mkH sg39.next sg39.rows)) sg45 = true := by kernel_rfl
theorem r45 : okSt .normal (roundsZ envT 7 Tryz.f7.ntmps none callK loopK 5 (mkA sg45.tmps) (mkH sg45.next sg45.rows)) sg50 = true := by kernel_rfl
end Go.Proofs.YtldpojhenmdnpaaGreat
