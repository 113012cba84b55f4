/-
  Comparing: nothing with nothing, bools, strings.
-/
import Derived.Test.YtebheelmgcggmaaGreatAb32
namespace Go.Ab
set_option linter.unusedSimpArgs false
set_option linter.unusedVariables false
section
variable {P : Program} {T : Tr TI} {h : AHeap} {t : TypeId} {x y : Operand}
theorem bs_eql {a b : ByteArray} : aBin P T .eql t x y (.string a) (.string b) = some (.bool (a.toList == b.toList)) := by simp [aBin, flat, flat1, eqGuard, binOp, Op.stringOp, pureRun_pure]
theorem bs_neq {a b : ByteArray} : aBin P T .neq t x y (.string a) (.string b) = some (.bool (!(a.toList == b.toList))) := by simp [aBin, flat, flat1, eqGuard, binOp, Op.stringOp, pureRun_pure]
theorem bs_lss {a b : ByteArray} : aBin P T .lss t x y (.string a) (.string b) = some (.bool (Op.bytesLess a.toList b.toList)) := by simp [aBin, flat, flat1, eqGuard, binOp, Op.stringOp, pureRun_pure]
theorem bs_leq {a b : ByteArray} : aBin P T .leq t x y (.string a) (.string b) = some (.bool (Op.bytesLess a.toList b.toList || a.toList == b.toList)) := by simp [aBin, flat, flat1, eqGuard, binOp, Op.stringOp, pureRun_pure]
theorem bs_geq {a b : ByteArray} : aBin P T .geq t x y (.string a) (.string b) = some (.bool (!Op.bytesLess a.toList b.toList)) := by simp [aBin, flat, flat1, eqGuard, binOp, Op.stringOp, pureRun_pure]
end
end Go.Ab
