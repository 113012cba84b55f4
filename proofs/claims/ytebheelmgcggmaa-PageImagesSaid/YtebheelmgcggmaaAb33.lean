/-
  Comparing: nothing with nothing, bools, strings.
-/
import Derived.Test.YtebheelmgcggmaaAb32
namespace Go.Ab
set_option linter.unusedSimpArgs false
set_option linter.unusedVariables false
section
variable {P : Program} {T : Tr TI} {h : AHeap} {t : TypeId} {x y : Operand}
theorem pureRun_bind {α β : Type} {f : α → Sem β} {a : α} : ∀ {s : Sem α}, pureRun P s = some a → pureRun P (s >>= f) = pureRun P (f a) := by
  intro s
  induction s with
  | pure b => intro hs; simp only [pureRun, Option.some.injEq] at hs; subst hs; rfl
  | program k ih => intro hs; simp only [pureRun] at hs; exact ih P hs
  | mark m k ih => intro hs; simp only [pureRun] at hs; exact ih hs
  | _ => intro hs; simp [pureRun] at hs
theorem equal_run {v w : Value} {b : Bool} (hd : ∀ d, pureRun P (Op.equalIn (d + 1) t v w) = some b) : pureRun P (Op.equal t v w) = some b := hd 9999
theorem bi_eq {v w : Value} {b : Bool} (hf : (flat v && flat w) = true) (hg : eqGuard .eql t x y v w = pure ()) (hb : binOp .eql t v w = (do pure (.bool (← Op.equal t v w)))) (he : pureRun P (Op.equal t v w) = some b) : aBin P T .eql t x y v w = some (.bool b) := by
  have e : pureRun P (do eqGuard .eql t x y v w; binOp .eql t v w) = some (.bool b) := by
    rw [hg, hb]
    show pureRun P (Op.equal t v w >>= fun r => pure (Value.bool r)) = _
    rw [pureRun_bind he]; rfl
  unfold aBin
  rw [hf, cond_true, e]; rfl
theorem bs_eql {a b : ByteArray} : aBin P T .eql t x y (.string a) (.string b) = some (.bool (a.toList == b.toList)) := by simp [aBin, flat, flat1, eqGuard, binOp, Op.stringOp, pureRun_pure]
theorem bs_neq {a b : ByteArray} : aBin P T .neq t x y (.string a) (.string b) = some (.bool (!(a.toList == b.toList))) := by simp [aBin, flat, flat1, eqGuard, binOp, Op.stringOp, pureRun_pure]
theorem bs_lss {a b : ByteArray} : aBin P T .lss t x y (.string a) (.string b) = some (.bool (Op.bytesLess a.toList b.toList)) := by simp [aBin, flat, flat1, eqGuard, binOp, Op.stringOp, pureRun_pure]
theorem bs_leq {a b : ByteArray} : aBin P T .leq t x y (.string a) (.string b) = some (.bool (Op.bytesLess a.toList b.toList || a.toList == b.toList)) := by simp [aBin, flat, flat1, eqGuard, binOp, Op.stringOp, pureRun_pure]
theorem bs_geq {a b : ByteArray} : aBin P T .geq t x y (.string a) (.string b) = some (.bool (!Op.bytesLess a.toList b.toList)) := by simp [aBin, flat, flat1, eqGuard, binOp, Op.stringOp, pureRun_pure]
end
end Go.Ab
