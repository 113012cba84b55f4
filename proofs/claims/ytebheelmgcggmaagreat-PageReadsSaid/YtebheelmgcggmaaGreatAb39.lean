/-
  Comparing structs.
-/
import Derived.Test.YtebheelmgcggmaaGreatAb38
namespace Go.Ab
set_option linter.unusedSimpArgs false
set_option linter.unusedVariables false
section
variable {P : Program} {T : Tr TI}
inductive SEq (P : Program) (xs ys : Array Value) : List Field → Bool → Prop
  | nil : SEq P xs ys [] true
  | cons {f : Field} {fs : List Field} {x y : Value} {b c : Bool} (hn : f.name ≠ "_") (px : pureRun P (part f.type xs f.offset) = some x) (py : pureRun P (part f.type ys f.offset) = some y) (he : ∀ d, pureRun P (Op.equalIn (d + 1) f.type x y) = some b) (t : SEq P xs ys fs c) : SEq P xs ys (f :: fs) (b && c)
theorem eq_int {t : TypeId} {k : IntKind} {x y : Int} (u : P.underlying t = some (.int k)) : ∀ d, pureRun P (Op.equalIn (d + 1) t (.int k x) (.int k y)) = some (x == y) := fun d => by
  simp only [Op.equalIn, underlying, bind_assoc, pureRun_program, u, pure_bind, pureRun_pure, if_true]
theorem eq_bool {t : TypeId} {x y : Bool} (u : P.underlying t = some .bool) : ∀ d, pureRun P (Op.equalIn (d + 1) t (.bool x) (.bool y)) = some (x == y) := fun d => by
  simp only [Op.equalIn, underlying, bind_assoc, pureRun_program, u, pure_bind, pureRun_pure, if_true]
theorem eq_str {t : TypeId} {x y : ByteArray} (u : P.underlying t = some .string) : ∀ d, pureRun P (Op.equalIn (d + 1) t (.string x) (.string y)) = some (x == y) := fun d => by
  simp only [Op.equalIn, underlying, bind_assoc, pureRun_program, u, pure_bind, pureRun_pure, if_true]
theorem seq_run {t : TypeId} {fs : Array Field} {xs ys : Array Value} {b : Bool} (u : P.underlying t = some (.struct fs)) (u3 : P.stoodInHeld t = false) (hs : SEq P xs ys fs.toList b) : ∀ d, pureRun P (Op.equalIn (d + 1 + 1) t (.agg xs) (.agg ys)) = some b := fun d => by
  rw [Op.equalIn]
  simp only [underlying, bind_assoc, pureRun_program, u, pure_bind, u3, Bool.false_eq_true, if_false]
  rw [← Array.forIn_toList]
  obtain ⟨l, hl⟩ : ∃ l, l = fs.toList := ⟨_, rfl⟩
  rw [← hl] at hs ⊢
  clear hl u
  induction hs with
  | nil => simp [pureRun_pure]
  | @cons f fs x y b c hn px py he t ih =>
    simp only [List.forIn_cons, bind_assoc]
    rw [if_pos hn]
    simp only [bind_assoc]
    rw [pureRun_bind px, pureRun_bind py, pureRun_bind (he d)]
    cases b with
    | false => simp [pureRun_pure]
    | true =>
      simp only [Bool.not_true, Bool.false_eq_true, if_false, pure_bind, bind_assoc, Bool.true_and]
      exact ih
theorem seq_equal {t : TypeId} {fs : Array Field} {xs ys : Array Value} {b : Bool} (u : P.underlying t = some (.struct fs)) (u3 : P.stoodInHeld t = false) (hs : SEq P xs ys fs.toList b) : pureRun P (Op.equal t (.agg xs) (.agg ys)) = some b := seq_run u u3 hs 9998
theorem bi_sne {t : TypeId} {x y : Operand} {xs ys : Array Value} {b : Bool} (hf : (flat (.agg xs) && flat (.agg ys)) = true) (gt : P.eqGuardType P.depth t = false) (he : pureRun P (Op.equal t (.agg xs) (.agg ys)) = some b) : aBin P T .neq t x y (.agg xs) (.agg ys) = some (.bool (!b)) := by
  have hg : pureRun P (eqGuard .neq t x y (.agg xs) (.agg ys)) = some () := by
    simp only [eqGuard, pureRun_program, bind_assoc, pure_bind, gt]
    simp [pureRun_program, gt, pureRun_pure]
  have ee : pureRun P (do eqGuard .neq t x y (.agg xs) (.agg ys); binOp .neq t (.agg xs) (.agg ys)) = some (.bool (!b)) := by
    rw [pureRun_bind hg]
    show pureRun P (Op.equal t _ _ >>= fun r => pure (Value.bool (!r))) = _
    rw [pureRun_bind he]; rfl
  simp only [aBin, hf, cond_true, ee]; rfl
end
end Go.Ab
