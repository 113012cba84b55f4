/-
  What each operation comes to, a lemma each, for walks over values that are not known.
-/
import Derived.Test.YtebheelmgcggmaaGreatAb22
namespace Go.Ab
set_option linter.unusedSimpArgs false
set_option linter.unusedVariables false
section
variable {P : Program} {T : Tr TI} {ρ : Operand → Option Value} {h h' : AHeap} {dst : Option Tmp} {ty : TypeId} {pos : String} {af : Array Edge} {g : Option (Nat × Bool)} {x y z : Operand} {u v : Value} {k : IntKind} {m n : Int} {t s : TypeId}
theorem so_move (hx : ρ x = some v) : aop P T ⟨dst, .move x, ty, pos, af, g⟩ ρ h = some (v, h) := by simp only [aop, hx, keep]
theorem so_assign (hx : ρ x = some v) : aop P T ⟨dst, .assign x, ty, pos, af, g⟩ ρ h = some (v, h) := by simp only [aop, hx, keep]
theorem so_pick {b : Bool} (hx : ρ x = some (.bool b)) (hv : (bif b then ρ y else ρ z) = some v) : aop P T ⟨dst, .pick x y z, ty, pos, af, g⟩ ρ h = some (v, h) := by simp only [aop, hx, hv, keep]
theorem so_nilCheck {p : Addr} (hx : ρ x = some (.pointer (some p))) : aop P T ⟨dst, .nilCheck x, ty, pos, af, g⟩ ρ h = some (.pointer (some p), h) := by simp only [aop, hx, aNilCheck, keep]
theorem so_load (hx : ρ x = some u) (hv : aLoad T t u h = some v) : aop P T ⟨dst, .load t x, ty, pos, af, g⟩ ρ h = some (v, h) := by simp only [aop, hx, hv, keep]
theorem so_store (hx : ρ x = some u) (hy : ρ y = some v) (hv : aStore T t u v h = some h') : aop P T ⟨dst, .store t x y, ty, pos, af, g⟩ ρ h = some (.tuple #[], h') := by simp only [aop, hx, hy, hv, unit]
theorem so_fieldAddr {f : Nat} (hx : ρ x = some u) (hv : aFieldAddr T s u f = some v) : aop P T ⟨dst, .fieldAddr s x f, ty, pos, af, g⟩ ρ h = some (v, h) := by simp only [aop, hx, hv, keep]
theorem so_indexAddr {w : Value} (hx : ρ x = some u) (hy : ρ y = some w) (hv : aIndexAddr T s u w = some v) : aop P T ⟨dst, .indexAddr s x y, ty, pos, af, g⟩ ρ h = some (v, h) := by simp only [aop, hx, hy, hv, keep]
theorem so_index {w : Value} (hx : ρ x = some u) (hy : ρ y = some w) (hv : aIndex T s u w = some v) : aop P T ⟨dst, .index s x y, ty, pos, af, g⟩ ρ h = some (v, h) := by simp only [aop, hx, hy, hv, keep]
theorem so_extract {i : Nat} (hx : ρ x = some u) (hv : aExtract u i = some v) : aop P T ⟨dst, .extract x i, ty, pos, af, g⟩ ρ h = some (v, h) := by simp only [aop, hx, hv, keep]
theorem so_box (hx : ρ x = some v) : aop P T ⟨dst, .box t x, ty, pos, af, g⟩ ρ h = some (.pointer (some ⟨h.next, 0, none⟩), h.new (.cells v.cells.toList 1)) := by simp only [aop, hx, aBox]
theorem so_alloc {r : Value × AHeap} (hv : aAlloc T t h = some r) : aop P T ⟨dst, .alloc t, ty, pos, af, g⟩ ρ h = some r := by simp only [aop, hv]
theorem so_build {ps : Array (Nat × Operand)} {qs : List (Nat × Value)} (hx : aparts ρ ps.toList = some qs) (hv : aBuild T t qs = some v) : aop P T ⟨dst, .build t ps, ty, pos, af, g⟩ ρ h = some (v, h) := by simp only [aop, hx, hv, keep]
theorem so_buildSlice {ps : Array (Nat × Operand)} {len : Nat} {qs : List (Nat × Value)} {r : Value × AHeap} (hx : aparts ρ ps.toList = some qs) (hv : aBuildSlice T t len qs h = some r) : aop P T ⟨dst, .buildSlice t len ps, ty, pos, af, g⟩ ρ h = some r := by simp only [aop, hx, hv]
theorem so_slice {lo hi mx : Option Operand} {l r o : Option Value} (hx : ρ x = some u) (hl : oopnd ρ lo = some l) (hr : oopnd ρ hi = some r) (ho : oopnd ρ mx = some o) (hv : aSlice T t u l r o h = some v) : aop P T ⟨dst, .slice t x lo hi mx, ty, pos, af, g⟩ ρ h = some (v, h) := by simp only [aop, hx, hl, hr, ho, hv, keep]
theorem so_len {ats : Array TypeId} {xs : Array Operand} (hx : aopnds ρ xs.toList = some [u]) (hv : aLenOf T ats u h = some v) : aop P T ⟨dst, .call ⟨.builtin .len, xs, ats⟩, ty, pos, af, g⟩ ρ h = some (v, h) := by simp only [aop, hx, aBuiltin, hv, keep]
theorem so_append {ats : Array TypeId} {xs : Array Operand} {w : Value} {r : Value × AHeap} (hx : aopnds ρ xs.toList = some [u, w]) (hv : aAppend T ats u w h = some r) : aop P T ⟨dst, .call ⟨.builtin .append, xs, ats⟩, ty, pos, af, g⟩ ρ h = some r := by simp only [aop, hx, aBuiltin, hv]
theorem so_bin {op : BinOp} {w : Value} {t2 : TypeId} (hx : ρ x = some u) (hy : ρ y = some w) (hv : aBin P T op t x y u w = some v) : aop P T ⟨dst, .binOp op t x y t2, ty, pos, af, g⟩ ρ h = some (v, h) := by simp only [aop, hx, hy, hv, keep]
theorem pureRun_pure {α : Type} (a : α) : pureRun P (pure a : Sem α) = some a := rfl
theorem bi_add : aBin P T .add t x y (.int k m) (.int k n) = some (.int k (k.wrap (m + n))) := by simp [aBin, flat, flat1, eqGuard, binOp, Op.intArith, pureRun_pure]
theorem bi_sub : aBin P T .sub t x y (.int k m) (.int k n) = some (.int k (k.wrap (m - n))) := by simp [aBin, flat, flat1, eqGuard, binOp, Op.intArith, pureRun_pure]
theorem bi_mul : aBin P T .mul t x y (.int k m) (.int k n) = some (.int k (k.wrap (m * n))) := by simp [aBin, flat, flat1, eqGuard, binOp, Op.intArith, pureRun_pure]
theorem bi_eql : aBin P T .eql t x y (.int k m) (.int k n) = some (.bool (m == n)) := by simp [aBin, flat, flat1, eqGuard, binOp, Op.intCmp, pureRun_pure]
theorem bi_neq : aBin P T .neq t x y (.int k m) (.int k n) = some (.bool (m != n)) := by simp [aBin, flat, flat1, eqGuard, binOp, Op.intCmp, pureRun_pure]
theorem bi_lss : aBin P T .lss t x y (.int k m) (.int k n) = some (.bool (decide (m < n))) := by simp [aBin, flat, flat1, eqGuard, binOp, Op.intCmp, pureRun_pure]
theorem bi_leq : aBin P T .leq t x y (.int k m) (.int k n) = some (.bool (decide (m ≤ n))) := by simp [aBin, flat, flat1, eqGuard, binOp, Op.intCmp, pureRun_pure]
theorem bi_gtr : aBin P T .gtr t x y (.int k m) (.int k n) = some (.bool (decide (m > n))) := by simp [aBin, flat, flat1, eqGuard, binOp, Op.intCmp, pureRun_pure]
theorem bi_geq : aBin P T .geq t x y (.int k m) (.int k n) = some (.bool (decide (m ≥ n))) := by simp [aBin, flat, flat1, eqGuard, binOp, Op.intCmp, pureRun_pure]
theorem bi_quo (hn : n ≠ 0) : aBin P T .quo t x y (.int k m) (.int k n) = some (.int k (k.wrap (m.tdiv n))) := by simp [aBin, flat, flat1, eqGuard, binOp, Op.intDiv, pureRun_pure, hn]
theorem bi_nnil {r : Addr} (ht : ∃ ti e, T.get t = some ti ∧ ti.und = .pointer e) : aBin P T .neq t x y (.pointer (some r)) (.pointer none) = some (.bool true) := by
  obtain ⟨ti, e, h1, h2⟩ := ht
  simp [aBin, flat, flat1, isCmp, aEq, h1, h2, noGuard]
theorem pureRun_program {α : Type} (f : Program → Sem α) : pureRun P (program >>= f) = pureRun P (f P) := rfl
theorem so_conv (ok : TyOK P T) {k' : IntKind} {si di : TI} (hx : ρ x = some (.int k' n)) (hs : T.get s = some si) (hsu : ∃ j, si.und = .int j) (hd : T.get t = some di) (hdu : di.und = .int k) :
    aop P T ⟨dst, .convert s t x, ty, pos, af, g⟩ ρ h = some (.int k (k.wrap n), h) := by
  obtain ⟨j, hj⟩ := hsu
  obtain ⟨_, _, _, _, _, u1⟩ := ok.ok s si hs
  obtain ⟨_, _, _, _, _, u2⟩ := ok.ok t di hd
  have e : pureRun P (convert s t (.int k' n)) = some (.int k (k.wrap n)) := by
    rw [hj] at u1
    rw [hdu] at u2
    simp only [convert, underlying, bind_assoc, pureRun_program, u1, u2, pure_bind, Conv.intToInt, pureRun_pure]
  simp only [aop, hx, aConv, hs, hd, hj, hdu, aPure, flat, flat1, cond_true, e, keep]
theorem aguard_of {ops : Array Oper} {a : Tr Value} {o : Oper} {j : Nat} {want b r : Bool} {d : Tmp} (h1 : o.guard = some (j, want)) (h2 : (ops[j]?).bind (·.dst) = some d) (h3 : a.get d = some (.bool b)) (h4 : (b == want) = r) : aguard ops a o = some r := by
  simp only [aguard, h1, h2, h3, h4]
end
end Go.Ab
