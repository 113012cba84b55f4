/-
  Maps whose keys are numbers; going through a map.
-/
import Derived.Test.YtebheelmgcggmaaGreatAb30
namespace Go.Ab
set_option linter.unusedSimpArgs false
set_option linter.unusedVariables false
noncomputable def mkE (k : IntKind) (l : List (Int × Value × Nat)) : List AEnt := l.map fun x => ⟨.int k x.1, x.2.1, x.2.2⟩
noncomputable def idxI (n : Int) : List (Int × Value × Nat) → Nat → Option (Nat × Value)
  | [], _ => none
  | x :: l, i => bif n == x.1 then some (i, x.2.1) else idxI n l (i + 1)
section
variable {P : Program} {T : Tr TI} {h : AHeap}
variable {ρ : Operand → Option Value} {dst : Option Tmp} {ty : TypeId} {pos : String} {af : Array Edge} {g : Option (Nat × Bool)} {x y z : Operand} {u v w : Value} {t : TypeId} {h' : AHeap}
theorem so_makeFunc {fn : Fn} {xs ys : Array Operand} {us ws : List Value} (hf : noYield fn = true) (hx : aopnds ρ xs.toList = some us) (hy : aopnds ρ ys.toList = some ws) : aop P T ⟨dst, .makeFunc fn xs ys, ty, pos, af, g⟩ ρ h = some (.func fn us.toArray ws.toArray, h) := by simp only [aop, hx, hy, hf, cond_true]
theorem so_range {r : Value × AHeap} (hx : ρ x = some u) (hv : aRange T t u h = some r) : aop P T ⟨dst, .range t x, ty, pos, af, g⟩ ρ h = some r := by simp only [aop, hx, hv]
theorem so_makeInterface {ti : TI} (hx : ρ x = some v) (ht : T.get t = some ti) (hi : isIface ti.und = false) : aop P T ⟨dst, .makeInterface t x, ty, pos, af, g⟩ ρ h = some (.iface t v, h) := by simp only [aop, hx, ht, hi, cond_false]
theorem so_entry (hx : ρ x = some u) (hv : aEntry u h = some v) : aop P T ⟨dst, .entry x, ty, pos, af, g⟩ ρ h = some (v, h) := by simp only [aop, hx, hv, keep]
end
section
variable {P : Program} {T : Tr TI} {cx : Cx} {a : Tr Value} {h : AHeap} {ops : Array Oper} {os : List Oper} {R : Tr Value → AHeap → Prop} {dst : Option Tmp} {ty : TypeId} {pos : String} {af : Array Edge} {g : Option (Nat × Bool)} {x : Operand}
theorem OSuf.next (hg : aguard ops a ⟨dst, .next x false, ty, pos, af, g⟩ = some true) {r m since last clock : Nat} {seen : Array Nat} {es : List AEnt} (hx : aopnd a x = some (.pointer (some ⟨r, 0, none⟩))) (hr : h.get r = some (.mapIter (some m) since seen last)) (hm : h.get m = some (.map es clock))
    (hc : (!seen.isEmpty && !es.isEmpty && es.all (fun e => decide (e.born ≥ last))) = false)
    (t0 : (left es seen).filter (fun e => decide (e.born < since)) = [] → ∃ a1, aput cx.nt a dst (.tuple #[.bool false]) = some a1 ∧ OSuf P cx ops os a1 h R)
    (t1 : ∀ e ∈ left es seen, ∃ a1, aput cx.nt a dst (.tuple #[.bool true, e.key, e.val]) = some a1 ∧ OSuf P cx ops os a1 (h.set r (.mapIter (some m) since (seen.push e.born) clock)) R) :
    OSuf P cx ops (⟨dst, .next x false, ty, pos, af, g⟩ :: os) a h R := by
  refine OSuf.op hg rfl ?_
  intro μ ρ' w c cs hρ st
  have hv := hρ x _ hx
  simp only [execOp]
  rcases next_map (P := P) st hr hm hc hv ty with ⟨h1, h2⟩ | ⟨e, he, h2⟩
  · exact Lands.value h2 (t0 h1)
  · exact Lands.value h2 (t1 e he)
end
end Go.Ab
