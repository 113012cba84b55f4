/-
  Short names for the steps of walks.
-/
import Derived.Test.YtebheelmgcggmaaGreatTy
import Derived.Test.YtebheelmgcggmaaGreatAb39
namespace Go.Proofs.YtebheelmgcggmaaGreat
open Go.Ab
set_option linter.unusedVariables false
section
variable {cx : Cx} {a : Tr Value} {h : AHeap} {Q : AExit → Tr Value → AHeap → Prop} {ops : Array Oper} {o : Oper} {os : List Oper} {h1 : AHeap} {v : Value} {a1 : Tr Value} {R : Tr Value → AHeap → Prop} {b : Bool} {F : Bool → Tr Value}
theorem Oa (hg : aguard ops a o = some true) (ho : Ab.aop Tryz.prog T o (aopnd a) h = some (v, h1)) (hp : aput cx.nt a o.dst v = some a1) (t : OSuf Tryz.prog cx ops os a1 h1 R) : OSuf Tryz.prog cx ops (o :: os) a h R := OSuf.aop tyOK hg ho hp t
theorem Ot (hg : aguard ops a o = some true) (ho : Ab.aop Tryz.prog T o (aopnd a) h = some (.bool b, h1)) (hp : aput cx.nt a o.dst (.bool true) = some a1) (hb : b = true) (t : OSuf Tryz.prog cx ops os a1 h1 R) : OSuf Tryz.prog cx ops (o :: os) a h R := by subst hb; exact OSuf.aop tyOK hg ho hp t
theorem Of (hg : aguard ops a o = some true) (ho : Ab.aop Tryz.prog T o (aopnd a) h = some (.bool b, h1)) (hp : aput cx.nt a o.dst (.bool false) = some a1) (hb : b = false) (t : OSuf Tryz.prog cx ops os a1 h1 R) : OSuf Tryz.prog cx ops (o :: os) a h R := by subst hb; exact OSuf.aop tyOK hg ho hp t
theorem Otb (hg : aguard ops a o = some true) (ho : Ab.aop Tryz.prog T o (aopnd a) h = some (.bool b, h1)) (hp : aput cx.nt a o.dst (.bool true) = some a1) (t : OSuf Tryz.prog cx ops os a1 h1 R) (hb : b = true := by first | rfl | assumption | ((simp only [bl]) <;> first | done | assumption | omega) | (simp; done) | (simp; omega)) : OSuf Tryz.prog cx ops (o :: os) a h R := by subst hb; exact OSuf.aop tyOK hg ho hp t
theorem Ofb (hg : aguard ops a o = some true) (ho : Ab.aop Tryz.prog T o (aopnd a) h = some (.bool b, h1)) (hp : aput cx.nt a o.dst (.bool false) = some a1) (t : OSuf Tryz.prog cx ops os a1 h1 R) (hb : b = false := by first | rfl | assumption | ((simp only [bl]) <;> first | done | assumption | omega) | (simp; done) | (simp; omega)) : OSuf Tryz.prog cx ops (o :: os) a h R := by subst hb; exact OSuf.aop tyOK hg ho hp t
theorem On {z : Code} (hc : CWp Tryz.prog cx z a h Q) : OSuf Tryz.prog cx ops [] a h fun a' h' => SQ Tryz.prog cx z Q .normal a' h' := OSuf.nil (SQ.normal hc)
theorem Sa (hg : aguard ops a o = some true) (ho : Ab.aop Tryz.prog T o (aopnd a) h = some (v, h1)) (hp : aput cx.nt a o.dst v = some a1) (t : SqW Tryz.prog T cx ops os a1 h1 R) : SqW Tryz.prog T cx ops (o :: os) a h R := SqW.aop hg ho hp t
theorem Sn {z : Code} (hc : CWp Tryz.prog cx z a h Q) : SqW Tryz.prog T cx ops [] a h fun a' h' => SQ Tryz.prog cx z Q .normal a' h' := SqW.nil (SQ.normal hc)
theorem Wr {id : Nat} {z : Code} (hr : OSuf Tryz.prog cx ops ops.toList a h fun a' h' => SQ Tryz.prog cx z Q .normal a' h') : CWp Tryz.prog cx (.seq (.region id ops false) z) a h Q := W.seq (W.reg hr)
theorem St (hg : aguard ops a o = some true) (ho : Ab.aop Tryz.prog T o (aopnd a) h = some (.bool b, h1)) (hp : aput cx.nt a o.dst (.bool true) = some a1) (hb : b = true) (t : SqW Tryz.prog T cx ops os a1 h1 R) : SqW Tryz.prog T cx ops (o :: os) a h R := by subst hb; exact SqW.aop hg ho hp t
theorem Sf (hg : aguard ops a o = some true) (ho : Ab.aop Tryz.prog T o (aopnd a) h = some (.bool b, h1)) (hp : aput cx.nt a o.dst (.bool false) = some a1) (hb : b = false) (t : SqW Tryz.prog T cx ops os a1 h1 R) : SqW Tryz.prog T cx ops (o :: os) a h R := by subst hb; exact SqW.aop hg ho hp t
theorem Wd {id : Nat} {z : Code} (hr : SqW Tryz.prog T cx ops ops.toList a h fun a' h' => SQ Tryz.prog cx z Q .normal a' h') (hs : Ab.anyOrder T ops cx.nt = true := by kernel_rfl) : CWp Tryz.prog cx (.seq (.region id ops true) z) a h Q := W.seq (W.regD tyOK mixed hs hr)
theorem Pa (hg : aguard ops a o = some false) (hp : aput cx.nt a o.dst (.tuple #[]) = some a1) (t : OSuf Tryz.prog cx ops os a1 h R) : OSuf Tryz.prog cx ops (o :: os) a h R := OSuf.pass hg hp t
theorem Pb (hg : aguard ops a o = some false) (hp : aput cx.nt a o.dst (.tuple #[]) = some a1) (t : SqW Tryz.prog T cx ops os a1 h R) : SqW Tryz.prog T cx ops (o :: os) a h R := SqW.pass hg hp t
theorem Wy {c : Operand} {x y : Code} (h1 : CWp Tryz.prog cx x a h Q) (hc : aopnd a c = some (.bool true) := by simp only [lk] <;> rfl) : CWp Tryz.prog cx (.cond c x y) a h Q := W.yes hc h1
theorem Wn {c : Operand} {x y : Code} (h1 : CWp Tryz.prog cx y a h Q) (hc : aopnd a c = some (.bool false) := by simp only [lk] <;> rfl) : CWp Tryz.prog cx (.cond c x y) a h Q := W.no hc h1
end
section
variable {h : AHeap} {ρ : Operand → Option Value} {dst : Option Tmp} {ty : TypeId} {pos : String} {af : Array Edge} {g : Option (Nat × Bool)} {x y z : Operand} {u v : Value} {b : Bool} {t : TypeId}
theorem Zp (hx : ρ x = some (.bool b) := by simp only [lk] <;> rfl) (hv : (bif b then ρ y else ρ z) = some v := by simp only [lk, cond_true, cond_false] <;> rfl) : aop Tryz.prog T ⟨dst, .pick x y z, ty, pos, af, g⟩ ρ h = some (v, h) := so_pick hx hv
theorem Zx (hx : ρ x = some v := by simp only [lk] <;> rfl) : aop Tryz.prog T ⟨dst, .box t x, ty, pos, af, g⟩ ρ h = some (.pointer (some ⟨h.next, 0, none⟩), h.new (.cells v.cells.toList 1)) := so_box hx
theorem Zt (hx : ρ x = some (.bool b) := by simp only [lk] <;> rfl) : aop Tryz.prog T ⟨dst, .unOp .not t x, ty, pos, af, g⟩ ρ h = some (.bool (!b), h) := so_not hx
theorem Zn {ats : Array TypeId} {xs : Array Operand} (hx : aopnds ρ xs.toList = some [u] := by simp only [aopnds, lk] <;> rfl) (hv : aLenOf T ats u h = some v) : aop Tryz.prog T ⟨dst, .call ⟨.builtin .len, xs, ats⟩, ty, pos, af, g⟩ ρ h = some (v, h) := so_len hx hv
end
theorem lq : (∀ ρ : Operand → Option Value, aopnds ρ [] = some []) ∧ (∀ (ρ : Operand → Option Value) (x : Operand) (l : List Operand), aopnds ρ (x :: l) = match ρ x, aopnds ρ l with | some v, some vs => some (v :: vs) | _, _ => none) := ⟨fun _ => rfl, fun _ _ _ => rfl⟩
theorem zN {h : AHeap} {q : Nat} {o : AObj} (e : ¬ h.next = q) : (h.new o).get q = h.get q := AHeap.get_new_ne e
theorem zP {h : AHeap} {r : Nat} {o : AObj} : (h.set r o).get r = some o := AHeap.get_set_same _ _ _
theorem zQ {h : AHeap} {o : AObj} : (h.new o).get h.next = some o := AHeap.get_new_same _ _
theorem zS {h : AHeap} {r q : Nat} {o : AObj} (e : ¬ r = q) : (h.set r o).get q = h.get q := AHeap.get_set_ne e
end Go.Proofs.YtebheelmgcggmaaGreat
