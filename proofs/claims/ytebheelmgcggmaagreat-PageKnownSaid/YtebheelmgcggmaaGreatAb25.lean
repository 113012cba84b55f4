/-
  Appending, in words that suit a walk over values that are not known.
-/
import Derived.Test.YtebheelmgcggmaaGreatAb24
namespace Go.Ab
set_option linter.unusedSimpArgs false
set_option linter.unusedVariables false
section
variable {P : Program} {T : Tr TI} {h : AHeap}
theorem cellsOf_mk {vs : List Value} {off n : Nat} (hb : off + n ≤ vs.length) : cellsOf vs off n = some ((vs.drop off).take n) := by
  simp only [cellsOf]; rw [Nat.ble_eq_true_of_le hb]; rfl
theorem cellsOf_all {vs : List Value} {n : Nat} (hb : vs.length = n) : cellsOf vs 0 n = some vs := by
  rw [cellsOf_mk (by omega)]; simp [← hb]
theorem ap_u {ats : Array TypeId} {A : AppT} {r off len k : Nat} {x : Value} {vs new old : List Value} (ha : appT T ats = some A) (hl : aLen x = some k) (hx : aCells h A.size k x = some new) (hb : (2 * (len + k) + 256) * A.bytes ≤ 281474976710656) (hk : Nat.beq k 0 = false)
    (hr : h.get r = some (.cells vs A.size)) (ho : oneCells new = true) (hc : cellsOf vs off (len * A.size) = some old) :
    aAppend T ats (.slice (some ⟨r, off, none⟩) len 0) x h = some (.slice (some ⟨h.next, 0, none⟩) (len + k) 0, (h.kill r).new (.cells (old ++ new) A.size)) := by
  have e : Nat.beq A.size A.size = true := Nat.beq_refl _
  simp only [aAppend, ha, hl, hx, vLen, Nat.ble_eq_true_of_le hb, cond_true, hk, cond_false, hr, e, ho, Bool.and_self, hc]
theorem ap_0 {ats : Array TypeId} {A : AppT} {k : Nat} {x : Value} {new : List Value} (ha : appT T ats = some A) (hl : aLen x = some k) (hx : aCells h A.size k x = some new) (hb : (2 * (0 + k) + 256) * A.bytes ≤ 281474976710656) (hk : Nat.beq k 0 = false) :
    aAppend T ats (.slice none 0 0) x h = some (.slice (some ⟨h.next, 0, none⟩) k 0, h.new (.cells new A.size)) := by
  simp only [aAppend, ha, hl, hx, vLen, Nat.ble_eq_true_of_le hb, cond_true, hk, cond_false]
theorem fa_ok {s : TypeId} {f k r off : Nat} {ti fi : TI} {fs : Array Field} {fd : Field} (h1 : T.get s = some ti) (h2 : ti.und = .struct fs) (h3 : fs[f]? = some fd) (h4 : T.get fd.type = some fi) (h5 : Nat.beq fi.size 0 = false) (h6 : fd.offset = k) :
    aFieldAddr T s (.pointer (some ⟨r, off, none⟩)) f = some (.pointer (some ⟨r, off + k, none⟩)) := by
  simp only [aFieldAddr, h1, h2, h3, h4, h5, cond_false, h6]
theorem so_not {ρ : Operand → Option Value} {dst : Option Tmp} {ty t : TypeId} {pos : String} {af : Array Edge} {g : Option (Nat × Bool)} {x : Operand} {b : Bool} (hx : ρ x = some (.bool b)) : aop P T ⟨dst, .unOp .not t x, ty, pos, af, g⟩ ρ h = some (.bool (!b), h) := by
  simp only [aop, hx, aPure, flat, flat1, cond_true, Op.unary, pureRun_pure, keep]
theorem so_min {ρ : Operand → Option Value} {dst : Option Tmp} {ty : TypeId} {pos : String} {af : Array Edge} {g : Option (Nat × Bool)} {xs : Array Operand} {ats : Array TypeId} {k : IntKind} {m n : Int} (hx : aopnds ρ xs.toList = some [.int k m, .int k n]) :
    aop P T ⟨dst, .call ⟨.builtin .min, xs, ats⟩, ty, pos, af, g⟩ ρ h = some (.int k (if n < m then n else m), h) := by
  simp [aop, hx, aBuiltin, aPure, flat, flat1, Builtin.min_, Builtin.min2, pureRun_pure, keep]
theorem so_max {ρ : Operand → Option Value} {dst : Option Tmp} {ty : TypeId} {pos : String} {af : Array Edge} {g : Option (Nat × Bool)} {xs : Array Operand} {ats : Array TypeId} {k : IntKind} {m n : Int} (hx : aopnds ρ xs.toList = some [.int k m, .int k n]) :
    aop P T ⟨dst, .call ⟨.builtin .max, xs, ats⟩, ty, pos, af, g⟩ ρ h = some (.int k (if n > m then n else m), h) := by
  simp [aop, hx, aBuiltin, aPure, flat, flat1, Builtin.max_, Builtin.max2, pureRun_pure, keep]
theorem FWp.gcs {f : FuncId} {args : List Value} {v : Value} (hv : BV h.next v) (hf : FWp P f args h fun u h' => u = v ∧ ∀ r o, r < h.next → h.get r = some o → h'.get r = some o) : FWp P f args h fun u h' => u = v ∧ h' = h := by
  intro μ args' w hl st
  refine (hf μ args' w hl st).mono ?_
  rintro e w' ⟨u, v', h', μ', rfl, ⟨rfl, hg⟩, x, hr⟩
  refine ⟨u, v', h, μ, rfl, ⟨rfl, rfl⟩, Ext.old st x rfl (fun r o ho => ⟨(st.live r o ho).1, hg r o (st.live r o ho).1 ho, .inl ho⟩), ?_⟩
  obtain ⟨_, _, g⟩ := hv
  exact VRel.mono (n := h.next) (fun q hq => (x.agree q hq).symm) (Nat.le_refl _) (g.narrow hr)
end
end Go.Ab
