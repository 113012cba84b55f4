/-
  Contracts of the package table: Clone, versions.
-/
import Derived.Test.YtldhcjfhlfgleaaTableC
namespace Go.Proofs.Ytldhcjfhlfgleaa
open Go.Ab
set_option linter.unusedSimpArgs false
set_option linter.unusedVariables false
set_option maxRecDepth 10000
set_option maxHeartbeats 4000000

/-- Versions that are read. -/
inductive AVs (h : AHeap) : List Vr → Value → Prop
  | nil : AVs h [] (.slice none 0 0)
  | emp {y off c : Nat} : AVs h [] (.slice (some ⟨y, off, none⟩) 0 c)
  | some {V : List Vr} {y off c : Nat} {vs : List Value} (hne : V ≠ []) (hy : y < h.next) (hg : rowOf h y = some vs) (hc : cellsOf vs off (V.length * 5) = some (flatV V)) : AVs h V (.slice (some ⟨y, off, none⟩) V.length c)
theorem flatV_length : ∀ l : List Vr, (flatV l).length = l.length * 5
  | [] => rfl
  | o :: l => by simp only [flatV, List.length_append, flatV_length l, List.length_cons, Vr.cs, List.length_nil]; omega
theorem avo_avs {h : AHeap} {V : List Vr} {v : Value} (a : AVo h V v) : AVs h V v := by
  cases a with
  | nil => exact .nil
  | emp hy => exact .emp
  | some hne hy hg => exact .some hne hy (by simp only [rowOf, hg]) (cellsOf_all (by rw [flatV_length]))
theorem bs_nil0 {P : Program} {T : Tr TI} (ok : TyOK P T) {t : TypeId} {x y : Operand} (ht : ∃ ti e, T.get t = some ti ∧ ti.und = .slice e) : aBin P T .eql t x y (.slice none 0 0) (.slice none 0 0) = some (.bool true) := by
  obtain ⟨ti, e, h1, h2⟩ := ht
  obtain ⟨_, _, _, _, _, u⟩ := ok.ok t ti h1
  rw [h2] at u
  refine bi_eq rfl rfl rfl (equal_run fun d => ?_)
  simp only [Op.equalIn, underlying, bind_assoc, pureRun_program, u, pure_bind, pureRun_pure, Option.isNone]
theorem bs_nil {P : Program} {T : Tr TI} {t : TypeId} {x y : Operand} {a : Addr} {n c : Nat} (ht : ∃ ti e, T.get t = some ti ∧ ti.und = .slice e) : aBin P T .eql t x y (.slice (some a) n c) (.slice none 0 0) = some (.bool false) := by
  obtain ⟨ti, e, h1, h2⟩ := ht
  simp only [aBin, flat, flat1, Bool.and_true, Bool.false_and, cond_false, isCmp, aEq, h1, h2]
  rfl
theorem clone_nil (h : AHeap) : FWp Try.prog 29 [.slice none 0 0] h fun u h' => u = .slice none 0 0 ∧ h' = h := by
  refine W.enter tyOK Try.func29 rfl rfl ?_
  simp only [entry]
  refine W.seq <| W.reg <| OSuf.aop tyOK rfl (so_assign (by simp only [lk] <;> rfl)) rfl <| OSuf.nil <| SQ.normal ?_
  refine W.seq <| W.seq <| W.reg <| OSuf.aop tyOK rfl sm rfl <| OSuf.aopT tyOK rfl (so_bin (by simp only [lk] <;> rfl) (by simp only [lk] <;> rfl) (bs_nil0 tyOK ⟨_, _, ty31, rfl⟩)) (fun _ => rfl) (by first | rfl | assumption | ((simp only [bl]) <;> first | done | assumption | omega) | (simp; done) | (simp; omega)) <| OSuf.nil <| SQ.normal ?_
  refine W.yes (by simp only [lk] <;> rfl) <| W.seq <| W.reg <| OSuf.aop tyOK rfl (so_assign (by simp only [lk] <;> rfl)) rfl <| OSuf.nil <| SQ.normal ?_
  refine CWp.ret <| SQ.ret <| FQ.ret (by simp only [aRet, Try.f29, aResults, aResult, lk, Nat.reduceEqDiff, reduceIte] <;> rfl) ?_
  -- leaf: end
  exact ⟨rfl, rfl⟩
theorem aCells_of {h : AHeap} {r off n len size c : Nat} {vs new : List Value} (hr : rowOf h r = some vs) (hl : n ≤ len) (hc : cellsOf vs off (n * size) = some new) : aCells h size n (.slice (some ⟨r, off, none⟩) len c) = some new := by
  cases e1 : Nat.beq (n * size) 0 with
  | false => simp only [aCells, e1, cond_false, Nat.ble_eq_true_of_le hl, cond_true, hr, hc]
  | true =>
    have e2 := Nat.eq_of_beq_eq_true e1
    rw [e2] at hc
    have := (cellsOf_some hc).2.1
    simp only [List.take_zero] at this
    simp only [aCells, e1, cond_true, this]
/-- To a slice without room. -/
theorem ap_k0 {T : Tr TI} {h : AHeap} {ats : Array TypeId} {A : AppT} {r k : Nat} {x : Value} {new : List Value} (ha : appT T ats = some A) (hl : aLen x = some k) (hx : aCells h A.size k x = some new) (hb : (2 * (0 + k) + 256) * A.bytes ≤ 281474976710656) (hk : Nat.beq k 0 = false) :
    aAppend T ats (.slice (some ⟨r, 0, none⟩) 0 1) x h = some (.slice (some ⟨h.next, 0, none⟩) k 0, h.new (.cells new A.size)) := by
  have e : Nat.ble (0 + k) 0 = false := by
    cases k with
    | zero => cases hk
    | succ k => rw [Nat.zero_add]; rfl
  have e0 : Nat.beq (0 * A.size) 0 = true := by rw [Nat.zero_mul]; rfl
  have e2 : sCells h A.size (.slice (some ⟨r, 0, none⟩) 0 1) = some [] := by simp only [sCells, aCells, e0, cond_true]
  simp only [aAppend, ha, hl, hx, vLen, Nat.ble_eq_true_of_le hb, cond_true, e, cond_false, e2, List.nil_append]
  rw [Nat.zero_add]
theorem ap_n0 {T : Tr TI} {h : AHeap} {ats : Array TypeId} {A : AppT} {r : Nat} {x : Value} (ha : appT T ats = some A) (hl : aLen x = some 0) (hx : aCells h A.size 0 x = some []) (hb : (2 * (0 + 0) + 256) * A.bytes ≤ 281474976710656) :
    aAppend T ats (.slice (some ⟨r, 0, none⟩) 0 1) x h = some (.slice (some ⟨r, 0, none⟩) 0 1, h) := by
  have e : Nat.ble (0 + 0) 0 = true := rfl
  have e1 : Nat.beq 0 0 = true := rfl
  simp only [aAppend, ha, hl, hx, vLen, Nat.ble_eq_true_of_le hb, cond_true, e, e1]
/-- A list of versions is cloned. -/
theorem clone_c (h : AHeap) (V : List Vr) (v : Value) (hs : AVs h V v) (hl : V.length ≤ 1000000) : ∃ u H, FWp Try.prog 29 [v] h (fun u' h' => u' = u ∧ h' = H) ∧ AVo H V u ∧ h.next ≤ H.next ∧ (∀ z, z < h.next → H.get z = h.get z) ∧ (V = [] → avRow u = none ∨ True) := by
  cases hs with
  | nil => exact ⟨_, _, clone_nil h, .nil, Nat.le_refl _, fun _ _ => rfl, fun _ => .inr trivial⟩
  | @emp y off c =>
    refine ⟨.slice (some ⟨h.next, 0, none⟩) 0 1, h.new (.cells [] 5), ?_, .emp (by simp), by simp, fun z hz => AHeap.get_new_ne (by omega), fun _ => .inr trivial⟩
    refine W.enter tyOK Try.func29 rfl rfl ?_
    simp only [entry]
    refine W.seq <| W.reg <| OSuf.aop tyOK rfl (so_assign (by simp only [lk] <;> rfl)) rfl <| OSuf.nil <| SQ.normal ?_
    refine W.seq <| W.seq <| W.reg <| OSuf.aop tyOK rfl sm rfl <| OSuf.aopF tyOK rfl (so_bin (by simp only [lk] <;> rfl) (by simp only [lk] <;> rfl) (bs_nil ⟨_, _, ty31, rfl⟩)) (fun _ => rfl) (by first | rfl | assumption | ((simp only [bl, ty31, ty57]) <;> first | done | assumption | omega) | (simp; done) | (simp; omega)) <| OSuf.nil <| SQ.normal ?_
    refine W.no (by simp only [lk] <;> rfl) <| CWp.skip <| SQ.normal ?_
    refine W.seq <| W.reg <| OSuf.aop tyOK rfl (so_buildSlice (by simp only [aparts, lk] <;> rfl) (by simp (disch := first | assumption | omega | (simp only [nx] <;> omega) | fail) only [aBuildSlice, ty31, ty57, hpl, ty31, ty57] <;> rfl)) rfl <| OSuf.aop tyOK rfl sm rfl <| OSuf.aop tyOK rfl (so_append (by simp only [aopnds, lk] <;> rfl) (ap_n0 (by simp only [appT, ty31, ty57] <;> rfl) rfl rfl (by decide))) rfl <| OSuf.aop tyOK rfl (so_assign (by simp only [lk] <;> rfl)) rfl <| OSuf.nil <| SQ.normal ?_
    refine CWp.ret <| FQ.ret (by simp only [aRet, Try.f29, aResults, aResult, lk, Nat.reduceEqDiff, reduceIte] <;> rfl) ?_
    -- leaf: end
    exact ⟨rfl, rfl⟩
  | @some _ y off c vs hne hy hg hc =>
    have hp0 : 0 < V.length := List.length_pos_iff.2 hne
    have hpos : Nat.beq V.length 0 = false := by (cases hv : V.length with | zero => omega | succ n => rfl)
    refine ⟨.slice (some ⟨h.next + 1, 0, none⟩) V.length 0, (h.new (.cells [] 5)).new (.cells (flatV V) 5), ?_, .some hne (by simp) (AHeap.get_new_same _ _), by simp; omega, fun z hz => by simp (disch := first | assumption | omega | (simp only [nx] <;> omega) | fail) only [hpl], fun _ => .inr trivial⟩
    refine W.enter tyOK Try.func29 rfl rfl ?_
    simp only [entry]
    refine W.seq <| W.reg <| OSuf.aop tyOK rfl (so_assign (by simp only [lk] <;> rfl)) rfl <| OSuf.nil <| SQ.normal ?_
    refine W.seq <| W.seq <| W.reg <| OSuf.aop tyOK rfl sm rfl <| OSuf.aopF tyOK rfl (so_bin (by simp only [lk] <;> rfl) (by simp only [lk] <;> rfl) (bs_nil ⟨_, _, ty31, rfl⟩)) (fun _ => rfl) (by first | rfl | assumption | ((simp only [bl, ty31, ty57]) <;> first | done | assumption | omega) | (simp; done) | (simp; omega)) <| OSuf.nil <| SQ.normal ?_
    refine W.no (by simp only [lk] <;> rfl) <| CWp.skip <| SQ.normal ?_
    refine W.seq <| W.reg <| OSuf.aop tyOK rfl (so_buildSlice (by simp only [aparts, lk] <;> rfl) (by simp (disch := first | assumption | omega | (simp only [nx] <;> omega) | fail) only [aBuildSlice, ty31, ty57, hpl, ty31, ty57] <;> rfl)) rfl <| OSuf.aop tyOK rfl sm rfl <| OSuf.aop tyOK rfl (so_append (by simp only [aopnds, lk] <;> rfl) (ap_k0 (by simp only [appT, ty31, ty57] <;> rfl) rfl (aCells_of (by (have hg' := hg; simp only [rowOf] at hg' ⊢; simp (disch := first | assumption | omega | (simp only [nx] <;> omega) | fail) only [hpl]; exact hg')) (Nat.le_refl _) hc) (by show (2 * (0 + V.length) + 256) * 48 ≤ _; omega) hpos)) rfl <| OSuf.aop tyOK rfl (so_assign (by simp only [lk] <;> rfl)) rfl <| OSuf.nil <| SQ.normal ?_
    refine CWp.ret <| FQ.ret (by simp only [aRet, Try.f29, aResults, aResult, lk, Nat.reduceEqDiff, reduceIte] <;> rfl) ?_
    -- leaf: end
    exact ⟨rfl, rfl⟩
end Go.Proofs.Ytldhcjfhlfgleaa
