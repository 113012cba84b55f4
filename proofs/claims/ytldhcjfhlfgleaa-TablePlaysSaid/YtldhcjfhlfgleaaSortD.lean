/-
  The sort of the library, walked, at string: the choice of a pivot.
-/
import Derived.Test.YtldhcjfhlfgleaaSortC
namespace Go.Proofs.Ytldhcjfhlfgleaa.SortS
open Go.Ab Go.Sort
set_option linter.unusedSimpArgs false
set_option linter.unusedVariables false
set_option maxRecDepth 10000
set_option maxHeartbeats 4000000

abbrev P0 (p : Nat) : Value := .pointer (some ⟨p, 0, none⟩)
abbrev cell (n : Int) : AObj := .cells [I64 n] 1

theorem order2_c (h : AHeap) (r N q : Nat) (d : Array El) (hN : d.size = N) (hr : h.get r = some (row d)) (hq : ¬ q = r) (s : Int) (hs0 : 0 ≤ s) (hs1 : s ≤ 100) (a b : Nat) (ha : a < N) (hb : b < N) (hsz : N < 1000000000) :
    FWp Try.prog 64 [sl r N, I64 a, I64 b, P0 q] (h.set q (cell s)) fun u h' => ∃ (s' : Int) (x y : Nat), u = .tuple #[I64 x, I64 y] ∧ h' = h.set q (cell s') ∧ 0 ≤ s' ∧ s' ≤ s + 1 ∧ ((x = a ∧ y = b) ∨ (x = b ∧ y = a)) := by
  have w1 : IntKind.i64.wrap (s + 1) = s + 1 := wrap_i64 (by omega) (by omega)
  refine W.enter tyOK Try.func64 rfl rfl ?_
  simp only [entry]
  cases hl : lt d[b]! d[a]!
  · refine W.seq <| W.reg <| OSuf.aop tyOK rfl (so_assign (by simp only [lk] <;> rfl)) rfl <| OSuf.aop tyOK rfl (so_assign (by simp only [lk] <;> rfl)) rfl <| OSuf.nil <| SQ.normal ?_
    refine W.seq <| W.seq <| W.regD tyOK mixed (by kernel_rfl) <| SqW.aop rfl sm rfl <| SqW.aop rfl sm rfl <| SqW.aop rfl (so_indexAddr (by simp only [lk] <;> rfl) (by simp only [lk] <;> rfl) (by simp (disch := first | assumption | omega | (simp only [nx] <;> omega) | fail) only [aIndexAddr, ty60, ty9, hpl, hr, if_pos, Int.toNat_natCast, Nat.mul_one, Nat.zero_add, rg] <;> rfl)) rfl <| SqW.aop rfl (so_load (by simp only [lk] <;> rfl) (by simp (disch := first | assumption | omega | (simp only [nx] <;> omega) | fail) only [aLoad, ty9, rowOf, hpl, hr, if_pos, Int.toNat_natCast, Nat.mul_one, Nat.zero_add, rg] <;> rfl)) rfl <| SqW.aop rfl sm rfl <| SqW.aop rfl sm rfl <| SqW.aop rfl (so_indexAddr (by simp only [lk] <;> rfl) (by simp only [lk] <;> rfl) (by simp (disch := first | assumption | omega | (simp only [nx] <;> omega) | fail) only [aIndexAddr, ty60, ty9, hpl, hr, if_pos, Int.toNat_natCast, Nat.mul_one, Nat.zero_add, rg] <;> rfl)) rfl <| SqW.aop rfl (so_load (by simp only [lk] <;> rfl) (by simp (disch := first | assumption | omega | (simp only [nx] <;> omega) | fail) only [aLoad, ty9, rowOf, hpl, hr, if_pos, Int.toNat_natCast, Nat.mul_one, Nat.zero_add, rg] <;> rfl)) rfl <| SqW.callD rfl (by simp only [aopnds, lk] <;> rfl) en50 (less_c _ _ _ _ hl) rfl <| SqW.nil <| SQ.normal ?_
    refine W.no (by simp only [lk] <;> rfl) <| CWp.skip <| SQ.normal ?_
    refine W.seq <| W.reg <| OSuf.aop tyOK rfl sm rfl <| OSuf.aop tyOK rfl sm rfl <| OSuf.aop tyOK rfl (so_assign (by simp only [lk] <;> rfl)) rfl <| OSuf.aop tyOK rfl (so_assign (by simp only [lk] <;> rfl)) rfl <| OSuf.nil <| SQ.normal ?_
    refine CWp.ret <| FQ.ret (by simp only [aRet, Try.f64, aResults, aResult, lk, Nat.reduceEqDiff, reduceIte] <;> rfl) ?_
    -- leaf: end
    exact ⟨s, a, b, rfl, rfl, hs0, by omega, .inl ⟨rfl, rfl⟩⟩
  · refine W.seq <| W.reg <| OSuf.aop tyOK rfl (so_assign (by simp only [lk] <;> rfl)) rfl <| OSuf.aop tyOK rfl (so_assign (by simp only [lk] <;> rfl)) rfl <| OSuf.nil <| SQ.normal ?_
    refine W.seq <| W.seq <| W.regD tyOK mixed (by kernel_rfl) <| SqW.aop rfl sm rfl <| SqW.aop rfl sm rfl <| SqW.aop rfl (so_indexAddr (by simp only [lk] <;> rfl) (by simp only [lk] <;> rfl) (by simp (disch := first | assumption | omega | (simp only [nx] <;> omega) | fail) only [aIndexAddr, ty60, ty9, hpl, hr, if_pos, Int.toNat_natCast, Nat.mul_one, Nat.zero_add, rg, AHeap.set_set] <;> rfl)) rfl <| SqW.aop rfl (so_load (by simp only [lk] <;> rfl) (by simp (disch := first | assumption | omega | (simp only [nx] <;> omega) | fail) only [aLoad, ty9, rowOf, hpl, hr, if_pos, Int.toNat_natCast, Nat.mul_one, Nat.zero_add, rg, AHeap.set_set] <;> rfl)) rfl <| SqW.aop rfl sm rfl <| SqW.aop rfl sm rfl <| SqW.aop rfl (so_indexAddr (by simp only [lk] <;> rfl) (by simp only [lk] <;> rfl) (by simp (disch := first | assumption | omega | (simp only [nx] <;> omega) | fail) only [aIndexAddr, ty60, ty9, hpl, hr, if_pos, Int.toNat_natCast, Nat.mul_one, Nat.zero_add, rg, AHeap.set_set] <;> rfl)) rfl <| SqW.aop rfl (so_load (by simp only [lk] <;> rfl) (by simp (disch := first | assumption | omega | (simp only [nx] <;> omega) | fail) only [aLoad, ty9, rowOf, hpl, hr, if_pos, Int.toNat_natCast, Nat.mul_one, Nat.zero_add, rg, AHeap.set_set] <;> rfl)) rfl <| SqW.callD rfl (by simp only [aopnds, lk] <;> rfl) en50 (less_c _ _ _ _ hl) rfl <| SqW.nil <| SQ.normal ?_
    refine W.yes (by simp only [lk] <;> rfl) <| W.seq <| W.reg <| OSuf.aop tyOK rfl sm rfl <| OSuf.aop tyOK rfl (so_nilCheck (by simp only [lk] <;> rfl)) rfl <| OSuf.aop tyOK rfl (so_load (by simp only [lk] <;> rfl) (by simp (disch := first | assumption | omega | (simp only [nx] <;> omega) | fail) only [aLoad, ty3, rowOf, hpl, hr, if_pos, Int.toNat_natCast, Nat.mul_one, Nat.zero_add, rg, AHeap.set_set] <;> rfl)) rfl <| OSuf.aop tyOK rfl (so_bin (by simp only [lk] <;> rfl) (by simp only [lk] <;> rfl) (bi_w bi_add (by first | (simp only [w1] <;> rfl) | rfl))) rfl <| OSuf.aop tyOK rfl (so_nilCheck (by simp only [lk] <;> rfl)) rfl <| OSuf.aop tyOK rfl (so_store (by simp only [lk] <;> rfl) (by simp only [lk] <;> rfl) (by simp (disch := first | assumption | omega | (simp only [nx] <;> omega) | fail) only [aStore, ty3, writeRow, hpl, hr, if_pos, Int.toNat_natCast, Nat.mul_one, Nat.zero_add, rg, AHeap.set_set] <;> rfl)) rfl <| OSuf.nil <| SQ.normal ?_
    refine W.seq <| W.reg <| OSuf.aop tyOK rfl sm rfl <| OSuf.aop tyOK rfl sm rfl <| OSuf.aop tyOK rfl (so_assign (by simp only [lk] <;> rfl)) rfl <| OSuf.aop tyOK rfl (so_assign (by simp only [lk] <;> rfl)) rfl <| OSuf.nil <| SQ.normal ?_
    refine CWp.ret <| SQ.ret <| FQ.ret (by simp only [aRet, Try.f64, aResults, aResult, lk, Nat.reduceEqDiff, reduceIte] <;> rfl) ?_
    -- leaf: end
    exact ⟨s + 1, b, a, rfl, rfl, by omega, by omega, .inr ⟨rfl, rfl⟩⟩

theorem median_c (h0 h : AHeap) (r N q : Nat) (d : Array El) (hN : d.size = N) (hr : h.get r = some (row d)) (hq : ¬ q = r) (s : Int) (hh : h0 = h.set q (cell s)) (hs0 : 0 ≤ s) (hs1 : s ≤ 90) (a b c : Nat) (ha : a < N) (hb : b < N) (hc : c < N) (hsz : N < 1000000000) :
    FWp Try.prog 61 [sl r N, I64 a, I64 b, I64 c, P0 q] h0 fun u h' => ∃ (s' : Int) (x : Nat), u = I64 x ∧ h' = h.set q (cell s') ∧ 0 ≤ s' ∧ s' ≤ s + 3 ∧ (x = a ∨ x = b ∨ x = c) := by
  subst hh
  refine W.enter tyOK Try.func61 rfl rfl ?_
  simp only [entry]
  refine W.seq <| W.reg <| OSuf.aop tyOK rfl (so_assign (by simp only [lk] <;> rfl)) rfl <| OSuf.nil <| SQ.normal ?_
  refine W.seq <| W.reg <| OSuf.aop tyOK rfl sm rfl <| OSuf.aop tyOK rfl sm rfl <| OSuf.aop tyOK rfl sm rfl <| OSuf.aop tyOK rfl sm rfl <| OSuf.call rfl (by simp only [aopnds, lk] <;> rfl) en64 (order2_c h r N q d hN hr hq s hs0 (by omega) a b ha hb hsz) ?_
  rintro _ _ ⟨s1, x1, y1, rfl, rfl, g1, g2, g3⟩
  refine ⟨_, rfl, ?_⟩
  refine OSuf.aop tyOK rfl sm rfl <| OSuf.aop tyOK rfl (so_extract (by simp only [lk] <;> rfl) (by simp (disch := first | assumption | omega | (simp only [nx] <;> omega) | fail) only [aExtract, hpl, hr] <;> rfl)) rfl <| OSuf.aop tyOK rfl (so_extract (by simp only [lk] <;> rfl) (by simp (disch := first | assumption | omega | (simp only [nx] <;> omega) | fail) only [aExtract, hpl, hr] <;> rfl)) rfl <| OSuf.aop tyOK rfl (so_assign (by simp only [lk] <;> rfl)) rfl <| OSuf.aop tyOK rfl (so_assign (by simp only [lk] <;> rfl)) rfl <| OSuf.nil <| SQ.normal ?_
  refine W.seq <| W.reg <| OSuf.aop tyOK rfl sm rfl <| OSuf.aop tyOK rfl sm rfl <| OSuf.aop tyOK rfl sm rfl <| OSuf.aop tyOK rfl sm rfl <| OSuf.call rfl (by simp only [aopnds, lk] <;> rfl) en64 (order2_c h r N q d hN hr hq s1 g1 (by omega) y1 c (by omega) hc hsz) ?_
  rintro _ _ ⟨s2, x2, y2, rfl, rfl, g4, g5, g6⟩
  refine ⟨_, rfl, ?_⟩
  refine OSuf.aop tyOK rfl sm rfl <| OSuf.aop tyOK rfl (so_extract (by simp only [lk] <;> rfl) (by simp (disch := first | assumption | omega | (simp only [nx] <;> omega) | fail) only [aExtract, hpl, hr] <;> rfl)) rfl <| OSuf.aop tyOK rfl (so_extract (by simp only [lk] <;> rfl) (by simp (disch := first | assumption | omega | (simp only [nx] <;> omega) | fail) only [aExtract, hpl, hr] <;> rfl)) rfl <| OSuf.aop tyOK rfl (so_assign (by simp only [lk] <;> rfl)) rfl <| OSuf.aop tyOK rfl (so_assign (by simp only [lk] <;> rfl)) rfl <| OSuf.nil <| SQ.normal ?_
  refine W.seq <| W.reg <| OSuf.aop tyOK rfl sm rfl <| OSuf.aop tyOK rfl sm rfl <| OSuf.aop tyOK rfl sm rfl <| OSuf.aop tyOK rfl sm rfl <| OSuf.call rfl (by simp only [aopnds, lk] <;> rfl) en64 (order2_c h r N q d hN hr hq s2 g4 (by omega) x1 x2 (by omega) (by omega) hsz) ?_
  rintro _ _ ⟨s3, x3, y3, rfl, rfl, g7, g8, g9⟩
  refine ⟨_, rfl, ?_⟩
  refine OSuf.aop tyOK rfl sm rfl <| OSuf.aop tyOK rfl (so_extract (by simp only [lk] <;> rfl) (by simp (disch := first | assumption | omega | (simp only [nx] <;> omega) | fail) only [aExtract, hpl, hr] <;> rfl)) rfl <| OSuf.aop tyOK rfl (so_extract (by simp only [lk] <;> rfl) (by simp (disch := first | assumption | omega | (simp only [nx] <;> omega) | fail) only [aExtract, hpl, hr] <;> rfl)) rfl <| OSuf.aop tyOK rfl (so_assign (by simp only [lk] <;> rfl)) rfl <| OSuf.aop tyOK rfl (so_assign (by simp only [lk] <;> rfl)) rfl <| OSuf.nil <| SQ.normal ?_
  refine W.seq <| W.reg <| OSuf.aop tyOK rfl sm rfl <| OSuf.aop tyOK rfl (so_assign (by simp only [lk] <;> rfl)) rfl <| OSuf.nil <| SQ.normal ?_
  refine CWp.ret <| FQ.ret (by simp only [aRet, Try.f61, aResults, aResult, lk, Nat.reduceEqDiff, reduceIte] <;> rfl) ?_
  -- leaf: end
  exact ⟨s3, y3, rfl, rfl, g7, by omega, by omega⟩

theorem adjacent_c (h0 h : AHeap) (r N q : Nat) (d : Array El) (hN : d.size = N) (hr : h.get r = some (row d)) (hq : ¬ q = r) (s : Int) (hh : h0 = h.set q (cell s)) (hs0 : 0 ≤ s) (hs1 : s ≤ 90) (a : Nat) (ha : 1 ≤ a) (hb : a + 1 < N) (hsz : N < 1000000000) :
    FWp Try.prog 60 [sl r N, I64 a, P0 q] h0 fun u h' => ∃ (s' : Int) (x : Nat), u = I64 x ∧ h' = h.set q (cell s') ∧ 0 ≤ s' ∧ s' ≤ s + 3 ∧ (a ≤ x + 1 ∧ x ≤ a + 1) := by
  subst hh
  have w1 : IntKind.i64.wrap ((a : Int) - 1) = ((a - 1 : Nat) : Int) := by rw [wrap_i64 (by omega) (by omega)]; omega
  have w2 : IntKind.i64.wrap ((a : Int) + 1) = ((a + 1 : Nat) : Int) := by rw [wrap_i64 (by omega) (by omega)]; omega
  refine W.enter tyOK Try.func60 rfl rfl ?_
  simp only [entry]
  refine W.seq <| W.reg <| OSuf.aop tyOK rfl (so_assign (by simp only [lk] <;> rfl)) rfl <| OSuf.nil <| SQ.normal ?_
  refine W.seq <| W.reg <| OSuf.aop tyOK rfl sm rfl <| OSuf.aop tyOK rfl sm rfl <| OSuf.aop tyOK rfl (so_bin (by simp only [lk] <;> rfl) (by simp only [lk] <;> rfl) (bi_w bi_sub (by first | (simp only [w1, w2] <;> rfl) | rfl))) rfl <| OSuf.aop tyOK rfl sm rfl <| OSuf.aop tyOK rfl sm rfl <| OSuf.aop tyOK rfl (so_bin (by simp only [lk] <;> rfl) (by simp only [lk] <;> rfl) (bi_w bi_add (by first | (simp only [w1, w2] <;> rfl) | rfl))) rfl <| OSuf.aop tyOK rfl sm rfl <| OSuf.call rfl (by simp only [aopnds, lk] <;> rfl) en61 (median_c _ h r N q d hN hr hq s rfl hs0 hs1 (a - 1) a (a + 1) (by omega) (by omega) hb hsz) ?_
  rintro _ _ ⟨s1, x1, rfl, rfl, g1, g2, g3⟩
  refine ⟨_, rfl, ?_⟩
  refine OSuf.aop tyOK rfl (so_assign (by simp only [lk] <;> rfl)) rfl <| OSuf.nil <| SQ.normal ?_
  refine CWp.ret <| FQ.ret (by simp only [aRet, Try.f60, aResults, aResult, lk, Nat.reduceEqDiff, reduceIte] <;> rfl) ?_
  -- leaf: end
  exact ⟨s1, x1, rfl, rfl, g1, g2, by omega⟩

theorem pivot_c (h : AHeap) (r N : Nat) (hrn : r < h.next) (d : Array El) (hN : d.size = N) (a b : Nat) (hab : a + 12 < b) (hb : b ≤ N) (hsz : N < 1000000000) :
    FWp Try.prog 47 [sl r N, I64 a, I64 b] (h.set r (row d)) fun u h' => (∃ (p : Nat) (hint : Int), u = .tuple #[I64 p, I64 hint] ∧ a ≤ p ∧ p < b) ∧ h' = h.set r (row d) := by
  refine FWp.gcE (K0 := fun u h' => (∃ (p : Nat) (hint : Int), u = .tuple #[I64 p, I64 hint] ∧ a ≤ p ∧ p < b) ∧ ∃ s, h' = ((h.set r (row d)).new (cell 0)).set h.next (cell s)) ?_ ?_
  · have w1 : IntKind.i64.wrap ((b : Int) - (a : Int)) = ((b - a : Nat) : Int) := by rw [wrap_i64 (by omega) (by omega)]; omega
    have w2 : IntKind.i64.wrap (((b - a : Nat) : Int).tdiv 4) = (((b - a) / 4 : Nat) : Int) := by rw [Int.tdiv_eq_ediv_of_nonneg (by omega), wrap_i64 (by omega) (by omega)]; omega
    obtain ⟨l4, hl4⟩ : ∃ l4, l4 = (b - a) / 4 := ⟨_, rfl⟩
    rw [← hl4] at w2
    have w3 : IntKind.i64.wrap ((l4 : Int) * 1) = (l4 : Int) := by rw [wrap_i64 (by omega) (by omega)]; omega
    have w4 : IntKind.i64.wrap ((l4 : Int) * 2) = ((l4 * 2 : Nat) : Int) := by rw [wrap_i64 (by omega) (by omega)]; omega
    have w5 : IntKind.i64.wrap ((l4 : Int) * 3) = ((l4 * 3 : Nat) : Int) := by rw [wrap_i64 (by omega) (by omega)]; omega
    have w6 : IntKind.i64.wrap ((a : Int) + (l4 : Int)) = ((a + l4 : Nat) : Int) := by rw [wrap_i64 (by omega) (by omega)]; omega
    have w7 : IntKind.i64.wrap ((a : Int) + ((l4 * 2 : Nat) : Int)) = ((a + l4 * 2 : Nat) : Int) := by rw [wrap_i64 (by omega) (by omega)]; omega
    have w8 : IntKind.i64.wrap ((a : Int) + ((l4 * 3 : Nat) : Int)) = ((a + l4 * 3 : Nat) : Int) := by rw [wrap_i64 (by omega) (by omega)]; omega
    obtain ⟨g, hg⟩ : ∃ g, g = (h.set r (row d)).new (cell 0) := ⟨_, rfl⟩
    have hgr : g.get r = some (row d) := by rw [hg, AHeap.get_new_ne (by simp only [AHeap.next_set]; omega), AHeap.get_set_same]
    have hg0 : g = g.set h.next (cell 0) := (AHeap.set_self (by rw [hg]; exact AHeap.get_new_same _ _)).symm
    have hqr : ¬ h.next = r := by omega
    refine W.enter tyOK Try.func47 rfl rfl ?_
    simp only [entry]
    have fin : ∀ (s : Int) (p : Nat) (hint : Int), a ≤ p → p < b → (∃ (p : Nat) (hint : Int), Value.tuple #[I64 p, I64 hint] = .tuple #[I64 p, I64 hint] ∧ a ≤ p ∧ p < b) := fun s p hint h1 h2 => ⟨p, hint, rfl, h1, h2⟩
    by_cases h50 : ((b - a : Nat) : Int) ≥ 50
    · refine W.seq <| W.reg <| OSuf.aop tyOK rfl (so_assign (by simp only [lk] <;> rfl)) rfl <| OSuf.aop tyOK rfl (so_assign (by simp only [lk] <;> rfl)) rfl <| OSuf.nil <| SQ.normal ?_
      refine W.seq <| W.reg <| OSuf.aop tyOK rfl sm rfl <| OSuf.aop tyOK rfl sm rfl <| OSuf.aop tyOK rfl (so_bin (by simp only [lk] <;> rfl) (by simp only [lk] <;> rfl) (bi_w bi_sub (by first | (simp only [w1, w2, w3, w4, w5, w6, w7, w8] <;> rfl) | rfl))) rfl <| OSuf.aop tyOK rfl (so_assign (by simp only [lk] <;> rfl)) rfl <| OSuf.nil <| SQ.normal ?_
      refine W.seq <| W.reg <| OSuf.aop tyOK rfl (so_alloc (by simp only [aAlloc, ty3] <;> rfl)) rfl <| OSuf.nil <| SQ.normal ?_
      refine W.seq <| W.reg <| OSuf.aop tyOK rfl sm rfl <| OSuf.aop tyOK rfl sm rfl <| OSuf.aop tyOK rfl (so_bin (by simp only [lk] <;> rfl) (by simp only [lk] <;> rfl) (bi_w (bi_quo (by decide)) (by first | (simp only [w1, w2, w3, w4, w5, w6, w7, w8] <;> rfl) | rfl))) rfl <| OSuf.aop tyOK rfl (so_bin (by simp only [lk] <;> rfl) (by simp only [lk] <;> rfl) (bi_w bi_mul (by first | (simp only [w1, w2, w3, w4, w5, w6, w7, w8] <;> rfl) | rfl))) rfl <| OSuf.aop tyOK rfl (so_bin (by simp only [lk] <;> rfl) (by simp only [lk] <;> rfl) (bi_w bi_add (by first | (simp only [w1, w2, w3, w4, w5, w6, w7, w8] <;> rfl) | rfl))) rfl <| OSuf.aop tyOK rfl (so_assign (by simp only [lk] <;> rfl)) rfl <| OSuf.nil <| SQ.normal ?_
      refine W.seq <| W.reg <| OSuf.aop tyOK rfl sm rfl <| OSuf.aop tyOK rfl sm rfl <| OSuf.aop tyOK rfl (so_bin (by simp only [lk] <;> rfl) (by simp only [lk] <;> rfl) (bi_w (bi_quo (by decide)) (by first | (simp only [w1, w2, w3, w4, w5, w6, w7, w8] <;> rfl) | rfl))) rfl <| OSuf.aop tyOK rfl (so_bin (by simp only [lk] <;> rfl) (by simp only [lk] <;> rfl) (bi_w bi_mul (by first | (simp only [w1, w2, w3, w4, w5, w6, w7, w8] <;> rfl) | rfl))) rfl <| OSuf.aop tyOK rfl (so_bin (by simp only [lk] <;> rfl) (by simp only [lk] <;> rfl) (bi_w bi_add (by first | (simp only [w1, w2, w3, w4, w5, w6, w7, w8] <;> rfl) | rfl))) rfl <| OSuf.aop tyOK rfl (so_assign (by simp only [lk] <;> rfl)) rfl <| OSuf.nil <| SQ.normal ?_
      refine W.seq <| W.reg <| OSuf.aop tyOK rfl sm rfl <| OSuf.aop tyOK rfl sm rfl <| OSuf.aop tyOK rfl (so_bin (by simp only [lk] <;> rfl) (by simp only [lk] <;> rfl) (bi_w (bi_quo (by decide)) (by first | (simp only [w1, w2, w3, w4, w5, w6, w7, w8] <;> rfl) | rfl))) rfl <| OSuf.aop tyOK rfl (so_bin (by simp only [lk] <;> rfl) (by simp only [lk] <;> rfl) (bi_w bi_mul (by first | (simp only [w1, w2, w3, w4, w5, w6, w7, w8] <;> rfl) | rfl))) rfl <| OSuf.aop tyOK rfl (so_bin (by simp only [lk] <;> rfl) (by simp only [lk] <;> rfl) (bi_w bi_add (by first | (simp only [w1, w2, w3, w4, w5, w6, w7, w8] <;> rfl) | rfl))) rfl <| OSuf.aop tyOK rfl (so_assign (by simp only [lk] <;> rfl)) rfl <| OSuf.nil <| SQ.normal ?_
      refine W.seq <| W.seq <| W.reg <| OSuf.aop tyOK rfl sm rfl <| OSuf.aopT tyOK rfl (so_bin (by simp only [lk] <;> rfl) (by simp only [lk] <;> rfl) bi_geq) (fun _ => rfl) (by first | rfl | assumption | ((simp only [bl, hgr]) <;> first | done | assumption | omega) | (simp; done) | (simp; omega)) <| OSuf.nil <| SQ.normal ?_
      refine W.yes (by simp only [lk] <;> rfl) <| W.seq <| W.seq <| W.reg <| OSuf.aop tyOK rfl sm rfl <| OSuf.aopT tyOK rfl (so_bin (by simp only [lk] <;> rfl) (by simp only [lk] <;> rfl) bi_geq) (fun _ => rfl) (by first | rfl | assumption | ((simp only [bl, hgr]) <;> first | done | assumption | omega) | (simp; done) | (simp; omega)) <| OSuf.nil <| SQ.normal ?_
      refine W.yes (by simp only [lk] <;> rfl) <| W.seq <| W.reg <| OSuf.aop tyOK rfl sm rfl <| OSuf.aop tyOK rfl sm rfl <| OSuf.call rfl (by simp only [aopnds, lk] <;> rfl) en60 (adjacent_c _ g r N h.next d hN hgr hqr 0 (hg ▸ hg0) (by omega) (by omega) (a + l4) (by omega) (by omega) hsz) ?_
      rintro _ _ ⟨s1, x1, rfl, rfl, g1, g2, g3⟩
      refine ⟨_, rfl, ?_⟩
      refine OSuf.aop tyOK rfl (so_assign (by simp only [lk] <;> rfl)) rfl <| OSuf.nil <| SQ.normal ?_
      refine W.seq <| W.reg <| OSuf.aop tyOK rfl sm rfl <| OSuf.aop tyOK rfl sm rfl <| OSuf.call rfl (by simp only [aopnds, lk] <;> rfl) en60 (adjacent_c _ g r N h.next d hN hgr hqr s1 rfl g1 (by omega) (a + l4 * 2) (by omega) (by omega) hsz) ?_
      rintro _ _ ⟨s2, x2, rfl, rfl, g4, g5, g6⟩
      refine ⟨_, rfl, ?_⟩
      refine OSuf.aop tyOK rfl (so_assign (by simp only [lk] <;> rfl)) rfl <| OSuf.nil <| SQ.normal ?_
      refine W.reg <| OSuf.aop tyOK rfl sm rfl <| OSuf.aop tyOK rfl sm rfl <| OSuf.call rfl (by simp only [aopnds, lk] <;> rfl) en60 (adjacent_c _ g r N h.next d hN hgr hqr s2 rfl g4 (by omega) (a + l4 * 3) (by omega) (by omega) hsz) ?_
      rintro _ _ ⟨s3, x3, rfl, rfl, g7, g8, g9⟩
      refine ⟨_, rfl, ?_⟩
      refine OSuf.aop tyOK rfl (so_assign (by simp only [lk] <;> rfl)) rfl <| OSuf.nil <| SQ.normal ?_
      refine W.reg <| OSuf.aop tyOK rfl sm rfl <| OSuf.aop tyOK rfl sm rfl <| OSuf.aop tyOK rfl sm rfl <| OSuf.aop tyOK rfl sm rfl <| OSuf.call rfl (by simp only [aopnds, lk] <;> rfl) en61 (median_c _ g r N h.next d hN hgr hqr s3 rfl g7 (by omega) x1 x2 x3 (by omega) (by omega) (by omega) hsz) ?_
      rintro _ _ ⟨s4, x4, rfl, rfl, g10, g11, g12⟩
      refine ⟨_, rfl, ?_⟩
      refine OSuf.aop tyOK rfl (so_assign (by simp only [lk] <;> rfl)) rfl <| OSuf.nil <| SQ.normal ?_
      refine W.seq <| W.reg <| OSuf.aop tyOK rfl (so_load (by simp only [lk] <;> rfl) (by simp (disch := first | assumption | omega | (simp only [nx] <;> omega) | fail) only [aLoad, ty3, rowOf, hpl, hgr] <;> rfl)) rfl <| OSuf.nil <| SQ.normal ?_
      refine W.block <| W.seq <| W.reg <| OSuf.aopB tyOK rfl (so_bin (by simp only [lk] <;> rfl) (by simp only [lk] <;> rfl) bi_eql) (fun _ => rfl) (fun hb => ?_) (fun hb => ?_)
      · try simp only [bl] at hb
        refine OSuf.aopT tyOK rfl (so_assign (by simp only [lk] <;> rfl)) (fun _ => rfl) rfl <| OSuf.nil <| SQ.normal ?_
        refine W.yes (by simp only [lk] <;> rfl) <| W.seq <| W.reg <| OSuf.aop tyOK rfl sm rfl <| OSuf.aop tyOK rfl (so_assign (by simp only [lk] <;> rfl)) rfl <| OSuf.aop tyOK rfl (so_assign (by simp only [lk] <;> rfl)) rfl <| OSuf.nil <| SQ.normal ?_
        refine CWp.ret <| BQ.ret <| FQ.ret (by simp only [aRet, Try.f47, aResults, aResult, lk, Nat.reduceEqDiff, reduceIte] <;> rfl) ?_
        exact ⟨⟨x4, 1, rfl, by omega, by omega⟩, s4, by rw [hg]⟩
      · try simp only [bl] at hb
        refine OSuf.aopF tyOK rfl (so_assign (by simp only [lk] <;> rfl)) (fun _ => rfl) rfl <| OSuf.nil <| SQ.normal ?_
        refine W.no (by simp only [lk] <;> rfl) <| W.seq <| W.reg <| OSuf.aopB tyOK rfl (so_bin (by simp only [lk] <;> rfl) (by simp only [lk] <;> rfl) bi_eql) (fun _ => rfl) (fun hb => ?_) (fun hb => ?_)
        · try simp only [bl] at hb
          refine OSuf.aopT tyOK rfl (so_assign (by simp only [lk] <;> rfl)) (fun _ => rfl) rfl <| OSuf.nil <| SQ.normal ?_
          refine W.yes (by simp only [lk] <;> rfl) <| W.seq <| W.reg <| OSuf.aop tyOK rfl sm rfl <| OSuf.aop tyOK rfl (so_assign (by simp only [lk] <;> rfl)) rfl <| OSuf.aop tyOK rfl (so_assign (by simp only [lk] <;> rfl)) rfl <| OSuf.nil <| SQ.normal ?_
          refine CWp.ret <| BQ.ret <| FQ.ret (by simp only [aRet, Try.f47, aResults, aResult, lk, Nat.reduceEqDiff, reduceIte] <;> rfl) ?_
          exact ⟨⟨x4, 2, rfl, by omega, by omega⟩, s4, by rw [hg]⟩
        · try simp only [bl] at hb
          refine OSuf.aopF tyOK rfl (so_assign (by simp only [lk] <;> rfl)) (fun _ => rfl) rfl <| OSuf.nil <| SQ.normal ?_
          refine W.no (by simp only [lk] <;> rfl) <| W.seq <| W.reg <| OSuf.aop tyOK rfl sm rfl <| OSuf.aop tyOK rfl (so_assign (by simp only [lk] <;> rfl)) rfl <| OSuf.aop tyOK rfl (so_assign (by simp only [lk] <;> rfl)) rfl <| OSuf.nil <| SQ.normal ?_
          refine CWp.ret <| BQ.ret <| FQ.ret (by simp only [aRet, Try.f47, aResults, aResult, lk, Nat.reduceEqDiff, reduceIte] <;> rfl) ?_
          exact ⟨⟨x4, 0, rfl, by omega, by omega⟩, s4, by rw [hg]⟩
    · refine W.seq <| W.reg <| OSuf.aop tyOK rfl (so_assign (by simp only [lk] <;> rfl)) rfl <| OSuf.aop tyOK rfl (so_assign (by simp only [lk] <;> rfl)) rfl <| OSuf.nil <| SQ.normal ?_
      refine W.seq <| W.reg <| OSuf.aop tyOK rfl sm rfl <| OSuf.aop tyOK rfl sm rfl <| OSuf.aop tyOK rfl (so_bin (by simp only [lk] <;> rfl) (by simp only [lk] <;> rfl) (bi_w bi_sub (by first | (simp only [w1, w2, w3, w4, w5, w6, w7, w8] <;> rfl) | rfl))) rfl <| OSuf.aop tyOK rfl (so_assign (by simp only [lk] <;> rfl)) rfl <| OSuf.nil <| SQ.normal ?_
      refine W.seq <| W.reg <| OSuf.aop tyOK rfl (so_alloc (by simp only [aAlloc, ty3] <;> rfl)) rfl <| OSuf.nil <| SQ.normal ?_
      refine W.seq <| W.reg <| OSuf.aop tyOK rfl sm rfl <| OSuf.aop tyOK rfl sm rfl <| OSuf.aop tyOK rfl (so_bin (by simp only [lk] <;> rfl) (by simp only [lk] <;> rfl) (bi_w (bi_quo (by decide)) (by first | (simp only [w1, w2, w3, w4, w5, w6, w7, w8] <;> rfl) | rfl))) rfl <| OSuf.aop tyOK rfl (so_bin (by simp only [lk] <;> rfl) (by simp only [lk] <;> rfl) (bi_w bi_mul (by first | (simp only [w1, w2, w3, w4, w5, w6, w7, w8] <;> rfl) | rfl))) rfl <| OSuf.aop tyOK rfl (so_bin (by simp only [lk] <;> rfl) (by simp only [lk] <;> rfl) (bi_w bi_add (by first | (simp only [w1, w2, w3, w4, w5, w6, w7, w8] <;> rfl) | rfl))) rfl <| OSuf.aop tyOK rfl (so_assign (by simp only [lk] <;> rfl)) rfl <| OSuf.nil <| SQ.normal ?_
      refine W.seq <| W.reg <| OSuf.aop tyOK rfl sm rfl <| OSuf.aop tyOK rfl sm rfl <| OSuf.aop tyOK rfl (so_bin (by simp only [lk] <;> rfl) (by simp only [lk] <;> rfl) (bi_w (bi_quo (by decide)) (by first | (simp only [w1, w2, w3, w4, w5, w6, w7, w8] <;> rfl) | rfl))) rfl <| OSuf.aop tyOK rfl (so_bin (by simp only [lk] <;> rfl) (by simp only [lk] <;> rfl) (bi_w bi_mul (by first | (simp only [w1, w2, w3, w4, w5, w6, w7, w8] <;> rfl) | rfl))) rfl <| OSuf.aop tyOK rfl (so_bin (by simp only [lk] <;> rfl) (by simp only [lk] <;> rfl) (bi_w bi_add (by first | (simp only [w1, w2, w3, w4, w5, w6, w7, w8] <;> rfl) | rfl))) rfl <| OSuf.aop tyOK rfl (so_assign (by simp only [lk] <;> rfl)) rfl <| OSuf.nil <| SQ.normal ?_
      refine W.seq <| W.reg <| OSuf.aop tyOK rfl sm rfl <| OSuf.aop tyOK rfl sm rfl <| OSuf.aop tyOK rfl (so_bin (by simp only [lk] <;> rfl) (by simp only [lk] <;> rfl) (bi_w (bi_quo (by decide)) (by first | (simp only [w1, w2, w3, w4, w5, w6, w7, w8] <;> rfl) | rfl))) rfl <| OSuf.aop tyOK rfl (so_bin (by simp only [lk] <;> rfl) (by simp only [lk] <;> rfl) (bi_w bi_mul (by first | (simp only [w1, w2, w3, w4, w5, w6, w7, w8] <;> rfl) | rfl))) rfl <| OSuf.aop tyOK rfl (so_bin (by simp only [lk] <;> rfl) (by simp only [lk] <;> rfl) (bi_w bi_add (by first | (simp only [w1, w2, w3, w4, w5, w6, w7, w8] <;> rfl) | rfl))) rfl <| OSuf.aop tyOK rfl (so_assign (by simp only [lk] <;> rfl)) rfl <| OSuf.nil <| SQ.normal ?_
      refine W.seq <| W.seq <| W.reg <| OSuf.aop tyOK rfl sm rfl <| OSuf.aopT tyOK rfl (so_bin (by simp only [lk] <;> rfl) (by simp only [lk] <;> rfl) bi_geq) (fun _ => rfl) (by first | rfl | assumption | ((simp only [bl, hgr]) <;> first | done | assumption | omega) | (simp; done) | (simp; omega)) <| OSuf.nil <| SQ.normal ?_
      refine W.yes (by simp only [lk] <;> rfl) <| W.seq <| W.seq <| W.reg <| OSuf.aop tyOK rfl sm rfl <| OSuf.aopF tyOK rfl (so_bin (by simp only [lk] <;> rfl) (by simp only [lk] <;> rfl) bi_geq) (fun _ => rfl) (by first | rfl | assumption | ((simp only [bl, hgr]) <;> first | done | assumption | omega) | (simp; done) | (simp; omega)) <| OSuf.nil <| SQ.normal ?_
      refine W.no (by simp only [lk] <;> rfl) <| CWp.skip <| SQ.normal ?_
      refine W.reg <| OSuf.aop tyOK rfl sm rfl <| OSuf.aop tyOK rfl sm rfl <| OSuf.aop tyOK rfl sm rfl <| OSuf.aop tyOK rfl sm rfl <| OSuf.call rfl (by simp only [aopnds, lk] <;> rfl) en61 (median_c _ g r N h.next d hN hgr hqr 0 (hg ▸ hg0) (by omega) (by omega) (a + l4) (a + l4 * 2) (a + l4 * 3) (by omega) (by omega) (by omega) hsz) ?_
      rintro _ _ ⟨s4, x4, rfl, rfl, g10, g11, g12⟩
      refine ⟨_, rfl, ?_⟩
      refine OSuf.aop tyOK rfl (so_assign (by simp only [lk] <;> rfl)) rfl <| OSuf.nil <| SQ.normal ?_
      refine W.seq <| W.reg <| OSuf.aop tyOK rfl (so_load (by simp only [lk] <;> rfl) (by simp (disch := first | assumption | omega | (simp only [nx] <;> omega) | fail) only [aLoad, ty3, rowOf, hpl, hgr] <;> rfl)) rfl <| OSuf.nil <| SQ.normal ?_
      refine W.block <| W.seq <| W.reg <| OSuf.aopB tyOK rfl (so_bin (by simp only [lk] <;> rfl) (by simp only [lk] <;> rfl) bi_eql) (fun _ => rfl) (fun hb => ?_) (fun hb => ?_)
      · try simp only [bl] at hb
        refine OSuf.aopT tyOK rfl (so_assign (by simp only [lk] <;> rfl)) (fun _ => rfl) rfl <| OSuf.nil <| SQ.normal ?_
        refine W.yes (by simp only [lk] <;> rfl) <| W.seq <| W.reg <| OSuf.aop tyOK rfl sm rfl <| OSuf.aop tyOK rfl (so_assign (by simp only [lk] <;> rfl)) rfl <| OSuf.aop tyOK rfl (so_assign (by simp only [lk] <;> rfl)) rfl <| OSuf.nil <| SQ.normal ?_
        refine CWp.ret <| BQ.ret <| FQ.ret (by simp only [aRet, Try.f47, aResults, aResult, lk, Nat.reduceEqDiff, reduceIte] <;> rfl) ?_
        exact ⟨⟨x4, 1, rfl, by omega, by omega⟩, s4, by rw [hg]⟩
      · try simp only [bl] at hb
        refine OSuf.aopF tyOK rfl (so_assign (by simp only [lk] <;> rfl)) (fun _ => rfl) rfl <| OSuf.nil <| SQ.normal ?_
        refine W.no (by simp only [lk] <;> rfl) <| W.seq <| W.reg <| OSuf.aopB tyOK rfl (so_bin (by simp only [lk] <;> rfl) (by simp only [lk] <;> rfl) bi_eql) (fun _ => rfl) (fun hb => ?_) (fun hb => ?_)
        · try simp only [bl] at hb
          refine OSuf.aopT tyOK rfl (so_assign (by simp only [lk] <;> rfl)) (fun _ => rfl) rfl <| OSuf.nil <| SQ.normal ?_
          refine W.yes (by simp only [lk] <;> rfl) <| W.seq <| W.reg <| OSuf.aop tyOK rfl sm rfl <| OSuf.aop tyOK rfl (so_assign (by simp only [lk] <;> rfl)) rfl <| OSuf.aop tyOK rfl (so_assign (by simp only [lk] <;> rfl)) rfl <| OSuf.nil <| SQ.normal ?_
          refine CWp.ret <| BQ.ret <| FQ.ret (by simp only [aRet, Try.f47, aResults, aResult, lk, Nat.reduceEqDiff, reduceIte] <;> rfl) ?_
          exact ⟨⟨x4, 2, rfl, by omega, by omega⟩, s4, by rw [hg]⟩
        · try simp only [bl] at hb
          refine OSuf.aopF tyOK rfl (so_assign (by simp only [lk] <;> rfl)) (fun _ => rfl) rfl <| OSuf.nil <| SQ.normal ?_
          refine W.no (by simp only [lk] <;> rfl) <| W.seq <| W.reg <| OSuf.aop tyOK rfl sm rfl <| OSuf.aop tyOK rfl (so_assign (by simp only [lk] <;> rfl)) rfl <| OSuf.aop tyOK rfl (so_assign (by simp only [lk] <;> rfl)) rfl <| OSuf.nil <| SQ.normal ?_
          refine CWp.ret <| BQ.ret <| FQ.ret (by simp only [aRet, Try.f47, aResults, aResult, lk, Nat.reduceEqDiff, reduceIte] <;> rfl) ?_
          exact ⟨⟨x4, 0, rfl, by omega, by omega⟩, s4, by rw [hg]⟩
  · rintro u h' ⟨⟨p, hint, rfl, h1, h2⟩, s, rfl⟩
    refine ⟨.flat rfl, _, rfl, fun x o hx => .inl ⟨hx, fun hlt => ?_⟩, ⟨p, hint, rfl, h1, h2⟩, rfl⟩
    simp only [AHeap.next_set] at hlt
    rw [AHeap.get_set_ne (by omega), AHeap.get_new_ne (by simp only [AHeap.next_set]; omega)]; exact hx
end Go.Proofs.Ytldhcjfhlfgleaa.SortS
