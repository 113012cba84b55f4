/-
  The sort of the library, walked, at string: breakPatternsOrdered, partialInsertionSortOrdered.
-/
import Derived.Test.YtldhcjfhlfgleaaSortE
namespace Go.Proofs.Ytldhcjfhlfgleaa.SortS
open Go.Ab Go.Sort
set_option linter.unusedSimpArgs false
set_option linter.unusedVariables false
set_option maxRecDepth 10000
set_option maxHeartbeats 4000000

theorem power_c (h : AHeap) (n : Nat) (hn : n < 1000000000) : FWp Try.prog 58 [I64 n] h fun u h' => u = U64 (2 ^ bitsLen n : Nat) ∧ h' = h := by
  have hb : bitsLen n ≤ 30 := (bitsLen_le_iff n 30).2 (by omega)
  have hp : 2 ^ bitsLen n ≤ 2 ^ 30 := Nat.pow_le_pow_right (by omega) hb
  have w1 : IntKind.u64.wrap (n : Int) = (n : Int) := wrap_u64 (by omega) (by omega)
  have w2 : IntKind.u64.wrap (1 * 2 ^ (min (Int.toNat (bitsLen n : Int)) IntKind.u64.bits)) = ((2 ^ bitsLen n : Nat) : Int) := by
    have e : min (Int.toNat (bitsLen n : Int)) IntKind.u64.bits = bitsLen n := by simp only [IntKind.bits, Int.toNat_natCast]; omega
    rw [e, Int.one_mul]
    have e2 : (2 : Int) ^ bitsLen n = ((2 ^ bitsLen n : Nat) : Int) := by norm_cast
    rw [e2]
    generalize 2 ^ bitsLen n = M at *
    exact wrap_u64 (by omega) (by omega)
  refine W.enter tyOK Try.func58 rfl rfl ?_
  simp only [entry]
  refine W.seq <| W.reg <| OSuf.aop tyOK rfl (so_assign (by simp only [lk] <;> rfl)) rfl <| OSuf.nil <| SQ.normal ?_
  refine W.seq <| W.reg <| OSuf.aop tyOK rfl sm rfl <| OSuf.aop tyOK rfl (so_conw (so_conv tyOK (by simp only [lk] <;> rfl) ty3 ⟨_, rfl⟩ ty91 rfl) (by first | (simp only [w1, w2] <;> rfl) | rfl)) rfl <| OSuf.callD rfl (by simp only [aopnds, lk] <;> rfl) en41 (len_c _ n (by omega)) rfl <| OSuf.aop tyOK rfl (so_bin (by simp only [lk] <;> rfl) (by simp only [lk] <;> rfl) (bi_w (bi_shl (by omega)) (by first | (simp only [w1, w2] <;> rfl) | rfl))) rfl <| OSuf.aop tyOK rfl (so_assign (by simp only [lk] <;> rfl)) rfl <| OSuf.nil <| SQ.normal ?_
  refine CWp.ret <| FQ.ret (by simp only [aRet, Try.f58, aResults, aResult, lk, Nat.reduceEqDiff, reduceIte] <;> rfl) ?_
  -- leaf: end
  exact ⟨rfl, rfl⟩

theorem and_nat (x : Int) (m : Nat) (hm : m < 18446744073709551616) : ∃ o : Nat, IntKind.u64.wrap ((BitVec.ofInt IntKind.u64.bits x &&& BitVec.ofInt IntKind.u64.bits (m : Int)).toNat : Nat) = o ∧ o ≤ m := by
  refine ⟨(BitVec.ofInt IntKind.u64.bits x &&& BitVec.ofInt IntKind.u64.bits (m : Int)).toNat, ?_, ?_⟩
  · have := (BitVec.ofInt IntKind.u64.bits x &&& BitVec.ofInt IntKind.u64.bits (m : Int)).isLt
    simp only [IntKind.bits] at this ⊢
    exact wrap_u64 (by omega) (by omega)
  · rw [BitVec.toNat_and]
    refine Nat.le_trans Nat.and_le_right ?_
    simp only [IntKind.bits, BitVec.toNat_ofInt]
    omega

theorem break_c (h : AHeap) (r N : Nat) (hrn : r < h.next) (d : Array El) (hN : d.size = N) (a b : Nat) (hab : a + 12 < b) (hb : b ≤ N) (hsz : N < 1000000000) :
    FWp Try.prog 46 [sl r N, I64 a, I64 b] (h.set r (row d)) fun u h' => u = .tuple #[] ∧ ∃ d' : Array El, PermIn a b d d' ∧ h' = h.set r (row d') := by
  refine FWp.gcE (K0 := fun u h' => u = .tuple #[] ∧ ∃ d' : Array El, PermIn a b d d' ∧ h'.get r = some (row d') ∧ ∀ x, x < h.next → ¬ r = x → h'.get x = h.get x) ?_ ?_
  · obtain ⟨l, hl⟩ : ∃ l, l = b - a := ⟨_, rfl⟩
    have w1 : IntKind.i64.wrap ((b : Int) - (a : Int)) = (l : Int) := by rw [wrap_i64 (by omega) (by omega)]; omega
    have w0 : IntKind.u64.wrap (l : Int) = (l : Int) := wrap_u64 (by omega) (by omega)
    obtain ⟨l4, hl4⟩ : ∃ l4, l4 = l / 4 := ⟨_, rfl⟩
    have w2 : IntKind.i64.wrap ((l : Int).tdiv 4) = (l4 : Int) := by rw [Int.tdiv_eq_ediv_of_nonneg (by omega), wrap_i64 (by omega) (by omega)]; omega
    have w3 : IntKind.i64.wrap ((l4 : Int) * 2) = ((l4 * 2 : Nat) : Int) := by rw [wrap_i64 (by omega) (by omega)]; omega
    have w4 : IntKind.i64.wrap ((a : Int) + ((l4 * 2 : Nat) : Int)) = ((a + l4 * 2 : Nat) : Int) := by rw [wrap_i64 (by omega) (by omega)]; omega
    have w5 : IntKind.i64.wrap (((a + l4 * 2 : Nat) : Int) - 1) = ((a + l4 * 2 - 1 : Nat) : Int) := by rw [wrap_i64 (by omega) (by omega)]; omega
    have w6 : IntKind.i64.wrap (((a + l4 * 2 : Nat) : Int) + 1) = ((a + l4 * 2 + 1 : Nat) : Int) := by rw [wrap_i64 (by omega) (by omega)]; omega
    obtain ⟨M, hM⟩ : ∃ M, M = 2 ^ bitsLen l := ⟨_, rfl⟩
    have hM2 : M ≤ 2 * l := by rw [hM]; exact two_pow_bitsLen_le (by omega)
    have hM1 : 1 ≤ M := by rw [hM]; exact Nat.two_pow_pos _
    have w7 : IntKind.u64.wrap ((M : Int) - 1) = ((M - 1 : Nat) : Int) := by rw [wrap_u64 (by omega) (by omega)]; omega
    refine W.enter tyOK Try.func46 rfl rfl ?_
    simp only [entry]
    refine W.seq <| W.reg <| OSuf.aop tyOK rfl sm rfl <| OSuf.aop tyOK rfl sm rfl <| OSuf.aop tyOK rfl (so_bin (by simp only [lk] <;> rfl) (by simp only [lk] <;> rfl) (bi_w bi_sub (by first | (simp only [w0, w1, w2, w3, w4, w5] <;> rfl) | rfl))) rfl <| OSuf.aop tyOK rfl (so_assign (by simp only [lk] <;> rfl)) rfl <| OSuf.nil <| SQ.normal ?_
    refine W.seq <| W.reg <| OSuf.aop tyOK rfl sm rfl <| OSuf.aopT tyOK rfl (so_bin (by simp only [lk] <;> rfl) (by simp only [lk] <;> rfl) bi_geq) (fun _ => rfl) (by first | rfl | assumption | ((simp only [bl, Value.cells]) <;> first | done | assumption | omega) | (simp; done) | (simp; omega)) <| OSuf.nil <| SQ.normal ?_
    refine W.yes (by simp only [lk] <;> rfl) <| W.seq <| W.reg <| OSuf.aop tyOK rfl sm rfl <| OSuf.aop tyOK rfl (so_conw (so_conv tyOK (by simp only [lk] <;> rfl) ty3 ⟨_, rfl⟩ ty104 rfl) (by first | (simp only [w0, w1, w2, w3, w4, w5] <;> rfl) | rfl)) rfl <| OSuf.aop tyOK rfl (so_alloc (by simp only [aAlloc, ty104] <;> rfl)) rfl <| OSuf.aop tyOK rfl (so_store (by simp only [lk] <;> rfl) (by simp only [lk] <;> rfl) (by simp (disch := first | assumption | omega | (simp only [nx] <;> omega) | fail) only [aStore, ty104, writeRow, hpl, Value.cells] <;> rfl)) rfl <| OSuf.nil <| SQ.normal ?_
    refine W.seq <| W.reg <| OSuf.aop tyOK rfl sm rfl <| OSuf.callD rfl (by simp only [aopnds, lk] <;> rfl) en58 (hM ▸ power_c _ l (by omega)) rfl <| OSuf.aop tyOK rfl (so_assign (by simp only [lk] <;> rfl)) rfl <| OSuf.nil <| SQ.normal ?_
    refine W.seq <| W.reg <| OSuf.aop tyOK rfl sm rfl <| OSuf.aop tyOK rfl sm rfl <| OSuf.aop tyOK rfl (so_bin (by simp only [lk] <;> rfl) (by simp only [lk] <;> rfl) (bi_w (bi_quo (by decide)) (by first | (simp only [w0, w1, w2, w3, w4, w5] <;> rfl) | rfl))) rfl <| OSuf.aop tyOK rfl (so_bin (by simp only [lk] <;> rfl) (by simp only [lk] <;> rfl) (bi_w bi_mul (by first | (simp only [w0, w1, w2, w3, w4, w5] <;> rfl) | rfl))) rfl <| OSuf.aop tyOK rfl (so_bin (by simp only [lk] <;> rfl) (by simp only [lk] <;> rfl) (bi_w bi_add (by first | (simp only [w0, w1, w2, w3, w4, w5] <;> rfl) | rfl))) rfl <| OSuf.aop tyOK rfl (so_bin (by simp only [lk] <;> rfl) (by simp only [lk] <;> rfl) (bi_w bi_sub (by first | (simp only [w0, w1, w2, w3, w4, w5] <;> rfl) | rfl))) rfl <| OSuf.aop tyOK rfl (so_assign (by simp only [lk] <;> rfl)) rfl <| OSuf.nil <| SQ.normal ?_
    -- leaf: loop
    refine W.block (W.loop (fun n L h' => ∃ (i : Nat) (d' : Array El) (s : Int), n = a + l4 * 2 + 2 - i ∧ a + l4 * 2 - 1 ≤ i ∧ i ≤ a + l4 * 2 + 2 ∧ PermIn a b d d' ∧ h'.get r = some (row d') ∧ h'.get h.next = some (ucell s) ∧ (∀ x, x < h.next → ¬ r = x → h'.get x = h.get x) ∧
        L = [(0, sl r N), (1, I64 a), (6, I64 l), (7, P0 h.next), (8, U64 M), (9, I64 i)]) (n := 3) ⟨a + l4 * 2 - 1, d, (l : Int), by omega, by omega, by omega, permIn_refl _ _ _, ?_, ?_, ?_, rfl⟩ ?_ ?_)
    · rw [AHeap.get_set_ne (by show ¬ h.next = r; omega), AHeap.get_new_ne (by show ¬ h.next = r; omega), AHeap.get_set_same]
    · exact AHeap.get_set_same _ _ _
    · intro x hx hrx
      rw [AHeap.get_set_ne (by show ¬ h.next = x; omega), AHeap.get_new_ne (by show ¬ h.next = x; omega), AHeap.get_set_ne hrx]
    · simp [HasA, Tr.get_put, hM]
    · rintro n L h1 ⟨i, d1, s, rfl, hi1, hi2, hperm, hr1, hq1, hfr, rfl⟩
      simp only [mkA]
      have hs1 : d1.size = N := hperm.1.trans hN
      by_cases hile : (i : Int) ≤ ((a + l4 * 2 + 1 : Nat) : Int)
      · have w8 : IntKind.i64.wrap ((i : Int) + 1) = ((i + 1 : Nat) : Int) := by rw [wrap_i64 (by omega) (by omega)]; omega
        have step : ∀ (o : Nat), o < l → ∀ (h2 : AHeap) (s' : Int), h2.get r = some (row (swp d1 i (a + o))) → h2.get h.next = some (ucell s') → (∀ x, x < h.next → ¬ r = x → h2.get x = h.get x) →
            ∃ (j : Nat) (d' : Array El) (s : Int), a + l4 * 2 + 2 - (i + 1) = a + l4 * 2 + 2 - j ∧ a + l4 * 2 - 1 ≤ j ∧ j ≤ a + l4 * 2 + 2 ∧ PermIn a b d d' ∧ h2.get r = some (row d') ∧ h2.get h.next = some (ucell s) ∧ (∀ x, x < h.next → ¬ r = x → h2.get x = h.get x) ∧
              [(0, sl r N), (1, I64 a), (6, I64 l), (7, P0 h.next), (8, U64 M), (9, I64 (i + 1 : Nat))] = [(0, sl r N), (1, I64 a), (6, I64 l), (7, P0 h.next), (8, U64 M), (9, I64 j)] :=
          fun o ho h2 s' e1 e2 e3 => ⟨i + 1, _, s', rfl, by omega, by omega, permIn_trans _ _ _ _ _ hperm (swp_permIn d1 a b i (a + o) (by omega) (by omega) (by omega) (by omega) (by omega)), e1, e2, e3, rfl⟩
        have hnr : ¬ h.next = r := by omega
        have hnr' : ¬ r = h.next := by omega
        have hcall : FWp Try.prog 59 [P0 h.next] h1 fun u h' => ∃ s' : Int, u = U64 s' ∧ h' = h1.set h.next (ucell s') ∧ 0 ≤ s' ∧ s' < 18446744073709551616 := by
          have := next_c h1 h.next s
          rw [AHeap.set_self hq1] at this
          exact this
        refine W.seq <| W.seq <| W.reg <| OSuf.aop tyOK rfl sm rfl <| OSuf.aop tyOK rfl sm rfl <| OSuf.aop tyOK rfl sm rfl <| OSuf.aop tyOK rfl (so_bin (by simp only [lk] <;> rfl) (by simp only [lk] <;> rfl) (bi_w (bi_quo (by decide)) (by first | (simp only [w2, w3, w4, w6, w7] <;> rfl) | rfl))) rfl <| OSuf.aop tyOK rfl (so_bin (by simp only [lk] <;> rfl) (by simp only [lk] <;> rfl) (bi_w bi_mul (by first | (simp only [w2, w3, w4, w6, w7] <;> rfl) | rfl))) rfl <| OSuf.aop tyOK rfl (so_bin (by simp only [lk] <;> rfl) (by simp only [lk] <;> rfl) (bi_w bi_add (by first | (simp only [w2, w3, w4, w6, w7] <;> rfl) | rfl))) rfl <| OSuf.aop tyOK rfl (so_bin (by simp only [lk] <;> rfl) (by simp only [lk] <;> rfl) (bi_w bi_add (by first | (simp only [w2, w3, w4, w6, w7] <;> rfl) | rfl))) rfl <| OSuf.aopT tyOK rfl (so_bin (by simp only [lk] <;> rfl) (by simp only [lk] <;> rfl) bi_leq) (fun _ => rfl) (by first | rfl | assumption | ((simp only [bl, hr1, if_pos, Int.toNat_natCast, Nat.mul_one, Nat.zero_add, rg, rs, rb, Value.cells, List.length_cons, List.length_nil, oneCells, List.all_cons, List.all_nil, Value.oneCell', Bool.and_self, cond_true, AHeap.set_set, Array.size_setIfInBounds]) <;> first | done | assumption | omega) | (simp; done) | (simp; omega)) <| OSuf.nil <| SQ.normal ?_
        refine W.yes (by simp only [lk] <;> rfl) <| CWp.skip <| SQ.normal ?_
        refine W.seq <| W.block <| W.seq <| W.reg <| OSuf.call rfl (by simp only [aopnds, lk] <;> rfl) en59 (hcall) ?_
        rintro _ _ ⟨s', rfl, rfl, hs0, hsm⟩
        obtain ⟨o, ho1, ho2⟩ := and_nat s' (M - 1) (by omega)
        have w9 : IntKind.i64.wrap (o : Int) = (o : Int) := wrap_i64 (by omega) (by omega)
        have w10 : IntKind.i64.wrap ((o : Int) - (l : Int)) = (o : Int) - (l : Int) := wrap_i64 (by omega) (by omega)
        have w11 : IntKind.i64.wrap ((a : Int) + ((o : Int) - (l : Int))) = (a : Int) + ((o : Int) - (l : Int)) := wrap_i64 (by omega) (by omega)
        have w12 : IntKind.i64.wrap ((a : Int) + (o : Int)) = ((a + o : Nat) : Int) := by rw [wrap_i64 (by omega) (by omega)]; omega
        refine ⟨_, rfl, ?_⟩
        refine OSuf.aop tyOK rfl sm rfl <| OSuf.aop tyOK rfl (so_bin (by simp only [lk] <;> rfl) (by simp only [lk] <;> rfl) (bi_w bi_sub (by first | (simp only [w2, w3, w4, w6, w7, ho1, w9, w10, w11, w12, w8] <;> rfl) | rfl))) rfl <| OSuf.aop tyOK rfl (so_bin (by simp only [lk] <;> rfl) (by simp only [lk] <;> rfl) (bi_w bi_and (by first | (simp only [w2, w3, w4, w6, w7, ho1, w9, w10, w11, w12, w8] <;> rfl) | rfl))) rfl <| OSuf.aop tyOK rfl (so_conw (so_conv tyOK (by simp only [lk] <;> rfl) ty91 ⟨_, rfl⟩ ty3 rfl) (by first | (simp only [w2, w3, w4, w6, w7, ho1, w9, w10, w11, w12, w8] <;> rfl) | rfl)) rfl <| OSuf.aop tyOK rfl (so_assign (by simp only [lk] <;> rfl)) rfl <| OSuf.nil <| SQ.normal ?_
        refine W.seq <| W.seq <| W.reg <| OSuf.aop tyOK rfl sm rfl <| OSuf.aop tyOK rfl sm rfl <| OSuf.aopB tyOK rfl (so_bin (by simp only [lk] <;> rfl) (by simp only [lk] <;> rfl) bi_geq) (fun _ => rfl) (fun hge => ?_) (fun hge => ?_)
        · try simp only [bl] at hge
          refine OSuf.nil <| SQ.normal ?_
          refine W.yes (by simp only [lk] <;> rfl) <| W.reg <| OSuf.aop tyOK rfl sm rfl <| OSuf.aop tyOK rfl sm rfl <| OSuf.aop tyOK rfl (so_bin (by simp only [lk] <;> rfl) (by simp only [lk] <;> rfl) (bi_w bi_sub (by first | (simp only [w2, w3, w4, w6, w7, ho1, w9, w10, w11, w12, w8] <;> rfl) | rfl))) rfl <| OSuf.aop tyOK rfl (so_assign (by simp only [lk] <;> rfl)) rfl <| OSuf.nil <| SQ.normal ?_
          refine W.regD tyOK mixed (by kernel_rfl) <| SqW.aop rfl sm rfl <| SqW.aop rfl sm rfl <| SqW.aop rfl sm rfl <| SqW.aop rfl sm rfl <| SqW.aop rfl sm rfl <| SqW.aop rfl (so_bin (by simp only [lk] <;> rfl) (by simp only [lk] <;> rfl) (bi_w bi_add (by first | (simp only [w2, w3, w4, w6, w7, ho1, w9, w10, w11, w12, w8] <;> rfl) | rfl))) rfl <| SqW.aop rfl sm rfl <| SqW.aop rfl sm rfl <| SqW.aop rfl sm rfl <| SqW.aop rfl (so_bin (by simp only [lk] <;> rfl) (by simp only [lk] <;> rfl) (bi_w bi_add (by first | (simp only [w2, w3, w4, w6, w7, ho1, w9, w10, w11, w12, w8] <;> rfl) | rfl))) rfl <| SqW.aop rfl (so_indexAddr (by simp only [lk] <;> rfl) (by simp only [lk] <;> rfl) (by simp (disch := first | assumption | omega | (simp only [nx] <;> omega) | fail) only [aIndexAddr, ty60, ty9, hpl, hr1, if_pos, Int.toNat_natCast, Nat.mul_one, Nat.zero_add, rg, rs, rb, Value.cells, List.length_cons, List.length_nil, oneCells, List.all_cons, List.all_nil, Value.oneCell', Bool.and_self, cond_true, AHeap.set_set, Array.size_setIfInBounds] <;> rfl)) rfl <| SqW.aop rfl (so_load (by simp only [lk] <;> rfl) (by simp (disch := first | assumption | omega | (simp only [nx] <;> omega) | fail) only [aLoad, ty9, rowOf, hpl, hr1, if_pos, Int.toNat_natCast, Nat.mul_one, Nat.zero_add, rg, rs, rb, Value.cells, List.length_cons, List.length_nil, oneCells, List.all_cons, List.all_nil, Value.oneCell', Bool.and_self, cond_true, AHeap.set_set, Array.size_setIfInBounds] <;> rfl)) rfl <| SqW.aop rfl sm rfl <| SqW.aop rfl sm rfl <| SqW.aop rfl (so_indexAddr (by simp only [lk] <;> rfl) (by simp only [lk] <;> rfl) (by simp (disch := first | assumption | omega | (simp only [nx] <;> omega) | fail) only [aIndexAddr, ty60, ty9, hpl, hr1, if_pos, Int.toNat_natCast, Nat.mul_one, Nat.zero_add, rg, rs, rb, Value.cells, List.length_cons, List.length_nil, oneCells, List.all_cons, List.all_nil, Value.oneCell', Bool.and_self, cond_true, AHeap.set_set, Array.size_setIfInBounds] <;> rfl)) rfl <| SqW.aop rfl (so_load (by simp only [lk] <;> rfl) (by simp (disch := first | assumption | omega | (simp only [nx] <;> omega) | fail) only [aLoad, ty9, rowOf, hpl, hr1, if_pos, Int.toNat_natCast, Nat.mul_one, Nat.zero_add, rg, rs, rb, Value.cells, List.length_cons, List.length_nil, oneCells, List.all_cons, List.all_nil, Value.oneCell', Bool.and_self, cond_true, AHeap.set_set, Array.size_setIfInBounds] <;> rfl)) rfl <| SqW.aop rfl (so_indexAddr (by simp only [lk] <;> rfl) (by simp only [lk] <;> rfl) (by simp (disch := first | assumption | omega | (simp only [nx] <;> omega) | fail) only [aIndexAddr, ty60, ty9, hpl, hr1, if_pos, Int.toNat_natCast, Nat.mul_one, Nat.zero_add, rg, rs, rb, Value.cells, List.length_cons, List.length_nil, oneCells, List.all_cons, List.all_nil, Value.oneCell', Bool.and_self, cond_true, AHeap.set_set, Array.size_setIfInBounds] <;> rfl)) rfl <| SqW.aop rfl (so_store (by simp only [lk] <;> rfl) (by simp only [lk] <;> rfl) (by simp (disch := first | assumption | omega | (simp only [nx] <;> omega) | fail) only [aStore, ty9, writeRow, hpl, hr1, if_pos, Int.toNat_natCast, Nat.mul_one, Nat.zero_add, rg, rs, rb, Value.cells, List.length_cons, List.length_nil, oneCells, List.all_cons, List.all_nil, Value.oneCell', Bool.and_self, cond_true, AHeap.set_set, Array.size_setIfInBounds] <;> rfl)) rfl <| SqW.aop rfl (so_indexAddr (by simp only [lk] <;> rfl) (by simp only [lk] <;> rfl) (by simp (disch := first | assumption | omega | (simp only [nx] <;> omega) | fail) only [aIndexAddr, ty60, ty9, hpl, hr1, if_pos, Int.toNat_natCast, Nat.mul_one, Nat.zero_add, rg, rs, rb, Value.cells, List.length_cons, List.length_nil, oneCells, List.all_cons, List.all_nil, Value.oneCell', Bool.and_self, cond_true, AHeap.set_set, Array.size_setIfInBounds] <;> rfl)) rfl <| SqW.aop rfl (so_store (by simp only [lk] <;> rfl) (by simp only [lk] <;> rfl) (by simp (disch := first | assumption | omega | (simp only [nx] <;> omega) | fail) only [aStore, ty9, writeRow, hpl, hr1, if_pos, Int.toNat_natCast, Nat.mul_one, Nat.zero_add, rg, rs, rb, Value.cells, List.length_cons, List.length_nil, oneCells, List.all_cons, List.all_nil, Value.oneCell', Bool.and_self, cond_true, AHeap.set_set, Array.size_setIfInBounds] <;> rfl)) rfl <| SqW.nil <| BQ.normal <| SQ.normal ?_
          refine W.reg <| OSuf.aop tyOK rfl sm rfl <| OSuf.aop tyOK rfl (so_bin (by simp only [lk] <;> rfl) (by simp only [lk] <;> rfl) (bi_w bi_add (by first | (simp only [w2, w3, w4, w6, w7, ho1, w9, w10, w11, w12, w8] <;> rfl) | rfl))) rfl <| OSuf.aop tyOK rfl (so_assign (by simp only [lk] <;> rfl)) rfl <| OSuf.nil <| ?_
          have e9 : ((a : Int) + ((o : Int) - (l : Int))).toNat = a + (o - l) := by omega
          rw [e9]
          refine LQ.normal (m := a + l4 * 2 + 2 - (i + 1)) (L := [(0, sl r N), (1, I64 a), (6, I64 l), (7, P0 h.next), (8, U64 M), (9, I64 (i + 1 : Nat))]) (by omega) ?_ (step (o - l) (by omega) _ s' ?_ ?_ ?_)
          · simp only [HasA, Tr.get_put, Nat.reduceEqDiff, reduceIte, and_self]
          · rw [AHeap.get_set_same]; rfl
          · rw [AHeap.get_set_ne hnr', AHeap.get_set_same]
          · intro x hx hrx; rw [AHeap.get_set_ne hrx, AHeap.get_set_ne (by omega)]; exact hfr x hx hrx
        · try simp only [bl] at hge
          refine OSuf.nil <| SQ.normal ?_
          refine W.no (by simp only [lk] <;> rfl) <| CWp.skip <| SQ.normal ?_
          refine W.regD tyOK mixed (by kernel_rfl) <| SqW.aop rfl sm rfl <| SqW.aop rfl sm rfl <| SqW.aop rfl sm rfl <| SqW.aop rfl sm rfl <| SqW.aop rfl sm rfl <| SqW.aop rfl (so_bin (by simp only [lk] <;> rfl) (by simp only [lk] <;> rfl) (bi_w bi_add (by first | (simp only [w2, w3, w4, w6, w7, ho1, w9, w10, w11, w12, w8] <;> rfl) | rfl))) rfl <| SqW.aop rfl sm rfl <| SqW.aop rfl sm rfl <| SqW.aop rfl sm rfl <| SqW.aop rfl (so_bin (by simp only [lk] <;> rfl) (by simp only [lk] <;> rfl) (bi_w bi_add (by first | (simp only [w2, w3, w4, w6, w7, ho1, w9, w10, w11, w12, w8] <;> rfl) | rfl))) rfl <| SqW.aop rfl (so_indexAddr (by simp only [lk] <;> rfl) (by simp only [lk] <;> rfl) (by simp (disch := first | assumption | omega | (simp only [nx] <;> omega) | fail) only [aIndexAddr, ty60, ty9, hpl, hr1, if_pos, Int.toNat_natCast, Nat.mul_one, Nat.zero_add, rg, rs, rb, Value.cells, List.length_cons, List.length_nil, oneCells, List.all_cons, List.all_nil, Value.oneCell', Bool.and_self, cond_true, AHeap.set_set, Array.size_setIfInBounds] <;> rfl)) rfl <| SqW.aop rfl (so_load (by simp only [lk] <;> rfl) (by simp (disch := first | assumption | omega | (simp only [nx] <;> omega) | fail) only [aLoad, ty9, rowOf, hpl, hr1, if_pos, Int.toNat_natCast, Nat.mul_one, Nat.zero_add, rg, rs, rb, Value.cells, List.length_cons, List.length_nil, oneCells, List.all_cons, List.all_nil, Value.oneCell', Bool.and_self, cond_true, AHeap.set_set, Array.size_setIfInBounds] <;> rfl)) rfl <| SqW.aop rfl sm rfl <| SqW.aop rfl sm rfl <| SqW.aop rfl (so_indexAddr (by simp only [lk] <;> rfl) (by simp only [lk] <;> rfl) (by simp (disch := first | assumption | omega | (simp only [nx] <;> omega) | fail) only [aIndexAddr, ty60, ty9, hpl, hr1, if_pos, Int.toNat_natCast, Nat.mul_one, Nat.zero_add, rg, rs, rb, Value.cells, List.length_cons, List.length_nil, oneCells, List.all_cons, List.all_nil, Value.oneCell', Bool.and_self, cond_true, AHeap.set_set, Array.size_setIfInBounds] <;> rfl)) rfl <| SqW.aop rfl (so_load (by simp only [lk] <;> rfl) (by simp (disch := first | assumption | omega | (simp only [nx] <;> omega) | fail) only [aLoad, ty9, rowOf, hpl, hr1, if_pos, Int.toNat_natCast, Nat.mul_one, Nat.zero_add, rg, rs, rb, Value.cells, List.length_cons, List.length_nil, oneCells, List.all_cons, List.all_nil, Value.oneCell', Bool.and_self, cond_true, AHeap.set_set, Array.size_setIfInBounds] <;> rfl)) rfl <| SqW.aop rfl (so_indexAddr (by simp only [lk] <;> rfl) (by simp only [lk] <;> rfl) (by simp (disch := first | assumption | omega | (simp only [nx] <;> omega) | fail) only [aIndexAddr, ty60, ty9, hpl, hr1, if_pos, Int.toNat_natCast, Nat.mul_one, Nat.zero_add, rg, rs, rb, Value.cells, List.length_cons, List.length_nil, oneCells, List.all_cons, List.all_nil, Value.oneCell', Bool.and_self, cond_true, AHeap.set_set, Array.size_setIfInBounds] <;> rfl)) rfl <| SqW.aop rfl (so_store (by simp only [lk] <;> rfl) (by simp only [lk] <;> rfl) (by simp (disch := first | assumption | omega | (simp only [nx] <;> omega) | fail) only [aStore, ty9, writeRow, hpl, hr1, if_pos, Int.toNat_natCast, Nat.mul_one, Nat.zero_add, rg, rs, rb, Value.cells, List.length_cons, List.length_nil, oneCells, List.all_cons, List.all_nil, Value.oneCell', Bool.and_self, cond_true, AHeap.set_set, Array.size_setIfInBounds] <;> rfl)) rfl <| SqW.aop rfl (so_indexAddr (by simp only [lk] <;> rfl) (by simp only [lk] <;> rfl) (by simp (disch := first | assumption | omega | (simp only [nx] <;> omega) | fail) only [aIndexAddr, ty60, ty9, hpl, hr1, if_pos, Int.toNat_natCast, Nat.mul_one, Nat.zero_add, rg, rs, rb, Value.cells, List.length_cons, List.length_nil, oneCells, List.all_cons, List.all_nil, Value.oneCell', Bool.and_self, cond_true, AHeap.set_set, Array.size_setIfInBounds] <;> rfl)) rfl <| SqW.aop rfl (so_store (by simp only [lk] <;> rfl) (by simp only [lk] <;> rfl) (by simp (disch := first | assumption | omega | (simp only [nx] <;> omega) | fail) only [aStore, ty9, writeRow, hpl, hr1, if_pos, Int.toNat_natCast, Nat.mul_one, Nat.zero_add, rg, rs, rb, Value.cells, List.length_cons, List.length_nil, oneCells, List.all_cons, List.all_nil, Value.oneCell', Bool.and_self, cond_true, AHeap.set_set, Array.size_setIfInBounds] <;> rfl)) rfl <| SqW.nil <| BQ.normal <| SQ.normal ?_
          refine W.reg <| OSuf.aop tyOK rfl sm rfl <| OSuf.aop tyOK rfl (so_bin (by simp only [lk] <;> rfl) (by simp only [lk] <;> rfl) (bi_w bi_add (by first | (simp only [w2, w3, w4, w6, w7, ho1, w9, w10, w11, w12, w8] <;> rfl) | rfl))) rfl <| OSuf.aop tyOK rfl (so_assign (by simp only [lk] <;> rfl)) rfl <| OSuf.nil <| ?_
          refine LQ.normal (m := a + l4 * 2 + 2 - (i + 1)) (L := [(0, sl r N), (1, I64 a), (6, I64 l), (7, P0 h.next), (8, U64 M), (9, I64 (i + 1 : Nat))]) (by omega) ?_ (step o (by omega) _ s' ?_ ?_ ?_)
          · simp only [HasA, Tr.get_put, Nat.reduceEqDiff, reduceIte, and_self]
          · rw [AHeap.get_set_same]; rfl
          · rw [AHeap.get_set_ne hnr', AHeap.get_set_same]
          · intro x hx hrx; rw [AHeap.get_set_ne hrx, AHeap.get_set_ne (by omega)]; exact hfr x hx hrx
      · refine W.seq <| W.seq <| W.reg <| OSuf.aop tyOK rfl sm rfl <| OSuf.aop tyOK rfl sm rfl <| OSuf.aop tyOK rfl sm rfl <| OSuf.aop tyOK rfl (so_bin (by simp only [lk] <;> rfl) (by simp only [lk] <;> rfl) (bi_w (bi_quo (by decide)) (by first | (simp only [w2, w3, w4, w6] <;> rfl) | rfl))) rfl <| OSuf.aop tyOK rfl (so_bin (by simp only [lk] <;> rfl) (by simp only [lk] <;> rfl) (bi_w bi_mul (by first | (simp only [w2, w3, w4, w6] <;> rfl) | rfl))) rfl <| OSuf.aop tyOK rfl (so_bin (by simp only [lk] <;> rfl) (by simp only [lk] <;> rfl) (bi_w bi_add (by first | (simp only [w2, w3, w4, w6] <;> rfl) | rfl))) rfl <| OSuf.aop tyOK rfl (so_bin (by simp only [lk] <;> rfl) (by simp only [lk] <;> rfl) (bi_w bi_add (by first | (simp only [w2, w3, w4, w6] <;> rfl) | rfl))) rfl <| OSuf.aopF tyOK rfl (so_bin (by simp only [lk] <;> rfl) (by simp only [lk] <;> rfl) bi_leq) (fun _ => rfl) (by first | rfl | assumption | ((simp only [bl]) <;> first | done | assumption | omega) | (simp; done) | (simp; omega)) <| OSuf.nil <| SQ.normal ?_
        refine W.no (by simp only [lk] <;> rfl) <| CWp.exit <| SQ.exit <| LQ.exit <| BQ.exit <| FQ.normal (by simp only [aRet, Try.f46, aResults, aResult, lk, Nat.reduceEqDiff, reduceIte] <;> rfl) ?_
        -- leaf: end
        exact ⟨rfl, d1, hperm, hr1, hfr⟩
  · rintro u h' ⟨rfl, d', hp, h1, h2⟩
    refine ⟨.flat rfl, h.set r (row d'), rfl, fun x o hx => ?_, rfl, d', hp, rfl⟩
    rw [AHeap.get_set] at hx
    split at hx
    · rename_i e
      subst e
      cases hx
      refine .inr ⟨hrn, h1, fun v hv => ?_⟩
      simp only [List.mem_map] at hv
      obtain ⟨y, _, rfl⟩ := hv
      exact .flat rfl
    · rename_i e
      refine .inl ⟨by rw [AHeap.get_set_ne e]; exact hx, fun hlt => ?_⟩
      rw [h2 x hlt e]; exact hx
end Go.Proofs.Ytldhcjfhlfgleaa.SortS
