/-
  The sort of the library, walked, at string: lengths in bits, breakPatternsOrdered.
-/
import Derived.Test.YtldhcjfhlfgleaaSortD
namespace Go.Proofs.Ytldhcjfhlfgleaa.SortS
open Go.Ab Go.Sort
set_option linter.unusedSimpArgs false
set_option linter.unusedVariables false
set_option maxRecDepth 10000
set_option maxHeartbeats 4000000

abbrev U64 (n : Int) : Value := .int .u64 n
abbrev ucell (n : Int) : AObj := .cells [U64 n] 1
def TAB : ByteArray := ⟨#[0,1,2,2,3,3,3,3,4,4,4,4,4,4,4,4,5,5,5,5,5,5,5,5,5,5,5,5,5,5,5,5,6,6,6,6,6,6,6,6,6,6,6,6,6,6,6,6,6,6,6,6,6,6,6,6,6,6,6,6,6,6,6,6,7,7,7,7,7,7,7,7,7,7,7,7,7,7,7,7,7,7,7,7,7,7,7,7,7,7,7,7,7,7,7,7,7,7,7,7,7,7,7,7,7,7,7,7,7,7,7,7,7,7,7,7,7,7,7,7,7,7,7,7,7,7,7,7,8,8,8,8,8,8,8,8,8,8,8,8,8,8,8,8,8,8,8,8,8,8,8,8,8,8,8,8,8,8,8,8,8,8,8,8,8,8,8,8,8,8,8,8,8,8,8,8,8,8,8,8,8,8,8,8,8,8,8,8,8,8,8,8,8,8,8,8,8,8,8,8,8,8,8,8,8,8,8,8,8,8,8,8,8,8,8,8,8,8,8,8,8,8,8,8,8,8,8,8,8,8,8,8,8,8,8,8,8,8,8,8,8,8,8,8,8,8,8,8,8,8,8,8,8,8,8,8]⟩
theorem tab_ok : ∀ i : Fin 256, TAB.data.toList[i.val]? = some (UInt8.ofNat (bitsLen i.val)) := by decide +kernel
theorem tab_get {i : Nat} (hi : i < 256) : TAB.data.toList[i]? = some (UInt8.ofNat (bitsLen i)) := tab_ok ⟨i, hi⟩
theorem bits_small : ∀ i : Fin 256, bitsLen i.val ≤ 8 := by decide +kernel
theorem bitsLen_shift {n k : Nat} (h : 2 ^ k ≤ n) : bitsLen (n / 2 ^ k) + k = bitsLen n := by
  have hp : 0 < 2 ^ k := Nat.two_pow_pos k
  have h1 : n / 2 ^ k ≠ 0 := by
    have := (Nat.le_div_iff_mul_le hp).2 (by omega : 1 * 2 ^ k ≤ n); omega
  have h2 : n ≠ 0 := by omega
  have key : ∀ x, x ≠ 0 → bitsLen x = Nat.log2 x + 1 := fun x hx => by simp [bitsLen, hx]
  rw [key _ h1, key _ h2]
  have : Nat.log2 n = Nat.log2 (n / 2 ^ k) + k := by
    have a1 := (Nat.log2_eq_iff h1 (k := Nat.log2 (n / 2 ^ k))).1 rfl
    refine (Nat.log2_eq_iff h2).2 ⟨?_, ?_⟩
    · rw [Nat.pow_add]; exact (Nat.le_div_iff_mul_le hp).1 a1.1
    · have := (Nat.div_lt_iff_lt_mul hp).1 a1.2
      rw [Nat.add_right_comm, Nat.pow_add]; exact this
  omega

theorem next_c (h : AHeap) (q : Nat) (s : Int) : FWp Try.prog 59 [P0 q] (h.set q (ucell s)) fun u h' => ∃ s' : Int, u = U64 s' ∧ h' = h.set q (ucell s') ∧ 0 ≤ s' ∧ s' < 18446744073709551616 := by
  refine W.enter tyOK Try.func59 rfl rfl ?_
  simp only [entry]
  refine W.seq <| W.reg <| OSuf.aop tyOK rfl (so_assign (by simp only [lk] <;> rfl)) rfl <| OSuf.nil <| SQ.normal ?_
  refine W.seq <| W.regD tyOK mixed (by kernel_rfl) <| SqW.aop rfl sm rfl <| SqW.aop rfl (so_nilCheck (by simp only [lk] <;> rfl)) rfl <| SqW.aop rfl (so_load (by simp only [lk] <;> rfl) (by simp (disch := first | assumption | omega | (simp only [nx] <;> omega) | fail) only [aLoad, ty104, rowOf, hpl, AHeap.set_set] <;> rfl)) rfl <| SqW.aop rfl sm rfl <| SqW.aop rfl (so_nilCheck (by simp only [lk] <;> rfl)) rfl <| SqW.aop rfl (so_load (by simp only [lk] <;> rfl) (by simp (disch := first | assumption | omega | (simp only [nx] <;> omega) | fail) only [aLoad, ty104, rowOf, hpl, AHeap.set_set] <;> rfl)) rfl <| SqW.aop rfl (so_bin (by simp only [lk] <;> rfl) (by simp only [lk] <;> rfl) (bi_w (bi_shl (by decide)) rfl)) rfl <| SqW.aop rfl (so_bin (by simp only [lk] <;> rfl) (by simp only [lk] <;> rfl) (bi_w bi_xor rfl)) rfl <| SqW.aop rfl (so_nilCheck (by simp only [lk] <;> rfl)) rfl <| SqW.aop rfl (so_store (by simp only [lk] <;> rfl) (by simp only [lk] <;> rfl) (by simp (disch := first | assumption | omega | (simp only [nx] <;> omega) | fail) only [aStore, ty104, writeRow, hpl, AHeap.set_set] <;> rfl)) rfl <| SqW.nil <| SQ.normal ?_
  refine W.seq <| W.regD tyOK mixed (by kernel_rfl) <| SqW.aop rfl sm rfl <| SqW.aop rfl (so_nilCheck (by simp only [lk] <;> rfl)) rfl <| SqW.aop rfl (so_load (by simp only [lk] <;> rfl) (by simp (disch := first | assumption | omega | (simp only [nx] <;> omega) | fail) only [aLoad, ty104, rowOf, hpl, AHeap.set_set] <;> rfl)) rfl <| SqW.aop rfl sm rfl <| SqW.aop rfl (so_nilCheck (by simp only [lk] <;> rfl)) rfl <| SqW.aop rfl (so_load (by simp only [lk] <;> rfl) (by simp (disch := first | assumption | omega | (simp only [nx] <;> omega) | fail) only [aLoad, ty104, rowOf, hpl, AHeap.set_set] <;> rfl)) rfl <| SqW.aop rfl (so_bin (by simp only [lk] <;> rfl) (by simp only [lk] <;> rfl) (bi_w (bi_shr (by decide)) rfl)) rfl <| SqW.aop rfl (so_bin (by simp only [lk] <;> rfl) (by simp only [lk] <;> rfl) (bi_w bi_xor rfl)) rfl <| SqW.aop rfl (so_nilCheck (by simp only [lk] <;> rfl)) rfl <| SqW.aop rfl (so_store (by simp only [lk] <;> rfl) (by simp only [lk] <;> rfl) (by simp (disch := first | assumption | omega | (simp only [nx] <;> omega) | fail) only [aStore, ty104, writeRow, hpl, AHeap.set_set] <;> rfl)) rfl <| SqW.nil <| SQ.normal ?_
  refine W.seq <| W.regD tyOK mixed (by kernel_rfl) <| SqW.aop rfl sm rfl <| SqW.aop rfl (so_nilCheck (by simp only [lk] <;> rfl)) rfl <| SqW.aop rfl (so_load (by simp only [lk] <;> rfl) (by simp (disch := first | assumption | omega | (simp only [nx] <;> omega) | fail) only [aLoad, ty104, rowOf, hpl, AHeap.set_set] <;> rfl)) rfl <| SqW.aop rfl sm rfl <| SqW.aop rfl (so_nilCheck (by simp only [lk] <;> rfl)) rfl <| SqW.aop rfl (so_load (by simp only [lk] <;> rfl) (by simp (disch := first | assumption | omega | (simp only [nx] <;> omega) | fail) only [aLoad, ty104, rowOf, hpl, AHeap.set_set] <;> rfl)) rfl <| SqW.aop rfl (so_bin (by simp only [lk] <;> rfl) (by simp only [lk] <;> rfl) (bi_w (bi_shl (by decide)) rfl)) rfl <| SqW.aop rfl (so_bin (by simp only [lk] <;> rfl) (by simp only [lk] <;> rfl) (bi_w bi_xor rfl)) rfl <| SqW.aop rfl (so_nilCheck (by simp only [lk] <;> rfl)) rfl <| SqW.aop rfl (so_store (by simp only [lk] <;> rfl) (by simp only [lk] <;> rfl) (by simp (disch := first | assumption | omega | (simp only [nx] <;> omega) | fail) only [aStore, ty104, writeRow, hpl, AHeap.set_set] <;> rfl)) rfl <| SqW.nil <| SQ.normal ?_
  refine W.seq <| W.reg <| OSuf.aop tyOK rfl sm rfl <| OSuf.aop tyOK rfl (so_nilCheck (by simp only [lk] <;> rfl)) rfl <| OSuf.aop tyOK rfl (so_load (by simp only [lk] <;> rfl) (by simp (disch := first | assumption | omega | (simp only [nx] <;> omega) | fail) only [aLoad, ty104, rowOf, hpl, AHeap.set_set] <;> rfl)) rfl <| OSuf.aop tyOK rfl (so_assign (by simp only [lk] <;> rfl)) rfl <| OSuf.nil <| SQ.normal ?_
  refine CWp.ret <| FQ.ret (by simp only [aRet, Try.f59, aResults, aResult, lk, Nat.reduceEqDiff, reduceIte] <;> rfl) ?_
  -- leaf: end
  exact ⟨_, rfl, rfl, (wrap_u64_range _).1, (wrap_u64_range _).2⟩

theorem len64_c (h : AHeap) (n : Nat) (hn : n < 1073741824) : FWp Try.prog 54 [U64 n] h fun u h' => u = I64 (bitsLen n) ∧ h' = h := by
  refine W.enter tyOK Try.func54 rfl rfl ?_
  simp only [entry]
  have small : ∀ m : Nat, m < 256 → ((UInt8.ofNat (bitsLen m)).toNat : Int) = bitsLen m ∧ bitsLen m ≤ 8 := fun m hm => by
    have := bits_small ⟨m, hm⟩
    simp only at this
    refine ⟨?_, this⟩
    rw [UInt8.toNat_ofNat']; omega
  have fd : ∀ (m k : Nat), Int.fdiv (m : Int) (2 ^ k : Int) = ((m / 2 ^ k : Nat) : Int) := fun m k => by
    rw [Int.fdiv_eq_ediv_of_nonneg _ (by exact Int.le_of_lt (Int.pow_pos (by decide))) ]; norm_cast
  by_cases h1 : (n : Int) ≥ 65536
  · obtain ⟨m, hm⟩ : ∃ m, m = n / 2 ^ 16 := ⟨_, rfl⟩
    have e1 := bitsLen_shift (n := n) (k := 16) (by omega)
    have v1 : Int.fdiv (n : Int) (2 ^ (min (Int.toNat 16) (IntKind.u64.bits))) = (m : Int) := by rw [hm]; exact fd n 16
    have hm2 : m < 16384 := by rw [hm]; omega
    by_cases h2 : (m : Int) ≥ 256
    · obtain ⟨l, hl⟩ : ∃ l, l = m / 2 ^ 8 := ⟨_, rfl⟩
      have e2 := bitsLen_shift (n := m) (k := 8) (by omega)
      have v2 : Int.fdiv (m : Int) (2 ^ (min (Int.toNat 8) (IntKind.u64.bits))) = (l : Int) := by rw [hl]; exact fd m 8
      have hl2 : l < 256 := by rw [hl]; omega
      have s1 := small l hl2
      have w1 : IntKind.u8.wrap (l : Int) = (l : Int) := wrap_u8 (by omega) (by omega)
      have w2 : IntKind.i64.wrap ((UInt8.ofNat (bitsLen l)).toNat : Int) = (bitsLen l : Int) := by rw [s1.1]; exact wrap_i64 (by omega) (by omega)
      have w3 : IntKind.i64.wrap ((0 : Int) + 16) = 16 := by decide
      have w4 : IntKind.i64.wrap ((16 : Int) + 8) = 24 := by decide
      have w5 : IntKind.i64.wrap ((24 : Int) + (bitsLen l : Int)) = (bitsLen n : Int) := by rw [wrap_i64 (by omega) (by omega)]; rw [← hm] at e1; rw [← hl] at e2; omega
      refine W.seq <| W.reg <| OSuf.aop tyOK rfl (so_assign (by simp only [lk] <;> rfl)) rfl <| OSuf.nil <| SQ.normal ?_
      refine W.seq <| W.seq <| W.reg <| OSuf.aop tyOK rfl sm rfl <| OSuf.aopF tyOK rfl (so_bin (by simp only [lk] <;> rfl) (by simp only [lk] <;> rfl) bi_geq) (fun _ => rfl) (by first | rfl | assumption | ((simp only [bl]) <;> first | done | assumption | omega) | (simp; done) | (simp; omega)) <| OSuf.nil <| SQ.normal ?_
      refine W.no (by simp only [lk] <;> rfl) <| CWp.skip <| SQ.normal ?_
      refine W.seq <| W.seq <| W.reg <| OSuf.aop tyOK rfl sm rfl <| OSuf.aopT tyOK rfl (so_bin (by simp only [lk] <;> rfl) (by simp only [lk] <;> rfl) bi_geq) (fun _ => rfl) (by first | rfl | assumption | ((simp only [bl]) <;> first | done | assumption | omega) | (simp; done) | (simp; omega)) <| OSuf.nil <| SQ.normal ?_
      refine W.yes (by simp only [lk] <;> rfl) <| W.seq <| W.reg <| OSuf.aop tyOK rfl sm rfl <| OSuf.aop tyOK rfl (so_bin (by simp only [lk] <;> rfl) (by simp only [lk] <;> rfl) (bi_w (bi_shr (by decide)) (by first | (simp only [v1, v2, w1, w2, w3, w4, w5] <;> rfl) | rfl))) rfl <| OSuf.aop tyOK rfl (so_assign (by simp only [lk] <;> rfl)) rfl <| OSuf.nil <| SQ.normal ?_
      refine W.reg <| OSuf.aop tyOK rfl sm rfl <| OSuf.aop tyOK rfl (so_bin (by simp only [lk] <;> rfl) (by simp only [lk] <;> rfl) (bi_w bi_add (by first | (simp only [v1, v2, w1, w2, w3, w4, w5] <;> rfl) | rfl))) rfl <| OSuf.aop tyOK rfl (so_assign (by simp only [lk] <;> rfl)) rfl <| OSuf.nil <| SQ.normal ?_
      refine W.seq <| W.seq <| W.reg <| OSuf.aop tyOK rfl sm rfl <| OSuf.aopT tyOK rfl (so_bin (by simp only [lk] <;> rfl) (by simp only [lk] <;> rfl) bi_geq) (fun _ => rfl) (by first | rfl | assumption | ((simp only [bl]) <;> first | done | assumption | omega) | (simp; done) | (simp; omega)) <| OSuf.nil <| SQ.normal ?_
      refine W.yes (by simp only [lk] <;> rfl) <| W.seq <| W.reg <| OSuf.aop tyOK rfl sm rfl <| OSuf.aop tyOK rfl (so_bin (by simp only [lk] <;> rfl) (by simp only [lk] <;> rfl) (bi_w (bi_shr (by decide)) (by first | (simp only [v1, v2, w1, w2, w3, w4, w5] <;> rfl) | rfl))) rfl <| OSuf.aop tyOK rfl (so_assign (by simp only [lk] <;> rfl)) rfl <| OSuf.nil <| SQ.normal ?_
      refine W.reg <| OSuf.aop tyOK rfl sm rfl <| OSuf.aop tyOK rfl (so_bin (by simp only [lk] <;> rfl) (by simp only [lk] <;> rfl) (bi_w bi_add (by first | (simp only [v1, v2, w1, w2, w3, w4, w5] <;> rfl) | rfl))) rfl <| OSuf.aop tyOK rfl (so_assign (by simp only [lk] <;> rfl)) rfl <| OSuf.nil <| SQ.normal ?_
      refine W.seq <| W.reg <| OSuf.aop tyOK rfl sm rfl <| OSuf.aop tyOK rfl sm rfl <| OSuf.aop tyOK rfl (so_conw (so_conv tyOK (by simp only [lk] <;> rfl) ty27 ⟨_, rfl⟩ ty5 rfl) (by first | (simp only [v1, v2, w1, w2, w3, w4, w5] <;> rfl) | rfl)) rfl <| OSuf.aop tyOK rfl (so_index (by simp only [lk] <;> rfl) (by simp only [lk] <;> rfl) (ix_str ty9 rfl (tab_get hl2))) rfl <| OSuf.aop tyOK rfl (so_conw (so_conv tyOK (by simp only [lk] <;> rfl) ty5 ⟨_, rfl⟩ ty3 rfl) (by first | (simp only [v1, v2, w1, w2, w3, w4, w5] <;> rfl) | rfl)) rfl <| OSuf.aop tyOK rfl (so_bin (by simp only [lk] <;> rfl) (by simp only [lk] <;> rfl) (bi_w bi_add (by first | (simp only [v1, v2, w1, w2, w3, w4, w5] <;> rfl) | rfl))) rfl <| OSuf.aop tyOK rfl (so_assign (by simp only [lk] <;> rfl)) rfl <| OSuf.nil <| SQ.normal ?_
      refine CWp.ret <| FQ.ret (by simp only [aRet, Try.f54, aResults, aResult, lk, Nat.reduceEqDiff, reduceIte] <;> rfl) ?_
      -- leaf: end
      exact ⟨rfl, rfl⟩
    · have s1 := small m (by omega)
      have w1 : IntKind.u8.wrap (m : Int) = (m : Int) := wrap_u8 (by omega) (by omega)
      have w2 : IntKind.i64.wrap ((UInt8.ofNat (bitsLen m)).toNat : Int) = (bitsLen m : Int) := by rw [s1.1]; exact wrap_i64 (by omega) (by omega)
      have w3 : IntKind.i64.wrap ((0 : Int) + 16) = 16 := by decide
      have w5 : IntKind.i64.wrap ((16 : Int) + (bitsLen m : Int)) = (bitsLen n : Int) := by rw [wrap_i64 (by omega) (by omega)]; rw [← hm] at e1; omega
      refine W.seq <| W.reg <| OSuf.aop tyOK rfl (so_assign (by simp only [lk] <;> rfl)) rfl <| OSuf.nil <| SQ.normal ?_
      refine W.seq <| W.seq <| W.reg <| OSuf.aop tyOK rfl sm rfl <| OSuf.aopF tyOK rfl (so_bin (by simp only [lk] <;> rfl) (by simp only [lk] <;> rfl) bi_geq) (fun _ => rfl) (by first | rfl | assumption | ((simp only [bl]) <;> first | done | assumption | omega) | (simp; done) | (simp; omega)) <| OSuf.nil <| SQ.normal ?_
      refine W.no (by simp only [lk] <;> rfl) <| CWp.skip <| SQ.normal ?_
      refine W.seq <| W.seq <| W.reg <| OSuf.aop tyOK rfl sm rfl <| OSuf.aopT tyOK rfl (so_bin (by simp only [lk] <;> rfl) (by simp only [lk] <;> rfl) bi_geq) (fun _ => rfl) (by first | rfl | assumption | ((simp only [bl]) <;> first | done | assumption | omega) | (simp; done) | (simp; omega)) <| OSuf.nil <| SQ.normal ?_
      refine W.yes (by simp only [lk] <;> rfl) <| W.seq <| W.reg <| OSuf.aop tyOK rfl sm rfl <| OSuf.aop tyOK rfl (so_bin (by simp only [lk] <;> rfl) (by simp only [lk] <;> rfl) (bi_w (bi_shr (by decide)) (by first | (simp only [v1, w1, w2, w3, w5] <;> rfl) | rfl))) rfl <| OSuf.aop tyOK rfl (so_assign (by simp only [lk] <;> rfl)) rfl <| OSuf.nil <| SQ.normal ?_
      refine W.reg <| OSuf.aop tyOK rfl sm rfl <| OSuf.aop tyOK rfl (so_bin (by simp only [lk] <;> rfl) (by simp only [lk] <;> rfl) (bi_w bi_add (by first | (simp only [v1, w1, w2, w3, w5] <;> rfl) | rfl))) rfl <| OSuf.aop tyOK rfl (so_assign (by simp only [lk] <;> rfl)) rfl <| OSuf.nil <| SQ.normal ?_
      refine W.seq <| W.seq <| W.reg <| OSuf.aop tyOK rfl sm rfl <| OSuf.aopF tyOK rfl (so_bin (by simp only [lk] <;> rfl) (by simp only [lk] <;> rfl) bi_geq) (fun _ => rfl) (by first | rfl | assumption | ((simp only [bl]) <;> first | done | assumption | omega) | (simp; done) | (simp; omega)) <| OSuf.nil <| SQ.normal ?_
      refine W.no (by simp only [lk] <;> rfl) <| CWp.skip <| SQ.normal ?_
      refine W.seq <| W.reg <| OSuf.aop tyOK rfl sm rfl <| OSuf.aop tyOK rfl sm rfl <| OSuf.aop tyOK rfl (so_conw (so_conv tyOK (by simp only [lk] <;> rfl) ty27 ⟨_, rfl⟩ ty5 rfl) (by first | (simp only [v1, w1, w2, w3, w5] <;> rfl) | rfl)) rfl <| OSuf.aop tyOK rfl (so_index (by simp only [lk] <;> rfl) (by simp only [lk] <;> rfl) (ix_str ty9 rfl (tab_get (i := m) (by omega)))) rfl <| OSuf.aop tyOK rfl (so_conw (so_conv tyOK (by simp only [lk] <;> rfl) ty5 ⟨_, rfl⟩ ty3 rfl) (by first | (simp only [v1, w1, w2, w3, w5] <;> rfl) | rfl)) rfl <| OSuf.aop tyOK rfl (so_bin (by simp only [lk] <;> rfl) (by simp only [lk] <;> rfl) (bi_w bi_add (by first | (simp only [v1, w1, w2, w3, w5] <;> rfl) | rfl))) rfl <| OSuf.aop tyOK rfl (so_assign (by simp only [lk] <;> rfl)) rfl <| OSuf.nil <| SQ.normal ?_
      refine CWp.ret <| FQ.ret (by simp only [aRet, Try.f54, aResults, aResult, lk, Nat.reduceEqDiff, reduceIte] <;> rfl) ?_
      -- leaf: end
      exact ⟨rfl, rfl⟩
  · by_cases h2 : (n : Int) ≥ 256
    · obtain ⟨l, hl⟩ : ∃ l, l = n / 2 ^ 8 := ⟨_, rfl⟩
      have e2 := bitsLen_shift (n := n) (k := 8) (by omega)
      have v2 : Int.fdiv (n : Int) (2 ^ (min (Int.toNat 8) (IntKind.u64.bits))) = (l : Int) := by rw [hl]; exact fd n 8
      have hl2 : l < 256 := by rw [hl]; omega
      have s1 := small l hl2
      have w1 : IntKind.u8.wrap (l : Int) = (l : Int) := wrap_u8 (by omega) (by omega)
      have w2 : IntKind.i64.wrap ((UInt8.ofNat (bitsLen l)).toNat : Int) = (bitsLen l : Int) := by rw [s1.1]; exact wrap_i64 (by omega) (by omega)
      have w4 : IntKind.i64.wrap ((0 : Int) + 8) = 8 := by decide
      have w5 : IntKind.i64.wrap ((8 : Int) + (bitsLen l : Int)) = (bitsLen n : Int) := by rw [wrap_i64 (by omega) (by omega)]; rw [← hl] at e2; omega
      refine W.seq <| W.reg <| OSuf.aop tyOK rfl (so_assign (by simp only [lk] <;> rfl)) rfl <| OSuf.nil <| SQ.normal ?_
      refine W.seq <| W.seq <| W.reg <| OSuf.aop tyOK rfl sm rfl <| OSuf.aopF tyOK rfl (so_bin (by simp only [lk] <;> rfl) (by simp only [lk] <;> rfl) bi_geq) (fun _ => rfl) (by first | rfl | assumption | ((simp only [bl]) <;> first | done | assumption | omega) | (simp; done) | (simp; omega)) <| OSuf.nil <| SQ.normal ?_
      refine W.no (by simp only [lk] <;> rfl) <| CWp.skip <| SQ.normal ?_
      refine W.seq <| W.seq <| W.reg <| OSuf.aop tyOK rfl sm rfl <| OSuf.aopF tyOK rfl (so_bin (by simp only [lk] <;> rfl) (by simp only [lk] <;> rfl) bi_geq) (fun _ => rfl) (by first | rfl | assumption | ((simp only [bl]) <;> first | done | assumption | omega) | (simp; done) | (simp; omega)) <| OSuf.nil <| SQ.normal ?_
      refine W.no (by simp only [lk] <;> rfl) <| CWp.skip <| SQ.normal ?_
      refine W.seq <| W.seq <| W.reg <| OSuf.aop tyOK rfl sm rfl <| OSuf.aopT tyOK rfl (so_bin (by simp only [lk] <;> rfl) (by simp only [lk] <;> rfl) bi_geq) (fun _ => rfl) (by first | rfl | assumption | ((simp only [bl]) <;> first | done | assumption | omega) | (simp; done) | (simp; omega)) <| OSuf.nil <| SQ.normal ?_
      refine W.yes (by simp only [lk] <;> rfl) <| W.seq <| W.reg <| OSuf.aop tyOK rfl sm rfl <| OSuf.aop tyOK rfl (so_bin (by simp only [lk] <;> rfl) (by simp only [lk] <;> rfl) (bi_w (bi_shr (by decide)) (by first | (simp only [v2, w1, w2, w4, w5] <;> rfl) | rfl))) rfl <| OSuf.aop tyOK rfl (so_assign (by simp only [lk] <;> rfl)) rfl <| OSuf.nil <| SQ.normal ?_
      refine W.reg <| OSuf.aop tyOK rfl sm rfl <| OSuf.aop tyOK rfl (so_bin (by simp only [lk] <;> rfl) (by simp only [lk] <;> rfl) (bi_w bi_add (by first | (simp only [v2, w1, w2, w4, w5] <;> rfl) | rfl))) rfl <| OSuf.aop tyOK rfl (so_assign (by simp only [lk] <;> rfl)) rfl <| OSuf.nil <| SQ.normal ?_
      refine W.seq <| W.reg <| OSuf.aop tyOK rfl sm rfl <| OSuf.aop tyOK rfl sm rfl <| OSuf.aop tyOK rfl (so_conw (so_conv tyOK (by simp only [lk] <;> rfl) ty27 ⟨_, rfl⟩ ty5 rfl) (by first | (simp only [v2, w1, w2, w4, w5] <;> rfl) | rfl)) rfl <| OSuf.aop tyOK rfl (so_index (by simp only [lk] <;> rfl) (by simp only [lk] <;> rfl) (ix_str ty9 rfl (tab_get hl2))) rfl <| OSuf.aop tyOK rfl (so_conw (so_conv tyOK (by simp only [lk] <;> rfl) ty5 ⟨_, rfl⟩ ty3 rfl) (by first | (simp only [v2, w1, w2, w4, w5] <;> rfl) | rfl)) rfl <| OSuf.aop tyOK rfl (so_bin (by simp only [lk] <;> rfl) (by simp only [lk] <;> rfl) (bi_w bi_add (by first | (simp only [v2, w1, w2, w4, w5] <;> rfl) | rfl))) rfl <| OSuf.aop tyOK rfl (so_assign (by simp only [lk] <;> rfl)) rfl <| OSuf.nil <| SQ.normal ?_
      refine CWp.ret <| FQ.ret (by simp only [aRet, Try.f54, aResults, aResult, lk, Nat.reduceEqDiff, reduceIte] <;> rfl) ?_
      -- leaf: end
      exact ⟨rfl, rfl⟩
    · have s1 := small n (by omega)
      have w1 : IntKind.u8.wrap (n : Int) = (n : Int) := wrap_u8 (by omega) (by omega)
      have w2 : IntKind.i64.wrap ((UInt8.ofNat (bitsLen n)).toNat : Int) = (bitsLen n : Int) := by rw [s1.1]; exact wrap_i64 (by omega) (by omega)
      have w5 : IntKind.i64.wrap ((0 : Int) + (bitsLen n : Int)) = (bitsLen n : Int) := by rw [wrap_i64 (by omega) (by omega)]; omega
      refine W.seq <| W.reg <| OSuf.aop tyOK rfl (so_assign (by simp only [lk] <;> rfl)) rfl <| OSuf.nil <| SQ.normal ?_
      refine W.seq <| W.seq <| W.reg <| OSuf.aop tyOK rfl sm rfl <| OSuf.aopF tyOK rfl (so_bin (by simp only [lk] <;> rfl) (by simp only [lk] <;> rfl) bi_geq) (fun _ => rfl) (by first | rfl | assumption | ((simp only [bl]) <;> first | done | assumption | omega) | (simp; done) | (simp; omega)) <| OSuf.nil <| SQ.normal ?_
      refine W.no (by simp only [lk] <;> rfl) <| CWp.skip <| SQ.normal ?_
      refine W.seq <| W.seq <| W.reg <| OSuf.aop tyOK rfl sm rfl <| OSuf.aopF tyOK rfl (so_bin (by simp only [lk] <;> rfl) (by simp only [lk] <;> rfl) bi_geq) (fun _ => rfl) (by first | rfl | assumption | ((simp only [bl]) <;> first | done | assumption | omega) | (simp; done) | (simp; omega)) <| OSuf.nil <| SQ.normal ?_
      refine W.no (by simp only [lk] <;> rfl) <| CWp.skip <| SQ.normal ?_
      refine W.seq <| W.seq <| W.reg <| OSuf.aop tyOK rfl sm rfl <| OSuf.aopF tyOK rfl (so_bin (by simp only [lk] <;> rfl) (by simp only [lk] <;> rfl) bi_geq) (fun _ => rfl) (by first | rfl | assumption | ((simp only [bl]) <;> first | done | assumption | omega) | (simp; done) | (simp; omega)) <| OSuf.nil <| SQ.normal ?_
      refine W.no (by simp only [lk] <;> rfl) <| CWp.skip <| SQ.normal ?_
      refine W.seq <| W.reg <| OSuf.aop tyOK rfl sm rfl <| OSuf.aop tyOK rfl sm rfl <| OSuf.aop tyOK rfl (so_conw (so_conv tyOK (by simp only [lk] <;> rfl) ty27 ⟨_, rfl⟩ ty5 rfl) (by first | (simp only [w1, w2, w5] <;> rfl) | rfl)) rfl <| OSuf.aop tyOK rfl (so_index (by simp only [lk] <;> rfl) (by simp only [lk] <;> rfl) (ix_str ty9 rfl (tab_get (i := n) (by omega)))) rfl <| OSuf.aop tyOK rfl (so_conw (so_conv tyOK (by simp only [lk] <;> rfl) ty5 ⟨_, rfl⟩ ty3 rfl) (by first | (simp only [w1, w2, w5] <;> rfl) | rfl)) rfl <| OSuf.aop tyOK rfl (so_bin (by simp only [lk] <;> rfl) (by simp only [lk] <;> rfl) (bi_w bi_add (by first | (simp only [w1, w2, w5] <;> rfl) | rfl))) rfl <| OSuf.aop tyOK rfl (so_assign (by simp only [lk] <;> rfl)) rfl <| OSuf.nil <| SQ.normal ?_
      refine CWp.ret <| FQ.ret (by simp only [aRet, Try.f54, aResults, aResult, lk, Nat.reduceEqDiff, reduceIte] <;> rfl) ?_
      -- leaf: end
      exact ⟨rfl, rfl⟩
theorem len_c (h : AHeap) (n : Nat) (hn : n < 1073741824) : FWp Try.prog 41 [U64 n] h fun u h' => u = I64 (bitsLen n) ∧ h' = h := by
  refine W.enter tyOK Try.func41 rfl rfl ?_
  simp only [entry]
  refine W.seq <| W.reg <| OSuf.aop tyOK rfl (so_assign (by simp only [lk] <;> rfl)) rfl <| OSuf.nil <| SQ.normal ?_
  refine W.seq <| W.no (by simp only [lk] <;> rfl) <| CWp.skip <| SQ.normal ?_
  refine W.seq <| W.reg <| OSuf.aop tyOK rfl sm rfl <| OSuf.callD rfl (by simp only [aopnds, lk] <;> rfl) en54 (len64_c _ n hn) rfl <| OSuf.aop tyOK rfl (so_assign (by simp only [lk] <;> rfl)) rfl <| OSuf.nil <| SQ.normal ?_
  refine CWp.ret <| FQ.ret (by simp only [aRet, Try.f41, aResults, aResult, lk, Nat.reduceEqDiff, reduceIte] <;> rfl) ?_
  -- leaf: end
  exact ⟨rfl, rfl⟩
end Go.Proofs.Ytldhcjfhlfgleaa.SortS
