/-
  Merged: SortE, SortF, SortG, SortH, KSS, KeysKB, KeysKR, PgW.
-/
import Derived.Test.YtebheelmgcggmaaGreatMd
namespace Go.Proofs.YtebheelmgcggmaaGreat.SortS
open Go.Ab Go.Sort
set_option linter.unusedSimpArgs false
set_option linter.unusedVariables false
set_option maxRecDepth 10000
set_option maxHeartbeats 4000000
noncomputable abbrev U64 (n : Int) : Value := .int .u64 n
noncomputable abbrev ucell (n : Int) : AObj := .cells [U64 n] 1
noncomputable def TAB : ByteArray := ⟨#[0,1,2,2,3,3,3,3,4,4,4,4,4,4,4,4,5,5,5,5,5,5,5,5,5,5,5,5,5,5,5,5,6,6,6,6,6,6,6,6,6,6,6,6,6,6,6,6,6,6,6,6,6,6,6,6,6,6,6,6,6,6,6,6,7,7,7,7,7,7,7,7,7,7,7,7,7,7,7,7,7,7,7,7,7,7,7,7,7,7,7,7,7,7,7,7,7,7,7,7,7,7,7,7,7,7,7,7,7,7,7,7,7,7,7,7,7,7,7,7,7,7,7,7,7,7,7,7,8,8,8,8,8,8,8,8,8,8,8,8,8,8,8,8,8,8,8,8,8,8,8,8,8,8,8,8,8,8,8,8,8,8,8,8,8,8,8,8,8,8,8,8,8,8,8,8,8,8,8,8,8,8,8,8,8,8,8,8,8,8,8,8,8,8,8,8,8,8,8,8,8,8,8,8,8,8,8,8,8,8,8,8,8,8,8,8,8,8,8,8,8,8,8,8,8,8,8,8,8,8,8,8,8,8,8,8,8,8,8,8,8,8,8,8,8,8,8,8,8,8,8,8,8,8,8,8]⟩
theorem tab_ok : ∀ i : Fin 256, TAB.data.toList[i.val]? = some (UInt8.ofNat (bitsLen i.val)) := by decide +kernel
theorem tab_get {i : Nat} (hi : i < 256) : TAB.data.toList[i]? = some (UInt8.ofNat (bitsLen i)) := tab_ok ⟨i, hi⟩
theorem bits_small : ∀ i : Fin 256, bitsLen i.val ≤ 8 := by decide +kernel
theorem bitsLen_shift {n k : Nat} (h : 2 ^ k ≤ n) : bitsLen (n / 2 ^ k) + k = bitsLen n := by
  have hp : 0 < 2 ^ k := Nat.two_pow_pos k
  have h1 : n / 2 ^ k ≠ 0 := by
    have := (Nat.le_div_iff_mul_le hp).2 (by omega : 1 * 2 ^ k ≤ n); omega
  have h2 : n ≠ 0 := by omega
  have key : ∀ x, x ≠ 0 → bitsLen x = Nat.log2 x + 1 := fun x hx => by simp [bitsLen, hx]
  rw [key _ h1, key _ h2]
  have : Nat.log2 n = Nat.log2 (n / 2 ^ k) + k := by
    have a1 := (Nat.log2_eq_iff h1 (k := Nat.log2 (n / 2 ^ k))).1 rfl
    refine (Nat.log2_eq_iff h2).2 ⟨?_, ?_⟩
    · rw [Nat.pow_add]; exact (Nat.le_div_iff_mul_le hp).1 a1.1
    · have := (Nat.div_lt_iff_lt_mul hp).1 a1.2
      rw [Nat.add_right_comm, Nat.pow_add]; exact this
  omega
theorem next_c (h : AHeap) (q : Nat) (s : Int) : FWp Tryz.prog 123 [P0 q] (h.set q (ucell s)) fun u h' => ∃ s' : Int, u = U64 s' ∧ h' = h.set q (ucell s') ∧ 0 ≤ s' ∧ s' < 18446744073709551616 := by
  refine W.enter tyOK Tryz.func123 rfl rfl ?_
  simp only [entry]
  refine W.seq <| W.reg <| OSuf.aop tyOK rfl za rfl <| OSuf.nil <| SQ.normal ?_
  refine W.seq <| W.regD tyOK mixed (by kernel_rfl) <| SqW.aop rfl sm rfl <| SqW.aop rfl (so_nilCheck (by simp only [lk] <;> rfl)) rfl <| SqW.aop rfl (zl (hv := by simp (disch := first | assumption | omega | (simp only [nx] <;> omega) | fail) only [aLoad, ty125, rowOf, hpl, AHeap.set_set] <;> rfl)) rfl <| SqW.aop rfl sm rfl <| SqW.aop rfl (so_nilCheck (by simp only [lk] <;> rfl)) rfl <| SqW.aop rfl (zl (hv := by simp (disch := first | assumption | omega | (simp only [nx] <;> omega) | fail) only [aLoad, ty125, rowOf, hpl, AHeap.set_set] <;> rfl)) rfl <| SqW.aop rfl (zb (hv := bi_w (bi_shl (by decide)) rfl)) rfl <| SqW.aop rfl (zb (hv := bi_w bi_xor rfl)) rfl <| SqW.aop rfl (so_nilCheck (by simp only [lk] <;> rfl)) rfl <| SqW.aop rfl (zs (hv := by simp (disch := first | assumption | omega | (simp only [nx] <;> omega) | fail) only [aStore, ty125, writeRow, hpl, AHeap.set_set] <;> rfl)) rfl <| SqW.nil <| SQ.normal ?_
  refine W.seq <| W.regD tyOK mixed (by kernel_rfl) <| SqW.aop rfl sm rfl <| SqW.aop rfl (so_nilCheck (by simp only [lk] <;> rfl)) rfl <| SqW.aop rfl (zl (hv := by simp (disch := first | assumption | omega | (simp only [nx] <;> omega) | fail) only [aLoad, ty125, rowOf, hpl, AHeap.set_set] <;> rfl)) rfl <| SqW.aop rfl sm rfl <| SqW.aop rfl (so_nilCheck (by simp only [lk] <;> rfl)) rfl <| SqW.aop rfl (zl (hv := by simp (disch := first | assumption | omega | (simp only [nx] <;> omega) | fail) only [aLoad, ty125, rowOf, hpl, AHeap.set_set] <;> rfl)) rfl <| SqW.aop rfl (zb (hv := bi_w (bi_shr (by decide)) rfl)) rfl <| SqW.aop rfl (zb (hv := bi_w bi_xor rfl)) rfl <| SqW.aop rfl (so_nilCheck (by simp only [lk] <;> rfl)) rfl <| SqW.aop rfl (zs (hv := by simp (disch := first | assumption | omega | (simp only [nx] <;> omega) | fail) only [aStore, ty125, writeRow, hpl, AHeap.set_set] <;> rfl)) rfl <| SqW.nil <| SQ.normal ?_
  refine W.seq <| W.regD tyOK mixed (by kernel_rfl) <| SqW.aop rfl sm rfl <| SqW.aop rfl (so_nilCheck (by simp only [lk] <;> rfl)) rfl <| SqW.aop rfl (zl (hv := by simp (disch := first | assumption | omega | (simp only [nx] <;> omega) | fail) only [aLoad, ty125, rowOf, hpl, AHeap.set_set] <;> rfl)) rfl <| SqW.aop rfl sm rfl <| SqW.aop rfl (so_nilCheck (by simp only [lk] <;> rfl)) rfl <| SqW.aop rfl (zl (hv := by simp (disch := first | assumption | omega | (simp only [nx] <;> omega) | fail) only [aLoad, ty125, rowOf, hpl, AHeap.set_set] <;> rfl)) rfl <| SqW.aop rfl (zb (hv := bi_w (bi_shl (by decide)) rfl)) rfl <| SqW.aop rfl (zb (hv := bi_w bi_xor rfl)) rfl <| SqW.aop rfl (so_nilCheck (by simp only [lk] <;> rfl)) rfl <| SqW.aop rfl (zs (hv := by simp (disch := first | assumption | omega | (simp only [nx] <;> omega) | fail) only [aStore, ty125, writeRow, hpl, AHeap.set_set] <;> rfl)) rfl <| SqW.nil <| SQ.normal ?_
  refine W.seq <| W.reg <| OSuf.aop tyOK rfl sm rfl <| OSuf.aop tyOK rfl (so_nilCheck (by simp only [lk] <;> rfl)) rfl <| OSuf.aop tyOK rfl (zl (hv := by simp (disch := first | assumption | omega | (simp only [nx] <;> omega) | fail) only [aLoad, ty125, rowOf, hpl, AHeap.set_set] <;> rfl)) rfl <| OSuf.aop tyOK rfl za rfl <| OSuf.nil <| SQ.normal ?_
  refine CWp.ret <| FQ.ret (by simp only [aRet, Tryz.f123, aResults, aResult, lk, Nat.reduceEqDiff, reduceIte] <;> first | rfl | (simp only [tyall] <;> rfl) | (simp [tyall] <;> rfl)) ?_
  -- leaf: end
  exact ⟨_, rfl, rfl, (wrap_u64_range _).1, (wrap_u64_range _).2⟩
theorem len64_c (h : AHeap) (n : Nat) (hn : n < 1073741824) : FWp Tryz.prog 114 [U64 n] h fun u h' => u = I64 (bitsLen n) ∧ h' = h := by
  refine W.enter tyOK Tryz.func114 rfl rfl ?_
  simp only [entry]
  have small : ∀ m : Nat, m < 256 → ((UInt8.ofNat (bitsLen m)).toNat : Int) = bitsLen m ∧ bitsLen m ≤ 8 := fun m hm => by
    have := bits_small ⟨m, hm⟩
    simp only at this
    refine ⟨?_, this⟩
    rw [UInt8.toNat_ofNat']; omega
  have fd : ∀ (m k : Nat), Int.fdiv (m : Int) (2 ^ k : Int) = ((m / 2 ^ k : Nat) : Int) := fun m k => by
    rw [Int.fdiv_eq_ediv_of_nonneg _ (by exact Int.le_of_lt (Int.pow_pos (by decide))) ]; norm_cast
  by_cases h1 : (n : Int) ≥ 65536
  · obtain ⟨m, hm⟩ : ∃ m, m = n / 2 ^ 16 := ⟨_, rfl⟩
    have e1 := bitsLen_shift (n := n) (k := 16) (by omega)
    have v1 : Int.fdiv (n : Int) (2 ^ (min (Int.toNat 16) (IntKind.u64.bits))) = (m : Int) := by rw [hm]; exact fd n 16
    have hm2 : m < 16384 := by rw [hm]; omega
    by_cases h2 : (m : Int) ≥ 256
    · obtain ⟨l, hl⟩ : ∃ l, l = m / 2 ^ 8 := ⟨_, rfl⟩
      have e2 := bitsLen_shift (n := m) (k := 8) (by omega)
      have v2 : Int.fdiv (m : Int) (2 ^ (min (Int.toNat 8) (IntKind.u64.bits))) = (l : Int) := by rw [hl]; exact fd m 8
      have hl2 : l < 256 := by rw [hl]; omega
      have s1 := small l hl2
      have w1 : IntKind.u8.wrap (l : Int) = (l : Int) := wrap_u8 (by omega) (by omega)
      have w2 : IntKind.i64.wrap ((UInt8.ofNat (bitsLen l)).toNat : Int) = (bitsLen l : Int) := by rw [s1.1]; exact wrap_i64 (by omega) (by omega)
      have w3 : IntKind.i64.wrap ((0 : Int) + 16) = 16 := by decide
      have w4 : IntKind.i64.wrap ((16 : Int) + 8) = 24 := by decide
      have w5 : IntKind.i64.wrap ((24 : Int) + (bitsLen l : Int)) = (bitsLen n : Int) := by rw [wrap_i64 (by omega) (by omega)]; rw [← hm] at e1; rw [← hl] at e2; omega
      refine W.seq <| W.reg <| OSuf.aop tyOK rfl za rfl <| OSuf.nil <| SQ.normal ?_
      refine W.seq <| W.seq <| W.reg <| OSuf.aop tyOK rfl sm rfl <| OSuf.aopF tyOK rfl (zb (hv := bi_geq)) (fun _ => rfl) (by first | rfl | assumption | ((simp only [bl]) <;> first | done | assumption | omega) | (simp; done) | (simp; omega)) <| OSuf.nil <| SQ.normal ?_
      refine W.no (by simp only [lk] <;> rfl) <| CWp.skip <| SQ.normal ?_
      refine W.seq <| W.seq <| W.reg <| OSuf.aop tyOK rfl sm rfl <| OSuf.aopT tyOK rfl (zb (hv := bi_geq)) (fun _ => rfl) (by first | rfl | assumption | ((simp only [bl]) <;> first | done | assumption | omega) | (simp; done) | (simp; omega)) <| OSuf.nil <| SQ.normal ?_
      refine W.yes (by simp only [lk] <;> rfl) <| W.seq <| W.reg <| OSuf.aop tyOK rfl sm rfl <| OSuf.aop tyOK rfl (zb (hv := bi_w (bi_shr (by decide)) (by first | (simp only [v1, v2, w1, w2, w3, w4, w5] <;> rfl) | rfl))) rfl <| OSuf.aop tyOK rfl za rfl <| OSuf.nil <| SQ.normal ?_
      refine W.reg <| OSuf.aop tyOK rfl sm rfl <| OSuf.aop tyOK rfl (zb (hv := bi_w bi_add (by first | (simp only [v1, v2, w1, w2, w3, w4, w5] <;> rfl) | rfl))) rfl <| OSuf.aop tyOK rfl za rfl <| OSuf.nil <| SQ.normal ?_
      refine W.seq <| W.seq <| W.reg <| OSuf.aop tyOK rfl sm rfl <| OSuf.aopT tyOK rfl (zb (hv := bi_geq)) (fun _ => rfl) (by first | rfl | assumption | ((simp only [bl]) <;> first | done | assumption | omega) | (simp; done) | (simp; omega)) <| OSuf.nil <| SQ.normal ?_
      refine W.yes (by simp only [lk] <;> rfl) <| W.seq <| W.reg <| OSuf.aop tyOK rfl sm rfl <| OSuf.aop tyOK rfl (zb (hv := bi_w (bi_shr (by decide)) (by first | (simp only [v1, v2, w1, w2, w3, w4, w5] <;> rfl) | rfl))) rfl <| OSuf.aop tyOK rfl za rfl <| OSuf.nil <| SQ.normal ?_
      refine W.reg <| OSuf.aop tyOK rfl sm rfl <| OSuf.aop tyOK rfl (zb (hv := bi_w bi_add (by first | (simp only [v1, v2, w1, w2, w3, w4, w5] <;> rfl) | rfl))) rfl <| OSuf.aop tyOK rfl za rfl <| OSuf.nil <| SQ.normal ?_
      refine W.seq <| W.reg <| OSuf.aop tyOK rfl sm rfl <| OSuf.aop tyOK rfl sm rfl <| OSuf.aop tyOK rfl (so_conw (so_conv tyOK (by simp only [lk] <;> rfl) ty22 ⟨_, rfl⟩ ty5 rfl) (by first | (simp only [v1, v2, w1, w2, w3, w4, w5] <;> rfl) | rfl)) rfl <| OSuf.aop tyOK rfl (so_index (by simp only [lk] <;> rfl) (by simp only [lk] <;> rfl) (ix_str ty9 rfl (tab_get hl2))) rfl <| OSuf.aop tyOK rfl (so_conw (so_conv tyOK (by simp only [lk] <;> rfl) ty5 ⟨_, rfl⟩ ty3 rfl) (by first | (simp only [v1, v2, w1, w2, w3, w4, w5] <;> rfl) | rfl)) rfl <| OSuf.aop tyOK rfl (zb (hv := bi_w bi_add (by first | (simp only [v1, v2, w1, w2, w3, w4, w5] <;> rfl) | rfl))) rfl <| OSuf.aop tyOK rfl za rfl <| OSuf.nil <| SQ.normal ?_
      refine CWp.ret <| FQ.ret (by simp only [aRet, Tryz.f114, aResults, aResult, lk, Nat.reduceEqDiff, reduceIte] <;> first | rfl | (simp only [tyall] <;> rfl) | (simp [tyall] <;> rfl)) ?_
      -- leaf: end
      exact ⟨rfl, rfl⟩
    · have s1 := small m (by omega)
      have w1 : IntKind.u8.wrap (m : Int) = (m : Int) := wrap_u8 (by omega) (by omega)
      have w2 : IntKind.i64.wrap ((UInt8.ofNat (bitsLen m)).toNat : Int) = (bitsLen m : Int) := by rw [s1.1]; exact wrap_i64 (by omega) (by omega)
      have w3 : IntKind.i64.wrap ((0 : Int) + 16) = 16 := by decide
      have w5 : IntKind.i64.wrap ((16 : Int) + (bitsLen m : Int)) = (bitsLen n : Int) := by rw [wrap_i64 (by omega) (by omega)]; rw [← hm] at e1; omega
      refine W.seq <| W.reg <| OSuf.aop tyOK rfl za rfl <| OSuf.nil <| SQ.normal ?_
      refine W.seq <| W.seq <| W.reg <| OSuf.aop tyOK rfl sm rfl <| OSuf.aopF tyOK rfl (zb (hv := bi_geq)) (fun _ => rfl) (by first | rfl | assumption | ((simp only [bl]) <;> first | done | assumption | omega) | (simp; done) | (simp; omega)) <| OSuf.nil <| SQ.normal ?_
      refine W.no (by simp only [lk] <;> rfl) <| CWp.skip <| SQ.normal ?_
      refine W.seq <| W.seq <| W.reg <| OSuf.aop tyOK rfl sm rfl <| OSuf.aopT tyOK rfl (zb (hv := bi_geq)) (fun _ => rfl) (by first | rfl | assumption | ((simp only [bl]) <;> first | done | assumption | omega) | (simp; done) | (simp; omega)) <| OSuf.nil <| SQ.normal ?_
      refine W.yes (by simp only [lk] <;> rfl) <| W.seq <| W.reg <| OSuf.aop tyOK rfl sm rfl <| OSuf.aop tyOK rfl (zb (hv := bi_w (bi_shr (by decide)) (by first | (simp only [v1, w1, w2, w3, w5] <;> rfl) | rfl))) rfl <| OSuf.aop tyOK rfl za rfl <| OSuf.nil <| SQ.normal ?_
      refine W.reg <| OSuf.aop tyOK rfl sm rfl <| OSuf.aop tyOK rfl (zb (hv := bi_w bi_add (by first | (simp only [v1, w1, w2, w3, w5] <;> rfl) | rfl))) rfl <| OSuf.aop tyOK rfl za rfl <| OSuf.nil <| SQ.normal ?_
      refine W.seq <| W.seq <| W.reg <| OSuf.aop tyOK rfl sm rfl <| OSuf.aopF tyOK rfl (zb (hv := bi_geq)) (fun _ => rfl) (by first | rfl | assumption | ((simp only [bl]) <;> first | done | assumption | omega) | (simp; done) | (simp; omega)) <| OSuf.nil <| SQ.normal ?_
      refine W.no (by simp only [lk] <;> rfl) <| CWp.skip <| SQ.normal ?_
      refine W.seq <| W.reg <| OSuf.aop tyOK rfl sm rfl <| OSuf.aop tyOK rfl sm rfl <| OSuf.aop tyOK rfl (so_conw (so_conv tyOK (by simp only [lk] <;> rfl) ty22 ⟨_, rfl⟩ ty5 rfl) (by first | (simp only [v1, w1, w2, w3, w5] <;> rfl) | rfl)) rfl <| OSuf.aop tyOK rfl (so_index (by simp only [lk] <;> rfl) (by simp only [lk] <;> rfl) (ix_str ty9 rfl (tab_get (i := m) (by omega)))) rfl <| OSuf.aop tyOK rfl (so_conw (so_conv tyOK (by simp only [lk] <;> rfl) ty5 ⟨_, rfl⟩ ty3 rfl) (by first | (simp only [v1, w1, w2, w3, w5] <;> rfl) | rfl)) rfl <| OSuf.aop tyOK rfl (zb (hv := bi_w bi_add (by first | (simp only [v1, w1, w2, w3, w5] <;> rfl) | rfl))) rfl <| OSuf.aop tyOK rfl za rfl <| OSuf.nil <| SQ.normal ?_
      refine CWp.ret <| FQ.ret (by simp only [aRet, Tryz.f114, aResults, aResult, lk, Nat.reduceEqDiff, reduceIte] <;> first | rfl | (simp only [tyall] <;> rfl) | (simp [tyall] <;> rfl)) ?_
      -- leaf: end
      exact ⟨rfl, rfl⟩
  · by_cases h2 : (n : Int) ≥ 256
    · obtain ⟨l, hl⟩ : ∃ l, l = n / 2 ^ 8 := ⟨_, rfl⟩
      have e2 := bitsLen_shift (n := n) (k := 8) (by omega)
      have v2 : Int.fdiv (n : Int) (2 ^ (min (Int.toNat 8) (IntKind.u64.bits))) = (l : Int) := by rw [hl]; exact fd n 8
      have hl2 : l < 256 := by rw [hl]; omega
      have s1 := small l hl2
      have w1 : IntKind.u8.wrap (l : Int) = (l : Int) := wrap_u8 (by omega) (by omega)
      have w2 : IntKind.i64.wrap ((UInt8.ofNat (bitsLen l)).toNat : Int) = (bitsLen l : Int) := by rw [s1.1]; exact wrap_i64 (by omega) (by omega)
      have w4 : IntKind.i64.wrap ((0 : Int) + 8) = 8 := by decide
      have w5 : IntKind.i64.wrap ((8 : Int) + (bitsLen l : Int)) = (bitsLen n : Int) := by rw [wrap_i64 (by omega) (by omega)]; rw [← hl] at e2; omega
      refine W.seq <| W.reg <| OSuf.aop tyOK rfl za rfl <| OSuf.nil <| SQ.normal ?_
      refine W.seq <| W.seq <| W.reg <| OSuf.aop tyOK rfl sm rfl <| OSuf.aopF tyOK rfl (zb (hv := bi_geq)) (fun _ => rfl) (by first | rfl | assumption | ((simp only [bl]) <;> first | done | assumption | omega) | (simp; done) | (simp; omega)) <| OSuf.nil <| SQ.normal ?_
      refine W.no (by simp only [lk] <;> rfl) <| CWp.skip <| SQ.normal ?_
      refine W.seq <| W.seq <| W.reg <| OSuf.aop tyOK rfl sm rfl <| OSuf.aopF tyOK rfl (zb (hv := bi_geq)) (fun _ => rfl) (by first | rfl | assumption | ((simp only [bl]) <;> first | done | assumption | omega) | (simp; done) | (simp; omega)) <| OSuf.nil <| SQ.normal ?_
      refine W.no (by simp only [lk] <;> rfl) <| CWp.skip <| SQ.normal ?_
      refine W.seq <| W.seq <| W.reg <| OSuf.aop tyOK rfl sm rfl <| OSuf.aopT tyOK rfl (zb (hv := bi_geq)) (fun _ => rfl) (by first | rfl | assumption | ((simp only [bl]) <;> first | done | assumption | omega) | (simp; done) | (simp; omega)) <| OSuf.nil <| SQ.normal ?_
      refine W.yes (by simp only [lk] <;> rfl) <| W.seq <| W.reg <| OSuf.aop tyOK rfl sm rfl <| OSuf.aop tyOK rfl (zb (hv := bi_w (bi_shr (by decide)) (by first | (simp only [v2, w1, w2, w4, w5] <;> rfl) | rfl))) rfl <| OSuf.aop tyOK rfl za rfl <| OSuf.nil <| SQ.normal ?_
      refine W.reg <| OSuf.aop tyOK rfl sm rfl <| OSuf.aop tyOK rfl (zb (hv := bi_w bi_add (by first | (simp only [v2, w1, w2, w4, w5] <;> rfl) | rfl))) rfl <| OSuf.aop tyOK rfl za rfl <| OSuf.nil <| SQ.normal ?_
      refine W.seq <| W.reg <| OSuf.aop tyOK rfl sm rfl <| OSuf.aop tyOK rfl sm rfl <| OSuf.aop tyOK rfl (so_conw (so_conv tyOK (by simp only [lk] <;> rfl) ty22 ⟨_, rfl⟩ ty5 rfl) (by first | (simp only [v2, w1, w2, w4, w5] <;> rfl) | rfl)) rfl <| OSuf.aop tyOK rfl (so_index (by simp only [lk] <;> rfl) (by simp only [lk] <;> rfl) (ix_str ty9 rfl (tab_get hl2))) rfl <| OSuf.aop tyOK rfl (so_conw (so_conv tyOK (by simp only [lk] <;> rfl) ty5 ⟨_, rfl⟩ ty3 rfl) (by first | (simp only [v2, w1, w2, w4, w5] <;> rfl) | rfl)) rfl <| OSuf.aop tyOK rfl (zb (hv := bi_w bi_add (by first | (simp only [v2, w1, w2, w4, w5] <;> rfl) | rfl))) rfl <| OSuf.aop tyOK rfl za rfl <| OSuf.nil <| SQ.normal ?_
      refine CWp.ret <| FQ.ret (by simp only [aRet, Tryz.f114, aResults, aResult, lk, Nat.reduceEqDiff, reduceIte] <;> first | rfl | (simp only [tyall] <;> rfl) | (simp [tyall] <;> rfl)) ?_
      -- leaf: end
      exact ⟨rfl, rfl⟩
    · have s1 := small n (by omega)
      have w1 : IntKind.u8.wrap (n : Int) = (n : Int) := wrap_u8 (by omega) (by omega)
      have w2 : IntKind.i64.wrap ((UInt8.ofNat (bitsLen n)).toNat : Int) = (bitsLen n : Int) := by rw [s1.1]; exact wrap_i64 (by omega) (by omega)
      have w5 : IntKind.i64.wrap ((0 : Int) + (bitsLen n : Int)) = (bitsLen n : Int) := by rw [wrap_i64 (by omega) (by omega)]; omega
      refine W.seq <| W.reg <| OSuf.aop tyOK rfl za rfl <| OSuf.nil <| SQ.normal ?_
      refine W.seq <| W.seq <| W.reg <| OSuf.aop tyOK rfl sm rfl <| OSuf.aopF tyOK rfl (zb (hv := bi_geq)) (fun _ => rfl) (by first | rfl | assumption | ((simp only [bl]) <;> first | done | assumption | omega) | (simp; done) | (simp; omega)) <| OSuf.nil <| SQ.normal ?_
      refine W.no (by simp only [lk] <;> rfl) <| CWp.skip <| SQ.normal ?_
      refine W.seq <| W.seq <| W.reg <| OSuf.aop tyOK rfl sm rfl <| OSuf.aopF tyOK rfl (zb (hv := bi_geq)) (fun _ => rfl) (by first | rfl | assumption | ((simp only [bl]) <;> first | done | assumption | omega) | (simp; done) | (simp; omega)) <| OSuf.nil <| SQ.normal ?_
      refine W.no (by simp only [lk] <;> rfl) <| CWp.skip <| SQ.normal ?_
      refine W.seq <| W.seq <| W.reg <| OSuf.aop tyOK rfl sm rfl <| OSuf.aopF tyOK rfl (zb (hv := bi_geq)) (fun _ => rfl) (by first | rfl | assumption | ((simp only [bl]) <;> first | done | assumption | omega) | (simp; done) | (simp; omega)) <| OSuf.nil <| SQ.normal ?_
      refine W.no (by simp only [lk] <;> rfl) <| CWp.skip <| SQ.normal ?_
      refine W.seq <| W.reg <| OSuf.aop tyOK rfl sm rfl <| OSuf.aop tyOK rfl sm rfl <| OSuf.aop tyOK rfl (so_conw (so_conv tyOK (by simp only [lk] <;> rfl) ty22 ⟨_, rfl⟩ ty5 rfl) (by first | (simp only [w1, w2, w5] <;> rfl) | rfl)) rfl <| OSuf.aop tyOK rfl (so_index (by simp only [lk] <;> rfl) (by simp only [lk] <;> rfl) (ix_str ty9 rfl (tab_get (i := n) (by omega)))) rfl <| OSuf.aop tyOK rfl (so_conw (so_conv tyOK (by simp only [lk] <;> rfl) ty5 ⟨_, rfl⟩ ty3 rfl) (by first | (simp only [w1, w2, w5] <;> rfl) | rfl)) rfl <| OSuf.aop tyOK rfl (zb (hv := bi_w bi_add (by first | (simp only [w1, w2, w5] <;> rfl) | rfl))) rfl <| OSuf.aop tyOK rfl za rfl <| OSuf.nil <| SQ.normal ?_
      refine CWp.ret <| FQ.ret (by simp only [aRet, Tryz.f114, aResults, aResult, lk, Nat.reduceEqDiff, reduceIte] <;> first | rfl | (simp only [tyall] <;> rfl) | (simp [tyall] <;> rfl)) ?_
      -- leaf: end
      exact ⟨rfl, rfl⟩
theorem len_c (h : AHeap) (n : Nat) (hn : n < 1073741824) : FWp Tryz.prog 83 [U64 n] h fun u h' => u = I64 (bitsLen n) ∧ h' = h := by
  refine W.enter tyOK Tryz.func83 rfl rfl ?_
  simp only [entry]
  refine W.seq <| W.reg <| OSuf.aop tyOK rfl za rfl <| OSuf.nil <| SQ.normal ?_
  refine W.seq <| W.no (by simp only [lk] <;> rfl) <| CWp.skip <| SQ.normal ?_
  refine W.seq <| W.reg <| OSuf.aop tyOK rfl sm rfl <| OSuf.callD rfl (by simp only [aopnds, lk] <;> rfl) en114 (len64_c _ n hn) rfl <| OSuf.aop tyOK rfl za rfl <| OSuf.nil <| SQ.normal ?_
  refine CWp.ret <| FQ.ret (by simp only [aRet, Tryz.f83, aResults, aResult, lk, Nat.reduceEqDiff, reduceIte] <;> first | rfl | (simp only [tyall] <;> rfl) | (simp [tyall] <;> rfl)) ?_
  -- leaf: end
  exact ⟨rfl, rfl⟩
end Go.Proofs.YtebheelmgcggmaaGreat.SortS
namespace Go.Proofs.YtebheelmgcggmaaGreat.SortS
open Go.Ab Go.Sort
set_option linter.unusedSimpArgs false
set_option linter.unusedVariables false
set_option maxRecDepth 10000
set_option maxHeartbeats 4000000
theorem power_c (h : AHeap) (n : Nat) (hn : n < 1000000000) : FWp Tryz.prog 122 [I64 n] h fun u h' => u = U64 (2 ^ bitsLen n : Nat) ∧ h' = h := by
  have hb : bitsLen n ≤ 30 := (bitsLen_le_iff n 30).2 (by omega)
  have hp : 2 ^ bitsLen n ≤ 2 ^ 30 := Nat.pow_le_pow_right (by omega) hb
  have w1 : IntKind.u64.wrap (n : Int) = (n : Int) := wrap_u64 (by omega) (by omega)
  have w2 : IntKind.u64.wrap (1 * 2 ^ (min (Int.toNat (bitsLen n : Int)) IntKind.u64.bits)) = ((2 ^ bitsLen n : Nat) : Int) := by
    have e : min (Int.toNat (bitsLen n : Int)) IntKind.u64.bits = bitsLen n := by simp only [IntKind.bits, Int.toNat_natCast]; omega
    rw [e, Int.one_mul]
    have e2 : (2 : Int) ^ bitsLen n = ((2 ^ bitsLen n : Nat) : Int) := by norm_cast
    rw [e2]
    generalize 2 ^ bitsLen n = M at *
    exact wrap_u64 (by omega) (by omega)
  refine W.enter tyOK Tryz.func122 rfl rfl ?_
  simp only [entry]
  refine W.seq <| W.reg <| OSuf.aop tyOK rfl za rfl <| OSuf.nil <| SQ.normal ?_
  refine W.seq <| W.reg <| OSuf.aop tyOK rfl sm rfl <| OSuf.aop tyOK rfl (so_conw (so_conv tyOK (by simp only [lk] <;> rfl) ty3 ⟨_, rfl⟩ ty94 rfl) (by first | (simp only [w1, w2] <;> rfl) | rfl)) rfl <| OSuf.callD rfl (by simp only [aopnds, lk] <;> rfl) en83 (len_c _ n (by omega)) rfl <| OSuf.aop tyOK rfl (zb (hv := bi_w (bi_shl (by omega)) (by first | (simp only [w1, w2] <;> rfl) | rfl))) rfl <| OSuf.aop tyOK rfl za rfl <| OSuf.nil <| SQ.normal ?_
  refine CWp.ret <| FQ.ret (by simp only [aRet, Tryz.f122, aResults, aResult, lk, Nat.reduceEqDiff, reduceIte] <;> first | rfl | (simp only [tyall] <;> rfl) | (simp [tyall] <;> rfl)) ?_
  -- leaf: end
  exact ⟨rfl, rfl⟩
theorem and_nat (x : Int) (m : Nat) (hm : m < 18446744073709551616) : ∃ o : Nat, IntKind.u64.wrap ((BitVec.ofInt IntKind.u64.bits x &&& BitVec.ofInt IntKind.u64.bits (m : Int)).toNat : Nat) = o ∧ o ≤ m := by
  refine ⟨(BitVec.ofInt IntKind.u64.bits x &&& BitVec.ofInt IntKind.u64.bits (m : Int)).toNat, ?_, ?_⟩
  · have := (BitVec.ofInt IntKind.u64.bits x &&& BitVec.ofInt IntKind.u64.bits (m : Int)).isLt
    simp only [IntKind.bits] at this ⊢
    exact wrap_u64 (by omega) (by omega)
  · rw [BitVec.toNat_and]
    refine Nat.le_trans Nat.and_le_right ?_
    simp only [IntKind.bits, BitVec.toNat_ofInt]
    omega
theorem break_c (h : AHeap) (r N : Nat) (hrn : r < h.next) (d : Array El) (hN : d.size = N) (a b : Nat) (hab : a + 12 < b) (hb : b ≤ N) (hsz : N < 1000000000) :
    FWp Tryz.prog 128 [sl r N, I64 a, I64 b] (h.set r (row d)) fun u h' => u = .tuple #[] ∧ ∃ d' : Array El, PermIn a b d d' ∧ h' = h.set r (row d') := by
  refine FWp.gcE (K0 := fun u h' => u = .tuple #[] ∧ ∃ d' : Array El, PermIn a b d d' ∧ h'.get r = some (row d') ∧ ∀ x, x < h.next → ¬ r = x → h'.get x = h.get x) ?_ ?_
  · obtain ⟨l, hl⟩ : ∃ l, l = b - a := ⟨_, rfl⟩
    have w1 : IntKind.i64.wrap ((b : Int) - (a : Int)) = (l : Int) := by rw [wrap_i64 (by omega) (by omega)]; omega
    have w0 : IntKind.u64.wrap (l : Int) = (l : Int) := wrap_u64 (by omega) (by omega)
    obtain ⟨l4, hl4⟩ : ∃ l4, l4 = l / 4 := ⟨_, rfl⟩
    have w2 : IntKind.i64.wrap ((l : Int).tdiv 4) = (l4 : Int) := by rw [Int.tdiv_eq_ediv_of_nonneg (by omega), wrap_i64 (by omega) (by omega)]; omega
    have w3 : IntKind.i64.wrap ((l4 : Int) * 2) = ((l4 * 2 : Nat) : Int) := by rw [wrap_i64 (by omega) (by omega)]; omega
    have w4 : IntKind.i64.wrap ((a : Int) + ((l4 * 2 : Nat) : Int)) = ((a + l4 * 2 : Nat) : Int) := by rw [wrap_i64 (by omega) (by omega)]; omega
    have w5 : IntKind.i64.wrap (((a + l4 * 2 : Nat) : Int) - 1) = ((a + l4 * 2 - 1 : Nat) : Int) := by rw [wrap_i64 (by omega) (by omega)]; omega
    have w6 : IntKind.i64.wrap (((a + l4 * 2 : Nat) : Int) + 1) = ((a + l4 * 2 + 1 : Nat) : Int) := by rw [wrap_i64 (by omega) (by omega)]; omega
    obtain ⟨M, hM⟩ : ∃ M, M = 2 ^ bitsLen l := ⟨_, rfl⟩
    have hM2 : M ≤ 2 * l := by rw [hM]; exact two_pow_bitsLen_le (by omega)
    have hM1 : 1 ≤ M := by rw [hM]; exact Nat.two_pow_pos _
    have w7 : IntKind.u64.wrap ((M : Int) - 1) = ((M - 1 : Nat) : Int) := by rw [wrap_u64 (by omega) (by omega)]; omega
    refine W.enter tyOK Tryz.func128 rfl rfl ?_
    simp only [entry]
    refine W.seq <| W.reg <| OSuf.aop tyOK rfl sm rfl <| OSuf.aop tyOK rfl sm rfl <| OSuf.aop tyOK rfl (zb (hv := bi_w bi_sub (by first | (simp only [w0, w1, w2, w3, w4, w5] <;> rfl) | rfl))) rfl <| OSuf.aop tyOK rfl za rfl <| OSuf.nil <| SQ.normal ?_
    refine W.seq <| W.reg <| OSuf.aop tyOK rfl sm rfl <| OSuf.aopT tyOK rfl (zb (hv := bi_geq)) (fun _ => rfl) (by first | rfl | assumption | ((simp only [bl, Value.cells]) <;> first | done | assumption | omega) | (simp; done) | (simp; omega)) <| OSuf.nil <| SQ.normal ?_
    refine W.yes (by simp only [lk] <;> rfl) <| W.seq <| W.reg <| OSuf.aop tyOK rfl sm rfl <| OSuf.aop tyOK rfl (so_conw (so_conv tyOK (by simp only [lk] <;> rfl) ty3 ⟨_, rfl⟩ ty125 rfl) (by first | (simp only [w0, w1, w2, w3, w4, w5] <;> rfl) | rfl)) rfl <| OSuf.aop tyOK rfl (so_alloc (by simp only [aAlloc, ty125] <;> rfl)) rfl <| OSuf.aop tyOK rfl (zs (hv := by simp (disch := first | assumption | omega | (simp only [nx] <;> omega) | fail) only [aStore, ty125, writeRow, hpl, Value.cells] <;> rfl)) rfl <| OSuf.nil <| SQ.normal ?_
    refine W.seq <| W.reg <| OSuf.aop tyOK rfl sm rfl <| OSuf.callD rfl (by simp only [aopnds, lk] <;> rfl) en122 (hM ▸ power_c _ l (by omega)) rfl <| OSuf.aop tyOK rfl za rfl <| OSuf.nil <| SQ.normal ?_
    refine W.seq <| W.reg <| OSuf.aop tyOK rfl sm rfl <| OSuf.aop tyOK rfl sm rfl <| OSuf.aop tyOK rfl (zb (hv := bi_w (bi_quo (by decide)) (by first | (simp only [w0, w1, w2, w3, w4, w5] <;> rfl) | rfl))) rfl <| OSuf.aop tyOK rfl (zb (hv := bi_w bi_mul (by first | (simp only [w0, w1, w2, w3, w4, w5] <;> rfl) | rfl))) rfl <| OSuf.aop tyOK rfl (zb (hv := bi_w bi_add (by first | (simp only [w0, w1, w2, w3, w4, w5] <;> rfl) | rfl))) rfl <| OSuf.aop tyOK rfl (zb (hv := bi_w bi_sub (by first | (simp only [w0, w1, w2, w3, w4, w5] <;> rfl) | rfl))) rfl <| OSuf.aop tyOK rfl za rfl <| OSuf.nil <| SQ.normal ?_
    -- leaf: loop
    refine W.block (W.loop (fun n L h' => ∃ (i : Nat) (d' : Array El) (s : Int), n = a + l4 * 2 + 2 - i ∧ a + l4 * 2 - 1 ≤ i ∧ i ≤ a + l4 * 2 + 2 ∧ PermIn a b d d' ∧ h'.get r = some (row d') ∧ h'.get h.next = some (ucell s) ∧ (∀ x, x < h.next → ¬ r = x → h'.get x = h.get x) ∧
        L = [(0, sl r N), (1, I64 a), (6, I64 l), (7, P0 h.next), (8, U64 M), (9, I64 i)]) (n := 3) ⟨a + l4 * 2 - 1, d, (l : Int), by omega, by omega, by omega, permIn_refl _ _ _, ?_, ?_, ?_, rfl⟩ ?_ ?_)
    · rw [AHeap.get_set_ne (by show ¬ h.next = r; omega), AHeap.get_new_ne (by show ¬ h.next = r; omega), AHeap.get_set_same]
    · exact AHeap.get_set_same _ _ _
    · intro x hx hrx
      rw [AHeap.get_set_ne (by show ¬ h.next = x; omega), AHeap.get_new_ne (by show ¬ h.next = x; omega), AHeap.get_set_ne hrx]
    · simp [HasA, Tr.get_put, hM]
    · rintro n L h1 ⟨i, d1, s, rfl, hi1, hi2, hperm, hr1, hq1, hfr, rfl⟩
      simp only [mkA]
      have hs1 : d1.size = N := hperm.1.trans hN
      by_cases hile : (i : Int) ≤ ((a + l4 * 2 + 1 : Nat) : Int)
      · have w8 : IntKind.i64.wrap ((i : Int) + 1) = ((i + 1 : Nat) : Int) := by rw [wrap_i64 (by omega) (by omega)]; omega
        have step : ∀ (o : Nat), o < l → ∀ (h2 : AHeap) (s' : Int), h2.get r = some (row (swp d1 i (a + o))) → h2.get h.next = some (ucell s') → (∀ x, x < h.next → ¬ r = x → h2.get x = h.get x) →
            ∃ (j : Nat) (d' : Array El) (s : Int), a + l4 * 2 + 2 - (i + 1) = a + l4 * 2 + 2 - j ∧ a + l4 * 2 - 1 ≤ j ∧ j ≤ a + l4 * 2 + 2 ∧ PermIn a b d d' ∧ h2.get r = some (row d') ∧ h2.get h.next = some (ucell s) ∧ (∀ x, x < h.next → ¬ r = x → h2.get x = h.get x) ∧
              [(0, sl r N), (1, I64 a), (6, I64 l), (7, P0 h.next), (8, U64 M), (9, I64 (i + 1 : Nat))] = [(0, sl r N), (1, I64 a), (6, I64 l), (7, P0 h.next), (8, U64 M), (9, I64 j)] :=
          fun o ho h2 s' e1 e2 e3 => ⟨i + 1, _, s', rfl, by omega, by omega, permIn_trans _ _ _ _ _ hperm (swp_permIn d1 a b i (a + o) (by omega) (by omega) (by omega) (by omega) (by omega)), e1, e2, e3, rfl⟩
        have hnr : ¬ h.next = r := by omega
        have hnr' : ¬ r = h.next := by omega
        have hcall : FWp Tryz.prog 123 [P0 h.next] h1 fun u h' => ∃ s' : Int, u = U64 s' ∧ h' = h1.set h.next (ucell s') ∧ 0 ≤ s' ∧ s' < 18446744073709551616 := by
          have := next_c h1 h.next s
          rw [AHeap.set_self hq1] at this
          exact this
        refine W.seq <| W.seq <| W.reg <| OSuf.aop tyOK rfl sm rfl <| OSuf.aop tyOK rfl sm rfl <| OSuf.aop tyOK rfl sm rfl <| OSuf.aop tyOK rfl (zb (hv := bi_w (bi_quo (by decide)) (by first | (simp only [w2, w3, w4, w6, w7] <;> rfl) | rfl))) rfl <| OSuf.aop tyOK rfl (zb (hv := bi_w bi_mul (by first | (simp only [w2, w3, w4, w6, w7] <;> rfl) | rfl))) rfl <| OSuf.aop tyOK rfl (zb (hv := bi_w bi_add (by first | (simp only [w2, w3, w4, w6, w7] <;> rfl) | rfl))) rfl <| OSuf.aop tyOK rfl (zb (hv := bi_w bi_add (by first | (simp only [w2, w3, w4, w6, w7] <;> rfl) | rfl))) rfl <| OSuf.aopT tyOK rfl (zb (hv := bi_leq)) (fun _ => rfl) (by first | rfl | assumption | ((simp only [bl, hr1, if_pos, Int.toNat_natCast, Nat.mul_one, Nat.zero_add, rg, rs, rb, Value.cells, List.length_cons, List.length_nil, oneCells, List.all_cons, List.all_nil, Value.oneCell', Bool.and_self, cond_true, AHeap.set_set, Array.size_setIfInBounds]) <;> first | done | assumption | omega) | (simp; done) | (simp; omega)) <| OSuf.nil <| SQ.normal ?_
        refine W.yes (by simp only [lk] <;> rfl) <| CWp.skip <| SQ.normal ?_
        refine W.seq <| W.block <| W.seq <| W.reg <| OSuf.call rfl (by simp only [aopnds, lk] <;> rfl) en123 (hcall) ?_
        rintro _ _ ⟨s', rfl, rfl, hs0, hsm⟩
        obtain ⟨o, ho1, ho2⟩ := and_nat s' (M - 1) (by omega)
        have w9 : IntKind.i64.wrap (o : Int) = (o : Int) := wrap_i64 (by omega) (by omega)
        have w10 : IntKind.i64.wrap ((o : Int) - (l : Int)) = (o : Int) - (l : Int) := wrap_i64 (by omega) (by omega)
        have w11 : IntKind.i64.wrap ((a : Int) + ((o : Int) - (l : Int))) = (a : Int) + ((o : Int) - (l : Int)) := wrap_i64 (by omega) (by omega)
        have w12 : IntKind.i64.wrap ((a : Int) + (o : Int)) = ((a + o : Nat) : Int) := by rw [wrap_i64 (by omega) (by omega)]; omega
        refine ⟨_, rfl, ?_⟩
        refine OSuf.aop tyOK rfl sm rfl <| OSuf.aop tyOK rfl (zb (hv := bi_w bi_sub (by first | (simp only [w2, w3, w4, w6, w7, ho1, w9, w10, w11, w12, w8] <;> rfl) | rfl))) rfl <| OSuf.aop tyOK rfl (zb (hv := bi_w bi_and (by first | (simp only [w2, w3, w4, w6, w7, ho1, w9, w10, w11, w12, w8] <;> rfl) | rfl))) rfl <| OSuf.aop tyOK rfl (so_conw (so_conv tyOK (by simp only [lk] <;> rfl) ty94 ⟨_, rfl⟩ ty3 rfl) (by first | (simp only [w2, w3, w4, w6, w7, ho1, w9, w10, w11, w12, w8] <;> rfl) | rfl)) rfl <| OSuf.aop tyOK rfl za rfl <| OSuf.nil <| SQ.normal ?_
        refine W.seq <| W.seq <| W.reg <| OSuf.aop tyOK rfl sm rfl <| OSuf.aop tyOK rfl sm rfl <| OSuf.aopB tyOK rfl (zb (hv := bi_geq)) (fun _ => rfl) (fun hge => ?_) (fun hge => ?_)
        · try simp only [bl] at hge
          refine OSuf.nil <| SQ.normal ?_
          refine W.yes (by simp only [lk] <;> rfl) <| W.reg <| OSuf.aop tyOK rfl sm rfl <| OSuf.aop tyOK rfl sm rfl <| OSuf.aop tyOK rfl (zb (hv := bi_w bi_sub (by first | (simp only [w2, w3, w4, w6, w7, ho1, w9, w10, w11, w12, w8] <;> rfl) | rfl))) rfl <| OSuf.aop tyOK rfl za rfl <| OSuf.nil <| SQ.normal ?_
          refine W.regD tyOK mixed (by kernel_rfl) <| SqW.aop rfl sm rfl <| SqW.aop rfl sm rfl <| SqW.aop rfl sm rfl <| SqW.aop rfl sm rfl <| SqW.aop rfl sm rfl <| SqW.aop rfl (zb (hv := bi_w bi_add (by first | (simp only [w2, w3, w4, w6, w7, ho1, w9, w10, w11, w12, w8] <;> rfl) | rfl))) rfl <| SqW.aop rfl sm rfl <| SqW.aop rfl sm rfl <| SqW.aop rfl sm rfl <| SqW.aop rfl (zb (hv := bi_w bi_add (by first | (simp only [w2, w3, w4, w6, w7, ho1, w9, w10, w11, w12, w8] <;> rfl) | rfl))) rfl <| SqW.aop rfl (zi (hv := by simp (disch := first | assumption | omega | (simp only [nx] <;> omega) | fail) only [aIndexAddr, ty37, ty9, hpl, hr1, if_pos, Int.toNat_natCast, Nat.mul_one, Nat.zero_add, rg, rs, rb, Value.cells, List.length_cons, List.length_nil, oneCells, List.all_cons, List.all_nil, Value.oneCell', Bool.and_self, cond_true, AHeap.set_set, Array.size_setIfInBounds] <;> rfl)) rfl <| SqW.aop rfl (zl (hv := by simp (disch := first | assumption | omega | (simp only [nx] <;> omega) | fail) only [aLoad, ty9, rowOf, hpl, hr1, if_pos, Int.toNat_natCast, Nat.mul_one, Nat.zero_add, rg, rs, rb, Value.cells, List.length_cons, List.length_nil, oneCells, List.all_cons, List.all_nil, Value.oneCell', Bool.and_self, cond_true, AHeap.set_set, Array.size_setIfInBounds] <;> rfl)) rfl <| SqW.aop rfl sm rfl <| SqW.aop rfl sm rfl <| SqW.aop rfl (zi (hv := by simp (disch := first | assumption | omega | (simp only [nx] <;> omega) | fail) only [aIndexAddr, ty37, ty9, hpl, hr1, if_pos, Int.toNat_natCast, Nat.mul_one, Nat.zero_add, rg, rs, rb, Value.cells, List.length_cons, List.length_nil, oneCells, List.all_cons, List.all_nil, Value.oneCell', Bool.and_self, cond_true, AHeap.set_set, Array.size_setIfInBounds] <;> rfl)) rfl <| SqW.aop rfl (zl (hv := by simp (disch := first | assumption | omega | (simp only [nx] <;> omega) | fail) only [aLoad, ty9, rowOf, hpl, hr1, if_pos, Int.toNat_natCast, Nat.mul_one, Nat.zero_add, rg, rs, rb, Value.cells, List.length_cons, List.length_nil, oneCells, List.all_cons, List.all_nil, Value.oneCell', Bool.and_self, cond_true, AHeap.set_set, Array.size_setIfInBounds] <;> rfl)) rfl <| SqW.aop rfl (zi (hv := by simp (disch := first | assumption | omega | (simp only [nx] <;> omega) | fail) only [aIndexAddr, ty37, ty9, hpl, hr1, if_pos, Int.toNat_natCast, Nat.mul_one, Nat.zero_add, rg, rs, rb, Value.cells, List.length_cons, List.length_nil, oneCells, List.all_cons, List.all_nil, Value.oneCell', Bool.and_self, cond_true, AHeap.set_set, Array.size_setIfInBounds] <;> rfl)) rfl <| SqW.aop rfl (zs (hv := by simp (disch := first | assumption | omega | (simp only [nx] <;> omega) | fail) only [aStore, ty9, writeRow, hpl, hr1, if_pos, Int.toNat_natCast, Nat.mul_one, Nat.zero_add, rg, rs, rb, Value.cells, List.length_cons, List.length_nil, oneCells, List.all_cons, List.all_nil, Value.oneCell', Bool.and_self, cond_true, AHeap.set_set, Array.size_setIfInBounds] <;> rfl)) rfl <| SqW.aop rfl (zi (hv := by simp (disch := first | assumption | omega | (simp only [nx] <;> omega) | fail) only [aIndexAddr, ty37, ty9, hpl, hr1, if_pos, Int.toNat_natCast, Nat.mul_one, Nat.zero_add, rg, rs, rb, Value.cells, List.length_cons, List.length_nil, oneCells, List.all_cons, List.all_nil, Value.oneCell', Bool.and_self, cond_true, AHeap.set_set, Array.size_setIfInBounds] <;> rfl)) rfl <| SqW.aop rfl (zs (hv := by simp (disch := first | assumption | omega | (simp only [nx] <;> omega) | fail) only [aStore, ty9, writeRow, hpl, hr1, if_pos, Int.toNat_natCast, Nat.mul_one, Nat.zero_add, rg, rs, rb, Value.cells, List.length_cons, List.length_nil, oneCells, List.all_cons, List.all_nil, Value.oneCell', Bool.and_self, cond_true, AHeap.set_set, Array.size_setIfInBounds] <;> rfl)) rfl <| SqW.nil <| BQ.normal <| SQ.normal ?_
          refine W.reg <| OSuf.aop tyOK rfl sm rfl <| OSuf.aop tyOK rfl (zb (hv := bi_w bi_add (by first | (simp only [w2, w3, w4, w6, w7, ho1, w9, w10, w11, w12, w8] <;> rfl) | rfl))) rfl <| OSuf.aop tyOK rfl za rfl <| OSuf.nil <| ?_
          have e9 : ((a : Int) + ((o : Int) - (l : Int))).toNat = a + (o - l) := by omega
          rw [e9]
          refine LQ.normal (m := a + l4 * 2 + 2 - (i + 1)) (L := [(0, sl r N), (1, I64 a), (6, I64 l), (7, P0 h.next), (8, U64 M), (9, I64 (i + 1 : Nat))]) (by omega) ?_ (step (o - l) (by omega) _ s' ?_ ?_ ?_)
          · simp only [HasA, Tr.get_put, Nat.reduceEqDiff, reduceIte, and_self]
          · rw [AHeap.get_set_same]; rfl
          · rw [AHeap.get_set_ne hnr', AHeap.get_set_same]
          · intro x hx hrx; rw [AHeap.get_set_ne hrx, AHeap.get_set_ne (by omega)]; exact hfr x hx hrx
        · try simp only [bl] at hge
          refine OSuf.nil <| SQ.normal ?_
          refine W.no (by simp only [lk] <;> rfl) <| CWp.skip <| SQ.normal ?_
          refine W.regD tyOK mixed (by kernel_rfl) <| SqW.aop rfl sm rfl <| SqW.aop rfl sm rfl <| SqW.aop rfl sm rfl <| SqW.aop rfl sm rfl <| SqW.aop rfl sm rfl <| SqW.aop rfl (zb (hv := bi_w bi_add (by first | (simp only [w2, w3, w4, w6, w7, ho1, w9, w10, w11, w12, w8] <;> rfl) | rfl))) rfl <| SqW.aop rfl sm rfl <| SqW.aop rfl sm rfl <| SqW.aop rfl sm rfl <| SqW.aop rfl (zb (hv := bi_w bi_add (by first | (simp only [w2, w3, w4, w6, w7, ho1, w9, w10, w11, w12, w8] <;> rfl) | rfl))) rfl <| SqW.aop rfl (zi (hv := by simp (disch := first | assumption | omega | (simp only [nx] <;> omega) | fail) only [aIndexAddr, ty37, ty9, hpl, hr1, if_pos, Int.toNat_natCast, Nat.mul_one, Nat.zero_add, rg, rs, rb, Value.cells, List.length_cons, List.length_nil, oneCells, List.all_cons, List.all_nil, Value.oneCell', Bool.and_self, cond_true, AHeap.set_set, Array.size_setIfInBounds] <;> rfl)) rfl <| SqW.aop rfl (zl (hv := by simp (disch := first | assumption | omega | (simp only [nx] <;> omega) | fail) only [aLoad, ty9, rowOf, hpl, hr1, if_pos, Int.toNat_natCast, Nat.mul_one, Nat.zero_add, rg, rs, rb, Value.cells, List.length_cons, List.length_nil, oneCells, List.all_cons, List.all_nil, Value.oneCell', Bool.and_self, cond_true, AHeap.set_set, Array.size_setIfInBounds] <;> rfl)) rfl <| SqW.aop rfl sm rfl <| SqW.aop rfl sm rfl <| SqW.aop rfl (zi (hv := by simp (disch := first | assumption | omega | (simp only [nx] <;> omega) | fail) only [aIndexAddr, ty37, ty9, hpl, hr1, if_pos, Int.toNat_natCast, Nat.mul_one, Nat.zero_add, rg, rs, rb, Value.cells, List.length_cons, List.length_nil, oneCells, List.all_cons, List.all_nil, Value.oneCell', Bool.and_self, cond_true, AHeap.set_set, Array.size_setIfInBounds] <;> rfl)) rfl <| SqW.aop rfl (zl (hv := by simp (disch := first | assumption | omega | (simp only [nx] <;> omega) | fail) only [aLoad, ty9, rowOf, hpl, hr1, if_pos, Int.toNat_natCast, Nat.mul_one, Nat.zero_add, rg, rs, rb, Value.cells, List.length_cons, List.length_nil, oneCells, List.all_cons, List.all_nil, Value.oneCell', Bool.and_self, cond_true, AHeap.set_set, Array.size_setIfInBounds] <;> rfl)) rfl <| SqW.aop rfl (zi (hv := by simp (disch := first | assumption | omega | (simp only [nx] <;> omega) | fail) only [aIndexAddr, ty37, ty9, hpl, hr1, if_pos, Int.toNat_natCast, Nat.mul_one, Nat.zero_add, rg, rs, rb, Value.cells, List.length_cons, List.length_nil, oneCells, List.all_cons, List.all_nil, Value.oneCell', Bool.and_self, cond_true, AHeap.set_set, Array.size_setIfInBounds] <;> rfl)) rfl <| SqW.aop rfl (zs (hv := by simp (disch := first | assumption | omega | (simp only [nx] <;> omega) | fail) only [aStore, ty9, writeRow, hpl, hr1, if_pos, Int.toNat_natCast, Nat.mul_one, Nat.zero_add, rg, rs, rb, Value.cells, List.length_cons, List.length_nil, oneCells, List.all_cons, List.all_nil, Value.oneCell', Bool.and_self, cond_true, AHeap.set_set, Array.size_setIfInBounds] <;> rfl)) rfl <| SqW.aop rfl (zi (hv := by simp (disch := first | assumption | omega | (simp only [nx] <;> omega) | fail) only [aIndexAddr, ty37, ty9, hpl, hr1, if_pos, Int.toNat_natCast, Nat.mul_one, Nat.zero_add, rg, rs, rb, Value.cells, List.length_cons, List.length_nil, oneCells, List.all_cons, List.all_nil, Value.oneCell', Bool.and_self, cond_true, AHeap.set_set, Array.size_setIfInBounds] <;> rfl)) rfl <| SqW.aop rfl (zs (hv := by simp (disch := first | assumption | omega | (simp only [nx] <;> omega) | fail) only [aStore, ty9, writeRow, hpl, hr1, if_pos, Int.toNat_natCast, Nat.mul_one, Nat.zero_add, rg, rs, rb, Value.cells, List.length_cons, List.length_nil, oneCells, List.all_cons, List.all_nil, Value.oneCell', Bool.and_self, cond_true, AHeap.set_set, Array.size_setIfInBounds] <;> rfl)) rfl <| SqW.nil <| BQ.normal <| SQ.normal ?_
          refine W.reg <| OSuf.aop tyOK rfl sm rfl <| OSuf.aop tyOK rfl (zb (hv := bi_w bi_add (by first | (simp only [w2, w3, w4, w6, w7, ho1, w9, w10, w11, w12, w8] <;> rfl) | rfl))) rfl <| OSuf.aop tyOK rfl za rfl <| OSuf.nil <| ?_
          refine LQ.normal (m := a + l4 * 2 + 2 - (i + 1)) (L := [(0, sl r N), (1, I64 a), (6, I64 l), (7, P0 h.next), (8, U64 M), (9, I64 (i + 1 : Nat))]) (by omega) ?_ (step o (by omega) _ s' ?_ ?_ ?_)
          · simp only [HasA, Tr.get_put, Nat.reduceEqDiff, reduceIte, and_self]
          · rw [AHeap.get_set_same]; rfl
          · rw [AHeap.get_set_ne hnr', AHeap.get_set_same]
          · intro x hx hrx; rw [AHeap.get_set_ne hrx, AHeap.get_set_ne (by omega)]; exact hfr x hx hrx
      · refine W.seq <| W.seq <| W.reg <| OSuf.aop tyOK rfl sm rfl <| OSuf.aop tyOK rfl sm rfl <| OSuf.aop tyOK rfl sm rfl <| OSuf.aop tyOK rfl (zb (hv := bi_w (bi_quo (by decide)) (by first | (simp only [w2, w3, w4, w6] <;> rfl) | rfl))) rfl <| OSuf.aop tyOK rfl (zb (hv := bi_w bi_mul (by first | (simp only [w2, w3, w4, w6] <;> rfl) | rfl))) rfl <| OSuf.aop tyOK rfl (zb (hv := bi_w bi_add (by first | (simp only [w2, w3, w4, w6] <;> rfl) | rfl))) rfl <| OSuf.aop tyOK rfl (zb (hv := bi_w bi_add (by first | (simp only [w2, w3, w4, w6] <;> rfl) | rfl))) rfl <| OSuf.aopF tyOK rfl (zb (hv := bi_leq)) (fun _ => rfl) (by first | rfl | assumption | ((simp only [bl]) <;> first | done | assumption | omega) | (simp; done) | (simp; omega)) <| OSuf.nil <| SQ.normal ?_
        refine W.no (by simp only [lk] <;> rfl) <| CWp.exit <| SQ.exit <| LQ.exit <| BQ.exit <| FQ.normal (by simp only [aRet, Tryz.f128, aResults, aResult, lk, Nat.reduceEqDiff, reduceIte] <;> first | rfl | (simp only [tyall] <;> rfl) | (simp [tyall] <;> rfl)) ?_
        -- leaf: end
        exact ⟨rfl, d1, hperm, hr1, hfr⟩
  · rintro u h' ⟨rfl, d', hp, h1, h2⟩
    refine ⟨.flat rfl, h.set r (row d'), rfl, fun x o hx => ?_, rfl, d', hp, rfl⟩
    rw [AHeap.get_set] at hx
    split at hx
    · rename_i e
      subst e
      cases hx
      refine .inr ⟨hrn, h1, fun v hv => ?_⟩
      simp only [List.mem_map] at hv
      obtain ⟨y, _, rfl⟩ := hv
      exact .flat rfl
    · rename_i e
      refine .inl ⟨by rw [AHeap.get_set_ne e]; exact hx, fun hlt => ?_⟩
      rw [h2 x hlt e]; exact hx
end Go.Proofs.YtebheelmgcggmaaGreat.SortS
namespace Go.Proofs.YtebheelmgcggmaaGreat.SortS
open Go.Ab Go.Sort
set_option linter.unusedSimpArgs false
set_option linter.unusedVariables false
set_option maxRecDepth 10000
set_option maxHeartbeats 4000000
theorem ss_eq {d : Array El} {b i : Nat} (h : i < b) (hp : lt d[i]! d[i - 1]! = false) : scanSorted lt d b i = scanSorted lt d b (i + 1) := by conv => lhs; rw [scanSorted]; simp [h, hp]
theorem ss_stop {d : Array El} {b i : Nat} (h : ¬ i < b ∨ lt d[i]! d[i - 1]! = true) : scanSorted lt d b i = i := by
  rw [scanSorted]
  rcases h with h | h
  · simp [h]
  · simp [h]
theorem ss_range {d : Array El} {b : Nat} : ∀ {n i : Nat}, b - i = n → i ≤ b → i ≤ scanSorted lt d b i ∧ scanSorted lt d b i ≤ b := by
  intro n
  induction n with
  | zero => intro i hn hi; rw [ss_stop (.inl (by omega))]; omega
  | succ n ih =>
    intro i hn hi
    cases hl : lt d[i]! d[i - 1]!
    · rw [ss_eq (by omega) hl]; have := ih (i := i + 1) (by omega) (by omega); omega
    · rw [ss_stop (.inr hl)]; omega
theorem partial_c (h : AHeap) (r N : Nat) (d : Array El) (hN : d.size = N) (a b : Nat) (hab : a < b) (hb : b ≤ N) (hsz : N < 1000000000) :
    FWp Tryz.prog 131 [sl r N, I64 a, I64 b] (h.set r (row d)) fun u h' => u = .bool (partialInsertionSort lt d a b).2 ∧ h' = h.set r (row (partialInsertionSort lt d a b).1) := by
  refine W.enter tyOK Tryz.func131 rfl rfl ?_
  simp only [entry]
  have w1 : IntKind.i64.wrap ((a : Int) + 1) = ((a + 1 : Nat) : Int) := by rw [wrap_i64 (by omega) (by omega)]; omega
  have w2 : IntKind.i64.wrap ((b : Int) - (a : Int)) = ((b - a : Nat) : Int) := by rw [wrap_i64 (by omega) (by omega)]; omega
  refine W.seq <| W.reg <| OSuf.aopF tyOK rfl za (fun _ => rfl) rfl <| OSuf.nil <| SQ.normal ?_
  refine W.seq <| W.reg <| OSuf.aop tyOK rfl sm rfl <| OSuf.aop tyOK rfl (zb (hv := bi_w bi_add (by first | (simp only [w1] <;> rfl) | rfl))) rfl <| OSuf.aop tyOK rfl za rfl <| OSuf.nil <| SQ.normal ?_
  refine W.seq <| W.seq <| W.reg <| OSuf.aop tyOK rfl za rfl <| OSuf.nil <| SQ.normal ?_
  -- leaf: loop
  refine W.cut (fun L h' => partialInsertionSort lt d a b = ((partialInsertionSort lt d a b).1, false) ∧ h' = h.set r (row (partialInsertionSort lt d a b).1) ∧ L = []) (W.block (W.loop (fun n L h' => ∃ (j i : Nat) (dk : Array El), n + j = 5 ∧ a + 1 ≤ i ∧ i ≤ b ∧ dk.size = N ∧ partialIns lt a b n i dk = partialInsertionSort lt d a b ∧ h' = h.set r (row dk) ∧
      L = [(0, sl r N), (1, I64 a), (2, I64 b), (7, I64 i), (8, I64 j)]) (n := 5) ⟨0, a + 1, d, rfl, by omega, by omega, hN, rfl, rfl, rfl⟩ ?_ ?_)) ?_
  · simp [HasA, Tr.get_put]
  · rintro n L h1 ⟨j, i0, dk, hnj, hi1, hi2, hds, heq, rfl, rfl⟩
    simp only [mkA]
    cases n with
    | zero =>
      refine W.seq <| W.seq <| W.reg <| OSuf.aop tyOK rfl sm rfl <| OSuf.aopF tyOK rfl (zb (hv := bi_lss)) (fun _ => rfl) (by first | rfl | assumption | ((simp only [bl]) <;> first | done | assumption | omega) | (simp; done) | (simp; omega)) <| OSuf.nil <| SQ.normal ?_
      refine W.no (by simp only [lk] <;> rfl) <| CWp.exit <| SQ.exit <| LQ.exit <| BQ.exit <| ?_
      -- leaf: cut
      have e : partialIns lt a b 0 i0 dk = (dk, false) := rfl
      rw [e] at heq
      refine NQ.normal (L := []) trivial ⟨by rw [← heq], by rw [← heq], rfl⟩
    | succ s =>
      refine W.seq <| W.seq <| W.reg <| OSuf.aop tyOK rfl sm rfl <| OSuf.aopT tyOK rfl (zb (hv := bi_lss)) (fun _ => rfl) (by first | rfl | assumption | ((simp only [bl]) <;> first | done | assumption | omega) | (simp; done) | (simp; omega)) <| OSuf.nil <| SQ.normal ?_
      refine W.yes (by simp only [lk] <;> rfl) <| CWp.skip <| SQ.normal ?_
      refine W.seq <| W.block <| W.seq <| ?_
      -- leaf: loop
      refine W.cut (fun L h' => h' = h.set r (row dk) ∧ L = [(0, sl r N), (1, I64 a), (2, I64 b), (7, I64 (scanSorted lt dk b i0 : Nat)), (8, I64 j)])
        (W.block (W.loop (fun n L h' => ∃ i : Nat, n = b - i ∧ a + 1 ≤ i ∧ i ≤ b ∧ scanSorted lt dk b i = scanSorted lt dk b i0 ∧ h' = h.set r (row dk) ∧ L = [(0, sl r N), (1, I64 a), (2, I64 b), (7, I64 i), (8, I64 j)]) (n := b - i0) ⟨i0, rfl, hi1, hi2, rfl, rfl, rfl⟩ ?_ ?_)) ?_
      · simp [HasA, Tr.get_put]
      · rintro n L h1 ⟨i, rfl, hj1, hj2, hsc, rfl, rfl⟩
        simp only [mkA]
        have w3 : IntKind.i64.wrap ((i : Int) + 1) = ((i + 1 : Nat) : Int) := by rw [wrap_i64 (by omega) (by omega)]; omega
        have w4 : IntKind.i64.wrap ((i : Int) - 1) = ((i - 1 : Nat) : Int) := by rw [wrap_i64 (by omega) (by omega)]; omega
        by_cases hib : (i : Int) < (b : Int)
        · cases hl : lt dk[i]! dk[i - 1]!
          · refine W.seq <| W.seq <| W.regD tyOK mixed (by kernel_rfl) <| SqW.aop rfl sm rfl <| SqW.aop rfl sm rfl <| SqW.aopT rfl (zb (hv := bi_lss)) (fun _ => rfl) (by first | rfl | assumption | ((simp only [bl, if_pos, Int.toNat_natCast, Nat.mul_one, Nat.zero_add, rg, rs, rb, Value.cells, List.length_cons, List.length_nil, oneCells, List.all_cons, List.all_nil, Value.oneCell', Bool.and_self, cond_true, AHeap.set_set, Array.size_setIfInBounds]) <;> first | done | assumption | omega) | (simp; done) | (simp; omega)) <| SqW.aopT rfl sm (fun _ => rfl) rfl <| SqW.aop ag sm rfl <| SqW.aop ag sm rfl <| SqW.aop ag (zi (hv := by simp (disch := first | assumption | omega | (simp only [nx] <;> omega) | fail) only [aIndexAddr, ty37, ty9, hpl, if_pos, Int.toNat_natCast, Nat.mul_one, Nat.zero_add, rg, rs, rb, Value.cells, List.length_cons, List.length_nil, oneCells, List.all_cons, List.all_nil, Value.oneCell', Bool.and_self, cond_true, AHeap.set_set, Array.size_setIfInBounds] <;> rfl)) rfl <| SqW.aop ag (zl (hv := by simp (disch := first | assumption | omega | (simp only [nx] <;> omega) | fail) only [aLoad, ty9, rowOf, hpl, if_pos, Int.toNat_natCast, Nat.mul_one, Nat.zero_add, rg, rs, rb, Value.cells, List.length_cons, List.length_nil, oneCells, List.all_cons, List.all_nil, Value.oneCell', Bool.and_self, cond_true, AHeap.set_set, Array.size_setIfInBounds] <;> rfl)) rfl <| SqW.aop ag sm rfl <| SqW.aop ag sm rfl <| SqW.aop ag (zb (hv := bi_w bi_sub (by first | (simp only [w3, w4] <;> rfl) | rfl))) rfl <| SqW.aop ag (zi (hv := by simp (disch := first | assumption | omega | (simp only [nx] <;> omega) | fail) only [aIndexAddr, ty37, ty9, hpl, if_pos, Int.toNat_natCast, Nat.mul_one, Nat.zero_add, rg, rs, rb, Value.cells, List.length_cons, List.length_nil, oneCells, List.all_cons, List.all_nil, Value.oneCell', Bool.and_self, cond_true, AHeap.set_set, Array.size_setIfInBounds] <;> rfl)) rfl <| SqW.aop ag (zl (hv := by simp (disch := first | assumption | omega | (simp only [nx] <;> omega) | fail) only [aLoad, ty9, rowOf, hpl, if_pos, Int.toNat_natCast, Nat.mul_one, Nat.zero_add, rg, rs, rb, Value.cells, List.length_cons, List.length_nil, oneCells, List.all_cons, List.all_nil, Value.oneCell', Bool.and_self, cond_true, AHeap.set_set, Array.size_setIfInBounds] <;> rfl)) rfl <| SqW.callD ag (by simp only [aopnds, lk] <;> rfl) en132 (less_c _ _ _ _ hl) rfl <| SqW.aopT ag (so_not (by simp only [lk] <;> rfl)) (fun _ => rfl) rfl <| SqW.aopT rfl (so_pick (by simp only [lk] <;> rfl) (by simp only [lk, cond_true, cond_false] <;> rfl)) (fun _ => rfl) rfl <| SqW.nil <| SQ.normal ?_
            refine W.yes (by simp only [lk] <;> rfl) <| CWp.skip <| SQ.normal ?_
            refine W.block <| W.reg <| OSuf.aop tyOK rfl sm rfl <| OSuf.aop tyOK rfl (zb (hv := bi_w bi_add (by first | (simp only [w3, w4] <;> rfl) | rfl))) rfl <| OSuf.aop tyOK rfl za rfl <| OSuf.nil <| BQ.normal <| ?_
            -- leaf: round
            refine LQ.normal (m := b - (i + 1)) (L := [(0, sl r N), (1, I64 a), (2, I64 b), (7, I64 (i + 1 : Nat)), (8, I64 j)]) (by omega) ?_ ⟨i + 1, rfl, by omega, by omega, ?_, rfl, rfl⟩
            · simp only [HasA, Tr.get_put, Nat.reduceEqDiff, reduceIte, and_self]
            · rw [← hsc]; exact (ss_eq (by omega) hl).symm
          · refine W.seq <| W.seq <| W.regD tyOK mixed (by kernel_rfl) <| SqW.aop rfl sm rfl <| SqW.aop rfl sm rfl <| SqW.aopT rfl (zb (hv := bi_lss)) (fun _ => rfl) (by first | rfl | assumption | ((simp only [bl, if_pos, Int.toNat_natCast, Nat.mul_one, Nat.zero_add, rg, rs, rb, Value.cells, List.length_cons, List.length_nil, oneCells, List.all_cons, List.all_nil, Value.oneCell', Bool.and_self, cond_true, AHeap.set_set, Array.size_setIfInBounds]) <;> first | done | assumption | omega) | (simp; done) | (simp; omega)) <| SqW.aopT rfl sm (fun _ => rfl) rfl <| SqW.aop ag sm rfl <| SqW.aop ag sm rfl <| SqW.aop ag (zi (hv := by simp (disch := first | assumption | omega | (simp only [nx] <;> omega) | fail) only [aIndexAddr, ty37, ty9, hpl, if_pos, Int.toNat_natCast, Nat.mul_one, Nat.zero_add, rg, rs, rb, Value.cells, List.length_cons, List.length_nil, oneCells, List.all_cons, List.all_nil, Value.oneCell', Bool.and_self, cond_true, AHeap.set_set, Array.size_setIfInBounds] <;> rfl)) rfl <| SqW.aop ag (zl (hv := by simp (disch := first | assumption | omega | (simp only [nx] <;> omega) | fail) only [aLoad, ty9, rowOf, hpl, if_pos, Int.toNat_natCast, Nat.mul_one, Nat.zero_add, rg, rs, rb, Value.cells, List.length_cons, List.length_nil, oneCells, List.all_cons, List.all_nil, Value.oneCell', Bool.and_self, cond_true, AHeap.set_set, Array.size_setIfInBounds] <;> rfl)) rfl <| SqW.aop ag sm rfl <| SqW.aop ag sm rfl <| SqW.aop ag (zb (hv := bi_w bi_sub (by first | (simp only [w3, w4] <;> rfl) | rfl))) rfl <| SqW.aop ag (zi (hv := by simp (disch := first | assumption | omega | (simp only [nx] <;> omega) | fail) only [aIndexAddr, ty37, ty9, hpl, if_pos, Int.toNat_natCast, Nat.mul_one, Nat.zero_add, rg, rs, rb, Value.cells, List.length_cons, List.length_nil, oneCells, List.all_cons, List.all_nil, Value.oneCell', Bool.and_self, cond_true, AHeap.set_set, Array.size_setIfInBounds] <;> rfl)) rfl <| SqW.aop ag (zl (hv := by simp (disch := first | assumption | omega | (simp only [nx] <;> omega) | fail) only [aLoad, ty9, rowOf, hpl, if_pos, Int.toNat_natCast, Nat.mul_one, Nat.zero_add, rg, rs, rb, Value.cells, List.length_cons, List.length_nil, oneCells, List.all_cons, List.all_nil, Value.oneCell', Bool.and_self, cond_true, AHeap.set_set, Array.size_setIfInBounds] <;> rfl)) rfl <| SqW.callD ag (by simp only [aopnds, lk] <;> rfl) en132 (less_c _ _ _ _ hl) rfl <| SqW.aopF ag (so_not (by simp only [lk] <;> rfl)) (fun _ => rfl) rfl <| SqW.aopF rfl (so_pick (by simp only [lk] <;> rfl) (by simp only [lk, cond_true, cond_false] <;> rfl)) (fun _ => rfl) rfl <| SqW.nil <| SQ.normal ?_
            refine W.no (by simp only [lk] <;> rfl) <| CWp.exit <| SQ.exit <| LQ.exit <| BQ.exit <| ?_
            -- leaf: cut
            refine NQ.normal (L := [(0, sl r N), (1, I64 a), (2, I64 b), (7, I64 i), (8, I64 j)]) ?_ ⟨rfl, ?_⟩
            · simp only [HasA, Tr.get_put, Nat.reduceEqDiff, reduceIte, and_self]
            · rw [← hsc, ss_stop (.inr hl)]
        · refine W.seq <| W.seq <| W.regD tyOK mixed (by kernel_rfl) <| SqW.aop rfl sm rfl <| SqW.aop rfl sm rfl <| SqW.aopF rfl (zb (hv := bi_lss)) (fun _ => rfl) (by first | rfl | assumption | ((simp only [bl]) <;> first | done | assumption | omega) | (simp; done) | (simp; omega)) <| SqW.aopF rfl sm (fun _ => rfl) rfl <| SqW.pass ag rfl <| SqW.pass ag rfl <| SqW.pass ag rfl <| SqW.pass ag rfl <| SqW.pass ag rfl <| SqW.pass ag rfl <| SqW.pass ag rfl <| SqW.pass ag rfl <| SqW.pass ag rfl <| SqW.pass ag rfl <| SqW.pass ag rfl <| SqW.aopF rfl (so_pick (by simp only [lk] <;> rfl) (by simp only [lk, cond_true, cond_false] <;> rfl)) (fun _ => rfl) rfl <| SqW.nil <| SQ.normal ?_
          refine W.no (by simp only [lk] <;> rfl) <| CWp.exit <| SQ.exit <| LQ.exit <| BQ.exit <| ?_
          -- leaf: cut
          refine NQ.normal (L := [(0, sl r N), (1, I64 a), (2, I64 b), (7, I64 i), (8, I64 j)]) ?_ ⟨rfl, ?_⟩
          · simp only [HasA, Tr.get_put, Nat.reduceEqDiff, reduceIte, and_self]
          · rw [← hsc, ss_stop (.inl (by omega))]
      rintro L a' h1 ha ⟨rfl, rfl⟩
      have hsp : i0 ≤ scanSorted lt dk b i0 ∧ scanSorted lt dk b i0 ≤ b := ss_range rfl hi2
      rw [partialIns_succ] at heq
      generalize scanSorted lt dk b i0 = i at *
      by_cases hib : (i : Int) = (b : Int)
      · rw [if_pos (by omega)] at heq
        refine SQ.normal <| CWp.known ha ?_
        simp only [mkA]
        refine W.seq <| W.seq <| W.reg <| OSuf.aop tyOK rfl sm rfl <| OSuf.aop tyOK rfl sm rfl <| OSuf.aopT tyOK rfl (zb (hv := bi_eql)) (fun _ => rfl) (by first | rfl | assumption | ((simp only [bl, hib]) <;> first | done | assumption | omega) | (simp; done) | (simp; omega)) <| OSuf.nil <| SQ.normal ?_
        refine W.yes (by simp only [lk] <;> rfl) <| W.seq <| W.reg <| OSuf.aopT tyOK rfl za (fun _ => rfl) rfl <| OSuf.nil <| SQ.normal ?_
        refine CWp.ret <| SQ.ret <| BQ.ret <| SQ.ret <| LQ.ret <| BQ.ret <| NQ.ret <| SQ.ret <| FQ.ret (by simp only [aRet, Tryz.f131, aResults, aResult, lk, Nat.reduceEqDiff, reduceIte] <;> first | rfl | (simp only [tyall] <;> rfl) | (simp [tyall] <;> rfl)) ?_
        -- leaf: end
        rw [← heq]
        exact ⟨rfl, rfl⟩
      rw [if_neg (by omega)] at heq
      by_cases h50 : ((b - a : Nat) : Int) < 50
      · rw [if_pos (by omega)] at heq
        refine SQ.normal <| CWp.known ha ?_
        simp only [mkA]
        refine W.seq <| W.seq <| W.reg <| OSuf.aop tyOK rfl sm rfl <| OSuf.aop tyOK rfl sm rfl <| OSuf.aopF tyOK rfl (zb (hv := bi_eql)) (fun _ => rfl) (by first | rfl | assumption | ((simp only [bl]) <;> first | done | assumption | omega) | (simp; done) | (simp; omega)) <| OSuf.nil <| SQ.normal ?_
        refine W.no (by simp only [lk] <;> rfl) <| CWp.skip <| SQ.normal ?_
        refine W.seq <| W.seq <| W.reg <| OSuf.aop tyOK rfl sm rfl <| OSuf.aop tyOK rfl sm rfl <| OSuf.aop tyOK rfl (zb (hv := bi_w bi_sub (by first | (simp only [w2] <;> rfl) | rfl))) rfl <| OSuf.aopT tyOK rfl (zb (hv := bi_lss)) (fun _ => rfl) (by first | rfl | assumption | ((simp only [bl]) <;> first | done | assumption | omega) | (simp; done) | (simp; omega)) <| OSuf.nil <| SQ.normal ?_
        refine W.yes (by simp only [lk] <;> rfl) <| W.seq <| W.reg <| OSuf.aopF tyOK rfl za (fun _ => rfl) rfl <| OSuf.nil <| SQ.normal ?_
        refine CWp.ret <| SQ.ret <| BQ.ret <| SQ.ret <| LQ.ret <| BQ.ret <| NQ.ret <| SQ.ret <| FQ.ret (by simp only [aRet, Tryz.f131, aResults, aResult, lk, Nat.reduceEqDiff, reduceIte] <;> first | rfl | (simp only [tyall] <;> rfl) | (simp [tyall] <;> rfl)) ?_
        -- leaf: end
        rw [← heq]
        exact ⟨rfl, rfl⟩
      rw [if_neg (by omega)] at heq
      have w3 : IntKind.i64.wrap ((i : Int) + 1) = ((i + 1 : Nat) : Int) := by rw [wrap_i64 (by omega) (by omega)]; omega
      have w4 : IntKind.i64.wrap ((i : Int) - 1) = ((i - 1 : Nat) : Int) := by rw [wrap_i64 (by omega) (by omega)]; omega
      have w5 : IntKind.i64.wrap ((i : Int) - (a : Int)) = ((i - a : Nat) : Int) := by rw [wrap_i64 (by omega) (by omega)]; omega
      have w6 : IntKind.i64.wrap ((b : Int) - (i : Int)) = ((b - i : Nat) : Int) := by rw [wrap_i64 (by omega) (by omega)]; omega
      refine SQ.normal <| CWp.known ha ?_
      simp only [mkA]
      refine W.seq <| W.seq <| W.reg <| OSuf.aop tyOK rfl sm rfl <| OSuf.aop tyOK rfl sm rfl <| OSuf.aopF tyOK rfl (zb (hv := bi_eql)) (fun _ => rfl) (by first | rfl | assumption | ((simp only [bl, if_pos, Int.toNat_natCast, Nat.mul_one, Nat.zero_add, rg, rs, rb, Value.cells, List.length_cons, List.length_nil, oneCells, List.all_cons, List.all_nil, Value.oneCell', Bool.and_self, cond_true, AHeap.set_set, Array.size_setIfInBounds]) <;> first | done | assumption | omega) | (simp; done) | (simp; omega)) <| OSuf.nil <| SQ.normal ?_
      refine W.no (by simp only [lk] <;> rfl) <| CWp.skip <| SQ.normal ?_
      refine W.seq <| W.seq <| W.reg <| OSuf.aop tyOK rfl sm rfl <| OSuf.aop tyOK rfl sm rfl <| OSuf.aop tyOK rfl (zb (hv := bi_w bi_sub (by first | (simp only [w2, w4] <;> rfl) | rfl))) rfl <| OSuf.aopF tyOK rfl (zb (hv := bi_lss)) (fun _ => rfl) (by first | rfl | assumption | ((simp only [bl, if_pos, Int.toNat_natCast, Nat.mul_one, Nat.zero_add, rg, rs, rb, Value.cells, List.length_cons, List.length_nil, oneCells, List.all_cons, List.all_nil, Value.oneCell', Bool.and_self, cond_true, AHeap.set_set, Array.size_setIfInBounds]) <;> first | done | assumption | omega) | (simp; done) | (simp; omega)) <| OSuf.nil <| SQ.normal ?_
      refine W.no (by simp only [lk] <;> rfl) <| CWp.skip <| SQ.normal ?_
      refine W.seq <| W.regD tyOK mixed (by kernel_rfl) <| SqW.aop rfl sm rfl <| SqW.aop rfl sm rfl <| SqW.aop rfl sm rfl <| SqW.aop rfl sm rfl <| SqW.aop rfl (zb (hv := bi_w bi_sub (by first | (simp only [w2, w4] <;> rfl) | rfl))) rfl <| SqW.aop rfl sm rfl <| SqW.aop rfl sm rfl <| SqW.aop rfl (zb (hv := bi_w bi_sub (by first | (simp only [w2, w4] <;> rfl) | rfl))) rfl <| SqW.aop rfl (zi (hv := by simp (disch := first | assumption | omega | (simp only [nx] <;> omega) | fail) only [aIndexAddr, ty37, ty9, hpl, if_pos, Int.toNat_natCast, Nat.mul_one, Nat.zero_add, rg, rs, rb, Value.cells, List.length_cons, List.length_nil, oneCells, List.all_cons, List.all_nil, Value.oneCell', Bool.and_self, cond_true, AHeap.set_set, Array.size_setIfInBounds] <;> rfl)) rfl <| SqW.aop rfl (zl (hv := by simp (disch := first | assumption | omega | (simp only [nx] <;> omega) | fail) only [aLoad, ty9, rowOf, hpl, if_pos, Int.toNat_natCast, Nat.mul_one, Nat.zero_add, rg, rs, rb, Value.cells, List.length_cons, List.length_nil, oneCells, List.all_cons, List.all_nil, Value.oneCell', Bool.and_self, cond_true, AHeap.set_set, Array.size_setIfInBounds] <;> rfl)) rfl <| SqW.aop rfl sm rfl <| SqW.aop rfl sm rfl <| SqW.aop rfl (zi (hv := by simp (disch := first | assumption | omega | (simp only [nx] <;> omega) | fail) only [aIndexAddr, ty37, ty9, hpl, if_pos, Int.toNat_natCast, Nat.mul_one, Nat.zero_add, rg, rs, rb, Value.cells, List.length_cons, List.length_nil, oneCells, List.all_cons, List.all_nil, Value.oneCell', Bool.and_self, cond_true, AHeap.set_set, Array.size_setIfInBounds] <;> rfl)) rfl <| SqW.aop rfl (zl (hv := by simp (disch := first | assumption | omega | (simp only [nx] <;> omega) | fail) only [aLoad, ty9, rowOf, hpl, if_pos, Int.toNat_natCast, Nat.mul_one, Nat.zero_add, rg, rs, rb, Value.cells, List.length_cons, List.length_nil, oneCells, List.all_cons, List.all_nil, Value.oneCell', Bool.and_self, cond_true, AHeap.set_set, Array.size_setIfInBounds] <;> rfl)) rfl <| SqW.aop rfl (zi (hv := by simp (disch := first | assumption | omega | (simp only [nx] <;> omega) | fail) only [aIndexAddr, ty37, ty9, hpl, if_pos, Int.toNat_natCast, Nat.mul_one, Nat.zero_add, rg, rs, rb, Value.cells, List.length_cons, List.length_nil, oneCells, List.all_cons, List.all_nil, Value.oneCell', Bool.and_self, cond_true, AHeap.set_set, Array.size_setIfInBounds] <;> rfl)) rfl <| SqW.aop rfl (zs (hv := by simp (disch := first | assumption | omega | (simp only [nx] <;> omega) | fail) only [aStore, ty9, writeRow, hpl, if_pos, Int.toNat_natCast, Nat.mul_one, Nat.zero_add, rg, rs, rb, Value.cells, List.length_cons, List.length_nil, oneCells, List.all_cons, List.all_nil, Value.oneCell', Bool.and_self, cond_true, AHeap.set_set, Array.size_setIfInBounds] <;> rfl)) rfl <| SqW.aop rfl (zi (hv := by simp (disch := first | assumption | omega | (simp only [nx] <;> omega) | fail) only [aIndexAddr, ty37, ty9, hpl, if_pos, Int.toNat_natCast, Nat.mul_one, Nat.zero_add, rg, rs, rb, Value.cells, List.length_cons, List.length_nil, oneCells, List.all_cons, List.all_nil, Value.oneCell', Bool.and_self, cond_true, AHeap.set_set, Array.size_setIfInBounds] <;> rfl)) rfl <| SqW.aop rfl (zs (hv := by simp (disch := first | assumption | omega | (simp only [nx] <;> omega) | fail) only [aStore, ty9, writeRow, hpl, if_pos, Int.toNat_natCast, Nat.mul_one, Nat.zero_add, rg, rs, rb, Value.cells, List.length_cons, List.length_nil, oneCells, List.all_cons, List.all_nil, Value.oneCell', Bool.and_self, cond_true, AHeap.set_set, Array.size_setIfInBounds] <;> rfl)) rfl <| SqW.nil <| SQ.normal ?_
      refine W.seq <| ?_
      -- leaf: upto
      obtain ⟨d1, hd1⟩ : ∃ d1, d1 = swp dk i (i - 1) := ⟨_, rfl⟩
      have hs1 : d1.size = N := by rw [hd1]; exact swp_sz hds
      rw [show (dk.setIfInBounds i dk[i - 1]!).setIfInBounds (i - 1) dk[i]! = d1 from hd1.symm]
      rw [← hd1] at heq
      try dsimp only at heq
      refine W.cut (fun L h' => ∃ d2 : Array El, d2.size = N ∧ d2 = fixDown lt a i d1 ∧ h' = h.set r (row d2) ∧ L = [(0, sl r N), (1, I64 a), (2, I64 b), (7, I64 i), (8, I64 j)]) ?_ ?_
      · by_cases h2 : ((i - a : Nat) : Int) ≥ 2
        · refine W.seq <| W.reg <| OSuf.aop tyOK rfl sm rfl <| OSuf.aop tyOK rfl sm rfl <| OSuf.aop tyOK rfl (zb (hv := bi_w bi_sub (by first | (simp only [w4, w5] <;> rfl) | rfl))) rfl <| OSuf.aopT tyOK rfl (zb (hv := bi_geq)) (fun _ => rfl) (by first | rfl | assumption | ((simp only [bl]) <;> first | done | assumption | omega) | (simp; done) | (simp; omega)) <| OSuf.nil <| SQ.normal ?_
          refine W.yes (by simp only [lk] <;> rfl) <| W.seq <| W.reg <| OSuf.aop tyOK rfl sm rfl <| OSuf.aop tyOK rfl (zb (hv := bi_w bi_sub (by first | (simp only [w4, w5] <;> rfl) | rfl))) rfl <| OSuf.aop tyOK rfl za rfl <| OSuf.nil <| SQ.normal ?_
          -- leaf: loop
          refine W.block (W.loop (fun n L h' => ∃ (dj : Array El), n ≤ i - 1 ∧ dj.size = N ∧ shiftDown lt n dj = shiftDown lt (i - 1) d1 ∧ h' = h.set r (row dj) ∧ L = [(0, sl r N), (1, I64 a), (2, I64 b), (7, I64 i), (8, I64 j), (9, I64 n)]) (n := i - 1) ⟨d1, Nat.le_refl _, hs1, rfl, rfl, rfl⟩ ?_ ?_)
          · simp [HasA, Tr.get_put]
          · rintro n L h1 ⟨dj, hn, hdj, hsh, rfl, rfl⟩
            simp only [mkA]
            cases n with
            | zero =>
              refine W.seq <| W.seq <| W.reg <| OSuf.aop tyOK rfl sm rfl <| OSuf.aopF tyOK rfl (zb (hv := bi_geq)) (fun _ => rfl) (by first | rfl | assumption | ((simp only [bl]) <;> first | done | assumption | omega) | (simp; done) | (simp; omega)) <| OSuf.nil <| SQ.normal ?_
              refine W.no (by simp only [lk] <;> rfl) <| CWp.exit <| SQ.exit <| LQ.exit <| BQ.exit <| ?_
              -- leaf: cut
              refine NQ.normal (L := [(0, sl r N), (1, I64 a), (2, I64 b), (7, I64 i), (8, I64 j)]) ?_ ⟨dj, hdj, ?_, rfl, rfl⟩
              · simp only [HasA, Tr.get_put, Nat.reduceEqDiff, reduceIte, and_self]
              · rw [fixDown, if_pos (by omega), ← hsh]; rfl
            | succ m =>
              have w7 : IntKind.i64.wrap (((m + 1 : Nat) : Int) - 1) = (m : Int) := by rw [wrap_i64 (by omega) (by omega)]; omega
              rw [shiftDown] at hsh
              cases hl : lt dj[m + 1]! dj[m]!
              · rw [hl] at hsh
                refine W.seq <| W.seq <| W.reg <| OSuf.aop tyOK rfl sm rfl <| OSuf.aopT tyOK rfl (zb (hv := bi_geq)) (fun _ => rfl) (by first | rfl | assumption | ((simp only [bl, if_pos, Int.toNat_natCast, Nat.mul_one, Nat.zero_add, rg, rs, rb, Value.cells, List.length_cons, List.length_nil, oneCells, List.all_cons, List.all_nil, Value.oneCell', Bool.and_self, cond_true, AHeap.set_set, Array.size_setIfInBounds]) <;> first | done | assumption | omega) | (simp; done) | (simp; omega)) <| OSuf.nil <| SQ.normal ?_
                refine W.yes (by simp only [lk] <;> rfl) <| CWp.skip <| SQ.normal ?_
                refine W.seq <| W.block <| W.seq <| W.seq <| W.regD tyOK mixed (by kernel_rfl) <| SqW.aop rfl sm rfl <| SqW.aop rfl sm rfl <| SqW.aop rfl (zi (hv := by simp (disch := first | assumption | omega | (simp only [nx] <;> omega) | fail) only [aIndexAddr, ty37, ty9, hpl, if_pos, Int.toNat_natCast, Nat.mul_one, Nat.zero_add, rg, rs, rb, Value.cells, List.length_cons, List.length_nil, oneCells, List.all_cons, List.all_nil, Value.oneCell', Bool.and_self, cond_true, AHeap.set_set, Array.size_setIfInBounds] <;> rfl)) rfl <| SqW.aop rfl (zl (hv := by simp (disch := first | assumption | omega | (simp only [nx] <;> omega) | fail) only [aLoad, ty9, rowOf, hpl, if_pos, Int.toNat_natCast, Nat.mul_one, Nat.zero_add, rg, rs, rb, Value.cells, List.length_cons, List.length_nil, oneCells, List.all_cons, List.all_nil, Value.oneCell', Bool.and_self, cond_true, AHeap.set_set, Array.size_setIfInBounds] <;> rfl)) rfl <| SqW.aop rfl sm rfl <| SqW.aop rfl sm rfl <| SqW.aop rfl (zb (hv := bi_w bi_sub (by first | (simp only [w7] <;> rfl) | rfl))) rfl <| SqW.aop rfl (zi (hv := by simp (disch := first | assumption | omega | (simp only [nx] <;> omega) | fail) only [aIndexAddr, ty37, ty9, hpl, if_pos, Int.toNat_natCast, Nat.mul_one, Nat.zero_add, rg, rs, rb, Value.cells, List.length_cons, List.length_nil, oneCells, List.all_cons, List.all_nil, Value.oneCell', Bool.and_self, cond_true, AHeap.set_set, Array.size_setIfInBounds] <;> rfl)) rfl <| SqW.aop rfl (zl (hv := by simp (disch := first | assumption | omega | (simp only [nx] <;> omega) | fail) only [aLoad, ty9, rowOf, hpl, if_pos, Int.toNat_natCast, Nat.mul_one, Nat.zero_add, rg, rs, rb, Value.cells, List.length_cons, List.length_nil, oneCells, List.all_cons, List.all_nil, Value.oneCell', Bool.and_self, cond_true, AHeap.set_set, Array.size_setIfInBounds] <;> rfl)) rfl <| SqW.callD rfl (by simp only [aopnds, lk] <;> rfl) en132 (less_c _ _ _ _ hl) rfl <| SqW.aopT rfl (so_not (by simp only [lk] <;> rfl)) (fun _ => rfl) rfl <| SqW.nil <| SQ.normal ?_
                refine W.yes (by simp only [lk] <;> rfl) <| CWp.exit <| SQ.exit <| BQ.out rfl <| SQ.exit <| LQ.exit <| BQ.exit <| ?_
                -- leaf: cut
                refine NQ.normal (L := [(0, sl r N), (1, I64 a), (2, I64 b), (7, I64 i), (8, I64 j)]) ?_ ⟨dj, hdj, ?_, rfl, rfl⟩
                · simp only [HasA, Tr.get_put, Nat.reduceEqDiff, reduceIte, and_self]
                · rw [fixDown, if_pos (by omega), ← hsh]; rfl
              · rw [hl] at hsh
                refine W.seq <| W.seq <| W.reg <| OSuf.aop tyOK rfl sm rfl <| OSuf.aopT tyOK rfl (zb (hv := bi_geq)) (fun _ => rfl) (by first | rfl | assumption | ((simp only [bl, if_pos, Int.toNat_natCast, Nat.mul_one, Nat.zero_add, rg, rs, rb, Value.cells, List.length_cons, List.length_nil, oneCells, List.all_cons, List.all_nil, Value.oneCell', Bool.and_self, cond_true, AHeap.set_set, Array.size_setIfInBounds]) <;> first | done | assumption | omega) | (simp; done) | (simp; omega)) <| OSuf.nil <| SQ.normal ?_
                refine W.yes (by simp only [lk] <;> rfl) <| CWp.skip <| SQ.normal ?_
                refine W.seq <| W.block <| W.seq <| W.seq <| W.regD tyOK mixed (by kernel_rfl) <| SqW.aop rfl sm rfl <| SqW.aop rfl sm rfl <| SqW.aop rfl (zi (hv := by simp (disch := first | assumption | omega | (simp only [nx] <;> omega) | fail) only [aIndexAddr, ty37, ty9, hpl, if_pos, Int.toNat_natCast, Nat.mul_one, Nat.zero_add, rg, rs, rb, Value.cells, List.length_cons, List.length_nil, oneCells, List.all_cons, List.all_nil, Value.oneCell', Bool.and_self, cond_true, AHeap.set_set, Array.size_setIfInBounds] <;> rfl)) rfl <| SqW.aop rfl (zl (hv := by simp (disch := first | assumption | omega | (simp only [nx] <;> omega) | fail) only [aLoad, ty9, rowOf, hpl, if_pos, Int.toNat_natCast, Nat.mul_one, Nat.zero_add, rg, rs, rb, Value.cells, List.length_cons, List.length_nil, oneCells, List.all_cons, List.all_nil, Value.oneCell', Bool.and_self, cond_true, AHeap.set_set, Array.size_setIfInBounds] <;> rfl)) rfl <| SqW.aop rfl sm rfl <| SqW.aop rfl sm rfl <| SqW.aop rfl (zb (hv := bi_w bi_sub (by first | (simp only [w7] <;> rfl) | rfl))) rfl <| SqW.aop rfl (zi (hv := by simp (disch := first | assumption | omega | (simp only [nx] <;> omega) | fail) only [aIndexAddr, ty37, ty9, hpl, if_pos, Int.toNat_natCast, Nat.mul_one, Nat.zero_add, rg, rs, rb, Value.cells, List.length_cons, List.length_nil, oneCells, List.all_cons, List.all_nil, Value.oneCell', Bool.and_self, cond_true, AHeap.set_set, Array.size_setIfInBounds] <;> rfl)) rfl <| SqW.aop rfl (zl (hv := by simp (disch := first | assumption | omega | (simp only [nx] <;> omega) | fail) only [aLoad, ty9, rowOf, hpl, if_pos, Int.toNat_natCast, Nat.mul_one, Nat.zero_add, rg, rs, rb, Value.cells, List.length_cons, List.length_nil, oneCells, List.all_cons, List.all_nil, Value.oneCell', Bool.and_self, cond_true, AHeap.set_set, Array.size_setIfInBounds] <;> rfl)) rfl <| SqW.callD rfl (by simp only [aopnds, lk] <;> rfl) en132 (less_c _ _ _ _ hl) rfl <| SqW.aopF rfl (so_not (by simp only [lk] <;> rfl)) (fun _ => rfl) rfl <| SqW.nil <| SQ.normal ?_
                refine W.no (by simp only [lk] <;> rfl) <| CWp.skip <| SQ.normal ?_
                refine W.regD tyOK mixed (by kernel_rfl) <| SqW.aop rfl sm rfl <| SqW.aop rfl sm rfl <| SqW.aop rfl sm rfl <| SqW.aop rfl sm rfl <| SqW.aop rfl (zb (hv := bi_w bi_sub (by first | (simp only [w7] <;> rfl) | rfl))) rfl <| SqW.aop rfl sm rfl <| SqW.aop rfl sm rfl <| SqW.aop rfl (zb (hv := bi_w bi_sub (by first | (simp only [w7] <;> rfl) | rfl))) rfl <| SqW.aop rfl (zi (hv := by simp (disch := first | assumption | omega | (simp only [nx] <;> omega) | fail) only [aIndexAddr, ty37, ty9, hpl, if_pos, Int.toNat_natCast, Nat.mul_one, Nat.zero_add, rg, rs, rb, Value.cells, List.length_cons, List.length_nil, oneCells, List.all_cons, List.all_nil, Value.oneCell', Bool.and_self, cond_true, AHeap.set_set, Array.size_setIfInBounds] <;> rfl)) rfl <| SqW.aop rfl (zl (hv := by simp (disch := first | assumption | omega | (simp only [nx] <;> omega) | fail) only [aLoad, ty9, rowOf, hpl, if_pos, Int.toNat_natCast, Nat.mul_one, Nat.zero_add, rg, rs, rb, Value.cells, List.length_cons, List.length_nil, oneCells, List.all_cons, List.all_nil, Value.oneCell', Bool.and_self, cond_true, AHeap.set_set, Array.size_setIfInBounds] <;> rfl)) rfl <| SqW.aop rfl sm rfl <| SqW.aop rfl sm rfl <| SqW.aop rfl (zi (hv := by simp (disch := first | assumption | omega | (simp only [nx] <;> omega) | fail) only [aIndexAddr, ty37, ty9, hpl, if_pos, Int.toNat_natCast, Nat.mul_one, Nat.zero_add, rg, rs, rb, Value.cells, List.length_cons, List.length_nil, oneCells, List.all_cons, List.all_nil, Value.oneCell', Bool.and_self, cond_true, AHeap.set_set, Array.size_setIfInBounds] <;> rfl)) rfl <| SqW.aop rfl (zl (hv := by simp (disch := first | assumption | omega | (simp only [nx] <;> omega) | fail) only [aLoad, ty9, rowOf, hpl, if_pos, Int.toNat_natCast, Nat.mul_one, Nat.zero_add, rg, rs, rb, Value.cells, List.length_cons, List.length_nil, oneCells, List.all_cons, List.all_nil, Value.oneCell', Bool.and_self, cond_true, AHeap.set_set, Array.size_setIfInBounds] <;> rfl)) rfl <| SqW.aop rfl (zi (hv := by simp (disch := first | assumption | omega | (simp only [nx] <;> omega) | fail) only [aIndexAddr, ty37, ty9, hpl, if_pos, Int.toNat_natCast, Nat.mul_one, Nat.zero_add, rg, rs, rb, Value.cells, List.length_cons, List.length_nil, oneCells, List.all_cons, List.all_nil, Value.oneCell', Bool.and_self, cond_true, AHeap.set_set, Array.size_setIfInBounds] <;> rfl)) rfl <| SqW.aop rfl (zs (hv := by simp (disch := first | assumption | omega | (simp only [nx] <;> omega) | fail) only [aStore, ty9, writeRow, hpl, if_pos, Int.toNat_natCast, Nat.mul_one, Nat.zero_add, rg, rs, rb, Value.cells, List.length_cons, List.length_nil, oneCells, List.all_cons, List.all_nil, Value.oneCell', Bool.and_self, cond_true, AHeap.set_set, Array.size_setIfInBounds] <;> rfl)) rfl <| SqW.aop rfl (zi (hv := by simp (disch := first | assumption | omega | (simp only [nx] <;> omega) | fail) only [aIndexAddr, ty37, ty9, hpl, if_pos, Int.toNat_natCast, Nat.mul_one, Nat.zero_add, rg, rs, rb, Value.cells, List.length_cons, List.length_nil, oneCells, List.all_cons, List.all_nil, Value.oneCell', Bool.and_self, cond_true, AHeap.set_set, Array.size_setIfInBounds] <;> rfl)) rfl <| SqW.aop rfl (zs (hv := by simp (disch := first | assumption | omega | (simp only [nx] <;> omega) | fail) only [aStore, ty9, writeRow, hpl, if_pos, Int.toNat_natCast, Nat.mul_one, Nat.zero_add, rg, rs, rb, Value.cells, List.length_cons, List.length_nil, oneCells, List.all_cons, List.all_nil, Value.oneCell', Bool.and_self, cond_true, AHeap.set_set, Array.size_setIfInBounds] <;> rfl)) rfl <| SqW.nil <| BQ.normal <| SQ.normal ?_
                refine W.reg <| OSuf.aop tyOK rfl sm rfl <| OSuf.aop tyOK rfl (zb (hv := bi_w bi_sub (by first | (simp only [w7] <;> rfl) | rfl))) rfl <| OSuf.aop tyOK rfl za rfl <| OSuf.nil <| ?_
                -- leaf: round
                refine LQ.normal (m := m) (L := [(0, sl r N), (1, I64 a), (2, I64 b), (7, I64 i), (8, I64 j), (9, I64 m)]) (by omega) ?_ ⟨swp dj (m + 1) m, by omega, swp_sz hdj, hsh, rfl, rfl⟩
                simp only [HasA, Tr.get_put, Nat.reduceEqDiff, reduceIte, and_self]
        · refine W.seq <| W.reg <| OSuf.aop tyOK rfl sm rfl <| OSuf.aop tyOK rfl sm rfl <| OSuf.aop tyOK rfl (zb (hv := bi_w bi_sub (by first | (simp only [w5] <;> rfl) | rfl))) rfl <| OSuf.aopF tyOK rfl (zb (hv := bi_geq)) (fun _ => rfl) (by first | rfl | assumption | ((simp only [bl]) <;> first | done | assumption | omega) | (simp; done) | (simp; omega)) <| OSuf.nil <| SQ.normal ?_
          refine W.no (by simp only [lk] <;> rfl) <| CWp.skip <| ?_
          -- leaf: cut
          refine NQ.normal (L := [(0, sl r N), (1, I64 a), (2, I64 b), (7, I64 i), (8, I64 j)]) ?_ ⟨d1, hs1, by rw [fixDown, if_neg (by omega)], rfl, rfl⟩
          simp only [HasA, Tr.get_put, Nat.reduceEqDiff, reduceIte, and_self]
      rintro L a' h1 ha ⟨d2, hs2, hd2, rfl, rfl⟩
      rw [← hd2] at heq
      refine SQ.normal <| CWp.known ha ?_
      simp only [mkA]
      -- leaf: upto
      refine W.cut (fun L h' => ∃ d3 : Array El, d3.size = N ∧ d3 = fixUp lt b i d2 ∧ h' = h.set r (row d3) ∧ L = [(0, sl r N), (1, I64 a), (2, I64 b), (7, I64 i), (8, I64 j)]) ?_ ?_
      · by_cases h2 : ((b - i : Nat) : Int) ≥ 2
        · refine W.seq <| W.reg <| OSuf.aop tyOK rfl sm rfl <| OSuf.aop tyOK rfl sm rfl <| OSuf.aop tyOK rfl (zb (hv := bi_w bi_sub (by first | (simp only [w3, w6] <;> rfl) | rfl))) rfl <| OSuf.aopT tyOK rfl (zb (hv := bi_geq)) (fun _ => rfl) (by first | rfl | assumption | ((simp only [bl]) <;> first | done | assumption | omega) | (simp; done) | (simp; omega)) <| OSuf.nil <| SQ.normal ?_
          refine W.yes (by simp only [lk] <;> rfl) <| W.seq <| W.reg <| OSuf.aop tyOK rfl sm rfl <| OSuf.aop tyOK rfl (zb (hv := bi_w bi_add (by first | (simp only [w3, w6] <;> rfl) | rfl))) rfl <| OSuf.aop tyOK rfl za rfl <| OSuf.nil <| SQ.normal ?_
          -- leaf: loop
          refine W.block (W.loop (fun n L h' => ∃ (k : Nat) (dj : Array El), n = b - k ∧ i + 1 ≤ k ∧ k ≤ b ∧ dj.size = N ∧ shiftUp lt b k dj = shiftUp lt b (i + 1) d2 ∧ h' = h.set r (row dj) ∧ L = [(0, sl r N), (1, I64 a), (2, I64 b), (7, I64 i), (8, I64 j), (10, I64 k)]) (n := b - (i + 1)) ⟨i + 1, d2, rfl, by omega, by omega, hs2, rfl, rfl, rfl⟩ ?_ ?_)
          · simp [HasA, Tr.get_put]
          · rintro n L h1 ⟨k, dj, rfl, hk1, hk2, hdj, hsh, rfl, rfl⟩
            simp only [mkA]
            rw [shiftUp] at hsh
            by_cases hkb : (k : Int) < (b : Int)
            · rw [if_pos (by omega)] at hsh
              have w7 : IntKind.i64.wrap ((k : Int) - 1) = ((k - 1 : Nat) : Int) := by rw [wrap_i64 (by omega) (by omega)]; omega
              have w8 : IntKind.i64.wrap ((k : Int) + 1) = ((k + 1 : Nat) : Int) := by rw [wrap_i64 (by omega) (by omega)]; omega
              cases hl : lt dj[k]! dj[k - 1]!
              · rw [hl] at hsh
                refine W.seq <| W.seq <| W.reg <| OSuf.aop tyOK rfl sm rfl <| OSuf.aop tyOK rfl sm rfl <| OSuf.aopT tyOK rfl (zb (hv := bi_lss)) (fun _ => rfl) (by first | rfl | assumption | ((simp only [bl, if_pos, Int.toNat_natCast, Nat.mul_one, Nat.zero_add, rg, rs, rb, Value.cells, List.length_cons, List.length_nil, oneCells, List.all_cons, List.all_nil, Value.oneCell', Bool.and_self, cond_true, AHeap.set_set, Array.size_setIfInBounds]) <;> first | done | assumption | omega) | (simp; done) | (simp; omega)) <| OSuf.nil <| SQ.normal ?_
                refine W.yes (by simp only [lk] <;> rfl) <| CWp.skip <| SQ.normal ?_
                refine W.seq <| W.block <| W.seq <| W.seq <| W.regD tyOK mixed (by kernel_rfl) <| SqW.aop rfl sm rfl <| SqW.aop rfl sm rfl <| SqW.aop rfl (zi (hv := by simp (disch := first | assumption | omega | (simp only [nx] <;> omega) | fail) only [aIndexAddr, ty37, ty9, hpl, if_pos, Int.toNat_natCast, Nat.mul_one, Nat.zero_add, rg, rs, rb, Value.cells, List.length_cons, List.length_nil, oneCells, List.all_cons, List.all_nil, Value.oneCell', Bool.and_self, cond_true, AHeap.set_set, Array.size_setIfInBounds] <;> rfl)) rfl <| SqW.aop rfl (zl (hv := by simp (disch := first | assumption | omega | (simp only [nx] <;> omega) | fail) only [aLoad, ty9, rowOf, hpl, if_pos, Int.toNat_natCast, Nat.mul_one, Nat.zero_add, rg, rs, rb, Value.cells, List.length_cons, List.length_nil, oneCells, List.all_cons, List.all_nil, Value.oneCell', Bool.and_self, cond_true, AHeap.set_set, Array.size_setIfInBounds] <;> rfl)) rfl <| SqW.aop rfl sm rfl <| SqW.aop rfl sm rfl <| SqW.aop rfl (zb (hv := bi_w bi_sub (by first | (simp only [w7, w8] <;> rfl) | rfl))) rfl <| SqW.aop rfl (zi (hv := by simp (disch := first | assumption | omega | (simp only [nx] <;> omega) | fail) only [aIndexAddr, ty37, ty9, hpl, if_pos, Int.toNat_natCast, Nat.mul_one, Nat.zero_add, rg, rs, rb, Value.cells, List.length_cons, List.length_nil, oneCells, List.all_cons, List.all_nil, Value.oneCell', Bool.and_self, cond_true, AHeap.set_set, Array.size_setIfInBounds] <;> rfl)) rfl <| SqW.aop rfl (zl (hv := by simp (disch := first | assumption | omega | (simp only [nx] <;> omega) | fail) only [aLoad, ty9, rowOf, hpl, if_pos, Int.toNat_natCast, Nat.mul_one, Nat.zero_add, rg, rs, rb, Value.cells, List.length_cons, List.length_nil, oneCells, List.all_cons, List.all_nil, Value.oneCell', Bool.and_self, cond_true, AHeap.set_set, Array.size_setIfInBounds] <;> rfl)) rfl <| SqW.callD rfl (by simp only [aopnds, lk] <;> rfl) en132 (less_c _ _ _ _ hl) rfl <| SqW.aopT rfl (so_not (by simp only [lk] <;> rfl)) (fun _ => rfl) rfl <| SqW.nil <| SQ.normal ?_
                refine W.yes (by simp only [lk] <;> rfl) <| CWp.exit <| SQ.exit <| BQ.out rfl <| SQ.exit <| LQ.exit <| BQ.exit <| ?_
                -- leaf: cut
                refine NQ.normal (L := [(0, sl r N), (1, I64 a), (2, I64 b), (7, I64 i), (8, I64 j)]) ?_ ⟨dj, hdj, ?_, rfl, rfl⟩
                · simp only [HasA, Tr.get_put, Nat.reduceEqDiff, reduceIte, and_self]
                · rw [fixUp, if_pos (by omega), ← hsh]; rfl
              · rw [hl] at hsh
                refine W.seq <| W.seq <| W.reg <| OSuf.aop tyOK rfl sm rfl <| OSuf.aop tyOK rfl sm rfl <| OSuf.aopT tyOK rfl (zb (hv := bi_lss)) (fun _ => rfl) (by first | rfl | assumption | ((simp only [bl, if_pos, Int.toNat_natCast, Nat.mul_one, Nat.zero_add, rg, rs, rb, Value.cells, List.length_cons, List.length_nil, oneCells, List.all_cons, List.all_nil, Value.oneCell', Bool.and_self, cond_true, AHeap.set_set, Array.size_setIfInBounds]) <;> first | done | assumption | omega) | (simp; done) | (simp; omega)) <| OSuf.nil <| SQ.normal ?_
                refine W.yes (by simp only [lk] <;> rfl) <| CWp.skip <| SQ.normal ?_
                refine W.seq <| W.block <| W.seq <| W.seq <| W.regD tyOK mixed (by kernel_rfl) <| SqW.aop rfl sm rfl <| SqW.aop rfl sm rfl <| SqW.aop rfl (zi (hv := by simp (disch := first | assumption | omega | (simp only [nx] <;> omega) | fail) only [aIndexAddr, ty37, ty9, hpl, if_pos, Int.toNat_natCast, Nat.mul_one, Nat.zero_add, rg, rs, rb, Value.cells, List.length_cons, List.length_nil, oneCells, List.all_cons, List.all_nil, Value.oneCell', Bool.and_self, cond_true, AHeap.set_set, Array.size_setIfInBounds] <;> rfl)) rfl <| SqW.aop rfl (zl (hv := by simp (disch := first | assumption | omega | (simp only [nx] <;> omega) | fail) only [aLoad, ty9, rowOf, hpl, if_pos, Int.toNat_natCast, Nat.mul_one, Nat.zero_add, rg, rs, rb, Value.cells, List.length_cons, List.length_nil, oneCells, List.all_cons, List.all_nil, Value.oneCell', Bool.and_self, cond_true, AHeap.set_set, Array.size_setIfInBounds] <;> rfl)) rfl <| SqW.aop rfl sm rfl <| SqW.aop rfl sm rfl <| SqW.aop rfl (zb (hv := bi_w bi_sub (by first | (simp only [w7, w8] <;> rfl) | rfl))) rfl <| SqW.aop rfl (zi (hv := by simp (disch := first | assumption | omega | (simp only [nx] <;> omega) | fail) only [aIndexAddr, ty37, ty9, hpl, if_pos, Int.toNat_natCast, Nat.mul_one, Nat.zero_add, rg, rs, rb, Value.cells, List.length_cons, List.length_nil, oneCells, List.all_cons, List.all_nil, Value.oneCell', Bool.and_self, cond_true, AHeap.set_set, Array.size_setIfInBounds] <;> rfl)) rfl <| SqW.aop rfl (zl (hv := by simp (disch := first | assumption | omega | (simp only [nx] <;> omega) | fail) only [aLoad, ty9, rowOf, hpl, if_pos, Int.toNat_natCast, Nat.mul_one, Nat.zero_add, rg, rs, rb, Value.cells, List.length_cons, List.length_nil, oneCells, List.all_cons, List.all_nil, Value.oneCell', Bool.and_self, cond_true, AHeap.set_set, Array.size_setIfInBounds] <;> rfl)) rfl <| SqW.callD rfl (by simp only [aopnds, lk] <;> rfl) en132 (less_c _ _ _ _ hl) rfl <| SqW.aopF rfl (so_not (by simp only [lk] <;> rfl)) (fun _ => rfl) rfl <| SqW.nil <| SQ.normal ?_
                refine W.no (by simp only [lk] <;> rfl) <| CWp.skip <| SQ.normal ?_
                refine W.regD tyOK mixed (by kernel_rfl) <| SqW.aop rfl sm rfl <| SqW.aop rfl sm rfl <| SqW.aop rfl sm rfl <| SqW.aop rfl sm rfl <| SqW.aop rfl (zb (hv := bi_w bi_sub (by first | (simp only [w7, w8] <;> rfl) | rfl))) rfl <| SqW.aop rfl sm rfl <| SqW.aop rfl sm rfl <| SqW.aop rfl (zb (hv := bi_w bi_sub (by first | (simp only [w7, w8] <;> rfl) | rfl))) rfl <| SqW.aop rfl (zi (hv := by simp (disch := first | assumption | omega | (simp only [nx] <;> omega) | fail) only [aIndexAddr, ty37, ty9, hpl, if_pos, Int.toNat_natCast, Nat.mul_one, Nat.zero_add, rg, rs, rb, Value.cells, List.length_cons, List.length_nil, oneCells, List.all_cons, List.all_nil, Value.oneCell', Bool.and_self, cond_true, AHeap.set_set, Array.size_setIfInBounds] <;> rfl)) rfl <| SqW.aop rfl (zl (hv := by simp (disch := first | assumption | omega | (simp only [nx] <;> omega) | fail) only [aLoad, ty9, rowOf, hpl, if_pos, Int.toNat_natCast, Nat.mul_one, Nat.zero_add, rg, rs, rb, Value.cells, List.length_cons, List.length_nil, oneCells, List.all_cons, List.all_nil, Value.oneCell', Bool.and_self, cond_true, AHeap.set_set, Array.size_setIfInBounds] <;> rfl)) rfl <| SqW.aop rfl sm rfl <| SqW.aop rfl sm rfl <| SqW.aop rfl (zi (hv := by simp (disch := first | assumption | omega | (simp only [nx] <;> omega) | fail) only [aIndexAddr, ty37, ty9, hpl, if_pos, Int.toNat_natCast, Nat.mul_one, Nat.zero_add, rg, rs, rb, Value.cells, List.length_cons, List.length_nil, oneCells, List.all_cons, List.all_nil, Value.oneCell', Bool.and_self, cond_true, AHeap.set_set, Array.size_setIfInBounds] <;> rfl)) rfl <| SqW.aop rfl (zl (hv := by simp (disch := first | assumption | omega | (simp only [nx] <;> omega) | fail) only [aLoad, ty9, rowOf, hpl, if_pos, Int.toNat_natCast, Nat.mul_one, Nat.zero_add, rg, rs, rb, Value.cells, List.length_cons, List.length_nil, oneCells, List.all_cons, List.all_nil, Value.oneCell', Bool.and_self, cond_true, AHeap.set_set, Array.size_setIfInBounds] <;> rfl)) rfl <| SqW.aop rfl (zi (hv := by simp (disch := first | assumption | omega | (simp only [nx] <;> omega) | fail) only [aIndexAddr, ty37, ty9, hpl, if_pos, Int.toNat_natCast, Nat.mul_one, Nat.zero_add, rg, rs, rb, Value.cells, List.length_cons, List.length_nil, oneCells, List.all_cons, List.all_nil, Value.oneCell', Bool.and_self, cond_true, AHeap.set_set, Array.size_setIfInBounds] <;> rfl)) rfl <| SqW.aop rfl (zs (hv := by simp (disch := first | assumption | omega | (simp only [nx] <;> omega) | fail) only [aStore, ty9, writeRow, hpl, if_pos, Int.toNat_natCast, Nat.mul_one, Nat.zero_add, rg, rs, rb, Value.cells, List.length_cons, List.length_nil, oneCells, List.all_cons, List.all_nil, Value.oneCell', Bool.and_self, cond_true, AHeap.set_set, Array.size_setIfInBounds] <;> rfl)) rfl <| SqW.aop rfl (zi (hv := by simp (disch := first | assumption | omega | (simp only [nx] <;> omega) | fail) only [aIndexAddr, ty37, ty9, hpl, if_pos, Int.toNat_natCast, Nat.mul_one, Nat.zero_add, rg, rs, rb, Value.cells, List.length_cons, List.length_nil, oneCells, List.all_cons, List.all_nil, Value.oneCell', Bool.and_self, cond_true, AHeap.set_set, Array.size_setIfInBounds] <;> rfl)) rfl <| SqW.aop rfl (zs (hv := by simp (disch := first | assumption | omega | (simp only [nx] <;> omega) | fail) only [aStore, ty9, writeRow, hpl, if_pos, Int.toNat_natCast, Nat.mul_one, Nat.zero_add, rg, rs, rb, Value.cells, List.length_cons, List.length_nil, oneCells, List.all_cons, List.all_nil, Value.oneCell', Bool.and_self, cond_true, AHeap.set_set, Array.size_setIfInBounds] <;> rfl)) rfl <| SqW.nil <| BQ.normal <| SQ.normal ?_
                refine W.reg <| OSuf.aop tyOK rfl sm rfl <| OSuf.aop tyOK rfl (zb (hv := bi_w bi_add (by first | (simp only [w7, w8] <;> rfl) | rfl))) rfl <| OSuf.aop tyOK rfl za rfl <| OSuf.nil <| ?_
                -- leaf: round
                refine LQ.normal (m := b - (k + 1)) (L := [(0, sl r N), (1, I64 a), (2, I64 b), (7, I64 i), (8, I64 j), (10, I64 (k + 1 : Nat))]) (by omega) ?_ ⟨k + 1, swp dj k (k - 1), rfl, by omega, by omega, swp_sz hdj, hsh, rfl, rfl⟩
                simp only [HasA, Tr.get_put, Nat.reduceEqDiff, reduceIte, and_self]
            · rw [if_neg (by omega)] at hsh
              refine W.seq <| W.seq <| W.reg <| OSuf.aop tyOK rfl sm rfl <| OSuf.aop tyOK rfl sm rfl <| OSuf.aopF tyOK rfl (zb (hv := bi_lss)) (fun _ => rfl) (by first | rfl | assumption | ((simp only [bl]) <;> first | done | assumption | omega) | (simp; done) | (simp; omega)) <| OSuf.nil <| SQ.normal ?_
              refine W.no (by simp only [lk] <;> rfl) <| CWp.exit <| SQ.exit <| LQ.exit <| BQ.exit <| ?_
              -- leaf: cut
              refine NQ.normal (L := [(0, sl r N), (1, I64 a), (2, I64 b), (7, I64 i), (8, I64 j)]) ?_ ⟨dj, hdj, ?_, rfl, rfl⟩
              · simp only [HasA, Tr.get_put, Nat.reduceEqDiff, reduceIte, and_self]
              · rw [fixUp, if_pos (by omega), ← hsh]
        · refine W.seq <| W.reg <| OSuf.aop tyOK rfl sm rfl <| OSuf.aop tyOK rfl sm rfl <| OSuf.aop tyOK rfl (zb (hv := bi_w bi_sub (by first | (simp only [w6] <;> rfl) | rfl))) rfl <| OSuf.aopF tyOK rfl (zb (hv := bi_geq)) (fun _ => rfl) (by first | rfl | assumption | ((simp only [bl]) <;> first | done | assumption | omega) | (simp; done) | (simp; omega)) <| OSuf.nil <| SQ.normal ?_
          refine W.no (by simp only [lk] <;> rfl) <| CWp.skip <| ?_
          -- leaf: cut
          refine NQ.normal (L := [(0, sl r N), (1, I64 a), (2, I64 b), (7, I64 i), (8, I64 j)]) ?_ ⟨d2, hs2, by rw [fixUp, if_neg (by omega)], rfl, rfl⟩
          simp only [HasA, Tr.get_put, Nat.reduceEqDiff, reduceIte, and_self]
      rintro L a' h1 ha ⟨d3, hs3, hd3, rfl, rfl⟩
      rw [← hd3] at heq
      have w9 : IntKind.i64.wrap ((j : Int) + 1) = ((j + 1 : Nat) : Int) := by rw [wrap_i64 (by omega) (by omega)]; omega
      refine BQ.normal <| SQ.normal <| CWp.known ha ?_
      simp only [mkA]
      refine W.reg <| OSuf.aop tyOK rfl sm rfl <| OSuf.aop tyOK rfl (zb (hv := bi_w bi_add (by first | (simp only [w9] <;> rfl) | rfl))) rfl <| OSuf.aop tyOK rfl za rfl <| OSuf.nil <| ?_
      -- leaf: round
      refine LQ.normal (m := s) (L := [(0, sl r N), (1, I64 a), (2, I64 b), (7, I64 i), (8, I64 (j + 1 : Nat))]) (by omega) ?_ ⟨j + 1, i, d3, by omega, by omega, by omega, hs3, heq, rfl, rfl⟩
      simp only [HasA, Tr.get_put, Nat.reduceEqDiff, reduceIte, and_self]
  rintro L a' h1 ha ⟨hf, rfl, rfl⟩
  refine SQ.normal <| CWp.known ha ?_
  simp only [mkA]
  refine W.seq <| W.reg <| OSuf.aopF tyOK rfl za (fun _ => rfl) rfl <| OSuf.nil <| SQ.normal ?_
  refine CWp.ret <| FQ.ret (by simp only [aRet, Tryz.f131, aResults, aResult, lk, Nat.reduceEqDiff, reduceIte] <;> first | rfl | (simp only [tyall] <;> rfl) | (simp [tyall] <;> rfl)) ?_
  -- leaf: end
  exact ⟨by rw [hf], rfl⟩
end Go.Proofs.YtebheelmgcggmaaGreat.SortS
namespace Go.Proofs.YtebheelmgcggmaaGreat.SortS
open Go.Ab Go.Sort
set_option linter.unusedSimpArgs false
set_option linter.unusedVariables false
set_option maxRecDepth 10000
set_option maxHeartbeats 8000000
theorem swo : SWO lt := swo_ltStr
theorem pdq_c (h : AHeap) (r N : Nat) (hrn : r < h.next) (hsz : N < 1000000000) : ∀ (n a b lim : Nat) (d : Array El), b - a ≤ n → d.size = N → a ≤ b → b ≤ N → lim ≤ 100 → Below lt a b d →
    FWp Tryz.prog 116 [sl r N, I64 a, I64 b, I64 lim] (h.set r (row d)) fun u h' => u = .tuple #[] ∧ ∃ d' : Array El, h' = h.set r (row d') ∧ PermIn a b d d' ∧ SortedIn lt a b d' := by
  intro n
  induction n using Nat.strongRecOn with
  | _ n ih =>
  intro a b lim d hn hN hab hb hlim hB
  refine W.enter tyOK Tryz.func116 rfl rfl ?_
  simp only [entry]
  refine W.seq <| W.reg <| OSuf.aopT tyOK rfl za (fun _ => rfl) rfl <| OSuf.nil <| SQ.normal ?_
  refine W.seq <| W.reg <| OSuf.aopT tyOK rfl za (fun _ => rfl) rfl <| OSuf.nil <| SQ.normal ?_
  -- leaf: loop
  refine W.block (W.loop (fun n1 L h' => ∃ (a1 b1 lim1 : Nat) (wb wp : Bool) (dk : Array El), n1 = b1 - a1 ∧ a ≤ a1 ∧ a1 ≤ b1 ∧ b1 ≤ b ∧ lim1 ≤ 100 ∧ dk.size = N ∧ Below lt a1 b1 dk ∧ (∀ R, PermIn a1 b1 dk R → SortedIn lt a1 b1 R → PermIn a b d R ∧ SortedIn lt a b R) ∧ h' = h.set r (row dk) ∧
      L = [(0, sl r N), (1, I64 a1), (2, I64 b1), (3, I64 lim1), (8, .bool wb), (9, .bool wp)]) (n := b - a) ⟨a, b, lim, true, true, d, rfl, Nat.le_refl _, hab, Nat.le_refl _, hlim, hN, hB, fun R h1 h2 => ⟨h1, h2⟩, rfl, rfl⟩ ?_ ?_)
  · simp [HasA, Tr.get_put]
  rintro n1 L h1 ⟨a1, b1, lim1, wb, wp, dk, rfl, ha1, hab1, hbb1, hl1, hds, hB1, hcont, rfl, rfl⟩
  simp only [mkA]
  have w1 : IntKind.i64.wrap ((b1 : Int) - (a1 : Int)) = ((b1 - a1 : Nat) : Int) := by rw [wrap_i64 (by omega) (by omega)]; omega
  by_cases h12 : ((b1 - a1 : Nat) : Int) ≤ 12
  · refine W.block <| W.seq <| W.reg <| OSuf.aop tyOK rfl sm rfl <| OSuf.aop tyOK rfl sm rfl <| OSuf.aop tyOK rfl (zb (hv := bi_w bi_sub (by first | (simp only [w1] <;> rfl) | rfl))) rfl <| OSuf.aop tyOK rfl za rfl <| OSuf.nil <| SQ.normal ?_
    refine W.seq <| W.seq <| W.reg <| OSuf.aop tyOK rfl sm rfl <| OSuf.aopT tyOK rfl (zb (hv := bi_leq)) (fun _ => rfl) (by first | rfl | assumption | ((simp only [bl]) <;> first | done | assumption | omega) | (simp; done) | (simp; omega)) <| OSuf.nil <| SQ.normal ?_
    refine W.yes (by simp only [lk] <;> rfl) <| W.seq <| W.reg <| OSuf.aop tyOK rfl sm rfl <| OSuf.aop tyOK rfl sm rfl <| OSuf.aop tyOK rfl sm rfl <| OSuf.callD rfl (by simp only [aopnds, lk] <;> rfl) en126 (insertion_c h r N dk hds a1 b1 hab1 (by omega) hsz) rfl <| OSuf.nil <| SQ.normal ?_
    refine CWp.ret <| SQ.ret <| BQ.ret <| LQ.ret <| BQ.ret <| FQ.ret (by simp only [aRet, Tryz.f116, aResults, aResult, lk, Nat.reduceEqDiff, reduceIte] <;> first | rfl | (simp only [tyall] <;> rfl) | (simp [tyall] <;> rfl)) ?_
    -- leaf: end
    obtain ⟨p1, p2⟩ := insertionSort_holds swo dk a1 b1 hab1 (by omega)
    exact ⟨rfl, _, rfl, hcont _ p1 p2⟩
  by_cases hl0 : (lim1 : Int) = 0
  · refine W.block <| W.seq <| W.reg <| OSuf.aop tyOK rfl sm rfl <| OSuf.aop tyOK rfl sm rfl <| OSuf.aop tyOK rfl (zb (hv := bi_w bi_sub (by first | (simp only [w1] <;> rfl) | rfl))) rfl <| OSuf.aop tyOK rfl za rfl <| OSuf.nil <| SQ.normal ?_
    refine W.seq <| W.seq <| W.reg <| OSuf.aop tyOK rfl sm rfl <| OSuf.aopF tyOK rfl (zb (hv := bi_leq)) (fun _ => rfl) (by first | rfl | assumption | ((simp only [bl, hl0]) <;> first | done | assumption | omega) | (simp; done) | (simp; omega)) <| OSuf.nil <| SQ.normal ?_
    refine W.no (by simp only [lk] <;> rfl) <| CWp.skip <| SQ.normal ?_
    refine W.seq <| W.seq <| W.reg <| OSuf.aop tyOK rfl sm rfl <| OSuf.aopT tyOK rfl (zb (hv := bi_eql)) (fun _ => rfl) (by first | rfl | assumption | ((simp only [bl, hl0]) <;> first | done | assumption | omega) | (simp; done) | (simp; omega)) <| OSuf.nil <| SQ.normal ?_
    refine W.yes (by simp only [lk] <;> rfl) <| W.seq <| W.reg <| OSuf.aop tyOK rfl sm rfl <| OSuf.aop tyOK rfl sm rfl <| OSuf.aop tyOK rfl sm rfl <| OSuf.callD rfl (by simp only [aopnds, lk] <;> rfl) en127 (heap_c h r N dk hds a1 b1 hab1 (by omega) hsz) rfl <| OSuf.nil <| SQ.normal ?_
    refine CWp.ret <| SQ.ret <| BQ.ret <| LQ.ret <| BQ.ret <| FQ.ret (by simp only [aRet, Tryz.f116, aResults, aResult, lk, Nat.reduceEqDiff, reduceIte] <;> first | rfl | (simp only [tyall] <;> rfl) | (simp [tyall] <;> rfl)) ?_
    -- leaf: end
    obtain ⟨p1, p2⟩ := heapSort_holds swo dk a1 b1 hab1 (by omega)
    exact ⟨rfl, _, rfl, hcont _ p1 p2⟩
  refine W.block <| W.seq <| W.reg <| OSuf.aop tyOK rfl sm rfl <| OSuf.aop tyOK rfl sm rfl <| OSuf.aop tyOK rfl (zb (hv := bi_w bi_sub (by first | (simp only [w1] <;> rfl) | rfl))) rfl <| OSuf.aop tyOK rfl za rfl <| OSuf.nil <| SQ.normal ?_
  refine W.seq <| W.seq <| W.reg <| OSuf.aop tyOK rfl sm rfl <| OSuf.aopF tyOK rfl (zb (hv := bi_leq)) (fun _ => rfl) (by first | rfl | assumption | ((simp only [bl]) <;> first | done | assumption | omega) | (simp; done) | (simp; omega)) <| OSuf.nil <| SQ.normal ?_
  refine W.no (by simp only [lk] <;> rfl) <| CWp.skip <| SQ.normal ?_
  refine W.seq <| W.seq <| W.reg <| OSuf.aop tyOK rfl sm rfl <| OSuf.aopF tyOK rfl (zb (hv := bi_eql)) (fun _ => rfl) (by first | rfl | assumption | ((simp only [bl]) <;> first | done | assumption | omega) | (simp; done) | (simp; omega)) <| OSuf.nil <| SQ.normal ?_
  refine W.no (by simp only [lk] <;> rfl) <| CWp.skip <| SQ.normal ?_
  refine W.seq <| ?_
  -- leaf: upto
  have hlt1 : a1 + 12 < b1 := by omega
  refine W.cut (fun L h' => ∃ (d1 : Array El) (lim2 : Nat), lim2 ≤ 100 ∧ PermIn a1 b1 dk d1 ∧ h' = h.set r (row d1) ∧ L = [(0, sl r N), (1, I64 a1), (2, I64 b1), (3, I64 lim2), (8, .bool wb), (9, .bool wp), (10, I64 (b1 - a1 : Nat))]) ?_ ?_
  · have w2 : IntKind.i64.wrap ((lim1 : Int) - 1) = ((lim1 - 1 : Nat) : Int) := by rw [wrap_i64 (by omega) (by omega)]; omega
    cases wb
    · refine W.seq <| W.reg <| OSuf.aopF tyOK rfl sm (fun _ => rfl) (by first | rfl | assumption | ((simp only [bl]) <;> first | done | assumption | omega) | (simp; done) | (simp; omega)) <| OSuf.aopT tyOK rfl (so_not (by simp only [lk] <;> rfl)) (fun _ => rfl) rfl <| OSuf.nil <| SQ.normal ?_
      refine W.yes (by simp only [lk] <;> rfl) <| W.seq <| W.reg <| OSuf.aop tyOK rfl sm rfl <| OSuf.aop tyOK rfl sm rfl <| OSuf.aop tyOK rfl sm rfl <| OSuf.call rfl (by simp only [aopnds, lk] <;> rfl) en128 (break_c h r N hrn dk hds a1 b1 hlt1 (by omega) hsz) ?_
      rintro _ _ ⟨rfl, d1, hp, rfl⟩
      refine ⟨_, rfl, ?_⟩
      refine OSuf.nil <| SQ.normal ?_
      refine W.reg <| OSuf.aop tyOK rfl sm rfl <| OSuf.aop tyOK rfl (zb (hv := bi_w bi_sub (by first | (simp only [w2] <;> rfl) | rfl))) rfl <| OSuf.aop tyOK rfl za rfl <| OSuf.nil <| ?_
      -- leaf: cut
      refine NQ.normal (L := [(0, sl r N), (1, I64 a1), (2, I64 b1), (3, I64 (lim1 - 1 : Nat)), (8, .bool false), (9, .bool wp), (10, I64 (b1 - a1 : Nat))]) ?_ ⟨d1, lim1 - 1, by omega, hp, rfl, rfl⟩
      simp only [HasA, Tr.get_put, Nat.reduceEqDiff, reduceIte, and_self]
    · refine W.seq <| W.reg <| OSuf.aopT tyOK rfl sm (fun _ => rfl) (by first | rfl | assumption | ((simp only [bl]) <;> first | done | assumption | omega) | (simp; done) | (simp; omega)) <| OSuf.aopF tyOK rfl (so_not (by simp only [lk] <;> rfl)) (fun _ => rfl) rfl <| OSuf.nil <| SQ.normal ?_
      refine W.no (by simp only [lk] <;> rfl) <| CWp.skip <| ?_
      -- leaf: cut
      refine NQ.normal (L := [(0, sl r N), (1, I64 a1), (2, I64 b1), (3, I64 lim1), (8, .bool true), (9, .bool wp), (10, I64 (b1 - a1 : Nat))]) ?_ ⟨dk, lim1, hl1, permIn_refl _ _ _, rfl, rfl⟩
      simp only [HasA, Tr.get_put, Nat.reduceEqDiff, reduceIte, and_self]
  rintro L a' h1 ha ⟨d1, lim2, hl2, hp1, rfl, rfl⟩
  have hs1 : d1.size = N := hp1.1.trans hds
  refine SQ.normal <| CWp.known ha ?_
  simp only [mkA]
  refine W.seq <| W.reg <| OSuf.aop tyOK rfl sm rfl <| OSuf.aop tyOK rfl sm rfl <| OSuf.aop tyOK rfl sm rfl <| OSuf.call rfl (by simp only [aopnds, lk] <;> rfl) en129 (pivot_c h r N hrn d1 hs1 a1 b1 hlt1 (by omega) hsz) ?_
  rintro _ _ ⟨⟨pv, hint, rfl, hpv1, hpv2⟩, rfl⟩
  refine ⟨_, rfl, ?_⟩
  refine OSuf.aop tyOK rfl sm rfl <| OSuf.aop tyOK rfl (ze (hv := by simp (disch := first | assumption | omega | (simp only [nx] <;> omega) | fail) only [aExtract, hpl] <;> rfl)) rfl <| OSuf.aop tyOK rfl (ze (hv := by simp (disch := first | assumption | omega | (simp only [nx] <;> omega) | fail) only [aExtract, hpl] <;> rfl)) rfl <| OSuf.aop tyOK rfl za rfl <| OSuf.aop tyOK rfl za rfl <| OSuf.nil <| SQ.normal ?_
  refine W.seq <| ?_
  -- leaf: upto
  refine W.cut (fun L h' => ∃ (d2 : Array El) (pv2 : Nat) (hint2 : Int), a1 ≤ pv2 ∧ pv2 < b1 ∧ PermIn a1 b1 dk d2 ∧ h' = h.set r (row d2) ∧ L = [(0, sl r N), (1, I64 a1), (2, I64 b1), (3, I64 lim2), (8, .bool wb), (9, .bool wp), (10, I64 (b1 - a1 : Nat)), (11, I64 pv2), (12, I64 hint2)]) ?_ ?_
  · by_cases hh : hint = 2
    · have w2 : IntKind.i64.wrap ((b1 : Int) - 1) = ((b1 - 1 : Nat) : Int) := by rw [wrap_i64 (by omega) (by omega)]; omega
      have w3 : IntKind.i64.wrap ((pv : Int) - (a1 : Int)) = ((pv - a1 : Nat) : Int) := by rw [wrap_i64 (by omega) (by omega)]; omega
      have w4 : IntKind.i64.wrap (((b1 - 1 : Nat) : Int) - ((pv - a1 : Nat) : Int)) = ((b1 - 1 - (pv - a1) : Nat) : Int) := by rw [wrap_i64 (by omega) (by omega)]; omega
      refine W.seq <| W.reg <| OSuf.aop tyOK rfl sm rfl <| OSuf.aopT tyOK rfl (zb (hv := bi_eql)) (fun _ => rfl) (by first | rfl | assumption | ((simp only [bl, hh]) <;> first | done | assumption | omega) | (simp; done) | (simp; omega)) <| OSuf.nil <| SQ.normal ?_
      refine W.yes (by simp only [lk] <;> rfl) <| W.seq <| W.reg <| OSuf.aop tyOK rfl sm rfl <| OSuf.aop tyOK rfl sm rfl <| OSuf.aop tyOK rfl sm rfl <| OSuf.callD rfl (by simp only [aopnds, lk] <;> rfl) en130 (reverse_c h r N d1 hs1 a1 b1 (by omega) (by omega) hsz) rfl <| OSuf.nil <| SQ.normal ?_
      refine W.seq <| W.reg <| OSuf.aop tyOK rfl sm rfl <| OSuf.aop tyOK rfl (zb (hv := bi_w bi_sub (by first | (simp only [w2, w3, w4] <;> rfl) | rfl))) rfl <| OSuf.aop tyOK rfl sm rfl <| OSuf.aop tyOK rfl sm rfl <| OSuf.aop tyOK rfl (zb (hv := bi_w bi_sub (by first | (simp only [w2, w3, w4] <;> rfl) | rfl))) rfl <| OSuf.aop tyOK rfl (zb (hv := bi_w bi_sub (by first | (simp only [w2, w3, w4] <;> rfl) | rfl))) rfl <| OSuf.aop tyOK rfl za rfl <| OSuf.nil <| SQ.normal ?_
      refine W.reg <| OSuf.aop tyOK rfl za rfl <| OSuf.nil <| ?_
      -- leaf: cut
      refine NQ.normal (L := [(0, sl r N), (1, I64 a1), (2, I64 b1), (3, I64 lim2), (8, .bool wb), (9, .bool wp), (10, I64 (b1 - a1 : Nat)), (11, I64 (b1 - 1 - (pv - a1) : Nat)), (12, I64 1)]) ?_ ⟨_, b1 - 1 - (pv - a1), 1, by omega, by omega, permIn_trans _ _ _ _ _ hp1 (reverseRange_holds d1 a1 b1 (by omega) (by omega)), rfl, rfl⟩
      simp only [HasA, Tr.get_put, Nat.reduceEqDiff, reduceIte, and_self]
    · refine W.seq <| W.reg <| OSuf.aop tyOK rfl sm rfl <| OSuf.aopF tyOK rfl (zb (hv := bi_eql)) (fun _ => rfl) (by first | rfl | assumption | ((simp only [bl, hh]) <;> first | done | assumption | omega) | (simp; done) | (simp; omega)) <| OSuf.nil <| SQ.normal ?_
      refine W.no (by simp only [lk] <;> rfl) <| CWp.skip <| ?_
      -- leaf: cut
      refine NQ.normal (L := [(0, sl r N), (1, I64 a1), (2, I64 b1), (3, I64 lim2), (8, .bool wb), (9, .bool wp), (10, I64 (b1 - a1 : Nat)), (11, I64 pv), (12, I64 hint)]) ?_ ⟨d1, pv, hint, hpv1, hpv2, hp1, rfl, rfl⟩
      simp only [HasA, Tr.get_put, Nat.reduceEqDiff, reduceIte, and_self]
  clear hp1 hs1 ha
  clear hpv1 hpv2
  rintro L a' h1 ha ⟨d2, pv2, hint2, hq1, hq2, hp2, rfl, rfl⟩
  have hs2 : d2.size = N := hp2.1.trans hds
  refine SQ.normal <| CWp.known ha ?_
  simp only [mkA]
  refine W.seq <| ?_
  -- leaf: upto
  refine W.cut (fun L h' => ∃ (d3 : Array El), PermIn a1 b1 dk d3 ∧ h' = h.set r (row d3) ∧ L = [(0, sl r N), (1, I64 a1), (2, I64 b1), (3, I64 lim2), (8, .bool wb), (9, .bool wp), (10, I64 (b1 - a1 : Nat)), (11, I64 pv2)]) ?_ ?_
  · have skip : ∀ a, HasA a [(0, sl r N), (1, I64 a1), (2, I64 b1), (3, I64 lim2), (8, .bool wb), (9, .bool wp), (10, I64 (b1 - a1 : Nat)), (11, I64 pv2)] → ∀ Q, NQ (fun L h' => ∃ (d3 : Array El), PermIn a1 b1 dk d3 ∧ h' = h.set r (row d3) ∧ L = [(0, sl r N), (1, I64 a1), (2, I64 b1), (3, I64 lim2), (8, .bool wb), (9, .bool wp), (10, I64 (b1 - a1 : Nat)), (11, I64 pv2)]) Q .normal a (h.set r (row d2)) :=
      fun a hA Q => NQ.normal hA ⟨d2, hp2, rfl, rfl⟩
    cases wb
    · refine W.seq <| W.reg <| OSuf.aopF tyOK rfl sm (fun _ => rfl) (by first | rfl | assumption | ((simp only [bl]) <;> first | done | assumption | omega) | (simp; done) | (simp; omega)) <| OSuf.aopF tyOK rfl sm (fun _ => rfl) rfl <| OSuf.pass ag rfl <| OSuf.aopF tyOK rfl (so_pick (by simp only [lk] <;> rfl) (by simp only [lk, cond_true, cond_false] <;> rfl)) (fun _ => rfl) rfl <| OSuf.aopF tyOK rfl sm (fun _ => rfl) rfl <| OSuf.pass ag rfl <| OSuf.pass ag rfl <| OSuf.aopF tyOK rfl (so_pick (by simp only [lk] <;> rfl) (by simp only [lk, cond_true, cond_false] <;> rfl)) (fun _ => rfl) rfl <| OSuf.nil <| SQ.normal ?_
      refine W.no (by simp only [lk] <;> rfl) <| CWp.skip <| ?_
      -- leaf: cut
      exact skip _ (by simp only [HasA, Tr.get_put, Nat.reduceEqDiff, reduceIte, and_self]) _
    cases wp
    · refine W.seq <| W.reg <| OSuf.aopT tyOK rfl sm (fun _ => rfl) (by first | rfl | assumption | ((simp only [bl]) <;> first | done | assumption | omega) | (simp; done) | (simp; omega)) <| OSuf.aopT tyOK rfl sm (fun _ => rfl) rfl <| OSuf.aopF tyOK ag sm (fun _ => rfl) (by first | rfl | assumption | ((simp only [bl]) <;> first | done | assumption | omega) | (simp; done) | (simp; omega)) <| OSuf.aopF tyOK rfl (so_pick (by simp only [lk] <;> rfl) (by simp only [lk, cond_true, cond_false] <;> rfl)) (fun _ => rfl) rfl <| OSuf.aopF tyOK rfl sm (fun _ => rfl) rfl <| OSuf.pass ag rfl <| OSuf.pass ag rfl <| OSuf.aopF tyOK rfl (so_pick (by simp only [lk] <;> rfl) (by simp only [lk, cond_true, cond_false] <;> rfl)) (fun _ => rfl) rfl <| OSuf.nil <| SQ.normal ?_
      refine W.no (by simp only [lk] <;> rfl) <| CWp.skip <| ?_
      -- leaf: cut
      exact skip _ (by simp only [HasA, Tr.get_put, Nat.reduceEqDiff, reduceIte, and_self]) _
    by_cases hh : hint2 = 1
    · have hBB := hB1.perm (by omega) hp2
      obtain ⟨q1, q2⟩ := partialInsertionSort_holds swo d2 a1 b1 (by omega) (by omega) hBB
      have hc := partial_c h r N d2 hs2 a1 b1 (by omega) (by omega) hsz
      cases hres : (partialInsertionSort lt d2 a1 b1).2
      · rw [hres] at hc
        refine W.seq <| W.reg <| OSuf.aopT tyOK rfl sm (fun _ => rfl) (by first | rfl | assumption | ((simp only [bl, hh]) <;> first | done | assumption | omega) | (simp; done) | (simp; omega)) <| OSuf.aopT tyOK rfl sm (fun _ => rfl) rfl <| OSuf.aopT tyOK ag sm (fun _ => rfl) (by first | rfl | assumption | ((simp only [bl, hh]) <;> first | done | assumption | omega) | (simp; done) | (simp; omega)) <| OSuf.aopT tyOK rfl (so_pick (by simp only [lk] <;> rfl) (by simp only [lk, cond_true, cond_false] <;> rfl)) (fun _ => rfl) rfl <| OSuf.aopT tyOK rfl sm (fun _ => rfl) rfl <| OSuf.aop tyOK ag sm rfl <| OSuf.aopT tyOK ag (zb (hv := bi_eql)) (fun _ => rfl) (by first | rfl | assumption | ((simp only [bl, hh]) <;> first | done | assumption | omega) | (simp; done) | (simp; omega)) <| OSuf.aopT tyOK rfl (so_pick (by simp only [lk] <;> rfl) (by simp only [lk, cond_true, cond_false] <;> rfl)) (fun _ => rfl) rfl <| OSuf.nil <| SQ.normal ?_
        refine W.yes (by simp only [lk] <;> rfl) <| W.seq <| W.reg <| OSuf.aop tyOK rfl sm rfl <| OSuf.aop tyOK rfl sm rfl <| OSuf.aop tyOK rfl sm rfl <| OSuf.callD rfl (by simp only [aopnds, lk] <;> rfl) en131 (hc) rfl <| OSuf.nil <| SQ.normal ?_
        refine W.no (by simp only [lk] <;> rfl) <| CWp.skip <| ?_
        -- leaf: cut
        refine NQ.normal (L := [(0, sl r N), (1, I64 a1), (2, I64 b1), (3, I64 lim2), (8, .bool true), (9, .bool true), (10, I64 (b1 - a1 : Nat)), (11, I64 pv2)]) ?_ ⟨_, permIn_trans _ _ _ _ _ hp2 q1, rfl, rfl⟩
        simp only [HasA, Tr.get_put, Nat.reduceEqDiff, reduceIte, and_self]
      · rw [hres] at hc
        refine W.seq <| W.reg <| OSuf.aopT tyOK rfl sm (fun _ => rfl) (by first | rfl | assumption | ((simp only [bl, hh]) <;> first | done | assumption | omega) | (simp; done) | (simp; omega)) <| OSuf.aopT tyOK rfl sm (fun _ => rfl) rfl <| OSuf.aopT tyOK ag sm (fun _ => rfl) (by first | rfl | assumption | ((simp only [bl, hh]) <;> first | done | assumption | omega) | (simp; done) | (simp; omega)) <| OSuf.aopT tyOK rfl (so_pick (by simp only [lk] <;> rfl) (by simp only [lk, cond_true, cond_false] <;> rfl)) (fun _ => rfl) rfl <| OSuf.aopT tyOK rfl sm (fun _ => rfl) rfl <| OSuf.aop tyOK ag sm rfl <| OSuf.aopT tyOK ag (zb (hv := bi_eql)) (fun _ => rfl) (by first | rfl | assumption | ((simp only [bl, hh]) <;> first | done | assumption | omega) | (simp; done) | (simp; omega)) <| OSuf.aopT tyOK rfl (so_pick (by simp only [lk] <;> rfl) (by simp only [lk, cond_true, cond_false] <;> rfl)) (fun _ => rfl) rfl <| OSuf.nil <| SQ.normal ?_
        refine W.yes (by simp only [lk] <;> rfl) <| W.seq <| W.reg <| OSuf.aop tyOK rfl sm rfl <| OSuf.aop tyOK rfl sm rfl <| OSuf.aop tyOK rfl sm rfl <| OSuf.callD rfl (by simp only [aopnds, lk] <;> rfl) en131 (hc) rfl <| OSuf.nil <| SQ.normal ?_
        refine W.yes (by simp only [lk] <;> rfl) <| CWp.ret <| NQ.ret <| SQ.ret <| BQ.ret <| LQ.ret <| BQ.ret <| FQ.ret (by simp only [aRet, Tryz.f116, aResults, aResult, lk, Nat.reduceEqDiff, reduceIte] <;> first | rfl | (simp only [tyall] <;> rfl) | (simp [tyall] <;> rfl)) ?_
        -- leaf: end
        exact ⟨rfl, _, rfl, hcont _ (permIn_trans _ _ _ _ _ hp2 q1) (q2 hres)⟩
    · refine W.seq <| W.reg <| OSuf.aopT tyOK rfl sm (fun _ => rfl) (by first | rfl | assumption | ((simp only [bl, hh]) <;> first | done | assumption | omega) | (simp; done) | (simp; omega)) <| OSuf.aopT tyOK rfl sm (fun _ => rfl) rfl <| OSuf.aopT tyOK ag sm (fun _ => rfl) (by first | rfl | assumption | ((simp only [bl, hh]) <;> first | done | assumption | omega) | (simp; done) | (simp; omega)) <| OSuf.aopT tyOK rfl (so_pick (by simp only [lk] <;> rfl) (by simp only [lk, cond_true, cond_false] <;> rfl)) (fun _ => rfl) rfl <| OSuf.aopT tyOK rfl sm (fun _ => rfl) rfl <| OSuf.aop tyOK ag sm rfl <| OSuf.aopF tyOK ag (zb (hv := bi_eql)) (fun _ => rfl) (by first | rfl | assumption | ((simp only [bl, hh]) <;> first | done | assumption | omega) | (simp; done) | (simp; omega)) <| OSuf.aopF tyOK rfl (so_pick (by simp only [lk] <;> rfl) (by simp only [lk, cond_true, cond_false] <;> rfl)) (fun _ => rfl) rfl <| OSuf.nil <| SQ.normal ?_
      refine W.no (by simp only [lk] <;> rfl) <| CWp.skip <| ?_
      -- leaf: cut
      exact skip _ (by simp only [HasA, Tr.get_put, Nat.reduceEqDiff, reduceIte, and_self]) _
  clear hp2 hs2 ha
  rintro L a' h1 ha ⟨d3, hp3, rfl, rfl⟩
  have hs3 : d3.size = N := hp3.1.trans hds
  have hB3 := hB1.perm (by omega) hp3
  have w5 : IntKind.i64.wrap ((a1 : Int) - 1) = ((a1 : Int) - 1) := wrap_i64 (by omega) (by omega)
  by_cases heqp : 0 < a1 ∧ lt d3[a1 - 1]! d3[pv2]! = false
  · have w6 : IntKind.i64.wrap ((a1 : Int) - 1) = ((a1 - 1 : Nat) : Int) := by rw [wrap_i64 (by omega) (by omega)]; omega
    obtain ⟨mid, d4, hx⟩ : ∃ mid d4, partitionEqual lt d3 a1 b1 pv2 = (mid, d4) := ⟨_, _, rfl⟩
    obtain ⟨r1, r2, r3, r4, r5⟩ := round_eq swo (partitionEqual_holds lt) heqp.1 hq1 hq2 (by omega) hB3 heqp.2 hx
    have hc := partEq_c h r N d3 hs3 a1 b1 pv2 hq1 hq2 (by omega) hsz
    rw [hx] at hc
    dsimp only at hc
    refine SQ.normal <| CWp.known ha ?_
    simp only [mkA]
    refine W.seq <| W.seq <| W.regD tyOK mixed (by kernel_rfl) <| SqW.aop rfl sm rfl <| SqW.aopT rfl (zb (hv := bi_gtr)) (fun _ => rfl) (by first | rfl | assumption | ((simp only [bl, if_pos, Int.toNat_natCast, Nat.mul_one, Nat.zero_add, rg, rs, rb, Value.cells, List.length_cons, List.length_nil, oneCells, List.all_cons, List.all_nil, Value.oneCell', Bool.and_self, cond_true, AHeap.set_set, Array.size_setIfInBounds]) <;> first | done | assumption | omega) | (simp; done) | (simp; omega)) <| SqW.aopT rfl sm (fun _ => rfl) rfl <| SqW.aop ag sm rfl <| SqW.aop ag sm rfl <| SqW.aop ag (zb (hv := bi_w bi_sub (by first | (simp only [w6] <;> rfl) | rfl))) rfl <| SqW.aop ag (zi (hv := by simp (disch := first | assumption | omega | (simp only [nx] <;> omega) | fail) only [aIndexAddr, ty37, ty9, hpl, if_pos, Int.toNat_natCast, Nat.mul_one, Nat.zero_add, rg, rs, rb, Value.cells, List.length_cons, List.length_nil, oneCells, List.all_cons, List.all_nil, Value.oneCell', Bool.and_self, cond_true, AHeap.set_set, Array.size_setIfInBounds] <;> rfl)) rfl <| SqW.aop ag (zl (hv := by simp (disch := first | assumption | omega | (simp only [nx] <;> omega) | fail) only [aLoad, ty9, rowOf, hpl, if_pos, Int.toNat_natCast, Nat.mul_one, Nat.zero_add, rg, rs, rb, Value.cells, List.length_cons, List.length_nil, oneCells, List.all_cons, List.all_nil, Value.oneCell', Bool.and_self, cond_true, AHeap.set_set, Array.size_setIfInBounds] <;> rfl)) rfl <| SqW.aop ag sm rfl <| SqW.aop ag sm rfl <| SqW.aop ag (zi (hv := by simp (disch := first | assumption | omega | (simp only [nx] <;> omega) | fail) only [aIndexAddr, ty37, ty9, hpl, if_pos, Int.toNat_natCast, Nat.mul_one, Nat.zero_add, rg, rs, rb, Value.cells, List.length_cons, List.length_nil, oneCells, List.all_cons, List.all_nil, Value.oneCell', Bool.and_self, cond_true, AHeap.set_set, Array.size_setIfInBounds] <;> rfl)) rfl <| SqW.aop ag (zl (hv := by simp (disch := first | assumption | omega | (simp only [nx] <;> omega) | fail) only [aLoad, ty9, rowOf, hpl, if_pos, Int.toNat_natCast, Nat.mul_one, Nat.zero_add, rg, rs, rb, Value.cells, List.length_cons, List.length_nil, oneCells, List.all_cons, List.all_nil, Value.oneCell', Bool.and_self, cond_true, AHeap.set_set, Array.size_setIfInBounds] <;> rfl)) rfl <| SqW.callD ag (by simp only [aopnds, lk] <;> rfl) en132 (less_c _ _ _ _ heqp.2) rfl <| SqW.aopT ag (so_not (by simp only [lk] <;> rfl)) (fun _ => rfl) rfl <| SqW.aopT rfl (so_pick (by simp only [lk] <;> rfl) (by simp only [lk, cond_true, cond_false] <;> rfl)) (fun _ => rfl) rfl <| SqW.nil <| SQ.normal ?_
    refine W.yes (by simp only [lk] <;> rfl) <| W.seq <| W.reg <| OSuf.aop tyOK rfl sm rfl <| OSuf.aop tyOK rfl sm rfl <| OSuf.aop tyOK rfl sm rfl <| OSuf.aop tyOK rfl sm rfl <| OSuf.callD rfl (by simp only [aopnds, lk] <;> rfl) en133 (hc) rfl <| OSuf.aop tyOK rfl za rfl <| OSuf.nil <| SQ.normal ?_
    refine W.seq <| W.reg <| OSuf.aop tyOK rfl sm rfl <| OSuf.aop tyOK rfl za rfl <| OSuf.nil <| SQ.normal ?_
    refine CWp.exit <| SQ.exit <| BQ.exit <| ?_
    -- leaf: round
    refine LQ.normal (m := b1 - mid) (L := [(0, sl r N), (1, I64 mid), (2, I64 b1), (3, I64 lim2), (8, .bool wb), (9, .bool wp)]) (by omega) ?_ ⟨mid, b1, lim2, wb, wp, d4, rfl, by omega, by omega, hbb1, hl2, r3.trans hs3, r4, fun R e1 e2 => ?_, rfl, rfl⟩
    · simp only [HasA, Tr.get_put, Nat.reduceEqDiff, reduceIte, and_self]
    · obtain ⟨g1, g2⟩ := r5 R e1 e2
      exact hcont R (permIn_trans _ _ _ _ _ hp3 g1) g2
  obtain ⟨mid, ap, d4, hx⟩ : ∃ mid ap d4, partition lt d3 a1 b1 pv2 = (mid, ap, d4) := ⟨_, _, _, rfl⟩
  obtain ⟨r1, r2, r3, r4, r5, r6, r7⟩ := round_part swo (partition_holds lt) hq1 hq2 (by omega) hB3 hx
  have hc := partition_c h r N d3 hs3 a1 b1 pv2 hq1 hq2 (by omega) hsz
  rw [hx] at hc
  dsimp only at hc
  have hs4 : d4.size = N := r3.trans hs3
  have v1 : IntKind.i64.wrap ((mid : Int) - (a1 : Int)) = ((mid - a1 : Nat) : Int) := by rw [wrap_i64 (by omega) (by omega)]; omega
  have v2 : IntKind.i64.wrap ((b1 : Int) - (mid : Int)) = ((b1 - mid : Nat) : Int) := by rw [wrap_i64 (by omega) (by omega)]; omega
  have v3 : IntKind.i64.wrap ((mid : Int) + 1) = ((mid + 1 : Nat) : Int) := by rw [wrap_i64 (by omega) (by omega)]; omega
  have v4 : IntKind.i64.wrap (((b1 - a1 : Nat) : Int).tdiv 8) = (((b1 - a1) / 8 : Nat) : Int) := by rw [Int.tdiv_eq_ediv_of_nonneg (by omega), wrap_i64 (by omega) (by omega)]; omega
  have goL : ∀ (wb2 : Bool) (a' : Tr Value) (h' : AHeap) (Q : AExit → Tr Value → AHeap → Prop), (∃ dL : Array El, h' = h.set r (row dL) ∧ PermIn a1 mid d4 dL ∧ SortedIn lt a1 mid dL) → HasA a' [(0, sl r N), (1, I64 (mid + 1 : Nat)), (2, I64 b1), (3, I64 lim2), (8, .bool wb2), (9, .bool ap)] →
      LQ (b1 - a1) (fun n1 L h' => ∃ (a1 b1 lim1 : Nat) (wb wp : Bool) (dk : Array El), n1 = b1 - a1 ∧ a ≤ a1 ∧ a1 ≤ b1 ∧ b1 ≤ b ∧ lim1 ≤ 100 ∧ dk.size = N ∧ Below lt a1 b1 dk ∧ (∀ R, PermIn a1 b1 dk R → SortedIn lt a1 b1 R → PermIn a b d R ∧ SortedIn lt a b R) ∧ h' = h.set r (row dk) ∧
        L = [(0, sl r N), (1, I64 a1), (2, I64 b1), (3, I64 lim1), (8, .bool wb), (9, .bool wp)]) Q .normal a' h' := by
    rintro wb2 a' h' Q ⟨dL, rfl, e1, e2⟩ hA
    obtain ⟨g1, g2⟩ := r6 dL e1 e2
    refine LQ.normal (m := b1 - (mid + 1)) (by omega) hA ⟨mid + 1, b1, lim2, wb2, ap, dL, rfl, by omega, by omega, hbb1, hl2, e1.1.trans hs4, g1, fun R f1 f2 => ?_, rfl, rfl⟩
    obtain ⟨k1, k2⟩ := g2 R f1 f2
    exact hcont R (permIn_trans _ _ _ _ _ hp3 k1) k2
  have goR : ∀ (wb2 : Bool) (a' : Tr Value) (h' : AHeap) (Q : AExit → Tr Value → AHeap → Prop), (∃ dL : Array El, h' = h.set r (row dL) ∧ PermIn (mid + 1) b1 d4 dL ∧ SortedIn lt (mid + 1) b1 dL) → HasA a' [(0, sl r N), (1, I64 a1), (2, I64 mid), (3, I64 lim2), (8, .bool wb2), (9, .bool ap)] →
      LQ (b1 - a1) (fun n1 L h' => ∃ (a1 b1 lim1 : Nat) (wb wp : Bool) (dk : Array El), n1 = b1 - a1 ∧ a ≤ a1 ∧ a1 ≤ b1 ∧ b1 ≤ b ∧ lim1 ≤ 100 ∧ dk.size = N ∧ Below lt a1 b1 dk ∧ (∀ R, PermIn a1 b1 dk R → SortedIn lt a1 b1 R → PermIn a b d R ∧ SortedIn lt a b R) ∧ h' = h.set r (row dk) ∧
        L = [(0, sl r N), (1, I64 a1), (2, I64 b1), (3, I64 lim1), (8, .bool wb), (9, .bool wp)]) Q .normal a' h' := by
    rintro wb2 a' h' Q ⟨dL, rfl, e1, e2⟩ hA
    obtain ⟨g1, g2⟩ := r7 dL e1 e2
    refine LQ.normal (m := mid - a1) (by omega) hA ⟨a1, mid, lim2, wb2, ap, dL, rfl, by omega, by omega, by omega, hl2, e1.1.trans hs4, g1, fun R f1 f2 => ?_, rfl, rfl⟩
    obtain ⟨k1, k2⟩ := g2 R f1 f2
    exact hcont R (permIn_trans _ _ _ _ _ hp3 k1) k2
  have recL := ih (mid - a1) (by omega) a1 mid lim2 d4 (Nat.le_refl _) hs4 (by omega) (by omega) hl2 r4
  have recR := ih (b1 - (mid + 1)) (by omega) (mid + 1) b1 lim2 d4 (Nat.le_refl _) hs4 (by omega) (by omega) hl2 r5
  by_cases ha0 : (a1 : Int) > 0
  · have w6 : IntKind.i64.wrap ((a1 : Int) - 1) = ((a1 - 1 : Nat) : Int) := by rw [wrap_i64 (by omega) (by omega)]; omega
    have hl : lt d3[a1 - 1]! d3[pv2]! = true := by
      cases hlv : lt d3[a1 - 1]! d3[pv2]!
      · exact (heqp ⟨by omega, hlv⟩).elim
      · rfl
    by_cases hlr : ((mid - a1 : Nat) : Int) < ((b1 - mid : Nat) : Int)
    · refine SQ.normal <| CWp.known ha ?_
      simp only [mkA]
      refine W.seq <| W.seq <| W.regD tyOK mixed (by kernel_rfl) <| SqW.aop rfl sm rfl <| SqW.aopT rfl (zb (hv := bi_gtr)) (fun _ => rfl) (by first | rfl | assumption | ((simp only [bl, if_pos, Int.toNat_natCast, Nat.mul_one, Nat.zero_add, rg, rs, rb, Value.cells, List.length_cons, List.length_nil, oneCells, List.all_cons, List.all_nil, Value.oneCell', Bool.and_self, cond_true, AHeap.set_set, Array.size_setIfInBounds]) <;> first | done | assumption | omega) | (simp; done) | (simp; omega)) <| SqW.aopT rfl sm (fun _ => rfl) rfl <| SqW.aop ag sm rfl <| SqW.aop ag sm rfl <| SqW.aop ag (zb (hv := bi_w bi_sub (by first | (simp only [w6, v1, v2, v3, v4] <;> rfl) | rfl))) rfl <| SqW.aop ag (zi (hv := by simp (disch := first | assumption | omega | (simp only [nx] <;> omega) | fail) only [aIndexAddr, ty37, ty9, hpl, if_pos, Int.toNat_natCast, Nat.mul_one, Nat.zero_add, rg, rs, rb, Value.cells, List.length_cons, List.length_nil, oneCells, List.all_cons, List.all_nil, Value.oneCell', Bool.and_self, cond_true, AHeap.set_set, Array.size_setIfInBounds] <;> rfl)) rfl <| SqW.aop ag (zl (hv := by simp (disch := first | assumption | omega | (simp only [nx] <;> omega) | fail) only [aLoad, ty9, rowOf, hpl, if_pos, Int.toNat_natCast, Nat.mul_one, Nat.zero_add, rg, rs, rb, Value.cells, List.length_cons, List.length_nil, oneCells, List.all_cons, List.all_nil, Value.oneCell', Bool.and_self, cond_true, AHeap.set_set, Array.size_setIfInBounds] <;> rfl)) rfl <| SqW.aop ag sm rfl <| SqW.aop ag sm rfl <| SqW.aop ag (zi (hv := by simp (disch := first | assumption | omega | (simp only [nx] <;> omega) | fail) only [aIndexAddr, ty37, ty9, hpl, if_pos, Int.toNat_natCast, Nat.mul_one, Nat.zero_add, rg, rs, rb, Value.cells, List.length_cons, List.length_nil, oneCells, List.all_cons, List.all_nil, Value.oneCell', Bool.and_self, cond_true, AHeap.set_set, Array.size_setIfInBounds] <;> rfl)) rfl <| SqW.aop ag (zl (hv := by simp (disch := first | assumption | omega | (simp only [nx] <;> omega) | fail) only [aLoad, ty9, rowOf, hpl, if_pos, Int.toNat_natCast, Nat.mul_one, Nat.zero_add, rg, rs, rb, Value.cells, List.length_cons, List.length_nil, oneCells, List.all_cons, List.all_nil, Value.oneCell', Bool.and_self, cond_true, AHeap.set_set, Array.size_setIfInBounds] <;> rfl)) rfl <| SqW.callD ag (by simp only [aopnds, lk] <;> rfl) en132 (less_c _ _ _ _ hl) rfl <| SqW.aopF ag (so_not (by simp only [lk] <;> rfl)) (fun _ => rfl) rfl <| SqW.aopF rfl (so_pick (by simp only [lk] <;> rfl) (by simp only [lk, cond_true, cond_false] <;> rfl)) (fun _ => rfl) rfl <| SqW.nil <| SQ.normal ?_
      refine W.no (by simp only [lk] <;> rfl) <| CWp.skip <| SQ.normal ?_
      refine W.seq <| W.reg <| OSuf.aop tyOK rfl sm rfl <| OSuf.aop tyOK rfl sm rfl <| OSuf.aop tyOK rfl sm rfl <| OSuf.aop tyOK rfl sm rfl <| OSuf.callD rfl (by simp only [aopnds, lk] <;> rfl) en134 (hc) rfl <| OSuf.aop tyOK rfl sm rfl <| OSuf.aop tyOK rfl (ze (hv := by simp (disch := first | assumption | omega | (simp only [nx] <;> omega) | fail) only [aExtract, hpl, if_pos, Int.toNat_natCast, Nat.mul_one, Nat.zero_add, rg, rs, rb, Value.cells, List.length_cons, List.length_nil, oneCells, List.all_cons, List.all_nil, Value.oneCell', Bool.and_self, cond_true, AHeap.set_set, Array.size_setIfInBounds] <;> rfl)) rfl <| OSuf.aop tyOK rfl (ze (hv := by simp (disch := first | assumption | omega | (simp only [nx] <;> omega) | fail) only [aExtract, hpl, if_pos, Int.toNat_natCast, Nat.mul_one, Nat.zero_add, rg, rs, rb, Value.cells, List.length_cons, List.length_nil, oneCells, List.all_cons, List.all_nil, Value.oneCell', Bool.and_self, cond_true, AHeap.set_set, Array.size_setIfInBounds] <;> rfl)) rfl <| OSuf.aop tyOK rfl za rfl <| OSuf.aop tyOK rfl za rfl <| OSuf.nil <| SQ.normal ?_
      refine W.seq <| W.reg <| OSuf.aop tyOK rfl sm rfl <| OSuf.aop tyOK rfl za rfl <| OSuf.nil <| SQ.normal ?_
      refine W.seq <| W.reg <| OSuf.aop tyOK rfl sm rfl <| OSuf.aop tyOK rfl sm rfl <| OSuf.aop tyOK rfl (zb (hv := bi_w bi_sub (by first | (simp only [w6, v1, v2, v3, v4] <;> rfl) | rfl))) rfl <| OSuf.aop tyOK rfl sm rfl <| OSuf.aop tyOK rfl sm rfl <| OSuf.aop tyOK rfl (zb (hv := bi_w bi_sub (by first | (simp only [w6, v1, v2, v3, v4] <;> rfl) | rfl))) rfl <| OSuf.aop tyOK rfl za rfl <| OSuf.aop tyOK rfl za rfl <| OSuf.nil <| SQ.normal ?_
      refine W.seq <| W.reg <| OSuf.aop tyOK rfl sm rfl <| OSuf.aop tyOK rfl (zb (hv := bi_w (bi_quo (by decide)) (by first | (simp only [w6, v1, v2, v3, v4] <;> rfl) | rfl))) rfl <| OSuf.aop tyOK rfl za rfl <| OSuf.nil <| SQ.normal ?_
      refine W.seq <| W.reg <| OSuf.aop tyOK rfl sm rfl <| OSuf.aop tyOK rfl sm rfl <| OSuf.aopT tyOK rfl (zb (hv := bi_lss)) (fun _ => rfl) (by first | rfl | assumption | ((simp only [bl, if_pos, Int.toNat_natCast, Nat.mul_one, Nat.zero_add, rg, rs, rb, Value.cells, List.length_cons, List.length_nil, oneCells, List.all_cons, List.all_nil, Value.oneCell', Bool.and_self, cond_true, AHeap.set_set, Array.size_setIfInBounds]) <;> first | done | assumption | omega) | (simp; done) | (simp; omega)) <| OSuf.nil <| SQ.normal ?_
      refine W.yes (by simp only [lk] <;> rfl) <| W.seq <| W.reg <| OSuf.aop tyOK rfl sm rfl <| OSuf.aop tyOK rfl sm rfl <| OSuf.aop tyOK rfl (zb (hv := bi_geq)) rfl <| OSuf.aop tyOK rfl za rfl <| OSuf.nil <| SQ.normal ?_
      refine W.seq <| W.reg <| OSuf.aop tyOK rfl sm rfl <| OSuf.aop tyOK rfl sm rfl <| OSuf.aop tyOK rfl sm rfl <| OSuf.aop tyOK rfl sm rfl <| OSuf.call rfl (by simp only [aopnds, lk] <;> rfl) en116 (recL) ?_
      rintro _ _ ⟨rfl, dL, rfl, e1, e2⟩
      refine ⟨_, rfl, ?_⟩
      refine OSuf.nil <| SQ.normal ?_
      refine W.reg <| OSuf.aop tyOK rfl sm rfl <| OSuf.aop tyOK rfl (zb (hv := bi_w bi_add (by first | (simp only [w6, v1, v2, v3, v4] <;> rfl) | rfl))) rfl <| OSuf.aop tyOK rfl za rfl <| OSuf.nil <| BQ.normal <| ?_
      -- leaf: round
      exact goL (decide (((mid - a1 : Nat) : Int) ≥ (((b1 - a1) / 8 : Nat) : Int))) _ _ _ ⟨dL, rfl, e1, e2⟩ (by simp only [HasA, Tr.get_put, Nat.reduceEqDiff, reduceIte, and_self])
    · refine SQ.normal <| CWp.known ha ?_
      simp only [mkA]
      refine W.seq <| W.seq <| W.regD tyOK mixed (by kernel_rfl) <| SqW.aop rfl sm rfl <| SqW.aopT rfl (zb (hv := bi_gtr)) (fun _ => rfl) (by first | rfl | assumption | ((simp only [bl, if_pos, Int.toNat_natCast, Nat.mul_one, Nat.zero_add, rg, rs, rb, Value.cells, List.length_cons, List.length_nil, oneCells, List.all_cons, List.all_nil, Value.oneCell', Bool.and_self, cond_true, AHeap.set_set, Array.size_setIfInBounds]) <;> first | done | assumption | omega) | (simp; done) | (simp; omega)) <| SqW.aopT rfl sm (fun _ => rfl) rfl <| SqW.aop ag sm rfl <| SqW.aop ag sm rfl <| SqW.aop ag (zb (hv := bi_w bi_sub (by first | (simp only [w6, v1, v2, v3, v4] <;> rfl) | rfl))) rfl <| SqW.aop ag (zi (hv := by simp (disch := first | assumption | omega | (simp only [nx] <;> omega) | fail) only [aIndexAddr, ty37, ty9, hpl, if_pos, Int.toNat_natCast, Nat.mul_one, Nat.zero_add, rg, rs, rb, Value.cells, List.length_cons, List.length_nil, oneCells, List.all_cons, List.all_nil, Value.oneCell', Bool.and_self, cond_true, AHeap.set_set, Array.size_setIfInBounds] <;> rfl)) rfl <| SqW.aop ag (zl (hv := by simp (disch := first | assumption | omega | (simp only [nx] <;> omega) | fail) only [aLoad, ty9, rowOf, hpl, if_pos, Int.toNat_natCast, Nat.mul_one, Nat.zero_add, rg, rs, rb, Value.cells, List.length_cons, List.length_nil, oneCells, List.all_cons, List.all_nil, Value.oneCell', Bool.and_self, cond_true, AHeap.set_set, Array.size_setIfInBounds] <;> rfl)) rfl <| SqW.aop ag sm rfl <| SqW.aop ag sm rfl <| SqW.aop ag (zi (hv := by simp (disch := first | assumption | omega | (simp only [nx] <;> omega) | fail) only [aIndexAddr, ty37, ty9, hpl, if_pos, Int.toNat_natCast, Nat.mul_one, Nat.zero_add, rg, rs, rb, Value.cells, List.length_cons, List.length_nil, oneCells, List.all_cons, List.all_nil, Value.oneCell', Bool.and_self, cond_true, AHeap.set_set, Array.size_setIfInBounds] <;> rfl)) rfl <| SqW.aop ag (zl (hv := by simp (disch := first | assumption | omega | (simp only [nx] <;> omega) | fail) only [aLoad, ty9, rowOf, hpl, if_pos, Int.toNat_natCast, Nat.mul_one, Nat.zero_add, rg, rs, rb, Value.cells, List.length_cons, List.length_nil, oneCells, List.all_cons, List.all_nil, Value.oneCell', Bool.and_self, cond_true, AHeap.set_set, Array.size_setIfInBounds] <;> rfl)) rfl <| SqW.callD ag (by simp only [aopnds, lk] <;> rfl) en132 (less_c _ _ _ _ hl) rfl <| SqW.aopF ag (so_not (by simp only [lk] <;> rfl)) (fun _ => rfl) rfl <| SqW.aopF rfl (so_pick (by simp only [lk] <;> rfl) (by simp only [lk, cond_true, cond_false] <;> rfl)) (fun _ => rfl) rfl <| SqW.nil <| SQ.normal ?_
      refine W.no (by simp only [lk] <;> rfl) <| CWp.skip <| SQ.normal ?_
      refine W.seq <| W.reg <| OSuf.aop tyOK rfl sm rfl <| OSuf.aop tyOK rfl sm rfl <| OSuf.aop tyOK rfl sm rfl <| OSuf.aop tyOK rfl sm rfl <| OSuf.callD rfl (by simp only [aopnds, lk] <;> rfl) en134 (hc) rfl <| OSuf.aop tyOK rfl sm rfl <| OSuf.aop tyOK rfl (ze (hv := by simp (disch := first | assumption | omega | (simp only [nx] <;> omega) | fail) only [aExtract, hpl, if_pos, Int.toNat_natCast, Nat.mul_one, Nat.zero_add, rg, rs, rb, Value.cells, List.length_cons, List.length_nil, oneCells, List.all_cons, List.all_nil, Value.oneCell', Bool.and_self, cond_true, AHeap.set_set, Array.size_setIfInBounds] <;> rfl)) rfl <| OSuf.aop tyOK rfl (ze (hv := by simp (disch := first | assumption | omega | (simp only [nx] <;> omega) | fail) only [aExtract, hpl, if_pos, Int.toNat_natCast, Nat.mul_one, Nat.zero_add, rg, rs, rb, Value.cells, List.length_cons, List.length_nil, oneCells, List.all_cons, List.all_nil, Value.oneCell', Bool.and_self, cond_true, AHeap.set_set, Array.size_setIfInBounds] <;> rfl)) rfl <| OSuf.aop tyOK rfl za rfl <| OSuf.aop tyOK rfl za rfl <| OSuf.nil <| SQ.normal ?_
      refine W.seq <| W.reg <| OSuf.aop tyOK rfl sm rfl <| OSuf.aop tyOK rfl za rfl <| OSuf.nil <| SQ.normal ?_
      refine W.seq <| W.reg <| OSuf.aop tyOK rfl sm rfl <| OSuf.aop tyOK rfl sm rfl <| OSuf.aop tyOK rfl (zb (hv := bi_w bi_sub (by first | (simp only [w6, v1, v2, v3, v4] <;> rfl) | rfl))) rfl <| OSuf.aop tyOK rfl sm rfl <| OSuf.aop tyOK rfl sm rfl <| OSuf.aop tyOK rfl (zb (hv := bi_w bi_sub (by first | (simp only [w6, v1, v2, v3, v4] <;> rfl) | rfl))) rfl <| OSuf.aop tyOK rfl za rfl <| OSuf.aop tyOK rfl za rfl <| OSuf.nil <| SQ.normal ?_
      refine W.seq <| W.reg <| OSuf.aop tyOK rfl sm rfl <| OSuf.aop tyOK rfl (zb (hv := bi_w (bi_quo (by decide)) (by first | (simp only [w6, v1, v2, v3, v4] <;> rfl) | rfl))) rfl <| OSuf.aop tyOK rfl za rfl <| OSuf.nil <| SQ.normal ?_
      refine W.seq <| W.reg <| OSuf.aop tyOK rfl sm rfl <| OSuf.aop tyOK rfl sm rfl <| OSuf.aopF tyOK rfl (zb (hv := bi_lss)) (fun _ => rfl) (by first | rfl | assumption | ((simp only [bl, if_pos, Int.toNat_natCast, Nat.mul_one, Nat.zero_add, rg, rs, rb, Value.cells, List.length_cons, List.length_nil, oneCells, List.all_cons, List.all_nil, Value.oneCell', Bool.and_self, cond_true, AHeap.set_set, Array.size_setIfInBounds]) <;> first | done | assumption | omega) | (simp; done) | (simp; omega)) <| OSuf.nil <| SQ.normal ?_
      refine W.no (by simp only [lk] <;> rfl) <| W.seq <| W.reg <| OSuf.aop tyOK rfl sm rfl <| OSuf.aop tyOK rfl sm rfl <| OSuf.aop tyOK rfl (zb (hv := bi_geq)) rfl <| OSuf.aop tyOK rfl za rfl <| OSuf.nil <| SQ.normal ?_
      refine W.seq <| W.reg <| OSuf.aop tyOK rfl sm rfl <| OSuf.aop tyOK rfl sm rfl <| OSuf.aop tyOK rfl (zb (hv := bi_w bi_add (by first | (simp only [w6, v1, v2, v3, v4] <;> rfl) | rfl))) rfl <| OSuf.aop tyOK rfl sm rfl <| OSuf.aop tyOK rfl sm rfl <| OSuf.call rfl (by simp only [aopnds, lk] <;> rfl) en116 (recR) ?_
      rintro _ _ ⟨rfl, dL, rfl, e1, e2⟩
      refine ⟨_, rfl, ?_⟩
      refine OSuf.nil <| SQ.normal ?_
      refine W.reg <| OSuf.aop tyOK rfl sm rfl <| OSuf.aop tyOK rfl za rfl <| OSuf.nil <| BQ.normal <| ?_
      -- leaf: round
      exact goR (decide (((b1 - mid : Nat) : Int) ≥ (((b1 - a1) / 8 : Nat) : Int))) _ _ _ ⟨dL, rfl, e1, e2⟩ (by simp only [HasA, Tr.get_put, Nat.reduceEqDiff, reduceIte, and_self])
  by_cases hlr : ((mid - a1 : Nat) : Int) < ((b1 - mid : Nat) : Int)
  · refine SQ.normal <| CWp.known ha ?_
    simp only [mkA]
    refine W.seq <| W.seq <| W.regD tyOK mixed (by kernel_rfl) <| SqW.aop rfl sm rfl <| SqW.aopF rfl (zb (hv := bi_gtr)) (fun _ => rfl) (by first | rfl | assumption | ((simp only [bl, if_pos, Int.toNat_natCast, Nat.mul_one, Nat.zero_add, rg, rs, rb, Value.cells, List.length_cons, List.length_nil, oneCells, List.all_cons, List.all_nil, Value.oneCell', Bool.and_self, cond_true, AHeap.set_set, Array.size_setIfInBounds]) <;> first | done | assumption | omega) | (simp; done) | (simp; omega)) <| SqW.aopF rfl sm (fun _ => rfl) rfl <| SqW.pass ag rfl <| SqW.pass ag rfl <| SqW.pass ag rfl <| SqW.pass ag rfl <| SqW.pass ag rfl <| SqW.pass ag rfl <| SqW.pass ag rfl <| SqW.pass ag rfl <| SqW.pass ag rfl <| SqW.pass ag rfl <| SqW.pass ag rfl <| SqW.aopF rfl (so_pick (by simp only [lk] <;> rfl) (by simp only [lk, cond_true, cond_false] <;> rfl)) (fun _ => rfl) rfl <| SqW.nil <| SQ.normal ?_
    refine W.no (by simp only [lk] <;> rfl) <| CWp.skip <| SQ.normal ?_
    refine W.seq <| W.reg <| OSuf.aop tyOK rfl sm rfl <| OSuf.aop tyOK rfl sm rfl <| OSuf.aop tyOK rfl sm rfl <| OSuf.aop tyOK rfl sm rfl <| OSuf.callD rfl (by simp only [aopnds, lk] <;> rfl) en134 (hc) rfl <| OSuf.aop tyOK rfl sm rfl <| OSuf.aop tyOK rfl (ze (hv := by simp (disch := first | assumption | omega | (simp only [nx] <;> omega) | fail) only [aExtract, hpl, if_pos, Int.toNat_natCast, Nat.mul_one, Nat.zero_add, rg, rs, rb, Value.cells, List.length_cons, List.length_nil, oneCells, List.all_cons, List.all_nil, Value.oneCell', Bool.and_self, cond_true, AHeap.set_set, Array.size_setIfInBounds] <;> rfl)) rfl <| OSuf.aop tyOK rfl (ze (hv := by simp (disch := first | assumption | omega | (simp only [nx] <;> omega) | fail) only [aExtract, hpl, if_pos, Int.toNat_natCast, Nat.mul_one, Nat.zero_add, rg, rs, rb, Value.cells, List.length_cons, List.length_nil, oneCells, List.all_cons, List.all_nil, Value.oneCell', Bool.and_self, cond_true, AHeap.set_set, Array.size_setIfInBounds] <;> rfl)) rfl <| OSuf.aop tyOK rfl za rfl <| OSuf.aop tyOK rfl za rfl <| OSuf.nil <| SQ.normal ?_
    refine W.seq <| W.reg <| OSuf.aop tyOK rfl sm rfl <| OSuf.aop tyOK rfl za rfl <| OSuf.nil <| SQ.normal ?_
    refine W.seq <| W.reg <| OSuf.aop tyOK rfl sm rfl <| OSuf.aop tyOK rfl sm rfl <| OSuf.aop tyOK rfl (zb (hv := bi_w bi_sub (by first | (simp only [v1, v2, v3, v4] <;> rfl) | rfl))) rfl <| OSuf.aop tyOK rfl sm rfl <| OSuf.aop tyOK rfl sm rfl <| OSuf.aop tyOK rfl (zb (hv := bi_w bi_sub (by first | (simp only [v1, v2, v3, v4] <;> rfl) | rfl))) rfl <| OSuf.aop tyOK rfl za rfl <| OSuf.aop tyOK rfl za rfl <| OSuf.nil <| SQ.normal ?_
    refine W.seq <| W.reg <| OSuf.aop tyOK rfl sm rfl <| OSuf.aop tyOK rfl (zb (hv := bi_w (bi_quo (by decide)) (by first | (simp only [v1, v2, v3, v4] <;> rfl) | rfl))) rfl <| OSuf.aop tyOK rfl za rfl <| OSuf.nil <| SQ.normal ?_
    refine W.seq <| W.reg <| OSuf.aop tyOK rfl sm rfl <| OSuf.aop tyOK rfl sm rfl <| OSuf.aopT tyOK rfl (zb (hv := bi_lss)) (fun _ => rfl) (by first | rfl | assumption | ((simp only [bl, if_pos, Int.toNat_natCast, Nat.mul_one, Nat.zero_add, rg, rs, rb, Value.cells, List.length_cons, List.length_nil, oneCells, List.all_cons, List.all_nil, Value.oneCell', Bool.and_self, cond_true, AHeap.set_set, Array.size_setIfInBounds]) <;> first | done | assumption | omega) | (simp; done) | (simp; omega)) <| OSuf.nil <| SQ.normal ?_
    refine W.yes (by simp only [lk] <;> rfl) <| W.seq <| W.reg <| OSuf.aop tyOK rfl sm rfl <| OSuf.aop tyOK rfl sm rfl <| OSuf.aop tyOK rfl (zb (hv := bi_geq)) rfl <| OSuf.aop tyOK rfl za rfl <| OSuf.nil <| SQ.normal ?_
    refine W.seq <| W.reg <| OSuf.aop tyOK rfl sm rfl <| OSuf.aop tyOK rfl sm rfl <| OSuf.aop tyOK rfl sm rfl <| OSuf.aop tyOK rfl sm rfl <| OSuf.call rfl (by simp only [aopnds, lk] <;> rfl) en116 (recL) ?_
    rintro _ _ ⟨rfl, dL, rfl, e1, e2⟩
    refine ⟨_, rfl, ?_⟩
    refine OSuf.nil <| SQ.normal ?_
    refine W.reg <| OSuf.aop tyOK rfl sm rfl <| OSuf.aop tyOK rfl (zb (hv := bi_w bi_add (by first | (simp only [v1, v2, v3, v4] <;> rfl) | rfl))) rfl <| OSuf.aop tyOK rfl za rfl <| OSuf.nil <| BQ.normal <| ?_
    -- leaf: round
    exact goL (decide (((mid - a1 : Nat) : Int) ≥ (((b1 - a1) / 8 : Nat) : Int))) _ _ _ ⟨dL, rfl, e1, e2⟩ (by simp only [HasA, Tr.get_put, Nat.reduceEqDiff, reduceIte, and_self])
  · refine SQ.normal <| CWp.known ha ?_
    simp only [mkA]
    refine W.seq <| W.seq <| W.regD tyOK mixed (by kernel_rfl) <| SqW.aop rfl sm rfl <| SqW.aopF rfl (zb (hv := bi_gtr)) (fun _ => rfl) (by first | rfl | assumption | ((simp only [bl, if_pos, Int.toNat_natCast, Nat.mul_one, Nat.zero_add, rg, rs, rb, Value.cells, List.length_cons, List.length_nil, oneCells, List.all_cons, List.all_nil, Value.oneCell', Bool.and_self, cond_true, AHeap.set_set, Array.size_setIfInBounds]) <;> first | done | assumption | omega) | (simp; done) | (simp; omega)) <| SqW.aopF rfl sm (fun _ => rfl) rfl <| SqW.pass ag rfl <| SqW.pass ag rfl <| SqW.pass ag rfl <| SqW.pass ag rfl <| SqW.pass ag rfl <| SqW.pass ag rfl <| SqW.pass ag rfl <| SqW.pass ag rfl <| SqW.pass ag rfl <| SqW.pass ag rfl <| SqW.pass ag rfl <| SqW.aopF rfl (so_pick (by simp only [lk] <;> rfl) (by simp only [lk, cond_true, cond_false] <;> rfl)) (fun _ => rfl) rfl <| SqW.nil <| SQ.normal ?_
    refine W.no (by simp only [lk] <;> rfl) <| CWp.skip <| SQ.normal ?_
    refine W.seq <| W.reg <| OSuf.aop tyOK rfl sm rfl <| OSuf.aop tyOK rfl sm rfl <| OSuf.aop tyOK rfl sm rfl <| OSuf.aop tyOK rfl sm rfl <| OSuf.callD rfl (by simp only [aopnds, lk] <;> rfl) en134 (hc) rfl <| OSuf.aop tyOK rfl sm rfl <| OSuf.aop tyOK rfl (ze (hv := by simp (disch := first | assumption | omega | (simp only [nx] <;> omega) | fail) only [aExtract, hpl, if_pos, Int.toNat_natCast, Nat.mul_one, Nat.zero_add, rg, rs, rb, Value.cells, List.length_cons, List.length_nil, oneCells, List.all_cons, List.all_nil, Value.oneCell', Bool.and_self, cond_true, AHeap.set_set, Array.size_setIfInBounds] <;> rfl)) rfl <| OSuf.aop tyOK rfl (ze (hv := by simp (disch := first | assumption | omega | (simp only [nx] <;> omega) | fail) only [aExtract, hpl, if_pos, Int.toNat_natCast, Nat.mul_one, Nat.zero_add, rg, rs, rb, Value.cells, List.length_cons, List.length_nil, oneCells, List.all_cons, List.all_nil, Value.oneCell', Bool.and_self, cond_true, AHeap.set_set, Array.size_setIfInBounds] <;> rfl)) rfl <| OSuf.aop tyOK rfl za rfl <| OSuf.aop tyOK rfl za rfl <| OSuf.nil <| SQ.normal ?_
    refine W.seq <| W.reg <| OSuf.aop tyOK rfl sm rfl <| OSuf.aop tyOK rfl za rfl <| OSuf.nil <| SQ.normal ?_
    refine W.seq <| W.reg <| OSuf.aop tyOK rfl sm rfl <| OSuf.aop tyOK rfl sm rfl <| OSuf.aop tyOK rfl (zb (hv := bi_w bi_sub (by first | (simp only [v1, v2, v3, v4] <;> rfl) | rfl))) rfl <| OSuf.aop tyOK rfl sm rfl <| OSuf.aop tyOK rfl sm rfl <| OSuf.aop tyOK rfl (zb (hv := bi_w bi_sub (by first | (simp only [v1, v2, v3, v4] <;> rfl) | rfl))) rfl <| OSuf.aop tyOK rfl za rfl <| OSuf.aop tyOK rfl za rfl <| OSuf.nil <| SQ.normal ?_
    refine W.seq <| W.reg <| OSuf.aop tyOK rfl sm rfl <| OSuf.aop tyOK rfl (zb (hv := bi_w (bi_quo (by decide)) (by first | (simp only [v1, v2, v3, v4] <;> rfl) | rfl))) rfl <| OSuf.aop tyOK rfl za rfl <| OSuf.nil <| SQ.normal ?_
    refine W.seq <| W.reg <| OSuf.aop tyOK rfl sm rfl <| OSuf.aop tyOK rfl sm rfl <| OSuf.aopF tyOK rfl (zb (hv := bi_lss)) (fun _ => rfl) (by first | rfl | assumption | ((simp only [bl, if_pos, Int.toNat_natCast, Nat.mul_one, Nat.zero_add, rg, rs, rb, Value.cells, List.length_cons, List.length_nil, oneCells, List.all_cons, List.all_nil, Value.oneCell', Bool.and_self, cond_true, AHeap.set_set, Array.size_setIfInBounds]) <;> first | done | assumption | omega) | (simp; done) | (simp; omega)) <| OSuf.nil <| SQ.normal ?_
    refine W.no (by simp only [lk] <;> rfl) <| W.seq <| W.reg <| OSuf.aop tyOK rfl sm rfl <| OSuf.aop tyOK rfl sm rfl <| OSuf.aop tyOK rfl (zb (hv := bi_geq)) rfl <| OSuf.aop tyOK rfl za rfl <| OSuf.nil <| SQ.normal ?_
    refine W.seq <| W.reg <| OSuf.aop tyOK rfl sm rfl <| OSuf.aop tyOK rfl sm rfl <| OSuf.aop tyOK rfl (zb (hv := bi_w bi_add (by first | (simp only [v1, v2, v3, v4] <;> rfl) | rfl))) rfl <| OSuf.aop tyOK rfl sm rfl <| OSuf.aop tyOK rfl sm rfl <| OSuf.call rfl (by simp only [aopnds, lk] <;> rfl) en116 (recR) ?_
    rintro _ _ ⟨rfl, dL, rfl, e1, e2⟩
    refine ⟨_, rfl, ?_⟩
    refine OSuf.nil <| SQ.normal ?_
    refine W.reg <| OSuf.aop tyOK rfl sm rfl <| OSuf.aop tyOK rfl za rfl <| OSuf.nil <| BQ.normal <| ?_
    -- leaf: round
    exact goR (decide (((b1 - mid : Nat) : Int) ≥ (((b1 - a1) / 8 : Nat) : Int))) _ _ _ ⟨dL, rfl, e1, e2⟩ (by simp only [HasA, Tr.get_put, Nat.reduceEqDiff, reduceIte, and_self])
theorem sort_c (h : AHeap) (r N : Nat) (hrn : r < h.next) (hsz : N < 1000000000) (d : Array El) (hN : d.size = N) :
    FWp Tryz.prog 88 [sl r N] (h.set r (row d)) fun u h' => u = .tuple #[] ∧ ∃ d' : Array El, h' = h.set r (row d') ∧ PermIn 0 N d d' ∧ SortedIn lt 0 N d' := by
  have hb : bitsLen N ≤ 30 := (bitsLen_le_iff N 30).2 (by omega)
  have w1 : IntKind.u64.wrap (N : Int) = (N : Int) := wrap_u64 (by omega) (by omega)
  refine W.enter tyOK Tryz.func88 rfl rfl ?_
  simp only [entry]
  refine W.seq <| W.reg <| OSuf.aop tyOK rfl sm rfl <| OSuf.aop tyOK rfl (so_len (by simp only [aopnds, lk] <;> rfl) (by simp (disch := first | assumption | omega | (simp only [nx] <;> omega) | fail) only [aLenOf, ty37, hpl] <;> rfl)) rfl <| OSuf.aop tyOK rfl za rfl <| OSuf.nil <| SQ.normal ?_
  refine W.reg <| OSuf.aop tyOK rfl sm rfl <| OSuf.aop tyOK rfl sm rfl <| OSuf.aop tyOK rfl sm rfl <| OSuf.aop tyOK rfl (so_conw (so_conv tyOK (by simp only [lk] <;> rfl) ty3 ⟨_, rfl⟩ ty94 rfl) (by first | (simp only [w1] <;> rfl) | rfl)) rfl <| OSuf.callD rfl (by simp only [aopnds, lk] <;> rfl) en83 (len_c _ N (by omega)) rfl <| OSuf.call rfl (by simp only [aopnds, lk] <;> rfl) en116 (pdq_c h r N hrn hsz N 0 N (bitsLen N) d (by omega) hN (by omega) (Nat.le_refl _) (by omega) (.inl rfl)) ?_
  rintro _ _ ⟨rfl, d', rfl, e1, e2⟩
  refine ⟨_, rfl, ?_⟩
  refine OSuf.nil <| FQ.normal (by simp only [aRet, Tryz.f88, aResults, aResult, lk, Nat.reduceEqDiff, reduceIte] <;> first | rfl | (simp only [tyall] <;> rfl) | (simp [tyall] <;> rfl)) ?_
  -- leaf: end
  exact ⟨rfl, d', rfl, e1, e2⟩
end Go.Proofs.YtebheelmgcggmaaGreat.SortS
namespace Go.Proofs.YtebheelmgcggmaaGreat.SortS
open Go.Ab Go.Sort
set_option linter.unusedSimpArgs false
set_option linter.unusedVariables false
set_option maxRecDepth 10000
structure MapOK (l : List (El × Value × Nat)) (clock : Nat) : Prop where
  lt : ∀ x ∈ l, x.2.2 < clock
  inj : ∀ x ∈ l, ∀ y ∈ l, x.2.2 = y.2.2 → x = y
  nodup : l.Nodup
noncomputable def unE : List AEnt → Option (List (El × Value × Nat))
  | [] => some []
  | e :: es => match e.key, unE es with
    | .string s, some l => some ((s.data.toList, e.val, e.born) :: l)
    | _, _ => none
theorem unE_mk : ∀ {es : List AEnt} {l : List (El × Value × Nat)}, unE es = some l → es = mkK enc l
  | [], l, h => by simp only [unE, Option.some.injEq] at h; subst h; rfl
  | e :: es, l, h => by
    simp only [unE] at h
    split at h
    · rename_i s l0 h1 h2
      cases h
      rw [unE_mk h2]
      cases e
      simp only at h1
      subst h1
      rfl
    · cases h
noncomputable def noB (b : Nat) : List (El × Value × Nat) → Bool
  | [] => true
  | x :: l => !Nat.beq x.2.2 b && noB b l
noncomputable def okB (clock : Nat) : List (El × Value × Nat) → Bool
  | [] => true
  | x :: l => Nat.ble (x.2.2 + 1) clock && (noB x.2.2 l && okB clock l)
theorem noB_ne {b : Nat} : ∀ {l : List (El × Value × Nat)}, noB b l = true → ∀ x ∈ l, x.2.2 ≠ b
  | y :: l, h, x, hx => by
    simp only [noB, Bool.and_eq_true, Bool.not_eq_true'] at h
    cases hx with
    | head => intro e; rw [e, Nat.beq_refl] at h; cases h.1
    | tail _ hm => exact noB_ne h.2 x hm
theorem okB_ok {clock : Nat} : ∀ {l : List (El × Value × Nat)}, okB clock l = true → MapOK l clock
  | [], _ => ⟨fun _ h => (List.not_mem_nil h).elim, fun _ h => (List.not_mem_nil h).elim, List.nodup_nil⟩
  | x :: l, h => by
    simp only [okB, Bool.and_eq_true] at h
    obtain ⟨h1, h2, h3⟩ := h
    have r := okB_ok h3
    have hx := noB_ne h2
    refine ⟨fun y hy => ?_, fun y hy z hz e => ?_, List.nodup_cons.2 ⟨fun hm => hx x hm rfl, r.nodup⟩⟩
    · cases hy with
      | head => exact Nat.le_of_ble_eq_true h1
      | tail _ hm => exact r.lt y hm
    · cases hy with
      | head => cases hz with
        | head => rfl
        | tail _ hm => exact (hx z hm e.symm).elim
      | tail _ hm => cases hz with
        | head => exact (hx y hm e).elim
        | tail _ hn => exact r.inj y hm z hn e
noncomputable def insS (x : El) : List El → List El
  | [] => [x]
  | y :: l => bif Op.bytesLess y x then y :: insS x l else x :: y :: l
noncomputable def isS : List El → List El
  | [] => []
  | x :: l => insS x (isS l)
theorem insS_perm (x : El) : ∀ l, (insS x l).Perm (x :: l)
  | [] => .refl _
  | y :: l => by
    simp only [insS]
    cases Op.bytesLess y x
    · exact .refl _
    · exact ((insS_perm x l).cons y).trans (.swap x y l)
theorem isS_perm : ∀ l, (isS l).Perm l
  | [] => .refl _
  | x :: l => (insS_perm x _).trans ((isS_perm l).cons x)
theorem insS_sorted (x : El) : ∀ {l : List El}, l.Pairwise (fun a b => lt b a = false) → (insS x l).Pairwise (fun a b => lt b a = false)
  | [], _ => by simp [insS]
  | y :: l, h => by
    simp only [insS]
    have h' := List.pairwise_cons.1 h
    have e := bless y x
    cases hd : Op.bytesLess y x
    · simp only [cond_false]
      have hyx : lt y x = false := by rw [hd] at e; exact e.symm
      refine List.pairwise_cons.2 ⟨fun z hz => ?_, h⟩
      cases hz with
      | head => exact hyx
      | tail _ hm =>
        have hzy := h'.1 z hm
        simp only [lt, ltStr, decide_eq_false_iff_not, List.not_lt] at hyx hzy ⊢
        exact List.le_trans hyx hzy
    · simp only [cond_true]
      have hyx : lt y x = true := by rw [hd] at e; exact e.symm
      refine List.pairwise_cons.2 ⟨fun z hz => ?_, insS_sorted x h'.2⟩
      have := (insS_perm x l).mem_iff.1 hz
      cases this with
      | head =>
        simp only [lt, ltStr, decide_eq_false_iff_not, decide_eq_true_eq] at hyx ⊢
        exact fun h9 => List.lt_asymm hyx h9
      | tail _ hm => exact h'.1 z hm
theorem isS_sorted : ∀ l : List El, (isS l).Pairwise (fun a b => lt b a = false)
  | [] => .nil
  | x :: l => insS_sorted x (isS_sorted l)
noncomputable def keysRes (h : AHeap) (ks : List El) : Value × AHeap :=
  match ks with
  | [] => (.slice none 0 0, h)
  | _ => (.slice (some ⟨h.next, 0, none⟩) ks.length 0, h.new (.cells (ks.map enc) 1))
noncomputable def keysAt (h : AHeap) (q : Nat) : Option (Value × AHeap) :=
  match h.get q with
  | some (.cells [.map (some m)] 1) => match h.get m with
    | some (.map es clock) => match unE es with
      | some l => bif (okB clock l && Nat.ble l.length 1000000) && (Nat.ble (q + 1) h.next && Nat.ble (m + 1) h.next) then some (keysRes h (isS (l.map (·.1)))) else none
      | none => none
    | _ => none
  | _ => none
noncomputable def SortedC (f k : FuncId) : Prop := ∀ (h : AHeap) (q m clock : Nat) (l : List (El × Value × Nat)) (ks : List El), MapOK l clock → q < h.next → m < h.next → h.get q = some (.cells [.map (some m)] 1) → h.get m = some (.map (mkK enc l) clock) → l.length ≤ 1000000 →
    ks.Perm (l.map (·.1)) → ks.Pairwise (fun x y => lt y x = false) →
    FWp Tryz.prog f [.func (.func k) #[] #[P0 q]] h fun u h' => (ks = [] ∧ u = .slice none 0 0 ∧ h' = h) ∨ (ks ≠ [] ∧ u = .slice (some ⟨h.next, 0, none⟩) ks.length 0 ∧ h' = h.new (.cells (ks.map enc) 1))
theorem keysAt_ok {f k : FuncId} (sc : SortedC f k) {h h' : AHeap} {q : Nat} {v : Value} (hk : keysAt h q = some (v, h')) : FWp Tryz.prog f [.func (.func k) #[] #[P0 q]] h fun x y => x = v ∧ y = h' := by
  unfold keysAt at hk
  split at hk
  · rename_i m hq
    split at hk
    · rename_i es clock hm
      split at hk
      · rename_i l hl
        cases hb : (okB clock l && Nat.ble l.length 1000000) && (Nat.ble (q + 1) h.next && Nat.ble (m + 1) h.next)
        · rw [hb, cond_false] at hk; cases hk
        · rw [hb, cond_true] at hk
          simp only [Bool.and_eq_true] at hb
          obtain ⟨⟨b1, b2⟩, b3, b4⟩ := hb
          rw [unE_mk hl] at hm
          have := sc h q m clock l (isS (l.map (·.1))) (okB_ok b1) (Nat.le_of_ble_eq_true b3) (Nat.le_of_ble_eq_true b4) hq hm (Nat.le_of_ble_eq_true b2) (isS_perm _) (isS_sorted _)
          refine this.mono ?_
          rintro x y (⟨e1, rfl, rfl⟩ | ⟨e1, rfl, rfl⟩)
          · rw [e1] at hk
            simp only [keysRes, Option.some.injEq, Prod.mk.injEq] at hk
            exact hk
          · unfold keysRes at hk
            split at hk
            · rename_i e2; exact (e1 e2).elim
            · simp only [Option.some.injEq, Prod.mk.injEq] at hk; exact hk
      · cases hk
    · cases hk
  · cases hk
noncomputable def keysS (f : FuncId) (ks : List FuncId) (f' : FuncId) (args : List Value) (h : AHeap) : Option (Value × AHeap) :=
  bif Nat.beq f' f then match args with
    | [.func (.func k) first cap] => bif ks.any (Nat.beq k) && first.isEmpty then match cap.toList with
      | [.pointer (some ⟨q, 0, none⟩)] => keysAt h q
      | _ => none
      else none
    | _ => none
  else none
theorem keysS_ok {f : FuncId} {fn : Func} {ks : List FuncId} (he : Entered Tryz.prog f fn) (sc : ∀ k ∈ ks, SortedC f k) (f' : FuncId) (args : List Value) (h : AHeap) (v : Value) (h' : AHeap) (hk : keysS f ks f' args h = some (v, h')) : (∃ fn, Entered Tryz.prog f' fn) ∧ FWp Tryz.prog f' args h fun x y => x = v ∧ y = h' := by
  unfold keysS at hk
  cases hf : Nat.beq f' f
  · rw [hf, cond_false] at hk; cases hk
  · rw [hf, cond_true] at hk
    obtain rfl := Nat.eq_of_beq_eq_true hf
    refine ⟨⟨_, he⟩, ?_⟩
    split at hk
    · rename_i k first cap
      cases hb : ks.any (Nat.beq k) && first.isEmpty
      · rw [hb, cond_false] at hk; cases hk
      · rw [hb, cond_true] at hk
        simp only [Bool.and_eq_true, Array.isEmpty_iff] at hb
        obtain ⟨b1, rfl⟩ := hb
        obtain ⟨k', hk', b1⟩ := List.any_eq_true.1 b1
        obtain rfl := Nat.eq_of_beq_eq_true b1
        split at hk
        · rename_i q hc
          have : cap = #[.pointer (some ⟨q, 0, none⟩)] := Array.toList_inj.1 hc
          subst this
          exact keysAt_ok (sc _ hk') hk
        · cases hk
    · cases hk
end Go.Proofs.YtebheelmgcggmaaGreat.SortS
namespace Go.Proofs.YtebheelmgcggmaaGreat.SortS.KB
open Go.Ab Go.Sort
set_option linter.unusedSimpArgs false
set_option linter.unusedVariables false
set_option maxRecDepth 10000
set_option maxHeartbeats 8000000
theorem keys_c (h : AHeap) (m : Nat) : FWp Tryz.prog 52 [.map (some m)] h fun u h' => u = .func (.func 89) #[] #[P0 h.next] ∧ h' = h.new (.cells [.map (some m)] 1) := by
  refine W.enter tyOK Tryz.func52 rfl rfl ?_
  simp only [entry]
  refine W.seq <| W.reg <| OSuf.aop tyOK rfl (so_box (by simp only [lk] <;> rfl)) rfl <| OSuf.aop tyOK rfl za rfl <| OSuf.nil <| SQ.normal ?_
  refine W.seq <| W.reg <| OSuf.aop tyOK rfl (so_makeFunc rfl (by simp only [aopnds, lk] <;> rfl) (by simp only [aopnds, lk] <;> rfl)) rfl <| OSuf.aop tyOK rfl za rfl <| OSuf.nil <| SQ.normal ?_
  refine CWp.ret <| FQ.ret (by simp only [aRet, Tryz.f52, aResults, aResult, lk, Nat.reduceEqDiff, reduceIte] <;> first | rfl | (simp only [tyall] <;> rfl) | (simp [tyall] <;> rfl)) ?_
  -- leaf: end
  exact ⟨rfl, rfl⟩
inductive OutAt (h : AHeap) (lo : Nat) (ks : List El) : Value → Prop
  | none (e : ks = []) : OutAt h lo ks (.slice none 0 0)
  | some {x n : Nat} (hne : ks ≠ []) (e : n = ks.length) (hlo : lo ≤ x) (hx : x < h.next) (hg : h.get x = .some (.cells (ks.map enc) 1)) : OutAt h lo ks (.slice (.some ⟨x, 0, .none⟩) n 0)
structure KSt (h0 h : AHeap) (LP : ALoop) (m clock : Nat) (ys : List (El × Value × Nat)) (seen : Array Nat) : Prop where
  next : h0.next + 3 ≤ h.next
  out : ∃ o, h.get h0.next = some (.cells [o] 1) ∧ OutAt h (h0.next + 3) (ys.map (·.1)) o
  loop : h.get (h0.next + 1) = some (.loop LP)
  iter : h.get (h0.next + 2) = some (.mapIter (some m) clock seen clock)
  old : ∀ z, z < h0.next → h.get z = h0.get z
theorem iter_step {h g : AHeap} {LP : ALoop} {m clock : Nat} {ys : List (El × Value × Nat)} {seen seen' : Array Nat} (hK : KSt h g LP m clock ys seen) : KSt h (g.set (h.next + 2) (.mapIter (some m) clock seen' clock)) LP m clock ys seen' := by
  obtain ⟨h1, ⟨o, h2, h3⟩, h4, h5, h6⟩ := hK
  refine ⟨h1, ⟨o, ?_, ?_⟩, ?_, AHeap.get_set_same _ _ _, ?_⟩
  · rw [AHeap.get_set_ne (by omega)]; exact h2
  · cases h3 with
    | none e => exact .none e
    | some ne e a b c => exact .some ne e a b (by rw [AHeap.get_set_ne (by omega)]; exact c)
  · rw [AHeap.get_set_ne (by omega)]; exact h4
  · intro z hz; rw [AHeap.get_set_ne (by omega)]; exact h6 z hz
theorem find_born {l : List (El × Value × Nat)} {clock : Nat} (hok : MapOK l clock) {x : El × Value × Nat} (hx : x ∈ l) : (mkK enc l).find? (fun e => e.born == x.2.2) = some ⟨enc x.1, x.2.1, x.2.2⟩ := by
  have key : ∀ l' : List (El × Value × Nat), (∀ y ∈ l', y ∈ l) → x ∈ l' → (mkK enc l').find? (fun e => e.born == x.2.2) = some ⟨enc x.1, x.2.1, x.2.2⟩ := by
    intro l'
    induction l' with
    | nil => intro _ h; cases h
    | cons y l' ih =>
      intro hs hm
      simp only [mkK, List.map_cons, List.find?_cons]
      by_cases hb : y.2.2 = x.2.2
      · have := hok.inj y (hs y List.mem_cons_self) x hx hb
        subst this; simp
      · have e1 : (y.2.2 == x.2.2) = false := by simpa using hb
        rw [e1]
        cases hm with
        | head => exact (hb rfl).elim
        | tail _ h9 => exact ih (fun z hz => hs z (List.mem_cons_of_mem _ hz)) h9
  exact key l (fun _ h => h) hx
theorem nat_le : ∀ (a b : List Nat), a.Nodup → (∀ x ∈ a, x ∈ b) → a.length ≤ b.length
  | [], b, _, _ => Nat.zero_le _
  | x :: a, b, hn, hs => by
    have hx := hs x List.mem_cons_self
    have hn' := List.nodup_cons.1 hn
    have := nat_le a (b.erase x) hn'.2 (fun y hy => (List.mem_erase_of_ne (fun e => hn'.1 (by rw [← e]; exact hy))).2 (hs y (List.mem_cons_of_mem _ hy)))
    rw [List.length_erase_of_mem hx] at this
    have : 0 < b.length := List.length_pos_of_mem hx
    simp; omega
theorem nodup_le {l ys : List (El × Value × Nat)} {clock : Nat} (hok : MapOK l clock) (hnd : ys.Nodup) (hsub : ∀ y ∈ ys, y ∈ l) : ys.length ≤ l.length := by
  have h1 : (ys.map (·.2.2)).Nodup := by
    have : ∀ zs : List (El × Value × Nat), zs.Nodup → (∀ y ∈ zs, y ∈ l) → (zs.map (·.2.2)).Nodup := by
      intro zs
      induction zs with
      | nil => intro _ _; simp
      | cons z zs ih =>
        intro hn hs
        have hn' := List.nodup_cons.1 hn
        simp only [List.map_cons, List.nodup_cons]
        refine ⟨fun hm => ?_, ih hn'.2 fun y hy => hs y (List.mem_cons_of_mem _ hy)⟩
        obtain ⟨y, hy, hb⟩ := List.mem_map.1 hm
        have := hok.inj y (hs y (List.mem_cons_of_mem _ hy)) z (hs z List.mem_cons_self) hb
        subst this; exact hn'.1 hy
    exact this ys hnd hsub
  have := nat_le (ys.map (·.2.2)) (l.map (·.2.2)) h1 (fun x hx => by
    obtain ⟨y, hy, rfl⟩ := List.mem_map.1 hx
    exact List.mem_map.2 ⟨y, hsub y hy, rfl⟩)
  simpa using this
theorem nodup_lt {l ys : List (El × Value × Nat)} {clock : Nat} (hok : MapOK l clock) {x : El × Value × Nat} (hnd : ys.Nodup) (hsub : ∀ y ∈ ys, y ∈ l) (hx : x ∈ l) (hn : x ∉ ys) : ys.length < l.length := by
  have h1 : (x :: ys).Nodup := List.nodup_cons.2 ⟨hn, hnd⟩
  have := nodup_le hok h1 (fun y hy => by cases hy with | head => exact hx | tail _ h9 => exact hsub y h9)
  simp at this; omega
theorem all_seen {l ys : List (El × Value × Nat)} {clock : Nat} {seen : Array Nat} (hok : MapOK l clock) (hnd : ys.Nodup) (hsub : ∀ y ∈ ys, y ∈ l) (hseen : seen.toList = ys.map (·.2.2)) (he : (left (mkK enc l) seen).filter (fun e => decide (e.born < clock)) = []) : ys.Perm l := by
  refine (List.perm_ext_iff_of_nodup hnd hok.nodup).2 fun x => ⟨hsub x, fun hx => ?_⟩
  have h1 : (⟨enc x.1, x.2.1, x.2.2⟩ : AEnt) ∈ mkK enc l := List.mem_map.2 ⟨x, hx, rfl⟩
  have h2 := List.filter_eq_nil_iff.1 he
  by_cases hc : x.2.2 ∈ seen.toList
  · rw [hseen] at hc
    obtain ⟨y, hy, hb⟩ := List.mem_map.1 hc
    have := hok.inj y (hsub y hy) x hx hb
    subst this; exact hy
  · exfalso
    refine h2 ⟨enc x.1, x.2.1, x.2.2⟩ ?_ (by simpa using hok.lt x hx)
    simp only [left, List.mem_filter]
    exact ⟨h1, by simpa using hc⟩
theorem append_c (h : AHeap) (q m clock : Nat) (l : List (El × Value × Nat)) (hok : MapOK l clock) (hq : q < h.next) (hm : m < h.next) (hgq : h.get q = some (.cells [.map (some m)] 1)) (hgm : h.get m = some (.map (mkK enc l) clock)) (hbig : l.length ≤ 1000000) :
    FWp Tryz.prog 115 [.slice none 0 0, .func (.func 89) #[] #[P0 q]] h fun u h' => ∃ ys : List (El × Value × Nat), ys.Perm l ∧ OutAt h' h.next (ys.map (·.1)) u ∧ (∀ z, z < h.next → h'.get z = h.get z) := by
  refine W.enter tyOK Tryz.func115 rfl rfl ?_
  simp only [entry]
  refine W.seq <| W.reg <| OSuf.aop tyOK rfl (so_box (by simp only [lk] <;> rfl)) rfl <| OSuf.aop tyOK rfl za rfl <| OSuf.nil <| SQ.normal ?_
  refine W.seq <| W.seq <| W.reg <| OSuf.aop tyOK rfl sm rfl <| OSuf.nil <| SQ.normal ?_
  -- leaf: loop
  refine W.block (CWp.rangeFunc (by simp only [aopnd, Tr.get_put, Nat.reduceEqDiff, reduceIte] <;> rfl) (fun l hl => by cases hl) (VWp.func en89 ?_))
  show FWp _ _ [_, _] _ _
  generalize hLP : (ALoop.mk _ _ _ _ _ _ _ _) = LP
  have yield : ∀ (g : AHeap) (ys : List (El × Value × Nat)) (sn : Array Nat) (x : El × Value × Nat), KSt h g LP m clock ys sn → ys.length ≤ 1000000 →
      VWp Tryz.prog (.func (.yield (h.next + 1)) #[] #[]) [enc x.1] g fun u h3 => u = .bool true ∧ KSt h h3 LP m clock (ys ++ [x]) sn := by
    intro g ys sn x hK hlen
    obtain ⟨k1, ⟨o, k2, k3⟩, k4, k5, k6⟩ := hK
    have hl := k4
    rw [← hLP] at hl
    refine VWp.yield hl rfl ?_
    refine W.reg <| OSuf.aop tyOK rfl za rfl <| OSuf.nil <| ?_
    -- leaf: stop
    refine ⟨rfl, _, hl, rfl, ?_⟩
    cases k3 with
    | none e =>
      refine W.block <| W.reg <| OSuf.aop tyOK rfl (zl (hv := by simp (disch := first | assumption | omega | (simp only [nx] <;> omega) | fail) only [aLoad, ty37, rowOf, hpl, k2, Value.cells] <;> rfl)) rfl <| OSuf.aop tyOK rfl sm rfl <| OSuf.aop tyOK rfl (so_buildSlice (by simp only [aparts, lk] <;> rfl) (by simp only [aBuildSlice, ty37, ty9, k2, Value.cells] <;> first | rfl | (simp only [tyall] <;> rfl) | (simp [tyall] <;> rfl))) rfl <| OSuf.aop tyOK rfl (so_append (by simp only [aopnds, lk] <;> rfl) (ap_0 (by simp only [appT, ty37, ty9] <;> rfl) rfl (by simp (disch := first | assumption | omega | (simp only [nx] <;> omega) | fail) only [aCells, rowOf, hpl, k2, Value.cells] <;> rfl) (by decide) rfl)) rfl <| OSuf.aop tyOK rfl (zs (hv := by simp (disch := first | assumption | omega | (simp only [nx] <;> omega) | fail) only [aStore, ty37, writeRow, hpl, k2, Value.cells] <;> rfl)) rfl <| OSuf.nil <| BQ.normal <| ?_
      -- leaf: stop
      refine ⟨_, by (simp (disch := first | assumption | omega | (simp only [nx] <;> omega) | fail) only [AHeap.get_set_ne, AHeap.get_set_same, AHeap.get_new_ne, AHeap.next_set, AHeap.next_new]; rfl), rfl, ?_, ⟨.slice (some ⟨g.next + 1, 0, none⟩) 1 0, ?_, .some (x := g.next + 1) (by simp) ?_ ?_ ?_ ?_⟩, ?_, ?_, ?_⟩
      · simp only [AHeap.next_set, AHeap.next_new]; omega
      · simp (disch := first | assumption | omega | (simp only [nx] <;> omega) | fail) only [AHeap.get_set_ne, AHeap.get_set_same]; rfl
      · simp [e]
      · omega
      · simp only [AHeap.next_set, AHeap.next_new]; omega
      · simp (disch := first | assumption | omega | (simp only [nx] <;> omega) | fail) only [AHeap.get_set_ne, AHeap.get_new_at, AHeap.next_set, AHeap.next_new]; simp [e]; rfl
      · rw [AHeap.get_set_same, ← hLP]; rfl
      · simp (disch := first | assumption | omega | (simp only [nx] <;> omega) | fail) only [AHeap.get_set_ne, AHeap.get_new_ne, AHeap.next_set, AHeap.next_new]; exact k5
      · intro z hz; simp (disch := first | assumption | omega | (simp only [nx] <;> omega) | fail) only [AHeap.get_set_ne, AHeap.get_new_ne, AHeap.next_set, AHeap.next_new]; exact k6 z hz
    | @some x1 n1 ne e e1 e2 e3 =>
      have hc : cellsOf ((ys.map (·.1)).map enc) 0 (n1 * 1) = some ((ys.map (·.1)).map enc) := cellsOf_all (by rw [e]; simp)
      have hn1 : n1 ≤ 1000000 := by rw [e]; simpa using hlen
      refine W.block <| W.reg <| OSuf.aop tyOK rfl (zl (hv := by simp (disch := first | assumption | omega | (simp only [nx] <;> omega) | fail) only [aLoad, ty37, rowOf, hpl, k2, e3, Value.cells] <;> rfl)) rfl <| OSuf.aop tyOK rfl sm rfl <| OSuf.aop tyOK rfl (so_buildSlice (by simp only [aparts, lk] <;> rfl) (by simp only [aBuildSlice, ty37, ty9, k2, e3, Value.cells] <;> first | rfl | (simp only [tyall] <;> rfl) | (simp [tyall] <;> rfl))) rfl <| OSuf.aop tyOK rfl (so_append (by simp only [aopnds, lk] <;> rfl) (ap_u (by simp only [appT, ty37, ty9] <;> rfl) rfl (by simp (disch := first | assumption | omega | (simp only [nx] <;> omega) | fail) only [aCells, rowOf, hpl, k2, e3, Value.cells] <;> rfl) (by show (2 * (n1 + 1) + 256) * 16 ≤ _; omega) rfl (by simp (disch := first | assumption | omega | (simp only [nx] <;> omega) | fail) only [aCells, rowOf, hpl, k2, e3, Value.cells] <;> rfl) rfl hc)) rfl <| OSuf.aop tyOK rfl (zs (hv := by simp (disch := first | assumption | omega | (simp only [nx] <;> omega) | fail) only [aStore, ty37, writeRow, hpl, k2, e3, Value.cells] <;> rfl)) rfl <| OSuf.nil <| BQ.normal <| ?_
      -- leaf: stop
      refine ⟨_, by (simp (disch := first | assumption | omega | (simp only [nx] <;> omega) | fail) only [AHeap.get_set_ne, AHeap.get_set_same, AHeap.get_new_ne, AHeap.get_kill_ne, AHeap.next_set, AHeap.next_new, AHeap.next_kill]; rfl), rfl, ?_, ⟨.slice (some ⟨g.next + 1, 0, none⟩) (n1 + 1) 0, ?_, .some (x := g.next + 1) (by simp) ?_ ?_ ?_ ?_⟩, ?_, ?_, ?_⟩
      · simp only [AHeap.next_set, AHeap.next_new, AHeap.next_kill]; omega
      · simp (disch := first | assumption | omega | (simp only [nx] <;> omega) | fail) only [AHeap.get_set_ne, AHeap.get_set_same]; rfl
      · simp [e]
      · omega
      · simp only [AHeap.next_set, AHeap.next_new, AHeap.next_kill]; omega
      · simp (disch := first | assumption | omega | (simp only [nx] <;> omega) | fail) only [AHeap.get_set_ne, AHeap.get_new_at, AHeap.next_set, AHeap.next_new, AHeap.next_kill, List.map_append]; rfl
      · rw [AHeap.get_set_same, ← hLP]; rfl
      · simp (disch := first | assumption | omega | (simp only [nx] <;> omega) | fail) only [AHeap.get_set_ne, AHeap.get_new_ne, AHeap.get_kill_ne, AHeap.next_set, AHeap.next_new, AHeap.next_kill]; exact k5
      · intro z hz; simp (disch := first | assumption | omega | (simp only [nx] <;> omega) | fail) only [AHeap.get_set_ne, AHeap.get_new_ne, AHeap.get_kill_ne, AHeap.next_set, AHeap.next_new, AHeap.next_kill]; exact k6 z hz
  refine W.enter tyOK Tryz.func89 rfl rfl ?_
  simp only [entry]
  refine W.seq <| W.reg <| OSuf.aop tyOK rfl (zl (hv := by simp (disch := first | assumption | omega | (simp only [nx] <;> omega) | fail) only [aLoad, ty63, rowOf, hpl, hgq, hgm, Value.cells] <;> rfl)) rfl <| OSuf.aop tyOK rfl (so_range (by simp only [lk] <;> rfl) (by simp (disch := first | assumption | omega | (simp only [nx] <;> omega) | fail) only [aRange, ty63, hpl, hgq, hgm, Value.cells] <;> rfl)) rfl <| OSuf.nil <| SQ.normal ?_
  -- leaf: loop
  refine W.cut (fun L h2 => ∃ ys seen, ys.Perm l ∧ KSt h h2 LP m clock ys seen) (W.block (W.loop (fun n L h2 => ∃ ys seen, n + ys.length = l.length ∧ ys.Nodup ∧ (∀ y ∈ ys, y ∈ l) ∧ seen.toList = ys.map (·.2.2) ∧ KSt h h2 LP m clock ys seen ∧
      L = [(0, .func (.yield (h.next + 1)) #[] #[]), (5, P0 (h.next + 2))]) (n := l.length) ⟨[], #[], by simp, by simp, by simp, rfl, ⟨?_, ⟨_, ?_, .none rfl⟩, ?_, ?_, ?_⟩, rfl⟩ ?_ ?_)) ?_
  · simp only [AHeap.next_new]; omega
  · simp (disch := first | assumption | omega | (simp only [nx] <;> omega) | fail) only [AHeap.get_new_at, AHeap.get_new_ne, AHeap.next_new]
  · simp (disch := first | assumption | omega | (simp only [nx] <;> omega) | fail) only [AHeap.get_new_at, AHeap.get_new_ne, AHeap.next_new]
  · simp (disch := first | assumption | omega | (simp only [nx] <;> omega) | fail) only [AHeap.get_new_at, AHeap.get_new_ne, AHeap.next_new]
  · intro z hz; simp (disch := first | assumption | omega | (simp only [nx] <;> omega) | fail) only [AHeap.get_new_at, AHeap.get_new_ne, AHeap.next_new]
  · simp [HasA, Tr.get_put]
  · rintro n L h2 ⟨ys, seen, hn, hnd, hsub, hseen, hK, rfl⟩
    simp only [mkA]
    have hgm2 : h2.get m = some (.map (mkK enc l) clock) := by rw [hK.old m hm]; exact hgm
    have hc : (!seen.isEmpty && !(mkK enc l).isEmpty && (mkK enc l).all (fun e => decide (e.born ≥ clock))) = false := by
      cases l with
      | nil => simp [mkK]
      | cons x l =>
        have := hok.lt x List.mem_cons_self
        have e1 : decide (x.2.2 ≥ clock) = false := by simp; omega
        simp [mkK, e1]
    refine W.seq <| W.reg <| OSuf.next rfl (by simp only [lk] <;> rfl) hK.iter hgm2 hc (fun he => ⟨_, rfl, ?_⟩) (fun e he => ⟨_, rfl, ?_⟩)
    · skip
      refine OSuf.aopF tyOK rfl (ze (hv := by simp (disch := first | assumption | omega | (simp only [nx] <;> omega) | fail) only [aExtract, hpl] <;> rfl)) (fun _ => rfl) (by first | rfl | assumption | ((simp only [bl]) <;> first | done | assumption | omega) | (simp; done) | (simp; omega)) <| OSuf.nil <| SQ.normal ?_
      refine W.seq <| W.no (by simp only [lk] <;> rfl) <| CWp.exit <| SQ.exit <| LQ.exit <| BQ.exit <| ?_
      refine NQ.normal (L := []) trivial ⟨ys, seen, ?_, hK⟩
      exact all_seen hok hnd hsub hseen he
    · skip
      obtain ⟨x, hxl, hxs, rfl⟩ : ∃ x ∈ l, x.2.2 ∉ ys.map (·.2.2) ∧ e = ⟨enc x.1, x.2.1, x.2.2⟩ := by (simp only [left, mkK, List.mem_filter, List.mem_map] at he; obtain ⟨⟨x, hx, rfl⟩, h9⟩ := he; refine ⟨x, hx, ?_, rfl⟩; rw [← hseen]; simpa using h9)
      have hK2 : KSt h (h2.set (h.next + 2) (.mapIter (some m) clock (seen.push x.2.2) clock)) LP m clock ys (seen.push x.2.2) := iter_step hK
      have hfind : (mkK enc l).find? (fun e => e.born == x.2.2) = some ⟨enc x.1, x.2.1, x.2.2⟩ := find_born hok hxl
      have hy := yield _ ys _ x hK2 (by have := nodup_le hok hnd hsub; omega)
      refine OSuf.aopT tyOK rfl (ze (hv := by simp (disch := first | assumption | omega | (simp only [nx] <;> omega) | fail) only [aExtract, hpl] <;> rfl)) (fun _ => rfl) (by first | rfl | assumption | ((simp only [bl]) <;> first | done | assumption | omega) | (simp; done) | (simp; omega)) <| OSuf.nil <| SQ.normal ?_
      refine W.seq <| W.yes (by simp only [lk] <;> rfl) <| CWp.skip <| SQ.normal ?_
      refine W.block <| W.seq <| W.reg <| OSuf.aop tyOK rfl (so_entry (by simp only [lk] <;> rfl) (en_ok (AHeap.get_set_same _ _ _) (by simp (disch := first | assumption | omega | (simp only [nx] <;> omega) | fail) only [aCells, rowOf, hpl] <;> exact hgm2) hfind)) rfl <| OSuf.aop tyOK rfl (ze (hv := by simp (disch := first | assumption | omega | (simp only [nx] <;> omega) | fail) only [aExtract, hpl] <;> rfl)) rfl <| OSuf.aop tyOK rfl za rfl <| OSuf.nil <| SQ.normal ?_
      refine W.seq <| W.reg <| OSuf.aop tyOK rfl sm rfl <| OSuf.aop tyOK rfl sm rfl <| OSuf.vcall rfl (by simp only [lk] <;> rfl) (by simp only [aopnds, lk] <;> rfl) (hy) ?_
      rintro _ h3 ⟨rfl, hK3⟩
      refine ⟨_, rfl, ?_⟩
      refine OSuf.aopF tyOK rfl (so_not (by simp only [lk] <;> rfl)) (fun _ => rfl) rfl <| OSuf.nil <| SQ.normal ?_
      refine W.no (by simp only [lk] <;> rfl) <| CWp.skip <| BQ.normal <| ?_
      refine LQ.normal (m := n - 1) (L := [(0, .func (.yield (h.next + 1)) #[] #[]), (5, P0 (h.next + 2))]) ?_ ?_ ⟨ys ++ [x], seen.push x.2.2, ?_, ?_, ?_, ?_, hK3, rfl⟩
      · have := nodup_lt hok hnd hsub hxl (fun hx => hxs (List.mem_map.2 ⟨x, hx, rfl⟩)); omega
      · simp only [HasA, Tr.get_put, Nat.reduceEqDiff, reduceIte, and_self]
      · have := nodup_lt hok hnd hsub hxl (fun hx => hxs (List.mem_map.2 ⟨x, hx, rfl⟩)); simp; omega
      · exact List.nodup_append.2 ⟨hnd, by simp, fun a ha b hb => by simp at hb; subst hb; rintro rfl; exact hxs (List.mem_map.2 ⟨_, ha, rfl⟩)⟩
      · intro y hy; rcases List.mem_append.1 hy with h9 | h9
        · exact hsub y h9
        · simp at h9; subst h9; exact hxl
      · simp [hseen]
  rintro L a' h2 ha ⟨ys, seen, hperm, hK⟩
  refine FQ.normal (by simp only [aRet, Tryz.f89, aResults] <;> first | rfl | (simp only [tyall] <;> rfl) | (simp [tyall] <;> rfl)) ?_
  refine ⟨LP, .normal, hK.loop, by rw [← hLP]; rfl, by rw [← hLP]; rfl, ?_⟩
  obtain ⟨o, ho1, ho2⟩ := hK.out
  have hnx : h.next + 3 ≤ h2.next := hK.next
  refine BQ.normal <| SQ.normal ?_
  refine W.seq <| W.reg <| OSuf.aop tyOK rfl (zl (hv := by simp (disch := first | assumption | omega | (simp only [nx] <;> omega) | fail) only [aLoad, ty37, rowOf, hpl, ho1] <;> rfl)) rfl <| OSuf.aop tyOK rfl za rfl <| OSuf.nil <| SQ.normal ?_
  refine CWp.ret <| FQ.ret (by simp only [aRet, Tryz.f115, aResults, aResult, lk, Nat.reduceEqDiff, reduceIte] <;> first | rfl | (simp only [tyall] <;> rfl) | (simp [tyall] <;> rfl)) ?_
  -- leaf: end
  refine ⟨ys, hperm, ?_, fun z hz => ?_⟩
  · cases ho2 with
    | none e => exact .none e
    | some ne e h5 h6 h7 => exact .some ne e (by omega) h6 (by rw [AHeap.get_kill_ne (by simp only [AHeap.next_new]; omega)]; exact h7)
  · rw [AHeap.get_kill_ne (by simp only [AHeap.next_new]; omega)]; exact hK.old z hz
theorem collect_c (h : AHeap) (q m clock : Nat) (l : List (El × Value × Nat)) (hok : MapOK l clock) (hq : q < h.next) (hm : m < h.next) (hgq : h.get q = some (.cells [.map (some m)] 1)) (hgm : h.get m = some (.map (mkK enc l) clock)) (hbig : l.length ≤ 1000000) :
    FWp Tryz.prog 87 [.func (.func 89) #[] #[P0 q]] h fun u h' => ∃ ys : List (El × Value × Nat), ys.Perm l ∧ OutAt h' h.next (ys.map (·.1)) u ∧ (∀ z, z < h.next → h'.get z = h.get z) := by
  refine W.enter tyOK Tryz.func87 rfl rfl ?_
  simp only [entry]
  refine W.seq <| W.reg <| OSuf.aop tyOK rfl za rfl <| OSuf.nil <| SQ.normal ?_
  refine W.seq <| W.reg <| OSuf.aop tyOK rfl sm rfl <| OSuf.call rfl (by simp only [aopnds, lk] <;> rfl) en115 (append_c h q m clock l hok hq hm hgq hgm hbig) ?_
  rintro u h1 hK
  refine ⟨_, rfl, ?_⟩
  refine OSuf.aop tyOK rfl za rfl <| OSuf.nil <| SQ.normal ?_
  refine CWp.ret <| FQ.ret (by simp only [aRet, Tryz.f87, aResults, aResult, lk, Nat.reduceEqDiff, reduceIte] <;> first | rfl | (simp only [tyall] <;> rfl) | (simp [tyall] <;> rfl)) ?_
  -- leaf: end
  exact hK
theorem insertion_nil (h : AHeap) : FWp Tryz.prog 126 [.slice none 0 0, I64 0, I64 0] h fun u h' => u = .tuple #[] ∧ h' = h := by
  refine W.enter tyOK Tryz.func126 rfl rfl ?_
  simp only [entry]
  have w0 : IntKind.i64.wrap ((0 : Int) + 1) = 1 := by decide
  refine W.seq <| W.reg <| OSuf.aop tyOK rfl sm rfl <| OSuf.aop tyOK rfl (zb (hv := bi_w bi_add (by first | (simp only [w0] <;> rfl) | rfl))) rfl <| OSuf.aop tyOK rfl za rfl <| OSuf.nil <| SQ.normal ?_
  -- leaf: loop
  refine W.block (W.loop (fun n L h' => h' = h ∧ L = [(2, I64 0), (6, I64 1)]) (n := 0) ⟨rfl, rfl⟩ ?_ ?_)
  · simp [HasA, Tr.get_put]
  · rintro n L h1 ⟨rfl, rfl⟩
    simp only [mkA]
    refine W.seq <| W.seq <| W.reg <| OSuf.aop tyOK rfl sm rfl <| OSuf.aop tyOK rfl sm rfl <| OSuf.aopF tyOK rfl (zb (hv := bi_lss)) (fun _ => rfl) (by first | rfl | assumption | ((simp only [bl]) <;> first | done | assumption | omega) | (simp; done) | (simp; omega)) <| OSuf.nil <| SQ.normal ?_
    refine W.no (by simp only [lk] <;> rfl) <| CWp.exit <| SQ.exit <| LQ.exit <| BQ.exit <| FQ.normal (by simp only [aRet, Tryz.f126, aResults, aResult, lk, Nat.reduceEqDiff, reduceIte] <;> first | rfl | (simp only [tyall] <;> rfl) | (simp [tyall] <;> rfl)) ?_
    -- leaf: end
    exact ⟨rfl, rfl⟩
theorem pdq_nil (h : AHeap) (lim : Int) : FWp Tryz.prog 116 [.slice none 0 0, I64 0, I64 0, I64 lim] h fun u h' => u = .tuple #[] ∧ h' = h := by
  refine W.enter tyOK Tryz.func116 rfl rfl ?_
  simp only [entry]
  have w0 : IntKind.i64.wrap ((0 : Int) - 0) = 0 := by decide
  refine W.seq <| W.reg <| OSuf.aopT tyOK rfl za (fun _ => rfl) rfl <| OSuf.nil <| SQ.normal ?_
  refine W.seq <| W.reg <| OSuf.aopT tyOK rfl za (fun _ => rfl) rfl <| OSuf.nil <| SQ.normal ?_
  -- leaf: loop
  refine W.block (W.loop (fun n L h' => h' = h ∧ L = [(0, .slice none 0 0), (1, I64 0), (2, I64 0)]) (n := 0) ⟨rfl, rfl⟩ ?_ ?_)
  · simp [HasA, Tr.get_put]
  · rintro n L h1 ⟨rfl, rfl⟩
    simp only [mkA]
    refine W.block <| W.seq <| W.reg <| OSuf.aop tyOK rfl sm rfl <| OSuf.aop tyOK rfl sm rfl <| OSuf.aop tyOK rfl (zb (hv := bi_w bi_sub (by first | (simp only [w0] <;> rfl) | rfl))) rfl <| OSuf.aop tyOK rfl za rfl <| OSuf.nil <| SQ.normal ?_
    refine W.seq <| W.seq <| W.reg <| OSuf.aop tyOK rfl sm rfl <| OSuf.aopT tyOK rfl (zb (hv := bi_leq)) (fun _ => rfl) (by first | rfl | assumption | ((simp only [bl]) <;> first | done | assumption | omega) | (simp; done) | (simp; omega)) <| OSuf.nil <| SQ.normal ?_
    refine W.yes (by simp only [lk] <;> rfl) <| W.seq <| W.reg <| OSuf.aop tyOK rfl sm rfl <| OSuf.aop tyOK rfl sm rfl <| OSuf.aop tyOK rfl sm rfl <| OSuf.callD rfl (by simp only [aopnds, lk] <;> rfl) en126 (insertion_nil _) rfl <| OSuf.nil <| SQ.normal ?_
    refine CWp.ret <| SQ.ret <| BQ.ret <| LQ.ret <| BQ.ret <| FQ.ret (by simp only [aRet, Tryz.f116, aResults, aResult, lk, Nat.reduceEqDiff, reduceIte] <;> first | rfl | (simp only [tyall] <;> rfl) | (simp [tyall] <;> rfl)) ?_
    -- leaf: end
    exact ⟨rfl, rfl⟩
theorem sort_nil (h : AHeap) : FWp Tryz.prog 88 [.slice none 0 0] h fun u h' => u = .tuple #[] ∧ h' = h := by
  have w1 : IntKind.u64.wrap ((0 : Nat) : Int) = ((0 : Nat) : Int) := by decide
  refine W.enter tyOK Tryz.func88 rfl rfl ?_
  simp only [entry]
  refine W.seq <| W.reg <| OSuf.aop tyOK rfl sm rfl <| OSuf.aop tyOK rfl (so_len (by simp only [aopnds, lk] <;> rfl) (by simp (disch := first | assumption | omega | (simp only [nx] <;> omega) | fail) only [aLenOf, ty37, hpl] <;> rfl)) rfl <| OSuf.aop tyOK rfl za rfl <| OSuf.nil <| SQ.normal ?_
  refine W.reg <| OSuf.aop tyOK rfl sm rfl <| OSuf.aop tyOK rfl sm rfl <| OSuf.aop tyOK rfl sm rfl <| OSuf.aop tyOK rfl (so_conw (so_conv tyOK (by simp only [lk] <;> rfl) ty3 ⟨_, rfl⟩ ty94 rfl) (by first | (simp only [w1] <;> rfl) | rfl)) rfl <| OSuf.callD rfl (by simp only [aopnds, lk] <;> rfl) en83 (len_c _ 0 (by omega)) rfl <| OSuf.callD rfl (by simp only [aopnds, lk] <;> rfl) en116 (pdq_nil _ _) rfl <| OSuf.nil <| FQ.normal (by simp only [aRet, Tryz.f88, aResults, aResult, lk, Nat.reduceEqDiff, reduceIte] <;> first | rfl | (simp only [tyall] <;> rfl) | (simp [tyall] <;> rfl)) ?_
  -- leaf: end
  exact ⟨rfl, rfl⟩
theorem sorted_eq {d d' : Array El} {ks : List El} (hp : PermIn 0 d.size d d') (hs : SortedIn lt 0 d.size d') (hk : ks.Perm d.toList) (hks : ks.Pairwise (fun x y => lt y x = false)) : d'.toList = ks := by
  have hu : ∀ x y : El, lt x y = false → lt y x = false → x = y := fun x y h1 h2 => by simp only [lt, ltStr, decide_eq_false_iff_not, List.not_lt] at h1 h2; exact List.le_antisymm h2 h1
  have e1 := sorted_unique_holds (lt := lt) swo hu d d' hp hs
  have hsz : ks.length = d.size := by rw [hk.length_eq]; simp
  have e2 := sorted_unique_holds (lt := lt) swo hu d ks.toArray ⟨by simp [hsz], fun i hi => by
      rcases hi with hi | hi
      · omega
      · rw [getElem!_neg _ i (by simp; omega), getElem!_neg _ i (by omega)], by
      have e3 : (d.extract 0 d.size).toList = d.toList := by simp
      have e4 : (ks.toArray.extract 0 d.size).toList = ks := by simp [← hsz]
      rw [e3, e4]; exact hk⟩ (fun i j _ hij hj => by
      have := List.pairwise_iff_getElem.1 hks i j (by omega) (by omega) hij
      rw [getElem!_pos _ j (by simp; omega), getElem!_pos _ i (by simp; omega)]
      simpa using this)
  rw [e1, ← e2]
theorem sorted_c (h : AHeap) (q m clock : Nat) (l : List (El × Value × Nat)) (ks : List El) (hok : MapOK l clock) (hq : q < h.next) (hm : m < h.next) (hgq : h.get q = some (.cells [.map (some m)] 1)) (hgm : h.get m = some (.map (mkK enc l) clock)) (hbig : l.length ≤ 1000000)
    (hk : ks.Perm (l.map (·.1))) (hks : ks.Pairwise (fun x y => lt y x = false)) :
    FWp Tryz.prog 51 [.func (.func 89) #[] #[P0 q]] h fun u h' => (ks = [] ∧ u = .slice none 0 0 ∧ h' = h) ∨ (ks ≠ [] ∧ u = .slice (some ⟨h.next, 0, none⟩) ks.length 0 ∧ h' = h.new (.cells (ks.map enc) 1)) := by
  by_cases hnil : ks = []
  · have hl : l = [] := by
      subst hnil
      have := hk.length_eq
      simpa using this.symm
    have : FWp Tryz.prog 51 [.func (.func 89) #[] #[P0 q]] h fun u h' => u = .slice none 0 0 ∧ h' = h := by
      refine FWp.gcs (.flat rfl) ?_
      refine W.enter tyOK Tryz.func51 rfl rfl ?_
      simp only [entry]
      refine W.seq <| W.reg <| OSuf.aop tyOK rfl za rfl <| OSuf.nil <| SQ.normal ?_
      refine W.seq <| W.reg <| OSuf.aop tyOK rfl sm rfl <| OSuf.call rfl (by simp only [aopnds, lk] <;> rfl) en87 (collect_c h q m clock l hok hq hm hgq hgm hbig) ?_
      rintro u h1 ⟨ys, hp, ho, hf⟩
      obtain rfl : ys = [] := by (subst hl; exact hp.eq_nil)
      obtain rfl : u = .slice none 0 0 := by (cases ho with | none => rfl | some ne _ _ _ _ => exact (ne rfl).elim)
      refine ⟨_, rfl, ?_⟩
      refine OSuf.aop tyOK rfl za rfl <| OSuf.nil <| SQ.normal ?_
      refine W.seq <| W.reg <| OSuf.aop tyOK rfl sm rfl <| OSuf.callD rfl (by simp only [aopnds, lk] <;> rfl) en88 (sort_nil _) rfl <| OSuf.nil <| SQ.normal ?_
      refine W.seq <| W.reg <| OSuf.aop tyOK rfl sm rfl <| OSuf.aop tyOK rfl za rfl <| OSuf.nil <| SQ.normal ?_
      refine CWp.ret <| FQ.ret (by simp only [aRet, Tryz.f51, aResults, aResult, lk, Nat.reduceEqDiff, reduceIte] <;> first | rfl | (simp only [tyall] <;> rfl) | (simp [tyall] <;> rfl)) ?_
      -- leaf: end
      exact ⟨rfl, fun r o hr ho => by rw [hf r hr]; exact ho⟩
    exact this.mono fun u h' hK => .inl ⟨hnil, hK⟩
  · have : FWp Tryz.prog 51 [.func (.func 89) #[] #[P0 q]] h fun u h' => u = .slice (some ⟨h.next, 0, none⟩) ks.length 0 ∧ h' = h.new (.cells (ks.map enc) 1) := by
      refine FWp.gcNew (fun v hv => ?_) ?_
      · obtain ⟨y, _, rfl⟩ := List.mem_map.1 hv
        exact .flat rfl
      refine W.enter tyOK Tryz.func51 rfl rfl ?_
      simp only [entry]
      refine W.seq <| W.reg <| OSuf.aop tyOK rfl za rfl <| OSuf.nil <| SQ.normal ?_
      refine W.seq <| W.reg <| OSuf.aop tyOK rfl sm rfl <| OSuf.call rfl (by simp only [aopnds, lk] <;> rfl) en87 (collect_c h q m clock l hok hq hm hgq hgm hbig) ?_
      rintro u h1 ⟨ys, hp, ho, hf⟩
      have hys : ¬ ys.map (·.1) = [] := fun e => hnil (by (have e2 : ys = [] := by simpa using e); subst e2; have := hk.length_eq; have := hp.length_eq; simp_all)
      obtain ⟨x, n, rfl, hn, hx1, hx2, hx3⟩ : ∃ x n, u = .slice (some ⟨x, 0, none⟩) n 0 ∧ n = (ys.map (·.1)).length ∧ h.next ≤ x ∧ x < h1.next ∧ h1.get x = some (row (ys.map (·.1)).toArray) := by (cases ho with | none e => exact (hys e).elim | some ne e a b c => exact ⟨_, _, rfl, e, a, b, c⟩)
      have hsz : n < 1000000000 := by (rw [hn, List.length_map, hp.length_eq]; omega)
      have hcall := sort_c h1 x n hx2 hsz (ys.map (·.1)).toArray (by simp [hn])
      rw [AHeap.set_self hx3] at hcall
      refine ⟨_, rfl, ?_⟩
      refine OSuf.aop tyOK rfl za rfl <| OSuf.nil <| SQ.normal ?_
      refine W.seq <| W.reg <| OSuf.aop tyOK rfl sm rfl <| OSuf.call rfl (by simp only [aopnds, lk] <;> rfl) en88 (hcall) ?_
      rintro _ _ ⟨rfl, d', rfl, hpi, hsi⟩
      refine ⟨_, rfl, ?_⟩
      refine OSuf.nil <| SQ.normal ?_
      refine W.seq <| W.reg <| OSuf.aop tyOK rfl sm rfl <| OSuf.aop tyOK rfl za rfl <| OSuf.nil <| SQ.normal ?_
      refine CWp.ret <| FQ.ret (by simp only [aRet, Tryz.f51, aResults, aResult, lk, Nat.reduceEqDiff, reduceIte] <;> first | rfl | (simp only [tyall] <;> rfl) | (simp [tyall] <;> rfl)) ?_
      -- leaf: end
      have hd : d'.toList = ks := by
        have hn' : n = (ys.map (·.1)).toArray.size := by simp [hn]
        rw [hn'] at hpi hsi
        exact sorted_eq hpi hsi (hk.trans (hp.map _).symm) hks
      have hlen : ks.length = n := by rw [hk.length_eq, hn, List.length_map, List.length_map, hp.length_eq]
      refine ⟨x, by rw [hlen], hx1, by rw [AHeap.get_set_same, ← hd], fun r p hr hg => ?_⟩
      rw [AHeap.get_set_ne (by omega), hf r hr]; exact hg
    exact this.mono fun u h' hK => .inr ⟨hnil, hK⟩
end Go.Proofs.YtebheelmgcggmaaGreat.SortS.KB
namespace Go.Proofs.YtebheelmgcggmaaGreat.SortS.KR
open Go.Ab Go.Sort
set_option linter.unusedSimpArgs false
set_option linter.unusedVariables false
set_option maxRecDepth 10000
set_option maxHeartbeats 8000000
theorem keys_c (h : AHeap) (m : Nat) : FWp Tryz.prog 55 [.map (some m)] h fun u h' => u = .func (.func 91) #[] #[P0 h.next] ∧ h' = h.new (.cells [.map (some m)] 1) := by
  refine W.enter tyOK Tryz.func55 rfl rfl ?_
  simp only [entry]
  refine W.seq <| W.reg <| OSuf.aop tyOK rfl (so_box (by simp only [lk] <;> rfl)) rfl <| OSuf.aop tyOK rfl za rfl <| OSuf.nil <| SQ.normal ?_
  refine W.seq <| W.reg <| OSuf.aop tyOK rfl (so_makeFunc rfl (by simp only [aopnds, lk] <;> rfl) (by simp only [aopnds, lk] <;> rfl)) rfl <| OSuf.aop tyOK rfl za rfl <| OSuf.nil <| SQ.normal ?_
  refine CWp.ret <| FQ.ret (by simp only [aRet, Tryz.f55, aResults, aResult, lk, Nat.reduceEqDiff, reduceIte] <;> first | rfl | (simp only [tyall] <;> rfl) | (simp [tyall] <;> rfl)) ?_
  -- leaf: end
  exact ⟨rfl, rfl⟩
inductive OutAt (h : AHeap) (lo : Nat) (ks : List El) : Value → Prop
  | none (e : ks = []) : OutAt h lo ks (.slice none 0 0)
  | some {x n : Nat} (hne : ks ≠ []) (e : n = ks.length) (hlo : lo ≤ x) (hx : x < h.next) (hg : h.get x = .some (.cells (ks.map enc) 1)) : OutAt h lo ks (.slice (.some ⟨x, 0, .none⟩) n 0)
structure KSt (h0 h : AHeap) (LP : ALoop) (m clock : Nat) (ys : List (El × Value × Nat)) (seen : Array Nat) : Prop where
  next : h0.next + 3 ≤ h.next
  out : ∃ o, h.get h0.next = some (.cells [o] 1) ∧ OutAt h (h0.next + 3) (ys.map (·.1)) o
  loop : h.get (h0.next + 1) = some (.loop LP)
  iter : h.get (h0.next + 2) = some (.mapIter (some m) clock seen clock)
  old : ∀ z, z < h0.next → h.get z = h0.get z
theorem iter_step {h g : AHeap} {LP : ALoop} {m clock : Nat} {ys : List (El × Value × Nat)} {seen seen' : Array Nat} (hK : KSt h g LP m clock ys seen) : KSt h (g.set (h.next + 2) (.mapIter (some m) clock seen' clock)) LP m clock ys seen' := by
  obtain ⟨h1, ⟨o, h2, h3⟩, h4, h5, h6⟩ := hK
  refine ⟨h1, ⟨o, ?_, ?_⟩, ?_, AHeap.get_set_same _ _ _, ?_⟩
  · rw [AHeap.get_set_ne (by omega)]; exact h2
  · cases h3 with
    | none e => exact .none e
    | some ne e a b c => exact .some ne e a b (by rw [AHeap.get_set_ne (by omega)]; exact c)
  · rw [AHeap.get_set_ne (by omega)]; exact h4
  · intro z hz; rw [AHeap.get_set_ne (by omega)]; exact h6 z hz
theorem find_born {l : List (El × Value × Nat)} {clock : Nat} (hok : MapOK l clock) {x : El × Value × Nat} (hx : x ∈ l) : (mkK enc l).find? (fun e => e.born == x.2.2) = some ⟨enc x.1, x.2.1, x.2.2⟩ := by
  have key : ∀ l' : List (El × Value × Nat), (∀ y ∈ l', y ∈ l) → x ∈ l' → (mkK enc l').find? (fun e => e.born == x.2.2) = some ⟨enc x.1, x.2.1, x.2.2⟩ := by
    intro l'
    induction l' with
    | nil => intro _ h; cases h
    | cons y l' ih =>
      intro hs hm
      simp only [mkK, List.map_cons, List.find?_cons]
      by_cases hb : y.2.2 = x.2.2
      · have := hok.inj y (hs y List.mem_cons_self) x hx hb
        subst this; simp
      · have e1 : (y.2.2 == x.2.2) = false := by simpa using hb
        rw [e1]
        cases hm with
        | head => exact (hb rfl).elim
        | tail _ h9 => exact ih (fun z hz => hs z (List.mem_cons_of_mem _ hz)) h9
  exact key l (fun _ h => h) hx
theorem nat_le : ∀ (a b : List Nat), a.Nodup → (∀ x ∈ a, x ∈ b) → a.length ≤ b.length
  | [], b, _, _ => Nat.zero_le _
  | x :: a, b, hn, hs => by
    have hx := hs x List.mem_cons_self
    have hn' := List.nodup_cons.1 hn
    have := nat_le a (b.erase x) hn'.2 (fun y hy => (List.mem_erase_of_ne (fun e => hn'.1 (by rw [← e]; exact hy))).2 (hs y (List.mem_cons_of_mem _ hy)))
    rw [List.length_erase_of_mem hx] at this
    have : 0 < b.length := List.length_pos_of_mem hx
    simp; omega
theorem nodup_le {l ys : List (El × Value × Nat)} {clock : Nat} (hok : MapOK l clock) (hnd : ys.Nodup) (hsub : ∀ y ∈ ys, y ∈ l) : ys.length ≤ l.length := by
  have h1 : (ys.map (·.2.2)).Nodup := by
    have : ∀ zs : List (El × Value × Nat), zs.Nodup → (∀ y ∈ zs, y ∈ l) → (zs.map (·.2.2)).Nodup := by
      intro zs
      induction zs with
      | nil => intro _ _; simp
      | cons z zs ih =>
        intro hn hs
        have hn' := List.nodup_cons.1 hn
        simp only [List.map_cons, List.nodup_cons]
        refine ⟨fun hm => ?_, ih hn'.2 fun y hy => hs y (List.mem_cons_of_mem _ hy)⟩
        obtain ⟨y, hy, hb⟩ := List.mem_map.1 hm
        have := hok.inj y (hs y (List.mem_cons_of_mem _ hy)) z (hs z List.mem_cons_self) hb
        subst this; exact hn'.1 hy
    exact this ys hnd hsub
  have := nat_le (ys.map (·.2.2)) (l.map (·.2.2)) h1 (fun x hx => by
    obtain ⟨y, hy, rfl⟩ := List.mem_map.1 hx
    exact List.mem_map.2 ⟨y, hsub y hy, rfl⟩)
  simpa using this
theorem nodup_lt {l ys : List (El × Value × Nat)} {clock : Nat} (hok : MapOK l clock) {x : El × Value × Nat} (hnd : ys.Nodup) (hsub : ∀ y ∈ ys, y ∈ l) (hx : x ∈ l) (hn : x ∉ ys) : ys.length < l.length := by
  have h1 : (x :: ys).Nodup := List.nodup_cons.2 ⟨hn, hnd⟩
  have := nodup_le hok h1 (fun y hy => by cases hy with | head => exact hx | tail _ h9 => exact hsub y h9)
  simp at this; omega
theorem all_seen {l ys : List (El × Value × Nat)} {clock : Nat} {seen : Array Nat} (hok : MapOK l clock) (hnd : ys.Nodup) (hsub : ∀ y ∈ ys, y ∈ l) (hseen : seen.toList = ys.map (·.2.2)) (he : (left (mkK enc l) seen).filter (fun e => decide (e.born < clock)) = []) : ys.Perm l := by
  refine (List.perm_ext_iff_of_nodup hnd hok.nodup).2 fun x => ⟨hsub x, fun hx => ?_⟩
  have h1 : (⟨enc x.1, x.2.1, x.2.2⟩ : AEnt) ∈ mkK enc l := List.mem_map.2 ⟨x, hx, rfl⟩
  have h2 := List.filter_eq_nil_iff.1 he
  by_cases hc : x.2.2 ∈ seen.toList
  · rw [hseen] at hc
    obtain ⟨y, hy, hb⟩ := List.mem_map.1 hc
    have := hok.inj y (hsub y hy) x hx hb
    subst this; exact hy
  · exfalso
    refine h2 ⟨enc x.1, x.2.1, x.2.2⟩ ?_ (by simpa using hok.lt x hx)
    simp only [left, List.mem_filter]
    exact ⟨h1, by simpa using hc⟩
theorem append_c (h : AHeap) (q m clock : Nat) (l : List (El × Value × Nat)) (hok : MapOK l clock) (hq : q < h.next) (hm : m < h.next) (hgq : h.get q = some (.cells [.map (some m)] 1)) (hgm : h.get m = some (.map (mkK enc l) clock)) (hbig : l.length ≤ 1000000) :
    FWp Tryz.prog 115 [.slice none 0 0, .func (.func 91) #[] #[P0 q]] h fun u h' => ∃ ys : List (El × Value × Nat), ys.Perm l ∧ OutAt h' h.next (ys.map (·.1)) u ∧ (∀ z, z < h.next → h'.get z = h.get z) := by
  refine W.enter tyOK Tryz.func115 rfl rfl ?_
  simp only [entry]
  refine W.seq <| W.reg <| OSuf.aop tyOK rfl (so_box (by simp only [lk] <;> rfl)) rfl <| OSuf.aop tyOK rfl za rfl <| OSuf.nil <| SQ.normal ?_
  refine W.seq <| W.seq <| W.reg <| OSuf.aop tyOK rfl sm rfl <| OSuf.nil <| SQ.normal ?_
  -- leaf: loop
  refine W.block (CWp.rangeFunc (by simp only [aopnd, Tr.get_put, Nat.reduceEqDiff, reduceIte] <;> rfl) (fun l hl => by cases hl) (VWp.func en91 ?_))
  show FWp _ _ [_, _] _ _
  generalize hLP : (ALoop.mk _ _ _ _ _ _ _ _) = LP
  have yield : ∀ (g : AHeap) (ys : List (El × Value × Nat)) (sn : Array Nat) (x : El × Value × Nat), KSt h g LP m clock ys sn → ys.length ≤ 1000000 →
      VWp Tryz.prog (.func (.yield (h.next + 1)) #[] #[]) [enc x.1] g fun u h3 => u = .bool true ∧ KSt h h3 LP m clock (ys ++ [x]) sn := by
    intro g ys sn x hK hlen
    obtain ⟨k1, ⟨o, k2, k3⟩, k4, k5, k6⟩ := hK
    have hl := k4
    rw [← hLP] at hl
    refine VWp.yield hl rfl ?_
    refine W.reg <| OSuf.aop tyOK rfl za rfl <| OSuf.nil <| ?_
    -- leaf: stop
    refine ⟨rfl, _, hl, rfl, ?_⟩
    cases k3 with
    | none e =>
      refine W.block <| W.reg <| OSuf.aop tyOK rfl (zl (hv := by simp (disch := first | assumption | omega | (simp only [nx] <;> omega) | fail) only [aLoad, ty37, rowOf, hpl, k2, Value.cells] <;> rfl)) rfl <| OSuf.aop tyOK rfl sm rfl <| OSuf.aop tyOK rfl (so_buildSlice (by simp only [aparts, lk] <;> rfl) (by simp only [aBuildSlice, ty37, ty9, k2, Value.cells] <;> first | rfl | (simp only [tyall] <;> rfl) | (simp [tyall] <;> rfl))) rfl <| OSuf.aop tyOK rfl (so_append (by simp only [aopnds, lk] <;> rfl) (ap_0 (by simp only [appT, ty37, ty9] <;> rfl) rfl (by simp (disch := first | assumption | omega | (simp only [nx] <;> omega) | fail) only [aCells, rowOf, hpl, k2, Value.cells] <;> rfl) (by decide) rfl)) rfl <| OSuf.aop tyOK rfl (zs (hv := by simp (disch := first | assumption | omega | (simp only [nx] <;> omega) | fail) only [aStore, ty37, writeRow, hpl, k2, Value.cells] <;> rfl)) rfl <| OSuf.nil <| BQ.normal <| ?_
      -- leaf: stop
      refine ⟨_, by (simp (disch := first | assumption | omega | (simp only [nx] <;> omega) | fail) only [AHeap.get_set_ne, AHeap.get_set_same, AHeap.get_new_ne, AHeap.next_set, AHeap.next_new]; rfl), rfl, ?_, ⟨.slice (some ⟨g.next + 1, 0, none⟩) 1 0, ?_, .some (x := g.next + 1) (by simp) ?_ ?_ ?_ ?_⟩, ?_, ?_, ?_⟩
      · simp only [AHeap.next_set, AHeap.next_new]; omega
      · simp (disch := first | assumption | omega | (simp only [nx] <;> omega) | fail) only [AHeap.get_set_ne, AHeap.get_set_same]; rfl
      · simp [e]
      · omega
      · simp only [AHeap.next_set, AHeap.next_new]; omega
      · simp (disch := first | assumption | omega | (simp only [nx] <;> omega) | fail) only [AHeap.get_set_ne, AHeap.get_new_at, AHeap.next_set, AHeap.next_new]; simp [e]; rfl
      · rw [AHeap.get_set_same, ← hLP]; rfl
      · simp (disch := first | assumption | omega | (simp only [nx] <;> omega) | fail) only [AHeap.get_set_ne, AHeap.get_new_ne, AHeap.next_set, AHeap.next_new]; exact k5
      · intro z hz; simp (disch := first | assumption | omega | (simp only [nx] <;> omega) | fail) only [AHeap.get_set_ne, AHeap.get_new_ne, AHeap.next_set, AHeap.next_new]; exact k6 z hz
    | @some x1 n1 ne e e1 e2 e3 =>
      have hc : cellsOf ((ys.map (·.1)).map enc) 0 (n1 * 1) = some ((ys.map (·.1)).map enc) := cellsOf_all (by rw [e]; simp)
      have hn1 : n1 ≤ 1000000 := by rw [e]; simpa using hlen
      refine W.block <| W.reg <| OSuf.aop tyOK rfl (zl (hv := by simp (disch := first | assumption | omega | (simp only [nx] <;> omega) | fail) only [aLoad, ty37, rowOf, hpl, k2, e3, Value.cells] <;> rfl)) rfl <| OSuf.aop tyOK rfl sm rfl <| OSuf.aop tyOK rfl (so_buildSlice (by simp only [aparts, lk] <;> rfl) (by simp only [aBuildSlice, ty37, ty9, k2, e3, Value.cells] <;> first | rfl | (simp only [tyall] <;> rfl) | (simp [tyall] <;> rfl))) rfl <| OSuf.aop tyOK rfl (so_append (by simp only [aopnds, lk] <;> rfl) (ap_u (by simp only [appT, ty37, ty9] <;> rfl) rfl (by simp (disch := first | assumption | omega | (simp only [nx] <;> omega) | fail) only [aCells, rowOf, hpl, k2, e3, Value.cells] <;> rfl) (by show (2 * (n1 + 1) + 256) * 16 ≤ _; omega) rfl (by simp (disch := first | assumption | omega | (simp only [nx] <;> omega) | fail) only [aCells, rowOf, hpl, k2, e3, Value.cells] <;> rfl) rfl hc)) rfl <| OSuf.aop tyOK rfl (zs (hv := by simp (disch := first | assumption | omega | (simp only [nx] <;> omega) | fail) only [aStore, ty37, writeRow, hpl, k2, e3, Value.cells] <;> rfl)) rfl <| OSuf.nil <| BQ.normal <| ?_
      -- leaf: stop
      refine ⟨_, by (simp (disch := first | assumption | omega | (simp only [nx] <;> omega) | fail) only [AHeap.get_set_ne, AHeap.get_set_same, AHeap.get_new_ne, AHeap.get_kill_ne, AHeap.next_set, AHeap.next_new, AHeap.next_kill]; rfl), rfl, ?_, ⟨.slice (some ⟨g.next + 1, 0, none⟩) (n1 + 1) 0, ?_, .some (x := g.next + 1) (by simp) ?_ ?_ ?_ ?_⟩, ?_, ?_, ?_⟩
      · simp only [AHeap.next_set, AHeap.next_new, AHeap.next_kill]; omega
      · simp (disch := first | assumption | omega | (simp only [nx] <;> omega) | fail) only [AHeap.get_set_ne, AHeap.get_set_same]; rfl
      · simp [e]
      · omega
      · simp only [AHeap.next_set, AHeap.next_new, AHeap.next_kill]; omega
      · simp (disch := first | assumption | omega | (simp only [nx] <;> omega) | fail) only [AHeap.get_set_ne, AHeap.get_new_at, AHeap.next_set, AHeap.next_new, AHeap.next_kill, List.map_append]; rfl
      · rw [AHeap.get_set_same, ← hLP]; rfl
      · simp (disch := first | assumption | omega | (simp only [nx] <;> omega) | fail) only [AHeap.get_set_ne, AHeap.get_new_ne, AHeap.get_kill_ne, AHeap.next_set, AHeap.next_new, AHeap.next_kill]; exact k5
      · intro z hz; simp (disch := first | assumption | omega | (simp only [nx] <;> omega) | fail) only [AHeap.get_set_ne, AHeap.get_new_ne, AHeap.get_kill_ne, AHeap.next_set, AHeap.next_new, AHeap.next_kill]; exact k6 z hz
  refine W.enter tyOK Tryz.func91 rfl rfl ?_
  simp only [entry]
  refine W.seq <| W.reg <| OSuf.aop tyOK rfl (zl (hv := by simp (disch := first | assumption | omega | (simp only [nx] <;> omega) | fail) only [aLoad, ty68, rowOf, hpl, hgq, hgm, Value.cells] <;> rfl)) rfl <| OSuf.aop tyOK rfl (so_range (by simp only [lk] <;> rfl) (by simp (disch := first | assumption | omega | (simp only [nx] <;> omega) | fail) only [aRange, ty68, hpl, hgq, hgm, Value.cells] <;> rfl)) rfl <| OSuf.nil <| SQ.normal ?_
  -- leaf: loop
  refine W.cut (fun L h2 => ∃ ys seen, ys.Perm l ∧ KSt h h2 LP m clock ys seen) (W.block (W.loop (fun n L h2 => ∃ ys seen, n + ys.length = l.length ∧ ys.Nodup ∧ (∀ y ∈ ys, y ∈ l) ∧ seen.toList = ys.map (·.2.2) ∧ KSt h h2 LP m clock ys seen ∧
      L = [(0, .func (.yield (h.next + 1)) #[] #[]), (5, P0 (h.next + 2))]) (n := l.length) ⟨[], #[], by simp, by simp, by simp, rfl, ⟨?_, ⟨_, ?_, .none rfl⟩, ?_, ?_, ?_⟩, rfl⟩ ?_ ?_)) ?_
  · simp only [AHeap.next_new]; omega
  · simp (disch := first | assumption | omega | (simp only [nx] <;> omega) | fail) only [AHeap.get_new_at, AHeap.get_new_ne, AHeap.next_new]
  · simp (disch := first | assumption | omega | (simp only [nx] <;> omega) | fail) only [AHeap.get_new_at, AHeap.get_new_ne, AHeap.next_new]
  · simp (disch := first | assumption | omega | (simp only [nx] <;> omega) | fail) only [AHeap.get_new_at, AHeap.get_new_ne, AHeap.next_new]
  · intro z hz; simp (disch := first | assumption | omega | (simp only [nx] <;> omega) | fail) only [AHeap.get_new_at, AHeap.get_new_ne, AHeap.next_new]
  · simp [HasA, Tr.get_put]
  · rintro n L h2 ⟨ys, seen, hn, hnd, hsub, hseen, hK, rfl⟩
    simp only [mkA]
    have hgm2 : h2.get m = some (.map (mkK enc l) clock) := by rw [hK.old m hm]; exact hgm
    have hc : (!seen.isEmpty && !(mkK enc l).isEmpty && (mkK enc l).all (fun e => decide (e.born ≥ clock))) = false := by
      cases l with
      | nil => simp [mkK]
      | cons x l =>
        have := hok.lt x List.mem_cons_self
        have e1 : decide (x.2.2 ≥ clock) = false := by simp; omega
        simp [mkK, e1]
    refine W.seq <| W.reg <| OSuf.next rfl (by simp only [lk] <;> rfl) hK.iter hgm2 hc (fun he => ⟨_, rfl, ?_⟩) (fun e he => ⟨_, rfl, ?_⟩)
    · skip
      refine OSuf.aopF tyOK rfl (ze (hv := by simp (disch := first | assumption | omega | (simp only [nx] <;> omega) | fail) only [aExtract, hpl] <;> rfl)) (fun _ => rfl) (by first | rfl | assumption | ((simp only [bl]) <;> first | done | assumption | omega) | (simp; done) | (simp; omega)) <| OSuf.nil <| SQ.normal ?_
      refine W.seq <| W.no (by simp only [lk] <;> rfl) <| CWp.exit <| SQ.exit <| LQ.exit <| BQ.exit <| ?_
      refine NQ.normal (L := []) trivial ⟨ys, seen, ?_, hK⟩
      exact all_seen hok hnd hsub hseen he
    · skip
      obtain ⟨x, hxl, hxs, rfl⟩ : ∃ x ∈ l, x.2.2 ∉ ys.map (·.2.2) ∧ e = ⟨enc x.1, x.2.1, x.2.2⟩ := by (simp only [left, mkK, List.mem_filter, List.mem_map] at he; obtain ⟨⟨x, hx, rfl⟩, h9⟩ := he; refine ⟨x, hx, ?_, rfl⟩; rw [← hseen]; simpa using h9)
      have hK2 : KSt h (h2.set (h.next + 2) (.mapIter (some m) clock (seen.push x.2.2) clock)) LP m clock ys (seen.push x.2.2) := iter_step hK
      have hfind : (mkK enc l).find? (fun e => e.born == x.2.2) = some ⟨enc x.1, x.2.1, x.2.2⟩ := find_born hok hxl
      have hy := yield _ ys _ x hK2 (by have := nodup_le hok hnd hsub; omega)
      refine OSuf.aopT tyOK rfl (ze (hv := by simp (disch := first | assumption | omega | (simp only [nx] <;> omega) | fail) only [aExtract, hpl] <;> rfl)) (fun _ => rfl) (by first | rfl | assumption | ((simp only [bl]) <;> first | done | assumption | omega) | (simp; done) | (simp; omega)) <| OSuf.nil <| SQ.normal ?_
      refine W.seq <| W.yes (by simp only [lk] <;> rfl) <| CWp.skip <| SQ.normal ?_
      refine W.block <| W.seq <| W.reg <| OSuf.aop tyOK rfl (so_entry (by simp only [lk] <;> rfl) (en_ok (AHeap.get_set_same _ _ _) (by simp (disch := first | assumption | omega | (simp only [nx] <;> omega) | fail) only [aCells, rowOf, hpl] <;> exact hgm2) hfind)) rfl <| OSuf.aop tyOK rfl (ze (hv := by simp (disch := first | assumption | omega | (simp only [nx] <;> omega) | fail) only [aExtract, hpl] <;> rfl)) rfl <| OSuf.aop tyOK rfl za rfl <| OSuf.nil <| SQ.normal ?_
      refine W.seq <| W.reg <| OSuf.aop tyOK rfl sm rfl <| OSuf.aop tyOK rfl sm rfl <| OSuf.vcall rfl (by simp only [lk] <;> rfl) (by simp only [aopnds, lk] <;> rfl) (hy) ?_
      rintro _ h3 ⟨rfl, hK3⟩
      refine ⟨_, rfl, ?_⟩
      refine OSuf.aopF tyOK rfl (so_not (by simp only [lk] <;> rfl)) (fun _ => rfl) rfl <| OSuf.nil <| SQ.normal ?_
      refine W.no (by simp only [lk] <;> rfl) <| CWp.skip <| BQ.normal <| ?_
      refine LQ.normal (m := n - 1) (L := [(0, .func (.yield (h.next + 1)) #[] #[]), (5, P0 (h.next + 2))]) ?_ ?_ ⟨ys ++ [x], seen.push x.2.2, ?_, ?_, ?_, ?_, hK3, rfl⟩
      · have := nodup_lt hok hnd hsub hxl (fun hx => hxs (List.mem_map.2 ⟨x, hx, rfl⟩)); omega
      · simp only [HasA, Tr.get_put, Nat.reduceEqDiff, reduceIte, and_self]
      · have := nodup_lt hok hnd hsub hxl (fun hx => hxs (List.mem_map.2 ⟨x, hx, rfl⟩)); simp; omega
      · exact List.nodup_append.2 ⟨hnd, by simp, fun a ha b hb => by simp at hb; subst hb; rintro rfl; exact hxs (List.mem_map.2 ⟨_, ha, rfl⟩)⟩
      · intro y hy; rcases List.mem_append.1 hy with h9 | h9
        · exact hsub y h9
        · simp at h9; subst h9; exact hxl
      · simp [hseen]
  rintro L a' h2 ha ⟨ys, seen, hperm, hK⟩
  refine FQ.normal (by simp only [aRet, Tryz.f91, aResults] <;> first | rfl | (simp only [tyall] <;> rfl) | (simp [tyall] <;> rfl)) ?_
  refine ⟨LP, .normal, hK.loop, by rw [← hLP]; rfl, by rw [← hLP]; rfl, ?_⟩
  obtain ⟨o, ho1, ho2⟩ := hK.out
  have hnx : h.next + 3 ≤ h2.next := hK.next
  refine BQ.normal <| SQ.normal ?_
  refine W.seq <| W.reg <| OSuf.aop tyOK rfl (zl (hv := by simp (disch := first | assumption | omega | (simp only [nx] <;> omega) | fail) only [aLoad, ty37, rowOf, hpl, ho1] <;> rfl)) rfl <| OSuf.aop tyOK rfl za rfl <| OSuf.nil <| SQ.normal ?_
  refine CWp.ret <| FQ.ret (by simp only [aRet, Tryz.f115, aResults, aResult, lk, Nat.reduceEqDiff, reduceIte] <;> first | rfl | (simp only [tyall] <;> rfl) | (simp [tyall] <;> rfl)) ?_
  -- leaf: end
  refine ⟨ys, hperm, ?_, fun z hz => ?_⟩
  · cases ho2 with
    | none e => exact .none e
    | some ne e h5 h6 h7 => exact .some ne e (by omega) h6 (by rw [AHeap.get_kill_ne (by simp only [AHeap.next_new]; omega)]; exact h7)
  · rw [AHeap.get_kill_ne (by simp only [AHeap.next_new]; omega)]; exact hK.old z hz
theorem collect_c (h : AHeap) (q m clock : Nat) (l : List (El × Value × Nat)) (hok : MapOK l clock) (hq : q < h.next) (hm : m < h.next) (hgq : h.get q = some (.cells [.map (some m)] 1)) (hgm : h.get m = some (.map (mkK enc l) clock)) (hbig : l.length ≤ 1000000) :
    FWp Tryz.prog 87 [.func (.func 91) #[] #[P0 q]] h fun u h' => ∃ ys : List (El × Value × Nat), ys.Perm l ∧ OutAt h' h.next (ys.map (·.1)) u ∧ (∀ z, z < h.next → h'.get z = h.get z) := by
  refine W.enter tyOK Tryz.func87 rfl rfl ?_
  simp only [entry]
  refine W.seq <| W.reg <| OSuf.aop tyOK rfl za rfl <| OSuf.nil <| SQ.normal ?_
  refine W.seq <| W.reg <| OSuf.aop tyOK rfl sm rfl <| OSuf.call rfl (by simp only [aopnds, lk] <;> rfl) en115 (append_c h q m clock l hok hq hm hgq hgm hbig) ?_
  rintro u h1 hK
  refine ⟨_, rfl, ?_⟩
  refine OSuf.aop tyOK rfl za rfl <| OSuf.nil <| SQ.normal ?_
  refine CWp.ret <| FQ.ret (by simp only [aRet, Tryz.f87, aResults, aResult, lk, Nat.reduceEqDiff, reduceIte] <;> first | rfl | (simp only [tyall] <;> rfl) | (simp [tyall] <;> rfl)) ?_
  -- leaf: end
  exact hK
theorem insertion_nil (h : AHeap) : FWp Tryz.prog 126 [.slice none 0 0, I64 0, I64 0] h fun u h' => u = .tuple #[] ∧ h' = h := by
  refine W.enter tyOK Tryz.func126 rfl rfl ?_
  simp only [entry]
  have w0 : IntKind.i64.wrap ((0 : Int) + 1) = 1 := by decide
  refine W.seq <| W.reg <| OSuf.aop tyOK rfl sm rfl <| OSuf.aop tyOK rfl (zb (hv := bi_w bi_add (by first | (simp only [w0] <;> rfl) | rfl))) rfl <| OSuf.aop tyOK rfl za rfl <| OSuf.nil <| SQ.normal ?_
  -- leaf: loop
  refine W.block (W.loop (fun n L h' => h' = h ∧ L = [(2, I64 0), (6, I64 1)]) (n := 0) ⟨rfl, rfl⟩ ?_ ?_)
  · simp [HasA, Tr.get_put]
  · rintro n L h1 ⟨rfl, rfl⟩
    simp only [mkA]
    refine W.seq <| W.seq <| W.reg <| OSuf.aop tyOK rfl sm rfl <| OSuf.aop tyOK rfl sm rfl <| OSuf.aopF tyOK rfl (zb (hv := bi_lss)) (fun _ => rfl) (by first | rfl | assumption | ((simp only [bl]) <;> first | done | assumption | omega) | (simp; done) | (simp; omega)) <| OSuf.nil <| SQ.normal ?_
    refine W.no (by simp only [lk] <;> rfl) <| CWp.exit <| SQ.exit <| LQ.exit <| BQ.exit <| FQ.normal (by simp only [aRet, Tryz.f126, aResults, aResult, lk, Nat.reduceEqDiff, reduceIte] <;> first | rfl | (simp only [tyall] <;> rfl) | (simp [tyall] <;> rfl)) ?_
    -- leaf: end
    exact ⟨rfl, rfl⟩
theorem pdq_nil (h : AHeap) (lim : Int) : FWp Tryz.prog 116 [.slice none 0 0, I64 0, I64 0, I64 lim] h fun u h' => u = .tuple #[] ∧ h' = h := by
  refine W.enter tyOK Tryz.func116 rfl rfl ?_
  simp only [entry]
  have w0 : IntKind.i64.wrap ((0 : Int) - 0) = 0 := by decide
  refine W.seq <| W.reg <| OSuf.aopT tyOK rfl za (fun _ => rfl) rfl <| OSuf.nil <| SQ.normal ?_
  refine W.seq <| W.reg <| OSuf.aopT tyOK rfl za (fun _ => rfl) rfl <| OSuf.nil <| SQ.normal ?_
  -- leaf: loop
  refine W.block (W.loop (fun n L h' => h' = h ∧ L = [(0, .slice none 0 0), (1, I64 0), (2, I64 0)]) (n := 0) ⟨rfl, rfl⟩ ?_ ?_)
  · simp [HasA, Tr.get_put]
  · rintro n L h1 ⟨rfl, rfl⟩
    simp only [mkA]
    refine W.block <| W.seq <| W.reg <| OSuf.aop tyOK rfl sm rfl <| OSuf.aop tyOK rfl sm rfl <| OSuf.aop tyOK rfl (zb (hv := bi_w bi_sub (by first | (simp only [w0] <;> rfl) | rfl))) rfl <| OSuf.aop tyOK rfl za rfl <| OSuf.nil <| SQ.normal ?_
    refine W.seq <| W.seq <| W.reg <| OSuf.aop tyOK rfl sm rfl <| OSuf.aopT tyOK rfl (zb (hv := bi_leq)) (fun _ => rfl) (by first | rfl | assumption | ((simp only [bl]) <;> first | done | assumption | omega) | (simp; done) | (simp; omega)) <| OSuf.nil <| SQ.normal ?_
    refine W.yes (by simp only [lk] <;> rfl) <| W.seq <| W.reg <| OSuf.aop tyOK rfl sm rfl <| OSuf.aop tyOK rfl sm rfl <| OSuf.aop tyOK rfl sm rfl <| OSuf.callD rfl (by simp only [aopnds, lk] <;> rfl) en126 (insertion_nil _) rfl <| OSuf.nil <| SQ.normal ?_
    refine CWp.ret <| SQ.ret <| BQ.ret <| LQ.ret <| BQ.ret <| FQ.ret (by simp only [aRet, Tryz.f116, aResults, aResult, lk, Nat.reduceEqDiff, reduceIte] <;> first | rfl | (simp only [tyall] <;> rfl) | (simp [tyall] <;> rfl)) ?_
    -- leaf: end
    exact ⟨rfl, rfl⟩
theorem sort_nil (h : AHeap) : FWp Tryz.prog 88 [.slice none 0 0] h fun u h' => u = .tuple #[] ∧ h' = h := by
  have w1 : IntKind.u64.wrap ((0 : Nat) : Int) = ((0 : Nat) : Int) := by decide
  refine W.enter tyOK Tryz.func88 rfl rfl ?_
  simp only [entry]
  refine W.seq <| W.reg <| OSuf.aop tyOK rfl sm rfl <| OSuf.aop tyOK rfl (so_len (by simp only [aopnds, lk] <;> rfl) (by simp (disch := first | assumption | omega | (simp only [nx] <;> omega) | fail) only [aLenOf, ty37, hpl] <;> rfl)) rfl <| OSuf.aop tyOK rfl za rfl <| OSuf.nil <| SQ.normal ?_
  refine W.reg <| OSuf.aop tyOK rfl sm rfl <| OSuf.aop tyOK rfl sm rfl <| OSuf.aop tyOK rfl sm rfl <| OSuf.aop tyOK rfl (so_conw (so_conv tyOK (by simp only [lk] <;> rfl) ty3 ⟨_, rfl⟩ ty94 rfl) (by first | (simp only [w1] <;> rfl) | rfl)) rfl <| OSuf.callD rfl (by simp only [aopnds, lk] <;> rfl) en83 (len_c _ 0 (by omega)) rfl <| OSuf.callD rfl (by simp only [aopnds, lk] <;> rfl) en116 (pdq_nil _ _) rfl <| OSuf.nil <| FQ.normal (by simp only [aRet, Tryz.f88, aResults, aResult, lk, Nat.reduceEqDiff, reduceIte] <;> first | rfl | (simp only [tyall] <;> rfl) | (simp [tyall] <;> rfl)) ?_
  -- leaf: end
  exact ⟨rfl, rfl⟩
theorem sorted_eq {d d' : Array El} {ks : List El} (hp : PermIn 0 d.size d d') (hs : SortedIn lt 0 d.size d') (hk : ks.Perm d.toList) (hks : ks.Pairwise (fun x y => lt y x = false)) : d'.toList = ks := by
  have hu : ∀ x y : El, lt x y = false → lt y x = false → x = y := fun x y h1 h2 => by simp only [lt, ltStr, decide_eq_false_iff_not, List.not_lt] at h1 h2; exact List.le_antisymm h2 h1
  have e1 := sorted_unique_holds (lt := lt) swo hu d d' hp hs
  have hsz : ks.length = d.size := by rw [hk.length_eq]; simp
  have e2 := sorted_unique_holds (lt := lt) swo hu d ks.toArray ⟨by simp [hsz], fun i hi => by
      rcases hi with hi | hi
      · omega
      · rw [getElem!_neg _ i (by simp; omega), getElem!_neg _ i (by omega)], by
      have e3 : (d.extract 0 d.size).toList = d.toList := by simp
      have e4 : (ks.toArray.extract 0 d.size).toList = ks := by simp [← hsz]
      rw [e3, e4]; exact hk⟩ (fun i j _ hij hj => by
      have := List.pairwise_iff_getElem.1 hks i j (by omega) (by omega) hij
      rw [getElem!_pos _ j (by simp; omega), getElem!_pos _ i (by simp; omega)]
      simpa using this)
  rw [e1, ← e2]
theorem sorted_c (h : AHeap) (q m clock : Nat) (l : List (El × Value × Nat)) (ks : List El) (hok : MapOK l clock) (hq : q < h.next) (hm : m < h.next) (hgq : h.get q = some (.cells [.map (some m)] 1)) (hgm : h.get m = some (.map (mkK enc l) clock)) (hbig : l.length ≤ 1000000)
    (hk : ks.Perm (l.map (·.1))) (hks : ks.Pairwise (fun x y => lt y x = false)) :
    FWp Tryz.prog 51 [.func (.func 91) #[] #[P0 q]] h fun u h' => (ks = [] ∧ u = .slice none 0 0 ∧ h' = h) ∨ (ks ≠ [] ∧ u = .slice (some ⟨h.next, 0, none⟩) ks.length 0 ∧ h' = h.new (.cells (ks.map enc) 1)) := by
  by_cases hnil : ks = []
  · have hl : l = [] := by
      subst hnil
      have := hk.length_eq
      simpa using this.symm
    have : FWp Tryz.prog 51 [.func (.func 91) #[] #[P0 q]] h fun u h' => u = .slice none 0 0 ∧ h' = h := by
      refine FWp.gcs (.flat rfl) ?_
      refine W.enter tyOK Tryz.func51 rfl rfl ?_
      simp only [entry]
      refine W.seq <| W.reg <| OSuf.aop tyOK rfl za rfl <| OSuf.nil <| SQ.normal ?_
      refine W.seq <| W.reg <| OSuf.aop tyOK rfl sm rfl <| OSuf.call rfl (by simp only [aopnds, lk] <;> rfl) en87 (collect_c h q m clock l hok hq hm hgq hgm hbig) ?_
      rintro u h1 ⟨ys, hp, ho, hf⟩
      obtain rfl : ys = [] := by (subst hl; exact hp.eq_nil)
      obtain rfl : u = .slice none 0 0 := by (cases ho with | none => rfl | some ne _ _ _ _ => exact (ne rfl).elim)
      refine ⟨_, rfl, ?_⟩
      refine OSuf.aop tyOK rfl za rfl <| OSuf.nil <| SQ.normal ?_
      refine W.seq <| W.reg <| OSuf.aop tyOK rfl sm rfl <| OSuf.callD rfl (by simp only [aopnds, lk] <;> rfl) en88 (sort_nil _) rfl <| OSuf.nil <| SQ.normal ?_
      refine W.seq <| W.reg <| OSuf.aop tyOK rfl sm rfl <| OSuf.aop tyOK rfl za rfl <| OSuf.nil <| SQ.normal ?_
      refine CWp.ret <| FQ.ret (by simp only [aRet, Tryz.f51, aResults, aResult, lk, Nat.reduceEqDiff, reduceIte] <;> first | rfl | (simp only [tyall] <;> rfl) | (simp [tyall] <;> rfl)) ?_
      -- leaf: end
      exact ⟨rfl, fun r o hr ho => by rw [hf r hr]; exact ho⟩
    exact this.mono fun u h' hK => .inl ⟨hnil, hK⟩
  · have : FWp Tryz.prog 51 [.func (.func 91) #[] #[P0 q]] h fun u h' => u = .slice (some ⟨h.next, 0, none⟩) ks.length 0 ∧ h' = h.new (.cells (ks.map enc) 1) := by
      refine FWp.gcNew (fun v hv => ?_) ?_
      · obtain ⟨y, _, rfl⟩ := List.mem_map.1 hv
        exact .flat rfl
      refine W.enter tyOK Tryz.func51 rfl rfl ?_
      simp only [entry]
      refine W.seq <| W.reg <| OSuf.aop tyOK rfl za rfl <| OSuf.nil <| SQ.normal ?_
      refine W.seq <| W.reg <| OSuf.aop tyOK rfl sm rfl <| OSuf.call rfl (by simp only [aopnds, lk] <;> rfl) en87 (collect_c h q m clock l hok hq hm hgq hgm hbig) ?_
      rintro u h1 ⟨ys, hp, ho, hf⟩
      have hys : ¬ ys.map (·.1) = [] := fun e => hnil (by (have e2 : ys = [] := by simpa using e); subst e2; have := hk.length_eq; have := hp.length_eq; simp_all)
      obtain ⟨x, n, rfl, hn, hx1, hx2, hx3⟩ : ∃ x n, u = .slice (some ⟨x, 0, none⟩) n 0 ∧ n = (ys.map (·.1)).length ∧ h.next ≤ x ∧ x < h1.next ∧ h1.get x = some (row (ys.map (·.1)).toArray) := by (cases ho with | none e => exact (hys e).elim | some ne e a b c => exact ⟨_, _, rfl, e, a, b, c⟩)
      have hsz : n < 1000000000 := by (rw [hn, List.length_map, hp.length_eq]; omega)
      have hcall := sort_c h1 x n hx2 hsz (ys.map (·.1)).toArray (by simp [hn])
      rw [AHeap.set_self hx3] at hcall
      refine ⟨_, rfl, ?_⟩
      refine OSuf.aop tyOK rfl za rfl <| OSuf.nil <| SQ.normal ?_
      refine W.seq <| W.reg <| OSuf.aop tyOK rfl sm rfl <| OSuf.call rfl (by simp only [aopnds, lk] <;> rfl) en88 (hcall) ?_
      rintro _ _ ⟨rfl, d', rfl, hpi, hsi⟩
      refine ⟨_, rfl, ?_⟩
      refine OSuf.nil <| SQ.normal ?_
      refine W.seq <| W.reg <| OSuf.aop tyOK rfl sm rfl <| OSuf.aop tyOK rfl za rfl <| OSuf.nil <| SQ.normal ?_
      refine CWp.ret <| FQ.ret (by simp only [aRet, Tryz.f51, aResults, aResult, lk, Nat.reduceEqDiff, reduceIte] <;> first | rfl | (simp only [tyall] <;> rfl) | (simp [tyall] <;> rfl)) ?_
      -- leaf: end
      have hd : d'.toList = ks := by
        have hn' : n = (ys.map (·.1)).toArray.size := by simp [hn]
        rw [hn'] at hpi hsi
        exact sorted_eq hpi hsi (hk.trans (hp.map _).symm) hks
      have hlen : ks.length = n := by rw [hk.length_eq, hn, List.length_map, List.length_map, hp.length_eq]
      refine ⟨x, by rw [hlen], hx1, by rw [AHeap.get_set_same, ← hd], fun r p hr hg => ?_⟩
      rw [AHeap.get_set_ne (by omega), hf r hr]; exact hg
    exact this.mono fun u h' hK => .inr ⟨hnil, hK⟩
end Go.Proofs.YtebheelmgcggmaaGreat.SortS.KR
namespace Go.Proofs.YtebheelmgcggmaaGreat
open Go.Ab
set_option linter.unusedSimpArgs false
set_option linter.unusedVariables false
set_option maxRecDepth 1000000
noncomputable def envP : Env := { envOf Tryz.prog 156 160 with S := SortS.keysS 51 [89, 91] }
theorem envP_ok : EnvOK envP := ⟨tyOK_of Tryz.prog 156, (by kernel_rfl), fnOK_of Tryz.prog 160, SortS.keysS_ok en51 (fun k hk => by
  simp only [List.mem_cons, List.not_mem_nil, or_false] at hk
  rcases hk with rfl | rfl
  · exact fun h q m clock l ks hok => SortS.KB.sorted_c h q m clock l ks ⟨hok.lt, hok.inj, hok.nodup⟩
  · exact fun h q m clock l ks hok => SortS.KR.sorted_c h q m clock l ks ⟨hok.lt, hok.inj, hok.nodup⟩)⟩
theorem worksRan : Ab.isTrue (Ab.evCall envP (Ab.ev envP 1000) 27 [] ⟨0, .leaf⟩) = true := by kernel_rfl
theorem works_c (h : AHeap) : FWp Tryz.prog 27 [] h fun u h' => u = .bool true ∧ h' = h :=
  FWp.ofClosed rfl (fun w => closed_true envP_ok 1000 worksRan w)
end Go.Proofs.YtebheelmgcggmaaGreat
