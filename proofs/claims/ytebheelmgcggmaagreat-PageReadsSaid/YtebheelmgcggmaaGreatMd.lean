/-
  Merged: SortA, SortB, SortC, SortD.
-/
import Derived.Test.YtebheelmgcggmaaGreatSh
import Derived.Test.YtebheelmgcggmaaGreatAb37
set_option linter.unusedSimpArgs false
set_option linter.unusedVariables false
set_option maxRecDepth 10000
set_option maxHeartbeats 8000000
namespace Go.Proofs.YtebheelmgcggmaaGreat.SortS
open Go.Ab Go.Sort
abbrev El : Type := List UInt8
abbrev enc : El → Value := fun s => Value.string ⟨⟨s⟩⟩
abbrev lt : El → El → Bool := ltStr
abbrev I64 (n : Int) : Value := .int .i64 n
abbrev row (d : Array El) : AObj := .cells (d.toList.map enc) 1
abbrev sl (r n : Nat) : Value := .slice (some ⟨r, 0, none⟩) n 0
theorem rg {d : Array El} {i : Nat} (hi : i < d.size) : (d.toList.map enc)[i]? = some (enc d[i]!) := arr_get enc hi
theorem rs {d : Array El} {i : Nat} {x : El} (hi : i < d.size) : splice (d.toList.map enc) i [enc x] = (d.setIfInBounds i x).toList.map enc := arr_set enc x hi
theorem rb {d : Array El} {i : Nat} (hi : i < d.size) : Nat.ble (i + 1) (d.toList.map enc).length = true := arr_ble enc hi
theorem sq : (∀ {c : Prop} {i : Decidable c} {α : Type} {t e : α}, c → @ite α c i t e = t) ∧ (∀ n : Nat, (n : Int).toNat = n) ∧ (∀ n : Nat, n * 1 = n) ∧ (∀ n : Nat, 0 + n = n) ∧ (∀ {d : Array El} {i : Nat}, i < d.size → (d.toList.map enc)[i]? = some (enc d[i]!)) ∧ (∀ {d : Array El} {i : Nat} {x : El}, i < d.size → splice (d.toList.map enc) i [enc x] = (d.setIfInBounds i x).toList.map enc) ∧ (∀ {d : Array El} {i : Nat}, i < d.size → Nat.ble (i + 1) (d.toList.map enc).length = true) ∧ (∀ x : El, (enc x).cells = #[enc x]) ∧
    (∀ {α : Type} (a : α) (l : List α), (a :: l).length = l.length + 1) ∧ (∀ {α : Type}, ([] : List α).length = 0) ∧ (∀ x : El, oneCells [enc x] = true) ∧ (∀ {α : Type} (a b : α), cond true a b = a) ∧ (∀ (h : AHeap) (r : Nat) (o o' : AObj), (h.set r o).set r o' = h.set r o') ∧ (∀ {α : Type} (d : Array α) (i : Nat) (x : α), (d.setIfInBounds i x).size = d.size) :=
  ⟨fun hc => if_pos hc, Int.toNat_natCast, Nat.mul_one, Nat.zero_add, rg, rs, rb, fun _ => rfl, fun _ _ => rfl, rfl, fun _ => rfl, fun _ _ => rfl, AHeap.set_set, fun _ _ _ => by simp⟩
theorem nan_c (x : El) (h : AHeap) : FWp Tryz.prog 140 [enc x] h fun u h' => u = .bool false ∧ h' = h := by
  refine W.enter tyOK Tryz.func140 rfl rfl ?_
  simp only [entry]
  refine Wr <| Of rfl za rfl rfl <| On ?_
  refine Wr <| Oa rfl sm rfl <| Oa rfl sm rfl <| Oa rfl (zb (hv := bs_neq)) rfl <| Oa rfl za rfl <| On ?_
  refine CWp.ret <| FQ.ret (by simp only [aRet, Tryz.f140, aResults, aResult, lk, Nat.reduceEqDiff, reduceIte] <;> rfl) ?_
  exact ⟨by simp, rfl⟩
theorem less_c (x y : El) (h : AHeap) (b : Bool) (hb : lt x y = b) : FWp Tryz.prog 132 [enc x, enc y] h fun u h' => u = .bool b ∧ h' = h := by
  refine W.enter tyOK Tryz.func132 rfl rfl ?_
  simp only [entry]
  refine Wr <| Of rfl za rfl rfl <| On ?_
  refine Wr <| Oa rfl sm rfl <| OSuf.callD rfl (by simp only [aopnds, lk] <;> rfl) en140 (nan_c x _) rfl <| Of rfl sm rfl rfl <| Pa ag rfl <| Pa ag rfl <| Pa ag rfl <| Of rfl Zp rfl rfl <| Of rfl sm rfl rfl <| Oa ag sm rfl <| Oa ag sm rfl <| Oa ag (zb (hv := bs_lss)) rfl <| Oa rfl Zp rfl <| Oa rfl za rfl <| On ?_
  refine CWp.ret <| FQ.ret (by simp only [aRet, Tryz.f132, aResults, aResult, lk, Nat.reduceEqDiff, reduceIte] <;> rfl) ?_
  exact ⟨congrArg Value.bool ((str_lt x y).trans hb), rfl⟩
theorem insertion_c (h : AHeap) (r N : Nat) (d : Array El) (hN : d.size = N) (a b : Nat) (hab : a ≤ b) (hb : b ≤ N) (hsz : N < 1000000000) :
    FWp Tryz.prog 126 [sl r N, I64 a, I64 b] (h.set r (row d)) fun u h' => u = .tuple #[] ∧ h' = h.set r (row (insertionSort lt d a b)) := by
  refine W.enter tyOK Tryz.func126 rfl rfl ?_
  simp only [entry]
  have w0 : IntKind.i64.wrap ((a : Int) + 1) = ((a + 1 : Nat) : Int) := by rw [wrap_i64 (by omega) (by omega)]; omega
  refine Wr <| Oa rfl sm rfl <| Oa rfl (zb (hv := bi_w bi_add (by first | (simp only [w0] <;> rfl) | rfl))) rfl <| Oa rfl za rfl <| On ?_
  refine W.block (W.loop (fun n L h' => ∃ (i : Nat) (dk : Array El), n = b - i ∧ a + 1 ≤ i ∧ (i ≤ b ∨ i = a + 1) ∧ dk.size = N ∧ insOuter lt a b i dk = insertionSort lt d a b ∧ h' = h.set r (row dk) ∧
      L = [(0, sl r N), (1, I64 a), (2, I64 b), (6, I64 i)]) (n := b - (a + 1)) ⟨a + 1, d, rfl, by omega, by omega, hN, rfl, rfl, rfl⟩ ?_ ?_)
  · simp [HasA, Tr.get_put]
  · rintro n L h1 ⟨i, dk, rfl, hi1, hi2, hds, heq, rfl, rfl⟩
    simp only [mkA]
    by_cases hib : (i : Int) < (b : Int)
    · refine W.seq <| Wr <| Oa rfl sm rfl <| Oa rfl sm rfl <| Otb rfl (zb (hv := bi_lss)) rfl <| On ?_
      refine Wy <| CWp.skip <| SQ.normal ?_
      refine W.seq <| W.block <| Wr <| Oa rfl sm rfl <| Oa rfl za rfl <| On ?_
      refine W.cut (fun L h' => ∃ (dj : Array El), dj.size = N ∧ dj = insInner lt a i dk ∧ h' = h.set r (row dj) ∧ L = [(0, sl r N), (1, I64 a), (2, I64 b), (6, I64 i)]) (W.block (W.loop (fun n L h' => ∃ (j : Nat) (dj : Array El), n = j ∧ j ≤ i ∧ dj.size = N ∧ insInner lt a j dj = insInner lt a i dk ∧ h' = h.set r (row dj) ∧
          L = [(0, sl r N), (1, I64 a), (2, I64 b), (6, I64 i), (7, I64 j)]) (n := i) ⟨i, dk, rfl, by omega, hds, rfl, rfl, rfl⟩ ?_ ?_)) ?_
      · simp [HasA, Tr.get_put]
      · rintro j L h1 ⟨_, dj, rfl, hji, hdj, hq, rfl, rfl⟩
        simp only [mkA]
        by_cases hja : (j : Int) > (a : Int)
        · obtain ⟨m, rfl⟩ : ∃ m, j = m + 1 := ⟨j - 1, by omega⟩
          have w1 : IntKind.i64.wrap (((m + 1 : Nat) : Int) - 1) = (m : Int) := by rw [wrap_i64 (by omega) (by omega)]; omega
          cases hl : lt dj[m + 1]! dj[m]!
          · refine W.seq <| Wd <| Sa rfl sm rfl <| Sa rfl sm rfl <| St rfl (zb (hv := bi_gtr)) rfl (by first | rfl | assumption | ((simp only [bl, if_pos, Int.toNat_natCast, Nat.mul_one, Nat.zero_add, rg]) <;> first | done | assumption | omega) | (simp; done) | (simp; omega)) <| St rfl sm rfl rfl <| Sa ag sm rfl <| Sa ag sm rfl <| Sa ag (zi (hv := by simp (disch := first | omega | simp only [nx]; omega) only [aIndexAddr, ty37, ty9, hpl, if_pos, Int.toNat_natCast, Nat.mul_one, Nat.zero_add, rg] <;> rfl)) rfl <| Sa ag (zl (hv := by simp (disch := first | omega | simp only [nx]; omega) only [aLoad, ty9, rowOf, hpl, if_pos, Int.toNat_natCast, Nat.mul_one, Nat.zero_add, rg] <;> rfl)) rfl <| Sa ag sm rfl <| Sa ag sm rfl <| Sa ag (zb (hv := bi_w bi_sub (by first | (simp only [w1] <;> rfl) | rfl))) rfl <| Sa ag (zi (hv := by simp (disch := first | omega | simp only [nx]; omega) only [aIndexAddr, ty37, ty9, hpl, if_pos, Int.toNat_natCast, Nat.mul_one, Nat.zero_add, rg] <;> rfl)) rfl <| Sa ag (zl (hv := by simp (disch := first | omega | simp only [nx]; omega) only [aLoad, ty9, rowOf, hpl, if_pos, Int.toNat_natCast, Nat.mul_one, Nat.zero_add, rg] <;> rfl)) rfl <| SqW.callD ag (by simp only [aopnds, lk] <;> rfl) en132 (less_c _ _ _ _ hl) rfl <| Sf rfl Zp rfl rfl <| Sn ?_
            refine Wn <| CWp.exit <| SQ.exit <| LQ.exit <| BQ.exit <| ?_
            refine NQ.normal (L := [(0, sl r N), (1, I64 a), (2, I64 b), (6, I64 i)]) ?_ ⟨dj, hdj, ?_, rfl, rfl⟩
            · simp only [HasA, Tr.get_put, Nat.reduceEqDiff, reduceIte, and_self]
            · rw [← hq, insInner]; simp [hl]
          · refine W.seq <| Wd <| Sa rfl sm rfl <| Sa rfl sm rfl <| St rfl (zb (hv := bi_gtr)) rfl (by first | rfl | assumption | ((simp only [bl, sq]) <;> first | done | assumption | omega) | (simp; done) | (simp; omega)) <| St rfl sm rfl rfl <| Sa ag sm rfl <| Sa ag sm rfl <| Sa ag (zi (hv := by simp (disch := first | omega | simp only [nx]; omega) only [aIndexAddr, ty37, ty9, hpl, sq] <;> rfl)) rfl <| Sa ag (zl (hv := by simp (disch := first | omega | simp only [nx]; omega) only [aLoad, ty9, rowOf, hpl, sq] <;> rfl)) rfl <| Sa ag sm rfl <| Sa ag sm rfl <| Sa ag (zb (hv := bi_w bi_sub (by first | (simp only [w1] <;> rfl) | rfl))) rfl <| Sa ag (zi (hv := by simp (disch := first | omega | simp only [nx]; omega) only [aIndexAddr, ty37, ty9, hpl, sq] <;> rfl)) rfl <| Sa ag (zl (hv := by simp (disch := first | omega | simp only [nx]; omega) only [aLoad, ty9, rowOf, hpl, sq] <;> rfl)) rfl <| SqW.callD ag (by simp only [aopnds, lk] <;> rfl) en132 (less_c _ _ _ _ hl) rfl <| St rfl Zp rfl rfl <| Sn ?_
            refine Wy <| CWp.skip <| SQ.normal ?_
            refine W.seq <| W.block <| W.regD tyOK mixed (by kernel_rfl) <| Sa rfl sm rfl <| Sa rfl sm rfl <| Sa rfl sm rfl <| Sa rfl sm rfl <| Sa rfl (zb (hv := bi_w bi_sub (by first | (simp only [w1] <;> rfl) | rfl))) rfl <| Sa rfl sm rfl <| Sa rfl sm rfl <| Sa rfl (zb (hv := bi_w bi_sub (by first | (simp only [w1] <;> rfl) | rfl))) rfl <| Sa rfl (zi (hv := by simp (disch := first | omega | simp only [nx]; omega) only [aIndexAddr, ty37, ty9, hpl, sq] <;> rfl)) rfl <| Sa rfl (zl (hv := by simp (disch := first | omega | simp only [nx]; omega) only [aLoad, ty9, rowOf, hpl, sq] <;> rfl)) rfl <| Sa rfl sm rfl <| Sa rfl sm rfl <| Sa rfl (zi (hv := by simp (disch := first | omega | simp only [nx]; omega) only [aIndexAddr, ty37, ty9, hpl, sq] <;> rfl)) rfl <| Sa rfl (zl (hv := by simp (disch := first | omega | simp only [nx]; omega) only [aLoad, ty9, rowOf, hpl, sq] <;> rfl)) rfl <| Sa rfl (zi (hv := by simp (disch := first | omega | simp only [nx]; omega) only [aIndexAddr, ty37, ty9, hpl, sq] <;> rfl)) rfl <| Sa rfl (zs (hv := by simp (disch := first | omega | simp only [nx]; omega) only [aStore, ty9, writeRow, hpl, sq] <;> rfl)) rfl <| Sa rfl (zi (hv := by simp (disch := first | omega | simp only [nx]; omega) only [aIndexAddr, ty37, ty9, hpl, sq] <;> rfl)) rfl <| Sa rfl (zs (hv := by simp (disch := first | omega | simp only [nx]; omega) only [aStore, ty9, writeRow, hpl, sq] <;> rfl)) rfl <| SqW.nil <| BQ.normal <| SQ.normal ?_
            refine W.reg <| Oa rfl sm rfl <| Oa rfl (zb (hv := bi_w bi_sub (by first | (simp only [w1] <;> rfl) | rfl))) rfl <| Oa rfl za rfl <| OSuf.nil <| ?_
            refine LQ.normal (m := m) (L := [(0, sl r N), (1, I64 a), (2, I64 b), (6, I64 i), (7, I64 m)]) (by omega) ?_ ⟨m, swp dj (m + 1) m, rfl, by omega, by rw [size_swp]; exact hdj, ?_, rfl, rfl⟩
            · simp only [HasA, Tr.get_put, Nat.reduceEqDiff, reduceIte, w1, and_self]
            · rw [← hq, insInner]; simp [hl]; omega
        · refine W.seq <| Wd <| Sa rfl sm rfl <| Sa rfl sm rfl <| Sf rfl (zb (hv := bi_gtr)) rfl (by first | rfl | assumption | ((simp only [bl]) <;> first | done | assumption | omega) | (simp; done) | (simp; omega)) <| Sf rfl sm rfl rfl <| Pb ag rfl <| Pb ag rfl <| Pb ag rfl <| Pb ag rfl <| Pb ag rfl <| Pb ag rfl <| Pb ag rfl <| Pb ag rfl <| Pb ag rfl <| Pb ag rfl <| Sf rfl Zp rfl rfl <| Sn ?_
          refine Wn <| CWp.exit <| SQ.exit <| LQ.exit <| BQ.exit <| ?_
          refine NQ.normal (L := [(0, sl r N), (1, I64 a), (2, I64 b), (6, I64 i)]) ?_ ⟨dj, hdj, ?_, rfl, rfl⟩
          · simp only [HasA, Tr.get_put, Nat.reduceEqDiff, reduceIte, and_self]
          · rw [← hq]
            cases j with
            | zero => rfl
            | succ m => rw [insInner]; simp; omega
      · rintro L a' h1 ha ⟨dj, hdj, rfl, rfl, rfl⟩
        have w1 : IntKind.i64.wrap ((i : Int) + 1) = ((i + 1 : Nat) : Int) := by rw [wrap_i64 (by omega) (by omega)]; omega
        refine BQ.normal <| SQ.normal <| CWp.known ha ?_
        simp only [mkA]
        refine W.reg <| Oa rfl sm rfl <| Oa rfl (zb (hv := bi_w bi_add (by first | (simp only [w1] <;> rfl) | rfl))) rfl <| Oa rfl za rfl <| OSuf.nil <| ?_
        refine LQ.normal (m := b - (i + 1)) (L := [(0, sl r N), (1, I64 a), (2, I64 b), (6, I64 (i + 1 : Nat))]) (by omega) ?_ ⟨i + 1, insInner lt a i dk, rfl, by omega, by omega, hdj, ?_, rfl, rfl⟩
        · simp only [HasA, Tr.get_put, Nat.reduceEqDiff, reduceIte, w1, and_self]
        · rw [← heq]
          conv => rhs; rw [insOuter]
          rw [if_pos (by omega)]
    · refine W.seq <| Wr <| Oa rfl sm rfl <| Oa rfl sm rfl <| Ofb rfl (zb (hv := bi_lss)) rfl <| On ?_
      refine Wn <| CWp.exit <| SQ.exit <| LQ.exit <| BQ.exit <| FQ.normal (by simp only [aRet, Tryz.f126, aResults, aResult, lk, Nat.reduceEqDiff, reduceIte] <;> rfl) ?_
      refine ⟨rfl, ?_⟩
      rw [← heq, insOuter, if_neg (by omega)]
end Go.Proofs.YtebheelmgcggmaaGreat.SortS
namespace Go.Proofs.YtebheelmgcggmaaGreat.SortS
open Go.Ab Go.Sort
theorem sift_c (h : AHeap) (r N : Nat) (d : Array El) (hN : d.size = N) (lo hi first : Nat) (hlo : lo ≤ hi) (hb : first + hi ≤ N) (hsz : N < 1000000000) :
    FWp Tryz.prog 137 [sl r N, I64 lo, I64 hi, I64 first] (h.set r (row d)) fun u h' => u = .tuple #[] ∧ h' = h.set r (row (siftDown lt hi first lo d)) := by
  refine W.enter tyOK Tryz.func137 rfl rfl ?_
  simp only [entry]
  refine Wr <| Oa rfl sm rfl <| Oa rfl za rfl <| On ?_
  refine W.block (W.loop (fun n L h' => ∃ (root : Nat) (dk : Array El), n = hi - root ∧ root ≤ hi ∧ dk.size = N ∧ siftDown lt hi first root dk = siftDown lt hi first lo d ∧ h' = h.set r (row dk) ∧
      L = [(0, sl r N), (2, I64 hi), (3, I64 first), (8, I64 root)]) (n := hi - lo) ⟨lo, d, rfl, hlo, hN, rfl, rfl, rfl⟩ ?_ ?_)
  · simp [HasA, Tr.get_put]
  · rintro n L h1 ⟨root, dk, rfl, hrt, hds, heq, rfl, rfl⟩
    simp only [mkA]
    have w1 : IntKind.i64.wrap (2 * (root : Int)) = 2 * (root : Int) := wrap_i64 (by omega) (by omega)
    have w2 : IntKind.i64.wrap (2 * (root : Int) + 1) = ((2 * root + 1 : Nat) : Int) := by rw [wrap_i64 (by omega) (by omega)]; omega
    have w3 : IntKind.i64.wrap (((2 * root + 1 : Nat) : Int) + 1) = ((2 * root + 2 : Nat) : Int) := by rw [wrap_i64 (by omega) (by omega)]; omega
    have w4 : IntKind.i64.wrap ((first : Int) + ((2 * root + 1 : Nat) : Int)) = ((first + (2 * root + 1) : Nat) : Int) := by rw [wrap_i64 (by omega) (by omega)]; omega
    have w5 : IntKind.i64.wrap (((first + (2 * root + 1) : Nat) : Int) + 1) = ((first + (2 * root + 1) + 1 : Nat) : Int) := by rw [wrap_i64 (by omega) (by omega)]; omega
    have w6 : IntKind.i64.wrap ((first : Int) + (root : Int)) = ((first + root : Nat) : Int) := by rw [wrap_i64 (by omega) (by omega)]; omega
    have w7 : IntKind.i64.wrap ((first : Int) + ((2 * root + 2 : Nat) : Int)) = ((first + (2 * root + 2) : Nat) : Int) := by rw [wrap_i64 (by omega) (by omega)]; omega
    rw [siftDown] at heq
    by_cases hc : ((2 * root + 1 : Nat) : Int) ≥ (hi : Int)
    · refine W.block <| Wr <| Oa rfl sm rfl <| Oa rfl (zb (hv := bi_w bi_mul (by first | (simp only [w1, w2] <;> rfl) | rfl))) rfl <| Oa rfl (zb (hv := bi_w bi_add (by first | (simp only [w1, w2] <;> rfl) | rfl))) rfl <| Oa rfl za rfl <| On ?_
      refine W.seq <| Wr <| Oa rfl sm rfl <| Oa rfl sm rfl <| Otb rfl (zb (hv := bi_geq)) rfl <| On ?_
      refine Wy <| CWp.exit <| SQ.exit <| BQ.out rfl <| LQ.exit <| BQ.exit <| FQ.normal (by simp only [aRet, Tryz.f137, aResults, aResult, lk, Nat.reduceEqDiff, reduceIte] <;> rfl) ?_
      refine ⟨rfl, ?_⟩
      rw [← heq, dif_pos (by omega)]
    rw [dif_neg (by omega)] at heq
    by_cases hc2 : ((2 * root + 2 : Nat) : Int) < (hi : Int)
    · have hc3 : 2 * root + 1 + 1 < hi := by omega
      cases hl1 : lt dk[first + (2 * root + 1)]! dk[first + (2 * root + 1) + 1]!
      · rw [hl1] at heq
        simp only [Bool.and_false, Bool.false_eq_true, if_false] at heq
        cases hl2 : lt dk[first + root]! dk[first + (2 * root + 1)]!
        · refine W.block <| Wr <| Oa rfl sm rfl <| Oa rfl (zb (hv := bi_w bi_mul (by first | (simp only [w1, w2, w3, w4, w5, w6, w7] <;> rfl) | rfl))) rfl <| Oa rfl (zb (hv := bi_w bi_add (by first | (simp only [w1, w2, w3, w4, w5, w6, w7] <;> rfl) | rfl))) rfl <| Oa rfl za rfl <| On ?_
          refine W.seq <| Wr <| Oa rfl sm rfl <| Oa rfl sm rfl <| Of rfl (zb (hv := bi_geq)) rfl (by first | rfl | assumption | ((simp only [bl, sq]) <;> first | done | assumption | omega) | (simp; done) | (simp; omega)) <| On ?_
          refine Wn <| CWp.skip <| SQ.normal ?_
          refine W.seq <| Wd <| Sa rfl sm rfl <| Sa rfl (zb (hv := bi_w bi_add (by first | (simp only [w1, w2, w3, w4, w5, w6, w7] <;> rfl) | rfl))) rfl <| Sa rfl sm rfl <| St rfl (zb (hv := bi_lss)) rfl (by first | rfl | assumption | ((simp only [bl, sq]) <;> first | done | assumption | omega) | (simp; done) | (simp; omega)) <| St rfl sm rfl rfl <| Sa ag sm rfl <| Sa ag sm rfl <| Sa ag sm rfl <| Sa ag (zb (hv := bi_w bi_add (by first | (simp only [w1, w2, w3, w4, w5, w6, w7] <;> rfl) | rfl))) rfl <| Sa ag (zi (hv := by simp (disch := first | omega | simp only [nx]; omega) only [aIndexAddr, ty37, ty9, hpl, sq] <;> rfl)) rfl <| Sa ag (zl (hv := by simp (disch := first | omega | simp only [nx]; omega) only [aLoad, ty9, rowOf, hpl, sq] <;> rfl)) rfl <| Sa ag sm rfl <| Sa ag sm rfl <| Sa ag sm rfl <| Sa ag (zb (hv := bi_w bi_add (by first | (simp only [w1, w2, w3, w4, w5, w6, w7] <;> rfl) | rfl))) rfl <| Sa ag (zb (hv := bi_w bi_add (by first | (simp only [w1, w2, w3, w4, w5, w6, w7] <;> rfl) | rfl))) rfl <| Sa ag (zi (hv := by simp (disch := first | omega | simp only [nx]; omega) only [aIndexAddr, ty37, ty9, hpl, sq] <;> rfl)) rfl <| Sa ag (zl (hv := by simp (disch := first | omega | simp only [nx]; omega) only [aLoad, ty9, rowOf, hpl, sq] <;> rfl)) rfl <| SqW.callD ag (by simp only [aopnds, lk] <;> rfl) en132 (less_c _ _ _ _ hl1) rfl <| Sf rfl Zp rfl rfl <| Sn ?_
          refine Wn <| CWp.skip <| SQ.normal ?_
          refine W.seq <| Wd <| Sa rfl sm rfl <| Sa rfl sm rfl <| Sa rfl sm rfl <| Sa rfl (zb (hv := bi_w bi_add (by first | (simp only [w1, w2, w3, w4, w5, w6, w7] <;> rfl) | rfl))) rfl <| Sa rfl (zi (hv := by simp (disch := first | omega | simp only [nx]; omega) only [aIndexAddr, ty37, ty9, hpl, sq] <;> rfl)) rfl <| Sa rfl (zl (hv := by simp (disch := first | omega | simp only [nx]; omega) only [aLoad, ty9, rowOf, hpl, sq] <;> rfl)) rfl <| Sa rfl sm rfl <| Sa rfl sm rfl <| Sa rfl sm rfl <| Sa rfl (zb (hv := bi_w bi_add (by first | (simp only [w1, w2, w3, w4, w5, w6, w7] <;> rfl) | rfl))) rfl <| Sa rfl (zi (hv := by simp (disch := first | omega | simp only [nx]; omega) only [aIndexAddr, ty37, ty9, hpl, sq] <;> rfl)) rfl <| Sa rfl (zl (hv := by simp (disch := first | omega | simp only [nx]; omega) only [aLoad, ty9, rowOf, hpl, sq] <;> rfl)) rfl <| SqW.callD rfl (by simp only [aopnds, lk] <;> rfl) en132 (less_c _ _ _ _ hl2) rfl <| St rfl Zt rfl rfl <| Sn ?_
          refine Wy <| CWp.ret <| SQ.ret <| BQ.ret <| LQ.ret <| BQ.ret <| FQ.ret (by simp only [aRet, Tryz.f137, aResults, aResult, lk, Nat.reduceEqDiff, reduceIte] <;> rfl) ?_
          refine ⟨rfl, ?_⟩
          rw [← heq]; simp [hl2]
        · refine W.block <| Wr <| Oa rfl sm rfl <| Oa rfl (zb (hv := bi_w bi_mul (by first | (simp only [w1, w2, w3, w4, w5, w6, w7] <;> rfl) | rfl))) rfl <| Oa rfl (zb (hv := bi_w bi_add (by first | (simp only [w1, w2, w3, w4, w5, w6, w7] <;> rfl) | rfl))) rfl <| Oa rfl za rfl <| On ?_
          refine W.seq <| Wr <| Oa rfl sm rfl <| Oa rfl sm rfl <| Of rfl (zb (hv := bi_geq)) rfl (by first | rfl | assumption | ((simp only [bl, sq]) <;> first | done | assumption | omega) | (simp; done) | (simp; omega)) <| On ?_
          refine Wn <| CWp.skip <| SQ.normal ?_
          refine W.seq <| Wd <| Sa rfl sm rfl <| Sa rfl (zb (hv := bi_w bi_add (by first | (simp only [w1, w2, w3, w4, w5, w6, w7] <;> rfl) | rfl))) rfl <| Sa rfl sm rfl <| St rfl (zb (hv := bi_lss)) rfl (by first | rfl | assumption | ((simp only [bl, sq]) <;> first | done | assumption | omega) | (simp; done) | (simp; omega)) <| St rfl sm rfl rfl <| Sa ag sm rfl <| Sa ag sm rfl <| Sa ag sm rfl <| Sa ag (zb (hv := bi_w bi_add (by first | (simp only [w1, w2, w3, w4, w5, w6, w7] <;> rfl) | rfl))) rfl <| Sa ag (zi (hv := by simp (disch := first | omega | simp only [nx]; omega) only [aIndexAddr, ty37, ty9, hpl, sq] <;> rfl)) rfl <| Sa ag (zl (hv := by simp (disch := first | omega | simp only [nx]; omega) only [aLoad, ty9, rowOf, hpl, sq] <;> rfl)) rfl <| Sa ag sm rfl <| Sa ag sm rfl <| Sa ag sm rfl <| Sa ag (zb (hv := bi_w bi_add (by first | (simp only [w1, w2, w3, w4, w5, w6, w7] <;> rfl) | rfl))) rfl <| Sa ag (zb (hv := bi_w bi_add (by first | (simp only [w1, w2, w3, w4, w5, w6, w7] <;> rfl) | rfl))) rfl <| Sa ag (zi (hv := by simp (disch := first | omega | simp only [nx]; omega) only [aIndexAddr, ty37, ty9, hpl, sq] <;> rfl)) rfl <| Sa ag (zl (hv := by simp (disch := first | omega | simp only [nx]; omega) only [aLoad, ty9, rowOf, hpl, sq] <;> rfl)) rfl <| SqW.callD ag (by simp only [aopnds, lk] <;> rfl) en132 (less_c _ _ _ _ hl1) rfl <| Sf rfl Zp rfl rfl <| Sn ?_
          refine Wn <| CWp.skip <| SQ.normal ?_
          refine W.seq <| Wd <| Sa rfl sm rfl <| Sa rfl sm rfl <| Sa rfl sm rfl <| Sa rfl (zb (hv := bi_w bi_add (by first | (simp only [w1, w2, w3, w4, w5, w6, w7] <;> rfl) | rfl))) rfl <| Sa rfl (zi (hv := by simp (disch := first | omega | simp only [nx]; omega) only [aIndexAddr, ty37, ty9, hpl, sq] <;> rfl)) rfl <| Sa rfl (zl (hv := by simp (disch := first | omega | simp only [nx]; omega) only [aLoad, ty9, rowOf, hpl, sq] <;> rfl)) rfl <| Sa rfl sm rfl <| Sa rfl sm rfl <| Sa rfl sm rfl <| Sa rfl (zb (hv := bi_w bi_add (by first | (simp only [w1, w2, w3, w4, w5, w6, w7] <;> rfl) | rfl))) rfl <| Sa rfl (zi (hv := by simp (disch := first | omega | simp only [nx]; omega) only [aIndexAddr, ty37, ty9, hpl, sq] <;> rfl)) rfl <| Sa rfl (zl (hv := by simp (disch := first | omega | simp only [nx]; omega) only [aLoad, ty9, rowOf, hpl, sq] <;> rfl)) rfl <| SqW.callD rfl (by simp only [aopnds, lk] <;> rfl) en132 (less_c _ _ _ _ hl2) rfl <| Sf rfl Zt rfl rfl <| Sn ?_
          refine Wn <| CWp.skip <| SQ.normal ?_
          refine Wd <| Sa rfl sm rfl <| Sa rfl sm rfl <| Sa rfl sm rfl <| Sa rfl (zb (hv := bi_w bi_add (by first | (simp only [w1, w2, w3, w4, w5, w6, w7] <;> rfl) | rfl))) rfl <| Sa rfl sm rfl <| Sa rfl sm rfl <| Sa rfl sm rfl <| Sa rfl (zb (hv := bi_w bi_add (by first | (simp only [w1, w2, w3, w4, w5, w6, w7] <;> rfl) | rfl))) rfl <| Sa rfl sm rfl <| Sa rfl sm rfl <| Sa rfl sm rfl <| Sa rfl (zb (hv := bi_w bi_add (by first | (simp only [w1, w2, w3, w4, w5, w6, w7] <;> rfl) | rfl))) rfl <| Sa rfl (zi (hv := by simp (disch := first | omega | simp only [nx]; omega) only [aIndexAddr, ty37, ty9, hpl, sq] <;> rfl)) rfl <| Sa rfl (zl (hv := by simp (disch := first | omega | simp only [nx]; omega) only [aLoad, ty9, rowOf, hpl, sq] <;> rfl)) rfl <| Sa rfl sm rfl <| Sa rfl sm rfl <| Sa rfl sm rfl <| Sa rfl (zb (hv := bi_w bi_add (by first | (simp only [w1, w2, w3, w4, w5, w6, w7] <;> rfl) | rfl))) rfl <| Sa rfl (zi (hv := by simp (disch := first | omega | simp only [nx]; omega) only [aIndexAddr, ty37, ty9, hpl, sq] <;> rfl)) rfl <| Sa rfl (zl (hv := by simp (disch := first | omega | simp only [nx]; omega) only [aLoad, ty9, rowOf, hpl, sq] <;> rfl)) rfl <| Sa rfl (zi (hv := by simp (disch := first | omega | simp only [nx]; omega) only [aIndexAddr, ty37, ty9, hpl, sq] <;> rfl)) rfl <| Sa rfl (zs (hv := by simp (disch := first | omega | simp only [nx]; omega) only [aStore, ty9, writeRow, hpl, sq] <;> rfl)) rfl <| Sa rfl (zi (hv := by simp (disch := first | omega | simp only [nx]; omega) only [aIndexAddr, ty37, ty9, hpl, sq] <;> rfl)) rfl <| Sa rfl (zs (hv := by simp (disch := first | omega | simp only [nx]; omega) only [aStore, ty9, writeRow, hpl, sq] <;> rfl)) rfl <| Sn ?_
          refine W.reg <| Oa rfl sm rfl <| Oa rfl za rfl <| OSuf.nil <| BQ.normal <| ?_
          refine LQ.normal (m := hi - (2 * root + 1)) (L := [(0, sl r N), (2, I64 hi), (3, I64 first), (8, I64 (2 * root + 1 : Nat))]) (by omega) ?_ ⟨2 * root + 1, swp dk (first + root) (first + (2 * root + 1)), rfl, by omega, by rw [size_swp]; exact hds, ?_, rfl, rfl⟩
          · simp only [HasA, Tr.get_put, Nat.reduceEqDiff, reduceIte, and_self]
          · rw [← heq]; simp [hl2]
      · rw [hl1] at heq
        have hc4 : 2 * root + 2 < hi := by omega
        simp only [hc3, decide_true, Bool.and_true, if_true, hc4, dif_pos] at heq
        cases hl2 : lt dk[first + root]! dk[first + (2 * root + 2)]!
        · refine W.block <| Wr <| Oa rfl sm rfl <| Oa rfl (zb (hv := bi_w bi_mul (by first | (simp only [w1, w2, w3, w4, w5, w6, w7] <;> rfl) | rfl))) rfl <| Oa rfl (zb (hv := bi_w bi_add (by first | (simp only [w1, w2, w3, w4, w5, w6, w7] <;> rfl) | rfl))) rfl <| Oa rfl za rfl <| On ?_
          refine W.seq <| Wr <| Oa rfl sm rfl <| Oa rfl sm rfl <| Of rfl (zb (hv := bi_geq)) rfl (by first | rfl | assumption | ((simp only [bl, sq]) <;> first | done | assumption | omega) | (simp; done) | (simp; omega)) <| On ?_
          refine Wn <| CWp.skip <| SQ.normal ?_
          refine W.seq <| Wd <| Sa rfl sm rfl <| Sa rfl (zb (hv := bi_w bi_add (by first | (simp only [w1, w2, w3, w4, w5, w6, w7] <;> rfl) | rfl))) rfl <| Sa rfl sm rfl <| St rfl (zb (hv := bi_lss)) rfl (by first | rfl | assumption | ((simp only [bl, sq]) <;> first | done | assumption | omega) | (simp; done) | (simp; omega)) <| St rfl sm rfl rfl <| Sa ag sm rfl <| Sa ag sm rfl <| Sa ag sm rfl <| Sa ag (zb (hv := bi_w bi_add (by first | (simp only [w1, w2, w3, w4, w5, w6, w7] <;> rfl) | rfl))) rfl <| Sa ag (zi (hv := by simp (disch := first | omega | simp only [nx]; omega) only [aIndexAddr, ty37, ty9, hpl, sq] <;> rfl)) rfl <| Sa ag (zl (hv := by simp (disch := first | omega | simp only [nx]; omega) only [aLoad, ty9, rowOf, hpl, sq] <;> rfl)) rfl <| Sa ag sm rfl <| Sa ag sm rfl <| Sa ag sm rfl <| Sa ag (zb (hv := bi_w bi_add (by first | (simp only [w1, w2, w3, w4, w5, w6, w7] <;> rfl) | rfl))) rfl <| Sa ag (zb (hv := bi_w bi_add (by first | (simp only [w1, w2, w3, w4, w5, w6, w7] <;> rfl) | rfl))) rfl <| Sa ag (zi (hv := by simp (disch := first | omega | simp only [nx]; omega) only [aIndexAddr, ty37, ty9, hpl, sq] <;> rfl)) rfl <| Sa ag (zl (hv := by simp (disch := first | omega | simp only [nx]; omega) only [aLoad, ty9, rowOf, hpl, sq] <;> rfl)) rfl <| SqW.callD ag (by simp only [aopnds, lk] <;> rfl) en132 (less_c _ _ _ _ hl1) rfl <| St rfl Zp rfl rfl <| Sn ?_
          refine Wy <| W.reg <| Oa rfl sm rfl <| Oa rfl (zb (hv := bi_w bi_add (by first | (simp only [w1, w2, w3, w4, w5, w6, w7] <;> rfl) | rfl))) rfl <| Oa rfl za rfl <| On ?_
          refine W.seq <| Wd <| Sa rfl sm rfl <| Sa rfl sm rfl <| Sa rfl sm rfl <| Sa rfl (zb (hv := bi_w bi_add (by first | (simp only [w1, w2, w3, w4, w5, w6, w7] <;> rfl) | rfl))) rfl <| Sa rfl (zi (hv := by simp (disch := first | omega | simp only [nx]; omega) only [aIndexAddr, ty37, ty9, hpl, sq] <;> rfl)) rfl <| Sa rfl (zl (hv := by simp (disch := first | omega | simp only [nx]; omega) only [aLoad, ty9, rowOf, hpl, sq] <;> rfl)) rfl <| Sa rfl sm rfl <| Sa rfl sm rfl <| Sa rfl sm rfl <| Sa rfl (zb (hv := bi_w bi_add (by first | (simp only [w1, w2, w3, w4, w5, w6, w7] <;> rfl) | rfl))) rfl <| Sa rfl (zi (hv := by simp (disch := first | omega | simp only [nx]; omega) only [aIndexAddr, ty37, ty9, hpl, sq] <;> rfl)) rfl <| Sa rfl (zl (hv := by simp (disch := first | omega | simp only [nx]; omega) only [aLoad, ty9, rowOf, hpl, sq] <;> rfl)) rfl <| SqW.callD rfl (by simp only [aopnds, lk] <;> rfl) en132 (less_c _ _ _ _ hl2) rfl <| St rfl Zt rfl rfl <| Sn ?_
          refine Wy <| CWp.ret <| SQ.ret <| BQ.ret <| LQ.ret <| BQ.ret <| FQ.ret (by simp only [aRet, Tryz.f137, aResults, aResult, lk, Nat.reduceEqDiff, reduceIte] <;> rfl) ?_
          refine ⟨rfl, ?_⟩
          rw [← heq]; simp [hl2]
        · refine W.block <| Wr <| Oa rfl sm rfl <| Oa rfl (zb (hv := bi_w bi_mul (by first | (simp only [w1, w2, w3, w4, w5, w6, w7] <;> rfl) | rfl))) rfl <| Oa rfl (zb (hv := bi_w bi_add (by first | (simp only [w1, w2, w3, w4, w5, w6, w7] <;> rfl) | rfl))) rfl <| Oa rfl za rfl <| On ?_
          refine W.seq <| Wr <| Oa rfl sm rfl <| Oa rfl sm rfl <| Of rfl (zb (hv := bi_geq)) rfl (by first | rfl | assumption | ((simp only [bl, sq]) <;> first | done | assumption | omega) | (simp; done) | (simp; omega)) <| On ?_
          refine Wn <| CWp.skip <| SQ.normal ?_
          refine W.seq <| Wd <| Sa rfl sm rfl <| Sa rfl (zb (hv := bi_w bi_add (by first | (simp only [w1, w2, w3, w4, w5, w6, w7] <;> rfl) | rfl))) rfl <| Sa rfl sm rfl <| St rfl (zb (hv := bi_lss)) rfl (by first | rfl | assumption | ((simp only [bl, sq]) <;> first | done | assumption | omega) | (simp; done) | (simp; omega)) <| St rfl sm rfl rfl <| Sa ag sm rfl <| Sa ag sm rfl <| Sa ag sm rfl <| Sa ag (zb (hv := bi_w bi_add (by first | (simp only [w1, w2, w3, w4, w5, w6, w7] <;> rfl) | rfl))) rfl <| Sa ag (zi (hv := by simp (disch := first | omega | simp only [nx]; omega) only [aIndexAddr, ty37, ty9, hpl, sq] <;> rfl)) rfl <| Sa ag (zl (hv := by simp (disch := first | omega | simp only [nx]; omega) only [aLoad, ty9, rowOf, hpl, sq] <;> rfl)) rfl <| Sa ag sm rfl <| Sa ag sm rfl <| Sa ag sm rfl <| Sa ag (zb (hv := bi_w bi_add (by first | (simp only [w1, w2, w3, w4, w5, w6, w7] <;> rfl) | rfl))) rfl <| Sa ag (zb (hv := bi_w bi_add (by first | (simp only [w1, w2, w3, w4, w5, w6, w7] <;> rfl) | rfl))) rfl <| Sa ag (zi (hv := by simp (disch := first | omega | simp only [nx]; omega) only [aIndexAddr, ty37, ty9, hpl, sq] <;> rfl)) rfl <| Sa ag (zl (hv := by simp (disch := first | omega | simp only [nx]; omega) only [aLoad, ty9, rowOf, hpl, sq] <;> rfl)) rfl <| SqW.callD ag (by simp only [aopnds, lk] <;> rfl) en132 (less_c _ _ _ _ hl1) rfl <| St rfl Zp rfl rfl <| Sn ?_
          refine Wy <| W.reg <| Oa rfl sm rfl <| Oa rfl (zb (hv := bi_w bi_add (by first | (simp only [w1, w2, w3, w4, w5, w6, w7] <;> rfl) | rfl))) rfl <| Oa rfl za rfl <| On ?_
          refine W.seq <| Wd <| Sa rfl sm rfl <| Sa rfl sm rfl <| Sa rfl sm rfl <| Sa rfl (zb (hv := bi_w bi_add (by first | (simp only [w1, w2, w3, w4, w5, w6, w7] <;> rfl) | rfl))) rfl <| Sa rfl (zi (hv := by simp (disch := first | omega | simp only [nx]; omega) only [aIndexAddr, ty37, ty9, hpl, sq] <;> rfl)) rfl <| Sa rfl (zl (hv := by simp (disch := first | omega | simp only [nx]; omega) only [aLoad, ty9, rowOf, hpl, sq] <;> rfl)) rfl <| Sa rfl sm rfl <| Sa rfl sm rfl <| Sa rfl sm rfl <| Sa rfl (zb (hv := bi_w bi_add (by first | (simp only [w1, w2, w3, w4, w5, w6, w7] <;> rfl) | rfl))) rfl <| Sa rfl (zi (hv := by simp (disch := first | omega | simp only [nx]; omega) only [aIndexAddr, ty37, ty9, hpl, sq] <;> rfl)) rfl <| Sa rfl (zl (hv := by simp (disch := first | omega | simp only [nx]; omega) only [aLoad, ty9, rowOf, hpl, sq] <;> rfl)) rfl <| SqW.callD rfl (by simp only [aopnds, lk] <;> rfl) en132 (less_c _ _ _ _ hl2) rfl <| Sf rfl Zt rfl rfl <| Sn ?_
          refine Wn <| CWp.skip <| SQ.normal ?_
          refine Wd <| Sa rfl sm rfl <| Sa rfl sm rfl <| Sa rfl sm rfl <| Sa rfl (zb (hv := bi_w bi_add (by first | (simp only [w1, w2, w3, w4, w5, w6, w7] <;> rfl) | rfl))) rfl <| Sa rfl sm rfl <| Sa rfl sm rfl <| Sa rfl sm rfl <| Sa rfl (zb (hv := bi_w bi_add (by first | (simp only [w1, w2, w3, w4, w5, w6, w7] <;> rfl) | rfl))) rfl <| Sa rfl sm rfl <| Sa rfl sm rfl <| Sa rfl sm rfl <| Sa rfl (zb (hv := bi_w bi_add (by first | (simp only [w1, w2, w3, w4, w5, w6, w7] <;> rfl) | rfl))) rfl <| Sa rfl (zi (hv := by simp (disch := first | omega | simp only [nx]; omega) only [aIndexAddr, ty37, ty9, hpl, sq] <;> rfl)) rfl <| Sa rfl (zl (hv := by simp (disch := first | omega | simp only [nx]; omega) only [aLoad, ty9, rowOf, hpl, sq] <;> rfl)) rfl <| Sa rfl sm rfl <| Sa rfl sm rfl <| Sa rfl sm rfl <| Sa rfl (zb (hv := bi_w bi_add (by first | (simp only [w1, w2, w3, w4, w5, w6, w7] <;> rfl) | rfl))) rfl <| Sa rfl (zi (hv := by simp (disch := first | omega | simp only [nx]; omega) only [aIndexAddr, ty37, ty9, hpl, sq] <;> rfl)) rfl <| Sa rfl (zl (hv := by simp (disch := first | omega | simp only [nx]; omega) only [aLoad, ty9, rowOf, hpl, sq] <;> rfl)) rfl <| Sa rfl (zi (hv := by simp (disch := first | omega | simp only [nx]; omega) only [aIndexAddr, ty37, ty9, hpl, sq] <;> rfl)) rfl <| Sa rfl (zs (hv := by simp (disch := first | omega | simp only [nx]; omega) only [aStore, ty9, writeRow, hpl, sq] <;> rfl)) rfl <| Sa rfl (zi (hv := by simp (disch := first | omega | simp only [nx]; omega) only [aIndexAddr, ty37, ty9, hpl, sq] <;> rfl)) rfl <| Sa rfl (zs (hv := by simp (disch := first | omega | simp only [nx]; omega) only [aStore, ty9, writeRow, hpl, sq] <;> rfl)) rfl <| Sn ?_
          refine W.reg <| Oa rfl sm rfl <| Oa rfl za rfl <| OSuf.nil <| BQ.normal <| ?_
          refine LQ.normal (m := hi - (2 * root + 2)) (L := [(0, sl r N), (2, I64 hi), (3, I64 first), (8, I64 (2 * root + 2 : Nat))]) (by omega) ?_ ⟨2 * root + 2, swp dk (first + root) (first + (2 * root + 2)), rfl, by omega, by rw [size_swp]; exact hds, ?_, rfl, rfl⟩
          · simp only [HasA, Tr.get_put, Nat.reduceEqDiff, reduceIte, and_self]
          · rw [← heq]; simp [hl2, hc2]
    · have hc3 : ¬ 2 * root + 1 + 1 < hi := by omega
      simp only [hc3, decide_false, Bool.false_and, Bool.false_eq_true, if_false] at heq
      cases hl2 : lt dk[first + root]! dk[first + (2 * root + 1)]!
      · refine W.block <| Wr <| Oa rfl sm rfl <| Oa rfl (zb (hv := bi_w bi_mul (by first | (simp only [w1, w2, w3, w4, w5, w6, w7] <;> rfl) | rfl))) rfl <| Oa rfl (zb (hv := bi_w bi_add (by first | (simp only [w1, w2, w3, w4, w5, w6, w7] <;> rfl) | rfl))) rfl <| Oa rfl za rfl <| On ?_
        refine W.seq <| Wr <| Oa rfl sm rfl <| Oa rfl sm rfl <| Of rfl (zb (hv := bi_geq)) rfl (by first | rfl | assumption | ((simp only [bl, sq]) <;> first | done | assumption | omega) | (simp; done) | (simp; omega)) <| On ?_
        refine Wn <| CWp.skip <| SQ.normal ?_
        refine W.seq <| Wd <| Sa rfl sm rfl <| Sa rfl (zb (hv := bi_w bi_add (by first | (simp only [w1, w2, w3, w4, w5, w6, w7] <;> rfl) | rfl))) rfl <| Sa rfl sm rfl <| Sf rfl (zb (hv := bi_lss)) rfl (by first | rfl | assumption | ((simp only [bl, sq]) <;> first | done | assumption | omega) | (simp; done) | (simp; omega)) <| Sf rfl sm rfl rfl <| Pb ag rfl <| Pb ag rfl <| Pb ag rfl <| Pb ag rfl <| Pb ag rfl <| Pb ag rfl <| Pb ag rfl <| Pb ag rfl <| Pb ag rfl <| Pb ag rfl <| Pb ag rfl <| Pb ag rfl <| Pb ag rfl <| Pb ag rfl <| Sf rfl Zp rfl rfl <| Sn ?_
        refine Wn <| CWp.skip <| SQ.normal ?_
        refine W.seq <| Wd <| Sa rfl sm rfl <| Sa rfl sm rfl <| Sa rfl sm rfl <| Sa rfl (zb (hv := bi_w bi_add (by first | (simp only [w1, w2, w3, w4, w5, w6, w7] <;> rfl) | rfl))) rfl <| Sa rfl (zi (hv := by simp (disch := first | omega | simp only [nx]; omega) only [aIndexAddr, ty37, ty9, hpl, sq] <;> rfl)) rfl <| Sa rfl (zl (hv := by simp (disch := first | omega | simp only [nx]; omega) only [aLoad, ty9, rowOf, hpl, sq] <;> rfl)) rfl <| Sa rfl sm rfl <| Sa rfl sm rfl <| Sa rfl sm rfl <| Sa rfl (zb (hv := bi_w bi_add (by first | (simp only [w1, w2, w3, w4, w5, w6, w7] <;> rfl) | rfl))) rfl <| Sa rfl (zi (hv := by simp (disch := first | omega | simp only [nx]; omega) only [aIndexAddr, ty37, ty9, hpl, sq] <;> rfl)) rfl <| Sa rfl (zl (hv := by simp (disch := first | omega | simp only [nx]; omega) only [aLoad, ty9, rowOf, hpl, sq] <;> rfl)) rfl <| SqW.callD rfl (by simp only [aopnds, lk] <;> rfl) en132 (less_c _ _ _ _ hl2) rfl <| St rfl Zt rfl rfl <| Sn ?_
        refine Wy <| CWp.ret <| SQ.ret <| BQ.ret <| LQ.ret <| BQ.ret <| FQ.ret (by simp only [aRet, Tryz.f137, aResults, aResult, lk, Nat.reduceEqDiff, reduceIte] <;> rfl) ?_
        refine ⟨rfl, ?_⟩
        rw [← heq]; simp [hl2]
      · refine W.block <| Wr <| Oa rfl sm rfl <| Oa rfl (zb (hv := bi_w bi_mul (by first | (simp only [w1, w2, w3, w4, w5, w6, w7] <;> rfl) | rfl))) rfl <| Oa rfl (zb (hv := bi_w bi_add (by first | (simp only [w1, w2, w3, w4, w5, w6, w7] <;> rfl) | rfl))) rfl <| Oa rfl za rfl <| On ?_
        refine W.seq <| Wr <| Oa rfl sm rfl <| Oa rfl sm rfl <| Of rfl (zb (hv := bi_geq)) rfl (by first | rfl | assumption | ((simp only [bl, sq]) <;> first | done | assumption | omega) | (simp; done) | (simp; omega)) <| On ?_
        refine Wn <| CWp.skip <| SQ.normal ?_
        refine W.seq <| Wd <| Sa rfl sm rfl <| Sa rfl (zb (hv := bi_w bi_add (by first | (simp only [w1, w2, w3, w4, w5, w6, w7] <;> rfl) | rfl))) rfl <| Sa rfl sm rfl <| Sf rfl (zb (hv := bi_lss)) rfl (by first | rfl | assumption | ((simp only [bl, sq]) <;> first | done | assumption | omega) | (simp; done) | (simp; omega)) <| Sf rfl sm rfl rfl <| Pb ag rfl <| Pb ag rfl <| Pb ag rfl <| Pb ag rfl <| Pb ag rfl <| Pb ag rfl <| Pb ag rfl <| Pb ag rfl <| Pb ag rfl <| Pb ag rfl <| Pb ag rfl <| Pb ag rfl <| Pb ag rfl <| Pb ag rfl <| Sf rfl Zp rfl rfl <| Sn ?_
        refine Wn <| CWp.skip <| SQ.normal ?_
        refine W.seq <| Wd <| Sa rfl sm rfl <| Sa rfl sm rfl <| Sa rfl sm rfl <| Sa rfl (zb (hv := bi_w bi_add (by first | (simp only [w1, w2, w3, w4, w5, w6, w7] <;> rfl) | rfl))) rfl <| Sa rfl (zi (hv := by simp (disch := first | omega | simp only [nx]; omega) only [aIndexAddr, ty37, ty9, hpl, sq] <;> rfl)) rfl <| Sa rfl (zl (hv := by simp (disch := first | omega | simp only [nx]; omega) only [aLoad, ty9, rowOf, hpl, sq] <;> rfl)) rfl <| Sa rfl sm rfl <| Sa rfl sm rfl <| Sa rfl sm rfl <| Sa rfl (zb (hv := bi_w bi_add (by first | (simp only [w1, w2, w3, w4, w5, w6, w7] <;> rfl) | rfl))) rfl <| Sa rfl (zi (hv := by simp (disch := first | omega | simp only [nx]; omega) only [aIndexAddr, ty37, ty9, hpl, sq] <;> rfl)) rfl <| Sa rfl (zl (hv := by simp (disch := first | omega | simp only [nx]; omega) only [aLoad, ty9, rowOf, hpl, sq] <;> rfl)) rfl <| SqW.callD rfl (by simp only [aopnds, lk] <;> rfl) en132 (less_c _ _ _ _ hl2) rfl <| Sf rfl Zt rfl rfl <| Sn ?_
        refine Wn <| CWp.skip <| SQ.normal ?_
        refine Wd <| Sa rfl sm rfl <| Sa rfl sm rfl <| Sa rfl sm rfl <| Sa rfl (zb (hv := bi_w bi_add (by first | (simp only [w1, w2, w3, w4, w5, w6, w7] <;> rfl) | rfl))) rfl <| Sa rfl sm rfl <| Sa rfl sm rfl <| Sa rfl sm rfl <| Sa rfl (zb (hv := bi_w bi_add (by first | (simp only [w1, w2, w3, w4, w5, w6, w7] <;> rfl) | rfl))) rfl <| Sa rfl sm rfl <| Sa rfl sm rfl <| Sa rfl sm rfl <| Sa rfl (zb (hv := bi_w bi_add (by first | (simp only [w1, w2, w3, w4, w5, w6, w7] <;> rfl) | rfl))) rfl <| Sa rfl (zi (hv := by simp (disch := first | omega | simp only [nx]; omega) only [aIndexAddr, ty37, ty9, hpl, sq] <;> rfl)) rfl <| Sa rfl (zl (hv := by simp (disch := first | omega | simp only [nx]; omega) only [aLoad, ty9, rowOf, hpl, sq] <;> rfl)) rfl <| Sa rfl sm rfl <| Sa rfl sm rfl <| Sa rfl sm rfl <| Sa rfl (zb (hv := bi_w bi_add (by first | (simp only [w1, w2, w3, w4, w5, w6, w7] <;> rfl) | rfl))) rfl <| Sa rfl (zi (hv := by simp (disch := first | omega | simp only [nx]; omega) only [aIndexAddr, ty37, ty9, hpl, sq] <;> rfl)) rfl <| Sa rfl (zl (hv := by simp (disch := first | omega | simp only [nx]; omega) only [aLoad, ty9, rowOf, hpl, sq] <;> rfl)) rfl <| Sa rfl (zi (hv := by simp (disch := first | omega | simp only [nx]; omega) only [aIndexAddr, ty37, ty9, hpl, sq] <;> rfl)) rfl <| Sa rfl (zs (hv := by simp (disch := first | omega | simp only [nx]; omega) only [aStore, ty9, writeRow, hpl, sq] <;> rfl)) rfl <| Sa rfl (zi (hv := by simp (disch := first | omega | simp only [nx]; omega) only [aIndexAddr, ty37, ty9, hpl, sq] <;> rfl)) rfl <| Sa rfl (zs (hv := by simp (disch := first | omega | simp only [nx]; omega) only [aStore, ty9, writeRow, hpl, sq] <;> rfl)) rfl <| Sn ?_
        refine W.reg <| Oa rfl sm rfl <| Oa rfl za rfl <| OSuf.nil <| BQ.normal <| ?_
        refine LQ.normal (m := hi - (2 * root + 1)) (L := [(0, sl r N), (2, I64 hi), (3, I64 first), (8, I64 (2 * root + 1 : Nat))]) (by omega) ?_ ⟨2 * root + 1, swp dk (first + root) (first + (2 * root + 1)), rfl, by omega, by rw [size_swp]; exact hds, ?_, rfl, rfl⟩
        · simp only [HasA, Tr.get_put, Nat.reduceEqDiff, reduceIte, and_self]
        · rw [← heq]; simp [hl2]
theorem sift_size (hi first : Nat) : ∀ (n root : Nat) (e : Array El), hi - root ≤ n → (siftDown lt hi first root e).size = e.size := by
  intro n
  induction n with
  | zero => intro root e hn; rw [siftDown, dif_pos (by omega)]
  | succ n ih =>
    intro root e hn
    rw [siftDown]
    split
    · rfl
    · split
      · split
        · rfl
        · split
          · rw [ih _ _ (by omega), size_swp]
          · rfl
      · split
        · rfl
        · rw [ih _ _ (by omega), size_swp]
theorem heap_c (h : AHeap) (r N : Nat) (d : Array El) (hN : d.size = N) (a b : Nat) (hab : a ≤ b) (hb : b ≤ N) (hsz : N < 1000000000) :
    FWp Tryz.prog 127 [sl r N, I64 a, I64 b] (h.set r (row d)) fun u h' => u = .tuple #[] ∧ h' = h.set r (row (heapSort lt d a b)) := by
  refine W.enter tyOK Tryz.func127 rfl rfl ?_
  simp only [entry]
  have w1 : IntKind.i64.wrap ((b : Int) - (a : Int)) = ((b - a : Nat) : Int) := by rw [wrap_i64 (by omega) (by omega)]; omega
  have w2 : IntKind.i64.wrap (((b - a : Nat) : Int) - 1) = ((b - a : Nat) : Int) - 1 := wrap_i64 (by omega) (by omega)
  have w3 : IntKind.i64.wrap ((((b - a : Nat) : Int) - 1).tdiv 2) = (((b - a - 1) / 2 + 1 : Nat) : Int) - 1 := by
    rw [wrap_i64]
    · by_cases h0 : b - a = 0
      · rw [h0]; rfl
      · rw [Int.tdiv_eq_ediv_of_nonneg (by omega)]; omega
    · by_cases h0 : b - a = 0
      · rw [h0]; decide
      · rw [Int.tdiv_eq_ediv_of_nonneg (by omega)]; omega
    · by_cases h0 : b - a = 0
      · rw [h0]; decide
      · rw [Int.tdiv_eq_ediv_of_nonneg (by omega)]; omega
  refine Wr <| Oa rfl sm rfl <| Oa rfl za rfl <| On ?_
  refine Wr <| Oa rfl za rfl <| On ?_
  refine Wr <| Oa rfl sm rfl <| Oa rfl sm rfl <| Oa rfl (zb (hv := bi_w bi_sub (by first | (simp only [w1, w2, w3] <;> rfl) | rfl))) rfl <| Oa rfl za rfl <| On ?_
  refine W.seq <| Wr <| Oa rfl sm rfl <| Oa rfl (zb (hv := bi_w bi_sub (by first | (simp only [w1, w2, w3] <;> rfl) | rfl))) rfl <| Oa rfl (zb (hv := bi_w (bi_quo (by decide)) (by first | (simp only [w1, w2, w3] <;> rfl) | rfl))) rfl <| Oa rfl za rfl <| On ?_
  refine W.cut (fun L h' => ∃ dk : Array El, dk.size = N ∧ dk = heapBuild lt (b - a) a ((b - a - 1) / 2 + 1) d ∧ h' = h.set r (row dk) ∧ L = [(0, sl r N), (6, I64 a), (7, I64 (0 : Nat)), (8, I64 (b - a : Nat))])
    (W.block (W.loop (fun n L h' => ∃ (dk : Array El), n ≤ (b - a - 1) / 2 + 1 ∧ dk.size = N ∧ heapBuild lt (b - a) a n dk = heapBuild lt (b - a) a ((b - a - 1) / 2 + 1) d ∧ h' = h.set r (row dk) ∧
      L = [(0, sl r N), (6, I64 a), (7, I64 (0 : Nat)), (8, I64 (b - a : Nat)), (9, I64 ((n : Int) - 1))]) (n := (b - a - 1) / 2 + 1) ⟨d, Nat.le_refl _, hN, rfl, rfl, rfl⟩ ?_ ?_)) ?_
  · simp [HasA, Tr.get_put]
  · rintro n L h1 ⟨dk, hn, hds, heq, rfl, rfl⟩
    simp only [mkA]
    cases n with
    | zero =>
      refine W.seq <| Wr <| Oa rfl sm rfl <| Ofb rfl (zb (hv := bi_geq)) rfl <| On ?_
      refine Wn <| CWp.exit <| SQ.exit <| LQ.exit <| BQ.exit <| ?_
      refine NQ.normal (L := [(0, sl r N), (6, I64 a), (7, I64 (0 : Nat)), (8, I64 (b - a : Nat))]) ?_ ⟨dk, hds, heq, rfl, rfl⟩
      simp [HasA, Tr.get_put]
    | succ k =>
      have e1 : (((k + 1 : Nat) : Int) - 1) = (k : Int) := by omega
      rw [e1]
      have w4 : IntKind.i64.wrap ((k : Int) - 1) = (k : Int) - 1 := wrap_i64 (by omega) (by omega)
      have hk : k ≤ b - a := by omega
      refine W.seq <| Wr <| Oa rfl sm rfl <| Otb rfl (zb (hv := bi_geq)) rfl <| On ?_
      refine Wy <| CWp.skip <| SQ.normal ?_
      refine W.seq <| W.block <| W.reg <| Oa rfl sm rfl <| Oa rfl sm rfl <| Oa rfl sm rfl <| Oa rfl sm rfl <| OSuf.callD rfl (by simp only [aopnds, lk] <;> rfl) en137 (sift_c h r N dk hds k (b - a) a hk (by omega) (by omega)) rfl <| OSuf.nil <| BQ.normal <| SQ.normal ?_
      refine W.reg <| Oa rfl sm rfl <| Oa rfl (zb (hv := bi_w bi_sub (by first | (simp only [w4] <;> rfl) | rfl))) rfl <| Oa rfl za rfl <| OSuf.nil <| ?_
      refine LQ.normal (m := k) (L := [(0, sl r N), (6, I64 a), (7, I64 (0 : Nat)), (8, I64 (b - a : Nat)), (9, I64 ((k : Int) - 1))]) (by omega) ?_ ⟨siftDown lt (b - a) a k dk, by omega, ?_, ?_, rfl, rfl⟩
      · simp only [HasA, Tr.get_put, Nat.reduceEqDiff, reduceIte, and_self]
      · rw [sift_size _ _ _ _ _ (Nat.le_refl _)]; exact hds
      · rw [← heq]; rfl
  rintro L a' h1 ha ⟨dk, hds, hdk, rfl, rfl⟩
  refine SQ.normal <| CWp.known ha ?_
  simp only [mkA]
  refine Wr <| Oa rfl sm rfl <| Oa rfl (zb (hv := bi_w bi_sub (by first | (simp only [w2] <;> rfl) | rfl))) rfl <| Oa rfl za rfl <| On ?_
  refine W.block (W.loop (fun n L h' => ∃ (dj : Array El), n ≤ b - a ∧ dj.size = N ∧ heapPop lt a n dj = heapPop lt a (b - a) dk ∧ h' = h.set r (row dj) ∧
      L = [(0, sl r N), (6, I64 a), (7, I64 (0 : Nat)), (10, I64 ((n : Int) - 1))]) (n := b - a) ⟨dk, Nat.le_refl _, hds, rfl, rfl, rfl⟩ ?_ ?_)
  · simp [HasA, Tr.get_put]
  · rintro n L h1 ⟨dj, hn, hdj, heq, rfl, rfl⟩
    simp only [mkA]
    cases n with
    | zero =>
      refine W.seq <| Wr <| Oa rfl sm rfl <| Ofb rfl (zb (hv := bi_geq)) rfl <| On ?_
      refine Wn <| CWp.exit <| SQ.exit <| LQ.exit <| BQ.exit <| FQ.normal (by simp only [aRet, Tryz.f127, aResults, aResult, lk, Nat.reduceEqDiff, reduceIte] <;> rfl) ?_
      refine ⟨rfl, ?_⟩
      rw [heapSort, ← hdk, ← heq]; rfl
    | succ k =>
      have e1 : (((k + 1 : Nat) : Int) - 1) = (k : Int) := by omega
      rw [e1]
      have w4 : IntKind.i64.wrap ((k : Int) - 1) = (k : Int) - 1 := wrap_i64 (by omega) (by omega)
      have w5 : IntKind.i64.wrap ((a : Int) + (k : Int)) = ((a + k : Nat) : Int) := by rw [wrap_i64 (by omega) (by omega)]; omega
      have hsw : (swp dj a (a + k)).size = N := by rw [size_swp]; exact hdj
      refine W.seq <| Wr <| Oa rfl sm rfl <| Ot rfl (zb (hv := bi_geq)) rfl (by first | rfl | assumption | ((simp only [bl, sq]) <;> first | done | assumption | omega) | (simp; done) | (simp; omega)) <| On ?_
      refine Wy <| CWp.skip <| SQ.normal ?_
      refine W.seq <| W.block <| Wd <| Sa rfl sm rfl <| Sa rfl sm rfl <| Sa rfl sm rfl <| Sa rfl sm rfl <| Sa rfl sm rfl <| Sa rfl (zb (hv := bi_w bi_add (by first | (simp only [w4, w5] <;> rfl) | rfl))) rfl <| Sa rfl sm rfl <| Sa rfl sm rfl <| Sa rfl sm rfl <| Sa rfl (zb (hv := bi_w bi_add (by first | (simp only [w4, w5] <;> rfl) | rfl))) rfl <| Sa rfl (zi (hv := by simp (disch := first | omega | simp only [nx]; omega) only [aIndexAddr, ty37, ty9, hpl, sq] <;> rfl)) rfl <| Sa rfl (zl (hv := by simp (disch := first | omega | simp only [nx]; omega) only [aLoad, ty9, rowOf, hpl, sq] <;> rfl)) rfl <| Sa rfl sm rfl <| Sa rfl sm rfl <| Sa rfl (zi (hv := by simp (disch := first | omega | simp only [nx]; omega) only [aIndexAddr, ty37, ty9, hpl, sq] <;> rfl)) rfl <| Sa rfl (zl (hv := by simp (disch := first | omega | simp only [nx]; omega) only [aLoad, ty9, rowOf, hpl, sq] <;> rfl)) rfl <| Sa rfl (zi (hv := by simp (disch := first | omega | simp only [nx]; omega) only [aIndexAddr, ty37, ty9, hpl, sq] <;> rfl)) rfl <| Sa rfl (zs (hv := by simp (disch := first | omega | simp only [nx]; omega) only [aStore, ty9, writeRow, hpl, sq] <;> rfl)) rfl <| Sa rfl (zi (hv := by simp (disch := first | omega | simp only [nx]; omega) only [aIndexAddr, ty37, ty9, hpl, sq] <;> rfl)) rfl <| Sa rfl (zs (hv := by simp (disch := first | omega | simp only [nx]; omega) only [aStore, ty9, writeRow, hpl, sq] <;> rfl)) rfl <| Sn ?_
      refine W.reg <| Oa rfl sm rfl <| Oa rfl sm rfl <| Oa rfl sm rfl <| Oa rfl sm rfl <| OSuf.callD rfl (by simp only [aopnds, lk] <;> rfl) en137 (sift_c h r N (swp dj a (a + k)) hsw 0 k a (by omega) (by omega) (by omega)) rfl <| OSuf.nil <| BQ.normal <| SQ.normal ?_
      refine W.reg <| Oa rfl sm rfl <| Oa rfl (zb (hv := bi_w bi_sub (by first | (simp only [w4, w5] <;> rfl) | rfl))) rfl <| Oa rfl za rfl <| OSuf.nil <| ?_
      refine LQ.normal (m := k) (L := [(0, sl r N), (6, I64 a), (7, I64 (0 : Nat)), (10, I64 ((k : Int) - 1))]) (by omega) ?_ ⟨siftDown lt k a 0 (swp dj a (a + k)), by omega, ?_, ?_, rfl, rfl⟩
      · simp only [HasA, Tr.get_put, Nat.reduceEqDiff, reduceIte, and_self]
      · rw [sift_size _ _ _ _ _ (Nat.le_refl _)]; exact hsw
      · rw [← heq]; rfl
theorem reverse_c (h : AHeap) (r N : Nat) (d : Array El) (hN : d.size = N) (a b : Nat) (hab : a < b) (hb : b ≤ N) (hsz : N < 1000000000) :
    FWp Tryz.prog 130 [sl r N, I64 a, I64 b] (h.set r (row d)) fun u h' => u = .tuple #[] ∧ h' = h.set r (row (reverseRange d a b)) := by
  refine W.enter tyOK Tryz.func130 rfl rfl ?_
  simp only [entry]
  have w1 : IntKind.i64.wrap ((b : Int) - 1) = ((b - 1 : Nat) : Int) := by rw [wrap_i64 (by omega) (by omega)]; omega
  refine Wr <| Oa rfl sm rfl <| Oa rfl za rfl <| On ?_
  refine Wr <| Oa rfl sm rfl <| Oa rfl (zb (hv := bi_w bi_sub (by first | (simp only [w1] <;> rfl) | rfl))) rfl <| Oa rfl za rfl <| On ?_
  refine W.block (W.loop (fun n L h' => ∃ (i j : Nat) (dk : Array El), n = j - i ∧ a ≤ i ∧ i ≤ b ∧ j < b ∧ dk.size = N ∧ reverseLoop i j dk = reverseRange d a b ∧ h' = h.set r (row dk) ∧
      L = [(0, sl r N), (6, I64 i), (7, I64 j)]) (n := b - 1 - a) ⟨a, b - 1, d, rfl, by omega, by omega, by omega, hN, rfl, rfl, rfl⟩ ?_ ?_)
  · simp [HasA, Tr.get_put]
  · rintro n L h1 ⟨i, j, dk, rfl, hi, hib, hj, hds, heq, rfl, rfl⟩
    simp only [mkA]
    rw [reverseLoop] at heq
    by_cases hij : (i : Int) < (j : Int)
    · have w2 : IntKind.i64.wrap ((i : Int) + 1) = ((i + 1 : Nat) : Int) := by rw [wrap_i64 (by omega) (by omega)]; omega
      have w3 : IntKind.i64.wrap ((j : Int) - 1) = ((j - 1 : Nat) : Int) := by rw [wrap_i64 (by omega) (by omega)]; omega
      rw [if_pos (by omega)] at heq
      refine W.seq <| Wr <| Oa rfl sm rfl <| Oa rfl sm rfl <| Ot rfl (zb (hv := bi_lss)) rfl (by first | rfl | assumption | ((simp only [bl, sq]) <;> first | done | assumption | omega) | (simp; done) | (simp; omega)) <| On ?_
      refine Wy <| CWp.skip <| SQ.normal ?_
      refine W.block <| Wd <| Sa rfl sm rfl <| Sa rfl sm rfl <| Sa rfl sm rfl <| Sa rfl sm rfl <| Sa rfl sm rfl <| Sa rfl sm rfl <| Sa rfl (zi (hv := by simp (disch := first | omega | simp only [nx]; omega) only [aIndexAddr, ty37, ty9, hpl, sq] <;> rfl)) rfl <| Sa rfl (zl (hv := by simp (disch := first | omega | simp only [nx]; omega) only [aLoad, ty9, rowOf, hpl, sq] <;> rfl)) rfl <| Sa rfl sm rfl <| Sa rfl sm rfl <| Sa rfl (zi (hv := by simp (disch := first | omega | simp only [nx]; omega) only [aIndexAddr, ty37, ty9, hpl, sq] <;> rfl)) rfl <| Sa rfl (zl (hv := by simp (disch := first | omega | simp only [nx]; omega) only [aLoad, ty9, rowOf, hpl, sq] <;> rfl)) rfl <| Sa rfl (zi (hv := by simp (disch := first | omega | simp only [nx]; omega) only [aIndexAddr, ty37, ty9, hpl, sq] <;> rfl)) rfl <| Sa rfl (zs (hv := by simp (disch := first | omega | simp only [nx]; omega) only [aStore, ty9, writeRow, hpl, sq] <;> rfl)) rfl <| Sa rfl (zi (hv := by simp (disch := first | omega | simp only [nx]; omega) only [aIndexAddr, ty37, ty9, hpl, sq] <;> rfl)) rfl <| Sa rfl (zs (hv := by simp (disch := first | omega | simp only [nx]; omega) only [aStore, ty9, writeRow, hpl, sq] <;> rfl)) rfl <| Sn ?_
      refine Wr <| Oa rfl sm rfl <| Oa rfl (zb (hv := bi_w bi_add (by first | (simp only [w2, w3] <;> rfl) | rfl))) rfl <| Oa rfl za rfl <| On ?_
      refine W.reg <| Oa rfl sm rfl <| Oa rfl (zb (hv := bi_w bi_sub (by first | (simp only [w2, w3] <;> rfl) | rfl))) rfl <| Oa rfl za rfl <| OSuf.nil <| BQ.normal <| ?_
      refine LQ.normal (m := (j - 1) - (i + 1)) (L := [(0, sl r N), (6, I64 (i + 1 : Nat)), (7, I64 (j - 1 : Nat))]) (by omega) ?_ ⟨i + 1, j - 1, swp dk i j, rfl, by omega, by omega, by omega, by rw [size_swp]; exact hds, heq, rfl, rfl⟩
      simp only [HasA, Tr.get_put, Nat.reduceEqDiff, reduceIte, and_self]
    · rw [if_neg (by omega)] at heq
      refine W.seq <| Wr <| Oa rfl sm rfl <| Oa rfl sm rfl <| Ofb rfl (zb (hv := bi_lss)) rfl <| On ?_
      refine Wn <| CWp.exit <| SQ.exit <| LQ.exit <| BQ.exit <| FQ.normal (by simp only [aRet, Tryz.f130, aResults, aResult, lk, Nat.reduceEqDiff, reduceIte] <;> rfl) ?_
      exact ⟨rfl, by rw [← heq]⟩
end Go.Proofs.YtebheelmgcggmaaGreat.SortS
namespace Go.Proofs.YtebheelmgcggmaaGreat.SortS
open Go.Ab Go.Sort
theorem up_eq {p : El → Bool} {d : Array El} {j i : Nat} (h : i ≤ j) (hp : p d[i]! = true) : scanUp p d j i = scanUp p d j (i + 1) := by conv => lhs; rw [scanUp]; simp [h, hp]
theorem up_stop {p : El → Bool} {d : Array El} {j i : Nat} (h : ¬ i ≤ j ∨ p d[i]! = false) : scanUp p d j i = i := by
  rw [scanUp]
  rcases h with h | h
  · simp [h]
  · simp [h]
theorem down_eq {p : El → Bool} {d : Array El} {j i : Nat} (h : i ≤ j + 1) (hp : p d[j + 1]! = true) : scanDown p d i (j + 1) = scanDown p d i j := by conv => lhs; rw [scanDown]; simp [h, hp]
theorem down_stop {p : El → Bool} {d : Array El} {j i : Nat} (hi : 1 ≤ i) (h : ¬ i ≤ j ∨ p d[j]! = false) : scanDown p d i j = j := by
  cases j with
  | zero => rfl
  | succ j =>
    rw [scanDown]
    rcases h with h | h
    · simp [h]
    · simp [h]
theorem swp_sz {d : Array El} {i j n : Nat} (h : d.size = n) : (swp d i j).size = n := by rw [size_swp]; exact h
theorem partition_c (h : AHeap) (r N : Nat) (d : Array El) (hN : d.size = N) (a b pivot : Nat) (hap : a ≤ pivot) (hpb : pivot < b) (hb : b ≤ N) (hsz : N < 1000000000) :
    FWp Tryz.prog 134 [sl r N, I64 a, I64 b, I64 pivot] (h.set r (row d)) fun u h' => u = .tuple #[I64 (partition lt d a b pivot).1, .bool (partition lt d a b pivot).2.1] ∧ h' = h.set r (row (partition lt d a b pivot).2.2) := by
  obtain ⟨d1, hd1⟩ : ∃ d1, d1 = swp d a pivot := ⟨_, rfl⟩
  have hs1 : d1.size = N := by rw [hd1]; exact swp_sz hN
  have hpart : partition lt d a b pivot = (let i := scanUp (fun x => lt x d1[a]!) d1 (b - 1) (a + 1); let j := scanDown (fun x => !lt x d1[a]!) d1 i (b - 1); if i > j then (j, true, swp d1 j a) else
    let r := partLoop lt a (i + 1) (j - 1) (swp d1 i j); (r.1, false, swp r.2 r.1 a)) := by rw [hd1]; rfl
  rw [hpart]
  refine W.enter tyOK Tryz.func134 rfl rfl ?_
  simp only [entry]
  have w1 : IntKind.i64.wrap ((a : Int) + 1) = ((a + 1 : Nat) : Int) := by rw [wrap_i64 (by omega) (by omega)]; omega
  have w2 : IntKind.i64.wrap ((b : Int) - 1) = ((b - 1 : Nat) : Int) := by rw [wrap_i64 (by omega) (by omega)]; omega
  refine Wr <| Oa rfl za rfl <| Of rfl za rfl rfl <| On ?_
  refine Wd <| Sa rfl sm rfl <| Sa rfl sm rfl <| Sa rfl sm rfl <| Sa rfl sm rfl <| Sa rfl sm rfl <| Sa rfl sm rfl <| Sa rfl (zi (hv := by simp (disch := first | omega | simp only [nx]; omega) only [aIndexAddr, ty37, ty9, hpl, sq] <;> rfl)) rfl <| Sa rfl (zl (hv := by simp (disch := first | omega | simp only [nx]; omega) only [aLoad, ty9, rowOf, hpl, sq] <;> rfl)) rfl <| Sa rfl sm rfl <| Sa rfl sm rfl <| Sa rfl (zi (hv := by simp (disch := first | omega | simp only [nx]; omega) only [aIndexAddr, ty37, ty9, hpl, sq] <;> rfl)) rfl <| Sa rfl (zl (hv := by simp (disch := first | omega | simp only [nx]; omega) only [aLoad, ty9, rowOf, hpl, sq] <;> rfl)) rfl <| Sa rfl (zi (hv := by simp (disch := first | omega | simp only [nx]; omega) only [aIndexAddr, ty37, ty9, hpl, sq] <;> rfl)) rfl <| Sa rfl (zs (hv := by simp (disch := first | omega | simp only [nx]; omega) only [aStore, ty9, writeRow, hpl, sq] <;> rfl)) rfl <| Sa rfl (zi (hv := by simp (disch := first | omega | simp only [nx]; omega) only [aIndexAddr, ty37, ty9, hpl, sq] <;> rfl)) rfl <| Sa rfl (zs (hv := by simp (disch := first | omega | simp only [nx]; omega) only [aStore, ty9, writeRow, hpl, sq] <;> rfl)) rfl <| Sn ?_
  refine Wr <| Oa rfl sm rfl <| Oa rfl (zb (hv := bi_w bi_add (by first | (simp only [w1, w2] <;> rfl) | rfl))) rfl <| Oa rfl sm rfl <| Oa rfl (zb (hv := bi_w bi_sub (by first | (simp only [w1, w2] <;> rfl) | rfl))) rfl <| Oa rfl za rfl <| Oa rfl za rfl <| On ?_
  refine W.seq <| ?_
  rw [show (d.setIfInBounds a d[pivot]!).setIfInBounds pivot d[a]! = d1 from hd1.symm]
  generalize hi0 : a + 1 = i0 at *
  generalize hj0 : b - 1 = j0 at *
  refine W.cut (fun L h' => h' = h.set r (row d1) ∧ L = [(0, sl r N), (1, I64 a), (10, I64 (scanUp (fun x => lt x d1[a]!) d1 j0 i0 : Nat)), (11, I64 j0)])
    (W.block (W.loop (fun n L h' => ∃ i : Nat, n = j0 + 1 - i ∧ 1 ≤ i ∧ i ≤ j0 + 1 ∧ scanUp (fun x => lt x d1[a]!) d1 j0 i = scanUp (fun x => lt x d1[a]!) d1 j0 i0 ∧ h' = h.set r (row d1) ∧ L = [(0, sl r N), (1, I64 a), (10, I64 i), (11, I64 j0)]) (n := j0 + 1 - i0) ⟨i0, rfl, by omega, by omega, rfl, rfl, rfl⟩ ?_ ?_)) ?_
  · simp [HasA, Tr.get_put]
  · rintro n L h1 ⟨i, rfl, hi1, hi2, heq, rfl, rfl⟩
    simp only [mkA]
    have w1 : IntKind.i64.wrap ((i : Int) + 1) = ((i + 1 : Nat) : Int) := by rw [wrap_i64 (by omega) (by omega)]; omega
    by_cases hij : (i : Int) ≤ (j0 : Int)
    · cases hl : lt d1[i]! d1[a]!
      · refine W.seq <| Wd <| Sa rfl sm rfl <| Sa rfl sm rfl <| St rfl (zb (hv := bi_leq)) rfl (by first | rfl | assumption | ((simp only [bl, sq]) <;> first | done | assumption | omega) | (simp; done) | (simp; omega)) <| St rfl sm rfl rfl <| Sa ag sm rfl <| Sa ag sm rfl <| Sa ag (zi (hv := by simp (disch := first | omega | simp only [nx]; omega) only [aIndexAddr, ty37, ty9, hpl, sq] <;> rfl)) rfl <| Sa ag (zl (hv := by simp (disch := first | omega | simp only [nx]; omega) only [aLoad, ty9, rowOf, hpl, sq] <;> rfl)) rfl <| Sa ag sm rfl <| Sa ag sm rfl <| Sa ag (zi (hv := by simp (disch := first | omega | simp only [nx]; omega) only [aIndexAddr, ty37, ty9, hpl, sq] <;> rfl)) rfl <| Sa ag (zl (hv := by simp (disch := first | omega | simp only [nx]; omega) only [aLoad, ty9, rowOf, hpl, sq] <;> rfl)) rfl <| SqW.callD ag (by simp only [aopnds, lk] <;> rfl) en132 (less_c _ _ _ _ hl) rfl <| Sf rfl Zp rfl rfl <| Sn ?_
        refine Wn <| CWp.exit <| SQ.exit <| LQ.exit <| BQ.exit <| ?_
        refine NQ.normal (L := [(0, sl r N), (1, I64 a), (10, I64 i), (11, I64 j0)]) ?_ ⟨rfl, ?_⟩
        · simp only [HasA, Tr.get_put, Nat.reduceEqDiff, reduceIte, and_self]
        · rw [← heq, up_stop (.inr (by simp [hl]))]
      · refine W.seq <| Wd <| Sa rfl sm rfl <| Sa rfl sm rfl <| St rfl (zb (hv := bi_leq)) rfl (by first | rfl | assumption | ((simp only [bl, sq]) <;> first | done | assumption | omega) | (simp; done) | (simp; omega)) <| St rfl sm rfl rfl <| Sa ag sm rfl <| Sa ag sm rfl <| Sa ag (zi (hv := by simp (disch := first | omega | simp only [nx]; omega) only [aIndexAddr, ty37, ty9, hpl, sq] <;> rfl)) rfl <| Sa ag (zl (hv := by simp (disch := first | omega | simp only [nx]; omega) only [aLoad, ty9, rowOf, hpl, sq] <;> rfl)) rfl <| Sa ag sm rfl <| Sa ag sm rfl <| Sa ag (zi (hv := by simp (disch := first | omega | simp only [nx]; omega) only [aIndexAddr, ty37, ty9, hpl, sq] <;> rfl)) rfl <| Sa ag (zl (hv := by simp (disch := first | omega | simp only [nx]; omega) only [aLoad, ty9, rowOf, hpl, sq] <;> rfl)) rfl <| SqW.callD ag (by simp only [aopnds, lk] <;> rfl) en132 (less_c _ _ _ _ hl) rfl <| St rfl Zp rfl rfl <| Sn ?_
        refine Wy <| CWp.skip <| SQ.normal ?_
        refine W.block <| W.reg <| Oa rfl sm rfl <| Oa rfl (zb (hv := bi_w bi_add (by first | (simp only [w1] <;> rfl) | rfl))) rfl <| Oa rfl za rfl <| OSuf.nil <| BQ.normal <| ?_
        refine LQ.normal (m := j0 + 1 - (i + 1)) (L := [(0, sl r N), (1, I64 a), (10, I64 (i + 1 : Nat)), (11, I64 j0)]) (by omega) ?_ ⟨i + 1, rfl, by omega, by omega, ?_, rfl, rfl⟩
        · simp only [HasA, Tr.get_put, Nat.reduceEqDiff, reduceIte, and_self]
        · rw [← heq]; exact (up_eq (by omega) (by simp [hl])).symm
    · refine W.seq <| Wd <| Sa rfl sm rfl <| Sa rfl sm rfl <| Sf rfl (zb (hv := bi_leq)) rfl (by first | rfl | assumption | ((simp only [bl]) <;> first | done | assumption | omega) | (simp; done) | (simp; omega)) <| Sf rfl sm rfl rfl <| Pb ag rfl <| Pb ag rfl <| Pb ag rfl <| Pb ag rfl <| Pb ag rfl <| Pb ag rfl <| Pb ag rfl <| Pb ag rfl <| Pb ag rfl <| Sf rfl Zp rfl rfl <| Sn ?_
      refine Wn <| CWp.exit <| SQ.exit <| LQ.exit <| BQ.exit <| ?_
      refine NQ.normal (L := [(0, sl r N), (1, I64 a), (10, I64 i), (11, I64 j0)]) ?_ ⟨rfl, ?_⟩
      · simp only [HasA, Tr.get_put, Nat.reduceEqDiff, reduceIte, and_self]
      · rw [← heq, up_stop (.inl (by omega))]
  rintro L a' h1 ha ⟨rfl, rfl⟩
  have hi2 := (scanUp_spec (fun x => lt x d1[a]!) d1 j0 _ i0 rfl)
  have hge := scanUp_ge (fun x => lt x d1[a]!) d1 j0 i0
  have hle : scanUp (fun x => lt x d1[a]!) d1 j0 i0 ≤ j0 + 1 := by have := hi2.2.1; omega
  generalize hgi : scanUp (fun x => lt x d1[a]!) d1 j0 i0 = i2 at *
  refine SQ.normal <| CWp.known ha ?_
  simp only [mkA]
  refine W.seq <| ?_
  refine W.cut (fun L h' => h' = h.set r (row d1) ∧ L = [(0, sl r N), (1, I64 a), (10, I64 i2), (11, I64 (scanDown (fun x => !lt x d1[a]!) d1 i2 j0 : Nat))])
    (W.block (W.loop (fun n L h' => ∃ j : Nat, n = j ∧ j ≤ j0 ∧ scanDown (fun x => !lt x d1[a]!) d1 i2 j = scanDown (fun x => !lt x d1[a]!) d1 i2 j0 ∧ h' = h.set r (row d1) ∧ L = [(0, sl r N), (1, I64 a), (10, I64 i2), (11, I64 j)]) (n := j0) ⟨j0, rfl, by omega, rfl, rfl, rfl⟩ ?_ ?_)) ?_
  · simp [HasA, Tr.get_put]
  · rintro j L h1 ⟨_, rfl, hj, heq, rfl, rfl⟩
    simp only [mkA]
    by_cases hij : (i2 : Int) ≤ (j : Int)
    · obtain ⟨m, rfl⟩ : ∃ m, j = m + 1 := ⟨j - 1, by omega⟩
      have w1 : IntKind.i64.wrap (((m + 1 : Nat) : Int) - 1) = (m : Int) := by rw [wrap_i64 (by omega) (by omega)]; omega
      cases hl : lt d1[m + 1]! d1[a]!
      · refine W.seq <| Wd <| Sa rfl sm rfl <| Sa rfl sm rfl <| St rfl (zb (hv := bi_leq)) rfl (by first | rfl | assumption | ((simp only [bl, sq]) <;> first | done | assumption | omega) | (simp; done) | (simp; omega)) <| St rfl sm rfl rfl <| Sa ag sm rfl <| Sa ag sm rfl <| Sa ag (zi (hv := by simp (disch := first | omega | simp only [nx]; omega) only [aIndexAddr, ty37, ty9, hpl, sq] <;> rfl)) rfl <| Sa ag (zl (hv := by simp (disch := first | omega | simp only [nx]; omega) only [aLoad, ty9, rowOf, hpl, sq] <;> rfl)) rfl <| Sa ag sm rfl <| Sa ag sm rfl <| Sa ag (zi (hv := by simp (disch := first | omega | simp only [nx]; omega) only [aIndexAddr, ty37, ty9, hpl, sq] <;> rfl)) rfl <| Sa ag (zl (hv := by simp (disch := first | omega | simp only [nx]; omega) only [aLoad, ty9, rowOf, hpl, sq] <;> rfl)) rfl <| SqW.callD ag (by simp only [aopnds, lk] <;> rfl) en132 (less_c _ _ _ _ hl) rfl <| St ag Zt rfl rfl <| St rfl Zp rfl rfl <| Sn ?_
        refine Wy <| CWp.skip <| SQ.normal ?_
        refine W.block <| W.reg <| Oa rfl sm rfl <| Oa rfl (zb (hv := bi_w bi_sub (by first | (simp only [w1] <;> rfl) | rfl))) rfl <| Oa rfl za rfl <| OSuf.nil <| BQ.normal <| ?_
        refine LQ.normal (m := m) (L := [(0, sl r N), (1, I64 a), (10, I64 i2), (11, I64 m)]) (by omega) ?_ ⟨m, rfl, by omega, ?_, rfl, rfl⟩
        · simp only [HasA, Tr.get_put, Nat.reduceEqDiff, reduceIte, and_self]
        · rw [← heq]; exact (down_eq (by omega) (by simp [hl])).symm
      · refine W.seq <| Wd <| Sa rfl sm rfl <| Sa rfl sm rfl <| St rfl (zb (hv := bi_leq)) rfl (by first | rfl | assumption | ((simp only [bl, sq]) <;> first | done | assumption | omega) | (simp; done) | (simp; omega)) <| St rfl sm rfl rfl <| Sa ag sm rfl <| Sa ag sm rfl <| Sa ag (zi (hv := by simp (disch := first | omega | simp only [nx]; omega) only [aIndexAddr, ty37, ty9, hpl, sq] <;> rfl)) rfl <| Sa ag (zl (hv := by simp (disch := first | omega | simp only [nx]; omega) only [aLoad, ty9, rowOf, hpl, sq] <;> rfl)) rfl <| Sa ag sm rfl <| Sa ag sm rfl <| Sa ag (zi (hv := by simp (disch := first | omega | simp only [nx]; omega) only [aIndexAddr, ty37, ty9, hpl, sq] <;> rfl)) rfl <| Sa ag (zl (hv := by simp (disch := first | omega | simp only [nx]; omega) only [aLoad, ty9, rowOf, hpl, sq] <;> rfl)) rfl <| SqW.callD ag (by simp only [aopnds, lk] <;> rfl) en132 (less_c _ _ _ _ hl) rfl <| Sf ag Zt rfl rfl <| Sf rfl Zp rfl rfl <| Sn ?_
        refine Wn <| CWp.exit <| SQ.exit <| LQ.exit <| BQ.exit <| ?_
        refine NQ.normal (L := [(0, sl r N), (1, I64 a), (10, I64 i2), (11, I64 (m + 1 : Nat))]) ?_ ⟨rfl, ?_⟩
        · simp only [HasA, Tr.get_put, Nat.reduceEqDiff, reduceIte, and_self]
        · rw [← heq, down_stop (by omega) (.inr (by simp [hl]))]
    · refine W.seq <| Wd <| Sa rfl sm rfl <| Sa rfl sm rfl <| Sf rfl (zb (hv := bi_leq)) rfl (by first | rfl | assumption | ((simp only [bl]) <;> first | done | assumption | omega) | (simp; done) | (simp; omega)) <| Sf rfl sm rfl rfl <| Pb ag rfl <| Pb ag rfl <| Pb ag rfl <| Pb ag rfl <| Pb ag rfl <| Pb ag rfl <| Pb ag rfl <| Pb ag rfl <| Pb ag rfl <| Pb ag rfl <| Sf rfl Zp rfl rfl <| Sn ?_
      refine Wn <| CWp.exit <| SQ.exit <| LQ.exit <| BQ.exit <| ?_
      refine NQ.normal (L := [(0, sl r N), (1, I64 a), (10, I64 i2), (11, I64 j)]) ?_ ⟨rfl, ?_⟩
      · simp only [HasA, Tr.get_put, Nat.reduceEqDiff, reduceIte, and_self]
      · rw [← heq, down_stop (by omega) (.inl (by omega))]
  rintro L a' h1 ha ⟨rfl, rfl⟩
  have hdl := scanDown_le (fun x => !lt x d1[a]!) d1 i2 j0
  have hds2 := (scanDown_spec (fun x => !lt x d1[a]!) d1 i2 j0)
  generalize hgj : scanDown (fun x => !lt x d1[a]!) d1 i2 j0 = j2 at *
  have hdl2 : i2 ≤ j2 + 1 := hds2.2.1 (by omega)
  have hne : i2 ≤ j2 → i2 < j2 := fun hle2 => by
    have u1 := hi2.2.2.2 (by omega)
    have u2 := hds2.2.2.2 hle2 (by omega)
    rcases Nat.lt_or_eq_of_le hle2 with h0 | h0
    · exact h0
    · subst h0; try simp only at u1 u2
      first | (rw [u1] at u2; simp at u2; done) | (rw [u2] at u1; simp at u1; done)
  by_cases hgt : (i2 : Int) > (j2 : Int)
  · rw [if_pos (by omega)]
    refine SQ.normal <| CWp.known ha ?_
    simp only [mkA]
    refine W.seq <| Wr <| Oa rfl sm rfl <| Oa rfl sm rfl <| Ot rfl (zb (hv := bi_gtr)) rfl (by first | rfl | assumption | ((simp only [bl, sq]) <;> first | done | assumption | omega) | (simp; done) | (simp; omega)) <| On ?_
    refine Wy <| Wd <| Sa rfl sm rfl <| Sa rfl sm rfl <| Sa rfl sm rfl <| Sa rfl sm rfl <| Sa rfl sm rfl <| Sa rfl sm rfl <| Sa rfl (zi (hv := by simp (disch := first | omega | simp only [nx]; omega) only [aIndexAddr, ty37, ty9, hpl, sq] <;> rfl)) rfl <| Sa rfl (zl (hv := by simp (disch := first | omega | simp only [nx]; omega) only [aLoad, ty9, rowOf, hpl, sq] <;> rfl)) rfl <| Sa rfl sm rfl <| Sa rfl sm rfl <| Sa rfl (zi (hv := by simp (disch := first | omega | simp only [nx]; omega) only [aIndexAddr, ty37, ty9, hpl, sq] <;> rfl)) rfl <| Sa rfl (zl (hv := by simp (disch := first | omega | simp only [nx]; omega) only [aLoad, ty9, rowOf, hpl, sq] <;> rfl)) rfl <| Sa rfl (zi (hv := by simp (disch := first | omega | simp only [nx]; omega) only [aIndexAddr, ty37, ty9, hpl, sq] <;> rfl)) rfl <| Sa rfl (zs (hv := by simp (disch := first | omega | simp only [nx]; omega) only [aStore, ty9, writeRow, hpl, sq] <;> rfl)) rfl <| Sa rfl (zi (hv := by simp (disch := first | omega | simp only [nx]; omega) only [aIndexAddr, ty37, ty9, hpl, sq] <;> rfl)) rfl <| Sa rfl (zs (hv := by simp (disch := first | omega | simp only [nx]; omega) only [aStore, ty9, writeRow, hpl, sq] <;> rfl)) rfl <| Sn ?_
    refine Wr <| Oa rfl sm rfl <| Oa rfl za rfl <| Ot rfl za rfl rfl <| On ?_
    refine CWp.ret <| SQ.ret <| FQ.ret (by simp only [aRet, Tryz.f134, aResults, aResult, lk, Nat.reduceEqDiff, reduceIte] <;> rfl) ?_
    exact ⟨rfl, rfl⟩
  rw [if_neg (by omega)]
  have hlt2 := hne (by omega)
  have w3 : IntKind.i64.wrap ((i2 : Int) + 1) = ((i2 + 1 : Nat) : Int) := by rw [wrap_i64 (by omega) (by omega)]; omega
  have w4 : IntKind.i64.wrap ((j2 : Int) - 1) = ((j2 - 1 : Nat) : Int) := by rw [wrap_i64 (by omega) (by omega)]; omega
  refine SQ.normal <| CWp.known ha ?_
  simp only [mkA]
  refine W.seq <| Wr <| Oa rfl sm rfl <| Oa rfl sm rfl <| Of rfl (zb (hv := bi_gtr)) rfl (by first | rfl | assumption | ((simp only [bl, sq]) <;> first | done | assumption | omega) | (simp; done) | (simp; omega)) <| On ?_
  refine Wn <| CWp.skip <| SQ.normal ?_
  refine Wd <| Sa rfl sm rfl <| Sa rfl sm rfl <| Sa rfl sm rfl <| Sa rfl sm rfl <| Sa rfl sm rfl <| Sa rfl sm rfl <| Sa rfl (zi (hv := by simp (disch := first | omega | simp only [nx]; omega) only [aIndexAddr, ty37, ty9, hpl, sq] <;> rfl)) rfl <| Sa rfl (zl (hv := by simp (disch := first | omega | simp only [nx]; omega) only [aLoad, ty9, rowOf, hpl, sq] <;> rfl)) rfl <| Sa rfl sm rfl <| Sa rfl sm rfl <| Sa rfl (zi (hv := by simp (disch := first | omega | simp only [nx]; omega) only [aIndexAddr, ty37, ty9, hpl, sq] <;> rfl)) rfl <| Sa rfl (zl (hv := by simp (disch := first | omega | simp only [nx]; omega) only [aLoad, ty9, rowOf, hpl, sq] <;> rfl)) rfl <| Sa rfl (zi (hv := by simp (disch := first | omega | simp only [nx]; omega) only [aIndexAddr, ty37, ty9, hpl, sq] <;> rfl)) rfl <| Sa rfl (zs (hv := by simp (disch := first | omega | simp only [nx]; omega) only [aStore, ty9, writeRow, hpl, sq] <;> rfl)) rfl <| Sa rfl (zi (hv := by simp (disch := first | omega | simp only [nx]; omega) only [aIndexAddr, ty37, ty9, hpl, sq] <;> rfl)) rfl <| Sa rfl (zs (hv := by simp (disch := first | omega | simp only [nx]; omega) only [aStore, ty9, writeRow, hpl, sq] <;> rfl)) rfl <| Sn ?_
  refine Wr <| Oa rfl sm rfl <| Oa rfl (zb (hv := bi_w bi_add (by first | (simp only [w3, w4] <;> rfl) | rfl))) rfl <| Oa rfl za rfl <| On ?_
  refine Wr <| Oa rfl sm rfl <| Oa rfl (zb (hv := bi_w bi_sub (by first | (simp only [w3, w4] <;> rfl) | rfl))) rfl <| Oa rfl za rfl <| On ?_
  refine W.seq <| ?_
  rw [show (d1.setIfInBounds i2 d1[j2]!).setIfInBounds j2 d1[i2]! = swp d1 i2 j2 from rfl]
  obtain ⟨e2, he2⟩ : ∃ e2, e2 = swp d1 i2 j2 := ⟨_, rfl⟩
  have hse : e2.size = N := by rw [he2]; exact swp_sz hs1
  rw [← he2]
  obtain ⟨i3, hi3⟩ : ∃ i3, i3 = i2 + 1 := ⟨_, rfl⟩
  obtain ⟨j3, hj3⟩ : ∃ j3, j3 = j2 - 1 := ⟨_, rfl⟩
  rw [← hi3, ← hj3]
  have k1 : a < i3 := by omega
  have k2 : i3 ≤ j3 + 1 := by omega
  have k3 : j3 < b := by omega
  clear hi3 hj3 he2 hgi hgj hne hds2 hi2 hdl hdl2 hge hle hgt hlt2 w3 w4 ha a' hpart hd1 hs1
  refine W.cut (fun L h' => ∃ (j : Nat) (dk : Array El), dk.size = N ∧ a ≤ j ∧ j < b ∧ partLoop lt a i3 j3 e2 = (j, dk) ∧ h' = h.set r (row dk) ∧ L = [(0, sl r N), (1, I64 a), (11, I64 j)])
    (W.block (W.loop (fun n L h' => ∃ (i j : Nat) (dk : Array El), n = j + 1 - i ∧ a < i ∧ i ≤ j + 1 ∧ j < b ∧ dk.size = N ∧ partLoop lt a i j dk = partLoop lt a i3 j3 e2 ∧ h' = h.set r (row dk) ∧
      L = [(0, sl r N), (1, I64 a), (10, I64 i), (11, I64 j)]) (n := j3 + 1 - i3) ⟨i3, j3, e2, rfl, k1, k2, k3, hse, rfl, rfl, rfl⟩ ?_ ?_)) ?_
  · simp [HasA, Tr.get_put]
  · rintro n L h1 ⟨i0, j0, d1, rfl, k4, k5, k6, hs1, hloop, rfl, rfl⟩
    simp only [mkA]
    refine W.block <| W.seq <| ?_
    rw [partLoop_eq] at hloop
    refine W.cut (fun L h' => h' = h.set r (row d1) ∧ L = [(0, sl r N), (1, I64 a), (10, I64 (scanUp (fun x => lt x d1[a]!) d1 j0 i0 : Nat)), (11, I64 j0)])
      (W.block (W.loop (fun n L h' => ∃ i : Nat, n = j0 + 1 - i ∧ 1 ≤ i ∧ i ≤ j0 + 1 ∧ scanUp (fun x => lt x d1[a]!) d1 j0 i = scanUp (fun x => lt x d1[a]!) d1 j0 i0 ∧ h' = h.set r (row d1) ∧ L = [(0, sl r N), (1, I64 a), (10, I64 i), (11, I64 j0)]) (n := j0 + 1 - i0) ⟨i0, rfl, by omega, by omega, rfl, rfl, rfl⟩ ?_ ?_)) ?_
    · simp [HasA, Tr.get_put]
    · rintro n L h1 ⟨i, rfl, hi1, hi2, heq, rfl, rfl⟩
      simp only [mkA]
      have w1 : IntKind.i64.wrap ((i : Int) + 1) = ((i + 1 : Nat) : Int) := by rw [wrap_i64 (by omega) (by omega)]; omega
      by_cases hij : (i : Int) ≤ (j0 : Int)
      · cases hl : lt d1[i]! d1[a]!
        · refine W.seq <| Wd <| Sa rfl sm rfl <| Sa rfl sm rfl <| St rfl (zb (hv := bi_leq)) rfl (by first | rfl | assumption | ((simp only [bl, sq]) <;> first | done | assumption | omega) | (simp; done) | (simp; omega)) <| St rfl sm rfl rfl <| Sa ag sm rfl <| Sa ag sm rfl <| Sa ag (zi (hv := by simp (disch := first | omega | simp only [nx]; omega) only [aIndexAddr, ty37, ty9, hpl, sq] <;> rfl)) rfl <| Sa ag (zl (hv := by simp (disch := first | omega | simp only [nx]; omega) only [aLoad, ty9, rowOf, hpl, sq] <;> rfl)) rfl <| Sa ag sm rfl <| Sa ag sm rfl <| Sa ag (zi (hv := by simp (disch := first | omega | simp only [nx]; omega) only [aIndexAddr, ty37, ty9, hpl, sq] <;> rfl)) rfl <| Sa ag (zl (hv := by simp (disch := first | omega | simp only [nx]; omega) only [aLoad, ty9, rowOf, hpl, sq] <;> rfl)) rfl <| SqW.callD ag (by simp only [aopnds, lk] <;> rfl) en132 (less_c _ _ _ _ hl) rfl <| Sf rfl Zp rfl rfl <| Sn ?_
          refine Wn <| CWp.exit <| SQ.exit <| LQ.exit <| BQ.exit <| ?_
          refine NQ.normal (L := [(0, sl r N), (1, I64 a), (10, I64 i), (11, I64 j0)]) ?_ ⟨rfl, ?_⟩
          · simp only [HasA, Tr.get_put, Nat.reduceEqDiff, reduceIte, and_self]
          · rw [← heq, up_stop (.inr (by simp [hl]))]
        · refine W.seq <| Wd <| Sa rfl sm rfl <| Sa rfl sm rfl <| St rfl (zb (hv := bi_leq)) rfl (by first | rfl | assumption | ((simp only [bl, sq]) <;> first | done | assumption | omega) | (simp; done) | (simp; omega)) <| St rfl sm rfl rfl <| Sa ag sm rfl <| Sa ag sm rfl <| Sa ag (zi (hv := by simp (disch := first | omega | simp only [nx]; omega) only [aIndexAddr, ty37, ty9, hpl, sq] <;> rfl)) rfl <| Sa ag (zl (hv := by simp (disch := first | omega | simp only [nx]; omega) only [aLoad, ty9, rowOf, hpl, sq] <;> rfl)) rfl <| Sa ag sm rfl <| Sa ag sm rfl <| Sa ag (zi (hv := by simp (disch := first | omega | simp only [nx]; omega) only [aIndexAddr, ty37, ty9, hpl, sq] <;> rfl)) rfl <| Sa ag (zl (hv := by simp (disch := first | omega | simp only [nx]; omega) only [aLoad, ty9, rowOf, hpl, sq] <;> rfl)) rfl <| SqW.callD ag (by simp only [aopnds, lk] <;> rfl) en132 (less_c _ _ _ _ hl) rfl <| St rfl Zp rfl rfl <| Sn ?_
          refine Wy <| CWp.skip <| SQ.normal ?_
          refine W.block <| W.reg <| Oa rfl sm rfl <| Oa rfl (zb (hv := bi_w bi_add (by first | (simp only [w1] <;> rfl) | rfl))) rfl <| Oa rfl za rfl <| OSuf.nil <| BQ.normal <| ?_
          refine LQ.normal (m := j0 + 1 - (i + 1)) (L := [(0, sl r N), (1, I64 a), (10, I64 (i + 1 : Nat)), (11, I64 j0)]) (by omega) ?_ ⟨i + 1, rfl, by omega, by omega, ?_, rfl, rfl⟩
          · simp only [HasA, Tr.get_put, Nat.reduceEqDiff, reduceIte, and_self]
          · rw [← heq]; exact (up_eq (by omega) (by simp [hl])).symm
      · refine W.seq <| Wd <| Sa rfl sm rfl <| Sa rfl sm rfl <| Sf rfl (zb (hv := bi_leq)) rfl (by first | rfl | assumption | ((simp only [bl]) <;> first | done | assumption | omega) | (simp; done) | (simp; omega)) <| Sf rfl sm rfl rfl <| Pb ag rfl <| Pb ag rfl <| Pb ag rfl <| Pb ag rfl <| Pb ag rfl <| Pb ag rfl <| Pb ag rfl <| Pb ag rfl <| Pb ag rfl <| Sf rfl Zp rfl rfl <| Sn ?_
        refine Wn <| CWp.exit <| SQ.exit <| LQ.exit <| BQ.exit <| ?_
        refine NQ.normal (L := [(0, sl r N), (1, I64 a), (10, I64 i), (11, I64 j0)]) ?_ ⟨rfl, ?_⟩
        · simp only [HasA, Tr.get_put, Nat.reduceEqDiff, reduceIte, and_self]
        · rw [← heq, up_stop (.inl (by omega))]
    rintro L a' h1 ha ⟨rfl, rfl⟩
    have hi2 := (scanUp_spec (fun x => lt x d1[a]!) d1 j0 _ i0 rfl)
    have hge := scanUp_ge (fun x => lt x d1[a]!) d1 j0 i0
    have hle : scanUp (fun x => lt x d1[a]!) d1 j0 i0 ≤ j0 + 1 := by have := hi2.2.1; omega
    generalize hgi : scanUp (fun x => lt x d1[a]!) d1 j0 i0 = i2 at *
    refine SQ.normal <| CWp.known ha ?_
    simp only [mkA]
    refine W.seq <| ?_
    refine W.cut (fun L h' => h' = h.set r (row d1) ∧ L = [(0, sl r N), (1, I64 a), (10, I64 i2), (11, I64 (scanDown (fun x => !lt x d1[a]!) d1 i2 j0 : Nat))])
      (W.block (W.loop (fun n L h' => ∃ j : Nat, n = j ∧ j ≤ j0 ∧ scanDown (fun x => !lt x d1[a]!) d1 i2 j = scanDown (fun x => !lt x d1[a]!) d1 i2 j0 ∧ h' = h.set r (row d1) ∧ L = [(0, sl r N), (1, I64 a), (10, I64 i2), (11, I64 j)]) (n := j0) ⟨j0, rfl, by omega, rfl, rfl, rfl⟩ ?_ ?_)) ?_
    · simp [HasA, Tr.get_put]
    · rintro j L h1 ⟨_, rfl, hj, heq, rfl, rfl⟩
      simp only [mkA]
      by_cases hij : (i2 : Int) ≤ (j : Int)
      · obtain ⟨m, rfl⟩ : ∃ m, j = m + 1 := ⟨j - 1, by omega⟩
        have w1 : IntKind.i64.wrap (((m + 1 : Nat) : Int) - 1) = (m : Int) := by rw [wrap_i64 (by omega) (by omega)]; omega
        cases hl : lt d1[m + 1]! d1[a]!
        · refine W.seq <| Wd <| Sa rfl sm rfl <| Sa rfl sm rfl <| St rfl (zb (hv := bi_leq)) rfl (by first | rfl | assumption | ((simp only [bl, sq]) <;> first | done | assumption | omega) | (simp; done) | (simp; omega)) <| St rfl sm rfl rfl <| Sa ag sm rfl <| Sa ag sm rfl <| Sa ag (zi (hv := by simp (disch := first | omega | simp only [nx]; omega) only [aIndexAddr, ty37, ty9, hpl, sq] <;> rfl)) rfl <| Sa ag (zl (hv := by simp (disch := first | omega | simp only [nx]; omega) only [aLoad, ty9, rowOf, hpl, sq] <;> rfl)) rfl <| Sa ag sm rfl <| Sa ag sm rfl <| Sa ag (zi (hv := by simp (disch := first | omega | simp only [nx]; omega) only [aIndexAddr, ty37, ty9, hpl, sq] <;> rfl)) rfl <| Sa ag (zl (hv := by simp (disch := first | omega | simp only [nx]; omega) only [aLoad, ty9, rowOf, hpl, sq] <;> rfl)) rfl <| SqW.callD ag (by simp only [aopnds, lk] <;> rfl) en132 (less_c _ _ _ _ hl) rfl <| St ag Zt rfl rfl <| St rfl Zp rfl rfl <| Sn ?_
          refine Wy <| CWp.skip <| SQ.normal ?_
          refine W.block <| W.reg <| Oa rfl sm rfl <| Oa rfl (zb (hv := bi_w bi_sub (by first | (simp only [w1] <;> rfl) | rfl))) rfl <| Oa rfl za rfl <| OSuf.nil <| BQ.normal <| ?_
          refine LQ.normal (m := m) (L := [(0, sl r N), (1, I64 a), (10, I64 i2), (11, I64 m)]) (by omega) ?_ ⟨m, rfl, by omega, ?_, rfl, rfl⟩
          · simp only [HasA, Tr.get_put, Nat.reduceEqDiff, reduceIte, and_self]
          · rw [← heq]; exact (down_eq (by omega) (by simp [hl])).symm
        · refine W.seq <| Wd <| Sa rfl sm rfl <| Sa rfl sm rfl <| St rfl (zb (hv := bi_leq)) rfl (by first | rfl | assumption | ((simp only [bl, sq]) <;> first | done | assumption | omega) | (simp; done) | (simp; omega)) <| St rfl sm rfl rfl <| Sa ag sm rfl <| Sa ag sm rfl <| Sa ag (zi (hv := by simp (disch := first | omega | simp only [nx]; omega) only [aIndexAddr, ty37, ty9, hpl, sq] <;> rfl)) rfl <| Sa ag (zl (hv := by simp (disch := first | omega | simp only [nx]; omega) only [aLoad, ty9, rowOf, hpl, sq] <;> rfl)) rfl <| Sa ag sm rfl <| Sa ag sm rfl <| Sa ag (zi (hv := by simp (disch := first | omega | simp only [nx]; omega) only [aIndexAddr, ty37, ty9, hpl, sq] <;> rfl)) rfl <| Sa ag (zl (hv := by simp (disch := first | omega | simp only [nx]; omega) only [aLoad, ty9, rowOf, hpl, sq] <;> rfl)) rfl <| SqW.callD ag (by simp only [aopnds, lk] <;> rfl) en132 (less_c _ _ _ _ hl) rfl <| Sf ag Zt rfl rfl <| Sf rfl Zp rfl rfl <| Sn ?_
          refine Wn <| CWp.exit <| SQ.exit <| LQ.exit <| BQ.exit <| ?_
          refine NQ.normal (L := [(0, sl r N), (1, I64 a), (10, I64 i2), (11, I64 (m + 1 : Nat))]) ?_ ⟨rfl, ?_⟩
          · simp only [HasA, Tr.get_put, Nat.reduceEqDiff, reduceIte, and_self]
          · rw [← heq, down_stop (by omega) (.inr (by simp [hl]))]
      · refine W.seq <| Wd <| Sa rfl sm rfl <| Sa rfl sm rfl <| Sf rfl (zb (hv := bi_leq)) rfl (by first | rfl | assumption | ((simp only [bl]) <;> first | done | assumption | omega) | (simp; done) | (simp; omega)) <| Sf rfl sm rfl rfl <| Pb ag rfl <| Pb ag rfl <| Pb ag rfl <| Pb ag rfl <| Pb ag rfl <| Pb ag rfl <| Pb ag rfl <| Pb ag rfl <| Pb ag rfl <| Pb ag rfl <| Sf rfl Zp rfl rfl <| Sn ?_
        refine Wn <| CWp.exit <| SQ.exit <| LQ.exit <| BQ.exit <| ?_
        refine NQ.normal (L := [(0, sl r N), (1, I64 a), (10, I64 i2), (11, I64 j)]) ?_ ⟨rfl, ?_⟩
        · simp only [HasA, Tr.get_put, Nat.reduceEqDiff, reduceIte, and_self]
        · rw [← heq, down_stop (by omega) (.inl (by omega))]
    rintro L a' h1 ha ⟨rfl, rfl⟩
    have hdl := scanDown_le (fun x => !lt x d1[a]!) d1 i2 j0
    have hds2 := (scanDown_spec (fun x => !lt x d1[a]!) d1 i2 j0)
    generalize hgj : scanDown (fun x => !lt x d1[a]!) d1 i2 j0 = j2 at *
    have hdl2 : i2 ≤ j2 + 1 := hds2.2.1 (by omega)
    have hne : i2 ≤ j2 → i2 < j2 := fun hle2 => by
      have u1 := hi2.2.2.2 (by omega)
      have u2 := hds2.2.2.2 hle2 (by omega)
      rcases Nat.lt_or_eq_of_le hle2 with h0 | h0
      · exact h0
      · subst h0; try simp only at u1 u2
        first | (rw [u1] at u2; simp at u2; done) | (rw [u2] at u1; simp at u1; done)
    by_cases hgt : (i2 : Int) > (j2 : Int)
    · rw [if_pos (by omega)] at hloop
      refine SQ.normal <| CWp.known ha ?_
      simp only [mkA]
      refine W.seq <| Wr <| Oa rfl sm rfl <| Oa rfl sm rfl <| Ot rfl (zb (hv := bi_gtr)) rfl (by first | rfl | assumption | ((simp only [bl, sq]) <;> first | done | assumption | omega) | (simp; done) | (simp; omega)) <| On ?_
      refine Wy <| CWp.exit <| SQ.exit <| BQ.out rfl <| LQ.exit <| BQ.exit <| ?_
      refine NQ.normal (L := [(0, sl r N), (1, I64 a), (11, I64 j2)]) ?_ ⟨j2, d1, hs1, by omega, by omega, hloop.symm, rfl, rfl⟩
      simp only [HasA, Tr.get_put, Nat.reduceEqDiff, reduceIte, and_self]
    · rw [if_neg (by omega)] at hloop
      have hlt2 := hne (by omega)
      have w3 : IntKind.i64.wrap ((i2 : Int) + 1) = ((i2 + 1 : Nat) : Int) := by rw [wrap_i64 (by omega) (by omega)]; omega
      have w4 : IntKind.i64.wrap ((j2 : Int) - 1) = ((j2 - 1 : Nat) : Int) := by rw [wrap_i64 (by omega) (by omega)]; omega
      refine SQ.normal <| CWp.known ha ?_
      simp only [mkA]
      refine W.seq <| Wr <| Oa rfl sm rfl <| Oa rfl sm rfl <| Of rfl (zb (hv := bi_gtr)) rfl (by first | rfl | assumption | ((simp only [bl, sq]) <;> first | done | assumption | omega) | (simp; done) | (simp; omega)) <| On ?_
      refine Wn <| CWp.skip <| SQ.normal ?_
      refine Wd <| Sa rfl sm rfl <| Sa rfl sm rfl <| Sa rfl sm rfl <| Sa rfl sm rfl <| Sa rfl sm rfl <| Sa rfl sm rfl <| Sa rfl (zi (hv := by simp (disch := first | omega | simp only [nx]; omega) only [aIndexAddr, ty37, ty9, hpl, sq] <;> rfl)) rfl <| Sa rfl (zl (hv := by simp (disch := first | omega | simp only [nx]; omega) only [aLoad, ty9, rowOf, hpl, sq] <;> rfl)) rfl <| Sa rfl sm rfl <| Sa rfl sm rfl <| Sa rfl (zi (hv := by simp (disch := first | omega | simp only [nx]; omega) only [aIndexAddr, ty37, ty9, hpl, sq] <;> rfl)) rfl <| Sa rfl (zl (hv := by simp (disch := first | omega | simp only [nx]; omega) only [aLoad, ty9, rowOf, hpl, sq] <;> rfl)) rfl <| Sa rfl (zi (hv := by simp (disch := first | omega | simp only [nx]; omega) only [aIndexAddr, ty37, ty9, hpl, sq] <;> rfl)) rfl <| Sa rfl (zs (hv := by simp (disch := first | omega | simp only [nx]; omega) only [aStore, ty9, writeRow, hpl, sq] <;> rfl)) rfl <| Sa rfl (zi (hv := by simp (disch := first | omega | simp only [nx]; omega) only [aIndexAddr, ty37, ty9, hpl, sq] <;> rfl)) rfl <| Sa rfl (zs (hv := by simp (disch := first | omega | simp only [nx]; omega) only [aStore, ty9, writeRow, hpl, sq] <;> rfl)) rfl <| Sn ?_
      refine Wr <| Oa rfl sm rfl <| Oa rfl (zb (hv := bi_w bi_add (by first | (simp only [w3, w4] <;> rfl) | rfl))) rfl <| Oa rfl za rfl <| On ?_
      refine W.reg <| Oa rfl sm rfl <| Oa rfl (zb (hv := bi_w bi_sub (by first | (simp only [w3, w4] <;> rfl) | rfl))) rfl <| Oa rfl za rfl <| OSuf.nil <| BQ.normal <| ?_
      refine LQ.normal (m := (j2 - 1) + 1 - (i2 + 1)) (L := [(0, sl r N), (1, I64 a), (10, I64 (i2 + 1 : Nat)), (11, I64 (j2 - 1 : Nat))]) (by omega) ?_ ⟨i2 + 1, j2 - 1, swp d1 i2 j2, rfl, by omega, by omega, by omega, swp_sz hs1, hloop, rfl, rfl⟩
      simp only [HasA, Tr.get_put, Nat.reduceEqDiff, reduceIte, and_self]
  rintro L a' h1 ha ⟨j, dk, hdk, hja, hjb, hlp, rfl, rfl⟩
  rw [hlp]
  refine SQ.normal <| CWp.known ha ?_
  simp only [mkA]
  refine Wd <| Sa rfl sm rfl <| Sa rfl sm rfl <| Sa rfl sm rfl <| Sa rfl sm rfl <| Sa rfl sm rfl <| Sa rfl sm rfl <| Sa rfl (zi (hv := by simp (disch := first | omega | simp only [nx]; omega) only [aIndexAddr, ty37, ty9, hpl, sq] <;> rfl)) rfl <| Sa rfl (zl (hv := by simp (disch := first | omega | simp only [nx]; omega) only [aLoad, ty9, rowOf, hpl, sq] <;> rfl)) rfl <| Sa rfl sm rfl <| Sa rfl sm rfl <| Sa rfl (zi (hv := by simp (disch := first | omega | simp only [nx]; omega) only [aIndexAddr, ty37, ty9, hpl, sq] <;> rfl)) rfl <| Sa rfl (zl (hv := by simp (disch := first | omega | simp only [nx]; omega) only [aLoad, ty9, rowOf, hpl, sq] <;> rfl)) rfl <| Sa rfl (zi (hv := by simp (disch := first | omega | simp only [nx]; omega) only [aIndexAddr, ty37, ty9, hpl, sq] <;> rfl)) rfl <| Sa rfl (zs (hv := by simp (disch := first | omega | simp only [nx]; omega) only [aStore, ty9, writeRow, hpl, sq] <;> rfl)) rfl <| Sa rfl (zi (hv := by simp (disch := first | omega | simp only [nx]; omega) only [aIndexAddr, ty37, ty9, hpl, sq] <;> rfl)) rfl <| Sa rfl (zs (hv := by simp (disch := first | omega | simp only [nx]; omega) only [aStore, ty9, writeRow, hpl, sq] <;> rfl)) rfl <| Sn ?_
  refine Wr <| Oa rfl sm rfl <| Oa rfl za rfl <| Of rfl za rfl rfl <| On ?_
  refine CWp.ret <| FQ.ret (by simp only [aRet, Tryz.f134, aResults, aResult, lk, Nat.reduceEqDiff, reduceIte] <;> rfl) ?_
  exact ⟨rfl, rfl⟩
theorem partEq_c (h : AHeap) (r N : Nat) (d : Array El) (hN : d.size = N) (a b pivot : Nat) (hap : a ≤ pivot) (hpb : pivot < b) (hb : b ≤ N) (hsz : N < 1000000000) :
    FWp Tryz.prog 133 [sl r N, I64 a, I64 b, I64 pivot] (h.set r (row d)) fun u h' => u = I64 (partitionEqual lt d a b pivot).1 ∧ h' = h.set r (row (partitionEqual lt d a b pivot).2) := by
  obtain ⟨e2, he2⟩ : ∃ d1, d1 = swp d a pivot := ⟨_, rfl⟩
  have hse : e2.size = N := by rw [he2]; exact swp_sz hN
  have hpart : partitionEqual lt d a b pivot = partEqLoop lt a (a + 1) (b - 1) e2 := by rw [he2]; rfl
  rw [hpart]
  refine W.enter tyOK Tryz.func133 rfl rfl ?_
  simp only [entry]
  have w1 : IntKind.i64.wrap ((a : Int) + 1) = ((a + 1 : Nat) : Int) := by rw [wrap_i64 (by omega) (by omega)]; omega
  have w2 : IntKind.i64.wrap ((b : Int) - 1) = ((b - 1 : Nat) : Int) := by rw [wrap_i64 (by omega) (by omega)]; omega
  refine Wr <| Oa rfl za rfl <| On ?_
  refine Wd <| Sa rfl sm rfl <| Sa rfl sm rfl <| Sa rfl sm rfl <| Sa rfl sm rfl <| Sa rfl sm rfl <| Sa rfl sm rfl <| Sa rfl (zi (hv := by simp (disch := first | omega | simp only [nx]; omega) only [aIndexAddr, ty37, ty9, hpl, sq] <;> rfl)) rfl <| Sa rfl (zl (hv := by simp (disch := first | omega | simp only [nx]; omega) only [aLoad, ty9, rowOf, hpl, sq] <;> rfl)) rfl <| Sa rfl sm rfl <| Sa rfl sm rfl <| Sa rfl (zi (hv := by simp (disch := first | omega | simp only [nx]; omega) only [aIndexAddr, ty37, ty9, hpl, sq] <;> rfl)) rfl <| Sa rfl (zl (hv := by simp (disch := first | omega | simp only [nx]; omega) only [aLoad, ty9, rowOf, hpl, sq] <;> rfl)) rfl <| Sa rfl (zi (hv := by simp (disch := first | omega | simp only [nx]; omega) only [aIndexAddr, ty37, ty9, hpl, sq] <;> rfl)) rfl <| Sa rfl (zs (hv := by simp (disch := first | omega | simp only [nx]; omega) only [aStore, ty9, writeRow, hpl, sq] <;> rfl)) rfl <| Sa rfl (zi (hv := by simp (disch := first | omega | simp only [nx]; omega) only [aIndexAddr, ty37, ty9, hpl, sq] <;> rfl)) rfl <| Sa rfl (zs (hv := by simp (disch := first | omega | simp only [nx]; omega) only [aStore, ty9, writeRow, hpl, sq] <;> rfl)) rfl <| Sn ?_
  refine Wr <| Oa rfl sm rfl <| Oa rfl (zb (hv := bi_w bi_add (by first | (simp only [w1, w2] <;> rfl) | rfl))) rfl <| Oa rfl sm rfl <| Oa rfl (zb (hv := bi_w bi_sub (by first | (simp only [w1, w2] <;> rfl) | rfl))) rfl <| Oa rfl za rfl <| Oa rfl za rfl <| On ?_
  refine W.seq <| ?_
  rw [show (d.setIfInBounds a d[pivot]!).setIfInBounds pivot d[a]! = e2 from he2.symm]
  refine W.cut (fun L h' => ∃ (i : Nat) (dk : Array El), dk.size = N ∧ partEqLoop lt a (a + 1) (b - 1) e2 = (i, dk) ∧ h' = h.set r (row dk) ∧ L = [(9, I64 i)])
    (W.block (W.loop (fun n L h' => ∃ (i j : Nat) (dk : Array El), n = j + 1 - i ∧ a < i ∧ i ≤ j + 1 ∧ j < b ∧ dk.size = N ∧ partEqLoop lt a i j dk = partEqLoop lt a (a + 1) (b - 1) e2 ∧ h' = h.set r (row dk) ∧
      L = [(0, sl r N), (1, I64 a), (9, I64 i), (10, I64 j)]) (n := b - 1 + 1 - (a + 1)) ⟨a + 1, b - 1, e2, rfl, by omega, by omega, by omega, hse, rfl, rfl, rfl⟩ ?_ ?_)) ?_
  · simp [HasA, Tr.get_put]
  · rintro n L h1 ⟨i0, j0, d1, rfl, k4, k5, k6, hs1, hloop, rfl, rfl⟩
    simp only [mkA]
    refine W.block <| W.seq <| ?_
    rw [partEqLoop_eq] at hloop
    refine W.cut (fun L h' => h' = h.set r (row d1) ∧ L = [(0, sl r N), (1, I64 a), (9, I64 (scanUp (fun x => !lt d1[a]! x) d1 j0 i0 : Nat)), (10, I64 j0)])
      (W.block (W.loop (fun n L h' => ∃ i : Nat, n = j0 + 1 - i ∧ 1 ≤ i ∧ i ≤ j0 + 1 ∧ scanUp (fun x => !lt d1[a]! x) d1 j0 i = scanUp (fun x => !lt d1[a]! x) d1 j0 i0 ∧ h' = h.set r (row d1) ∧ L = [(0, sl r N), (1, I64 a), (9, I64 i), (10, I64 j0)]) (n := j0 + 1 - i0) ⟨i0, rfl, by omega, by omega, rfl, rfl, rfl⟩ ?_ ?_)) ?_
    · simp [HasA, Tr.get_put]
    · rintro n L h1 ⟨i, rfl, hi1, hi2, heq, rfl, rfl⟩
      simp only [mkA]
      have w1 : IntKind.i64.wrap ((i : Int) + 1) = ((i + 1 : Nat) : Int) := by rw [wrap_i64 (by omega) (by omega)]; omega
      by_cases hij : (i : Int) ≤ (j0 : Int)
      · cases hl : lt d1[a]! d1[i]!
        · refine W.seq <| Wd <| Sa rfl sm rfl <| Sa rfl sm rfl <| St rfl (zb (hv := bi_leq)) rfl (by first | rfl | assumption | ((simp only [bl, sq]) <;> first | done | assumption | omega) | (simp; done) | (simp; omega)) <| St rfl sm rfl rfl <| Sa ag sm rfl <| Sa ag sm rfl <| Sa ag (zi (hv := by simp (disch := first | omega | simp only [nx]; omega) only [aIndexAddr, ty37, ty9, hpl, sq] <;> rfl)) rfl <| Sa ag (zl (hv := by simp (disch := first | omega | simp only [nx]; omega) only [aLoad, ty9, rowOf, hpl, sq] <;> rfl)) rfl <| Sa ag sm rfl <| Sa ag sm rfl <| Sa ag (zi (hv := by simp (disch := first | omega | simp only [nx]; omega) only [aIndexAddr, ty37, ty9, hpl, sq] <;> rfl)) rfl <| Sa ag (zl (hv := by simp (disch := first | omega | simp only [nx]; omega) only [aLoad, ty9, rowOf, hpl, sq] <;> rfl)) rfl <| SqW.callD ag (by simp only [aopnds, lk] <;> rfl) en132 (less_c _ _ _ _ hl) rfl <| St ag Zt rfl rfl <| St rfl Zp rfl rfl <| Sn ?_
          refine Wy <| CWp.skip <| SQ.normal ?_
          refine W.block <| W.reg <| Oa rfl sm rfl <| Oa rfl (zb (hv := bi_w bi_add (by first | (simp only [w1] <;> rfl) | rfl))) rfl <| Oa rfl za rfl <| OSuf.nil <| BQ.normal <| ?_
          refine LQ.normal (m := j0 + 1 - (i + 1)) (L := [(0, sl r N), (1, I64 a), (9, I64 (i + 1 : Nat)), (10, I64 j0)]) (by omega) ?_ ⟨i + 1, rfl, by omega, by omega, ?_, rfl, rfl⟩
          · simp only [HasA, Tr.get_put, Nat.reduceEqDiff, reduceIte, and_self]
          · rw [← heq]; exact (up_eq (by omega) (by simp [hl])).symm
        · refine W.seq <| Wd <| Sa rfl sm rfl <| Sa rfl sm rfl <| St rfl (zb (hv := bi_leq)) rfl (by first | rfl | assumption | ((simp only [bl, sq]) <;> first | done | assumption | omega) | (simp; done) | (simp; omega)) <| St rfl sm rfl rfl <| Sa ag sm rfl <| Sa ag sm rfl <| Sa ag (zi (hv := by simp (disch := first | omega | simp only [nx]; omega) only [aIndexAddr, ty37, ty9, hpl, sq] <;> rfl)) rfl <| Sa ag (zl (hv := by simp (disch := first | omega | simp only [nx]; omega) only [aLoad, ty9, rowOf, hpl, sq] <;> rfl)) rfl <| Sa ag sm rfl <| Sa ag sm rfl <| Sa ag (zi (hv := by simp (disch := first | omega | simp only [nx]; omega) only [aIndexAddr, ty37, ty9, hpl, sq] <;> rfl)) rfl <| Sa ag (zl (hv := by simp (disch := first | omega | simp only [nx]; omega) only [aLoad, ty9, rowOf, hpl, sq] <;> rfl)) rfl <| SqW.callD ag (by simp only [aopnds, lk] <;> rfl) en132 (less_c _ _ _ _ hl) rfl <| Sf ag Zt rfl rfl <| Sf rfl Zp rfl rfl <| Sn ?_
          refine Wn <| CWp.exit <| SQ.exit <| LQ.exit <| BQ.exit <| ?_
          refine NQ.normal (L := [(0, sl r N), (1, I64 a), (9, I64 i), (10, I64 j0)]) ?_ ⟨rfl, ?_⟩
          · simp only [HasA, Tr.get_put, Nat.reduceEqDiff, reduceIte, and_self]
          · rw [← heq, up_stop (.inr (by simp [hl]))]
      · refine W.seq <| Wd <| Sa rfl sm rfl <| Sa rfl sm rfl <| Sf rfl (zb (hv := bi_leq)) rfl (by first | rfl | assumption | ((simp only [bl]) <;> first | done | assumption | omega) | (simp; done) | (simp; omega)) <| Sf rfl sm rfl rfl <| Pb ag rfl <| Pb ag rfl <| Pb ag rfl <| Pb ag rfl <| Pb ag rfl <| Pb ag rfl <| Pb ag rfl <| Pb ag rfl <| Pb ag rfl <| Pb ag rfl <| Sf rfl Zp rfl rfl <| Sn ?_
        refine Wn <| CWp.exit <| SQ.exit <| LQ.exit <| BQ.exit <| ?_
        refine NQ.normal (L := [(0, sl r N), (1, I64 a), (9, I64 i), (10, I64 j0)]) ?_ ⟨rfl, ?_⟩
        · simp only [HasA, Tr.get_put, Nat.reduceEqDiff, reduceIte, and_self]
        · rw [← heq, up_stop (.inl (by omega))]
    rintro L a' h1 ha ⟨rfl, rfl⟩
    have hi2 := (scanUp_spec (fun x => !lt d1[a]! x) d1 j0 _ i0 rfl)
    have hge := scanUp_ge (fun x => !lt d1[a]! x) d1 j0 i0
    have hle : scanUp (fun x => !lt d1[a]! x) d1 j0 i0 ≤ j0 + 1 := by have := hi2.2.1; omega
    generalize hgi : scanUp (fun x => !lt d1[a]! x) d1 j0 i0 = i2 at *
    refine SQ.normal <| CWp.known ha ?_
    simp only [mkA]
    refine W.seq <| ?_
    refine W.cut (fun L h' => h' = h.set r (row d1) ∧ L = [(0, sl r N), (1, I64 a), (9, I64 i2), (10, I64 (scanDown (fun x => lt d1[a]! x) d1 i2 j0 : Nat))])
      (W.block (W.loop (fun n L h' => ∃ j : Nat, n = j ∧ j ≤ j0 ∧ scanDown (fun x => lt d1[a]! x) d1 i2 j = scanDown (fun x => lt d1[a]! x) d1 i2 j0 ∧ h' = h.set r (row d1) ∧ L = [(0, sl r N), (1, I64 a), (9, I64 i2), (10, I64 j)]) (n := j0) ⟨j0, rfl, by omega, rfl, rfl, rfl⟩ ?_ ?_)) ?_
    · simp [HasA, Tr.get_put]
    · rintro j L h1 ⟨_, rfl, hj, heq, rfl, rfl⟩
      simp only [mkA]
      by_cases hij : (i2 : Int) ≤ (j : Int)
      · obtain ⟨m, rfl⟩ : ∃ m, j = m + 1 := ⟨j - 1, by omega⟩
        have w1 : IntKind.i64.wrap (((m + 1 : Nat) : Int) - 1) = (m : Int) := by rw [wrap_i64 (by omega) (by omega)]; omega
        cases hl : lt d1[a]! d1[m + 1]!
        · refine W.seq <| Wd <| Sa rfl sm rfl <| Sa rfl sm rfl <| St rfl (zb (hv := bi_leq)) rfl (by first | rfl | assumption | ((simp only [bl, sq]) <;> first | done | assumption | omega) | (simp; done) | (simp; omega)) <| St rfl sm rfl rfl <| Sa ag sm rfl <| Sa ag sm rfl <| Sa ag (zi (hv := by simp (disch := first | omega | simp only [nx]; omega) only [aIndexAddr, ty37, ty9, hpl, sq] <;> rfl)) rfl <| Sa ag (zl (hv := by simp (disch := first | omega | simp only [nx]; omega) only [aLoad, ty9, rowOf, hpl, sq] <;> rfl)) rfl <| Sa ag sm rfl <| Sa ag sm rfl <| Sa ag (zi (hv := by simp (disch := first | omega | simp only [nx]; omega) only [aIndexAddr, ty37, ty9, hpl, sq] <;> rfl)) rfl <| Sa ag (zl (hv := by simp (disch := first | omega | simp only [nx]; omega) only [aLoad, ty9, rowOf, hpl, sq] <;> rfl)) rfl <| SqW.callD ag (by simp only [aopnds, lk] <;> rfl) en132 (less_c _ _ _ _ hl) rfl <| Sf rfl Zp rfl rfl <| Sn ?_
          refine Wn <| CWp.exit <| SQ.exit <| LQ.exit <| BQ.exit <| ?_
          refine NQ.normal (L := [(0, sl r N), (1, I64 a), (9, I64 i2), (10, I64 (m + 1 : Nat))]) ?_ ⟨rfl, ?_⟩
          · simp only [HasA, Tr.get_put, Nat.reduceEqDiff, reduceIte, and_self]
          · rw [← heq, down_stop (by omega) (.inr (by simp [hl]))]
        · refine W.seq <| Wd <| Sa rfl sm rfl <| Sa rfl sm rfl <| St rfl (zb (hv := bi_leq)) rfl (by first | rfl | assumption | ((simp only [bl, sq]) <;> first | done | assumption | omega) | (simp; done) | (simp; omega)) <| St rfl sm rfl rfl <| Sa ag sm rfl <| Sa ag sm rfl <| Sa ag (zi (hv := by simp (disch := first | omega | simp only [nx]; omega) only [aIndexAddr, ty37, ty9, hpl, sq] <;> rfl)) rfl <| Sa ag (zl (hv := by simp (disch := first | omega | simp only [nx]; omega) only [aLoad, ty9, rowOf, hpl, sq] <;> rfl)) rfl <| Sa ag sm rfl <| Sa ag sm rfl <| Sa ag (zi (hv := by simp (disch := first | omega | simp only [nx]; omega) only [aIndexAddr, ty37, ty9, hpl, sq] <;> rfl)) rfl <| Sa ag (zl (hv := by simp (disch := first | omega | simp only [nx]; omega) only [aLoad, ty9, rowOf, hpl, sq] <;> rfl)) rfl <| SqW.callD ag (by simp only [aopnds, lk] <;> rfl) en132 (less_c _ _ _ _ hl) rfl <| St rfl Zp rfl rfl <| Sn ?_
          refine Wy <| CWp.skip <| SQ.normal ?_
          refine W.block <| W.reg <| Oa rfl sm rfl <| Oa rfl (zb (hv := bi_w bi_sub (by first | (simp only [w1] <;> rfl) | rfl))) rfl <| Oa rfl za rfl <| OSuf.nil <| BQ.normal <| ?_
          refine LQ.normal (m := m) (L := [(0, sl r N), (1, I64 a), (9, I64 i2), (10, I64 m)]) (by omega) ?_ ⟨m, rfl, by omega, ?_, rfl, rfl⟩
          · simp only [HasA, Tr.get_put, Nat.reduceEqDiff, reduceIte, and_self]
          · rw [← heq]; exact (down_eq (by omega) (by simp [hl])).symm
      · refine W.seq <| Wd <| Sa rfl sm rfl <| Sa rfl sm rfl <| Sf rfl (zb (hv := bi_leq)) rfl (by first | rfl | assumption | ((simp only [bl]) <;> first | done | assumption | omega) | (simp; done) | (simp; omega)) <| Sf rfl sm rfl rfl <| Pb ag rfl <| Pb ag rfl <| Pb ag rfl <| Pb ag rfl <| Pb ag rfl <| Pb ag rfl <| Pb ag rfl <| Pb ag rfl <| Pb ag rfl <| Sf rfl Zp rfl rfl <| Sn ?_
        refine Wn <| CWp.exit <| SQ.exit <| LQ.exit <| BQ.exit <| ?_
        refine NQ.normal (L := [(0, sl r N), (1, I64 a), (9, I64 i2), (10, I64 j)]) ?_ ⟨rfl, ?_⟩
        · simp only [HasA, Tr.get_put, Nat.reduceEqDiff, reduceIte, and_self]
        · rw [← heq, down_stop (by omega) (.inl (by omega))]
    rintro L a' h1 ha ⟨rfl, rfl⟩
    have hdl := scanDown_le (fun x => lt d1[a]! x) d1 i2 j0
    have hds2 := (scanDown_spec (fun x => lt d1[a]! x) d1 i2 j0)
    generalize hgj : scanDown (fun x => lt d1[a]! x) d1 i2 j0 = j2 at *
    have hdl2 : i2 ≤ j2 + 1 := hds2.2.1 (by omega)
    have hne : i2 ≤ j2 → i2 < j2 := fun hle2 => by
      have u1 := hi2.2.2.2 (by omega)
      have u2 := hds2.2.2.2 hle2 (by omega)
      rcases Nat.lt_or_eq_of_le hle2 with h0 | h0
      · exact h0
      · subst h0; try simp only at u1 u2
        first | (rw [u1] at u2; simp at u2; done) | (rw [u2] at u1; simp at u1; done)
    by_cases hgt : (i2 : Int) > (j2 : Int)
    · rw [if_pos (by omega)] at hloop
      refine SQ.normal <| CWp.known ha ?_
      simp only [mkA]
      refine W.seq <| Wr <| Oa rfl sm rfl <| Oa rfl sm rfl <| Ot rfl (zb (hv := bi_gtr)) rfl (by first | rfl | assumption | ((simp only [bl, sq]) <;> first | done | assumption | omega) | (simp; done) | (simp; omega)) <| On ?_
      refine Wy <| CWp.exit <| SQ.exit <| BQ.out rfl <| LQ.exit <| BQ.exit <| ?_
      refine NQ.normal (L := [(9, I64 i2)]) ?_ ⟨i2, d1, hs1, hloop.symm, rfl, rfl⟩
      simp only [HasA, Tr.get_put, Nat.reduceEqDiff, reduceIte, and_self]
    · rw [if_neg (by omega)] at hloop
      have hlt2 := hne (by omega)
      have w3 : IntKind.i64.wrap ((i2 : Int) + 1) = ((i2 + 1 : Nat) : Int) := by rw [wrap_i64 (by omega) (by omega)]; omega
      have w4 : IntKind.i64.wrap ((j2 : Int) - 1) = ((j2 - 1 : Nat) : Int) := by rw [wrap_i64 (by omega) (by omega)]; omega
      refine SQ.normal <| CWp.known ha ?_
      simp only [mkA]
      refine W.seq <| Wr <| Oa rfl sm rfl <| Oa rfl sm rfl <| Of rfl (zb (hv := bi_gtr)) rfl (by first | rfl | assumption | ((simp only [bl, sq]) <;> first | done | assumption | omega) | (simp; done) | (simp; omega)) <| On ?_
      refine Wn <| CWp.skip <| SQ.normal ?_
      refine Wd <| Sa rfl sm rfl <| Sa rfl sm rfl <| Sa rfl sm rfl <| Sa rfl sm rfl <| Sa rfl sm rfl <| Sa rfl sm rfl <| Sa rfl (zi (hv := by simp (disch := first | omega | simp only [nx]; omega) only [aIndexAddr, ty37, ty9, hpl, sq] <;> rfl)) rfl <| Sa rfl (zl (hv := by simp (disch := first | omega | simp only [nx]; omega) only [aLoad, ty9, rowOf, hpl, sq] <;> rfl)) rfl <| Sa rfl sm rfl <| Sa rfl sm rfl <| Sa rfl (zi (hv := by simp (disch := first | omega | simp only [nx]; omega) only [aIndexAddr, ty37, ty9, hpl, sq] <;> rfl)) rfl <| Sa rfl (zl (hv := by simp (disch := first | omega | simp only [nx]; omega) only [aLoad, ty9, rowOf, hpl, sq] <;> rfl)) rfl <| Sa rfl (zi (hv := by simp (disch := first | omega | simp only [nx]; omega) only [aIndexAddr, ty37, ty9, hpl, sq] <;> rfl)) rfl <| Sa rfl (zs (hv := by simp (disch := first | omega | simp only [nx]; omega) only [aStore, ty9, writeRow, hpl, sq] <;> rfl)) rfl <| Sa rfl (zi (hv := by simp (disch := first | omega | simp only [nx]; omega) only [aIndexAddr, ty37, ty9, hpl, sq] <;> rfl)) rfl <| Sa rfl (zs (hv := by simp (disch := first | omega | simp only [nx]; omega) only [aStore, ty9, writeRow, hpl, sq] <;> rfl)) rfl <| Sn ?_
      refine Wr <| Oa rfl sm rfl <| Oa rfl (zb (hv := bi_w bi_add (by first | (simp only [w3, w4] <;> rfl) | rfl))) rfl <| Oa rfl za rfl <| On ?_
      refine W.reg <| Oa rfl sm rfl <| Oa rfl (zb (hv := bi_w bi_sub (by first | (simp only [w3, w4] <;> rfl) | rfl))) rfl <| Oa rfl za rfl <| OSuf.nil <| BQ.normal <| ?_
      refine LQ.normal (m := (j2 - 1) + 1 - (i2 + 1)) (L := [(0, sl r N), (1, I64 a), (9, I64 (i2 + 1 : Nat)), (10, I64 (j2 - 1 : Nat))]) (by omega) ?_ ⟨i2 + 1, j2 - 1, swp d1 i2 j2, rfl, by omega, by omega, by omega, swp_sz hs1, hloop, rfl, rfl⟩
      simp only [HasA, Tr.get_put, Nat.reduceEqDiff, reduceIte, and_self]
  rintro L a' h1 ha ⟨i, dk, hdk, hlp, rfl, rfl⟩
  rw [hlp]
  refine SQ.normal <| CWp.known ha ?_
  simp only [mkA]
  refine Wr <| Oa rfl sm rfl <| Oa rfl za rfl <| On ?_
  refine CWp.ret <| FQ.ret (by simp only [aRet, Tryz.f133, aResults, aResult, lk, Nat.reduceEqDiff, reduceIte] <;> rfl) ?_
  exact ⟨rfl, rfl⟩
end Go.Proofs.YtebheelmgcggmaaGreat.SortS
namespace Go.Proofs.YtebheelmgcggmaaGreat.SortS
open Go.Ab Go.Sort
abbrev P0 (p : Nat) : Value := .pointer (some ⟨p, 0, none⟩)
abbrev cell (n : Int) : AObj := .cells [I64 n] 1
theorem order2_c (h : AHeap) (r N q : Nat) (d : Array El) (hN : d.size = N) (hr : h.get r = some (row d)) (hq : ¬ q = r) (s : Int) (hs0 : 0 ≤ s) (hs1 : s ≤ 100) (a b : Nat) (ha : a < N) (hb : b < N) (hsz : N < 1000000000) :
    FWp Tryz.prog 142 [sl r N, I64 a, I64 b, P0 q] (h.set q (cell s)) fun u h' => ∃ (s' : Int) (x y : Nat), u = .tuple #[I64 x, I64 y] ∧ h' = h.set q (cell s') ∧ 0 ≤ s' ∧ s' ≤ s + 1 ∧ ((x = a ∧ y = b) ∨ (x = b ∧ y = a)) := by
  have w1 : IntKind.i64.wrap (s + 1) = s + 1 := wrap_i64 (by omega) (by omega)
  refine W.enter tyOK Tryz.func142 rfl rfl ?_
  simp only [entry]
  cases hl : lt d[b]! d[a]!
  · refine Wr <| Oa rfl za rfl <| Oa rfl za rfl <| On ?_
    refine W.seq <| Wd <| Sa rfl sm rfl <| Sa rfl sm rfl <| Sa rfl (zi (hv := by simp (disch := first | omega | simp only [nx]; omega) only [aIndexAddr, ty37, ty9, hpl, hr, if_pos, Int.toNat_natCast, Nat.mul_one, Nat.zero_add, rg] <;> rfl)) rfl <| Sa rfl (zl (hv := by simp (disch := first | omega | simp only [nx]; omega) only [aLoad, ty9, rowOf, hpl, hr, if_pos, Int.toNat_natCast, Nat.mul_one, Nat.zero_add, rg] <;> rfl)) rfl <| Sa rfl sm rfl <| Sa rfl sm rfl <| Sa rfl (zi (hv := by simp (disch := first | omega | simp only [nx]; omega) only [aIndexAddr, ty37, ty9, hpl, hr, if_pos, Int.toNat_natCast, Nat.mul_one, Nat.zero_add, rg] <;> rfl)) rfl <| Sa rfl (zl (hv := by simp (disch := first | omega | simp only [nx]; omega) only [aLoad, ty9, rowOf, hpl, hr, if_pos, Int.toNat_natCast, Nat.mul_one, Nat.zero_add, rg] <;> rfl)) rfl <| SqW.callD rfl (by simp only [aopnds, lk] <;> rfl) en132 (less_c _ _ _ _ hl) rfl <| Sn ?_
    refine Wn <| CWp.skip <| SQ.normal ?_
    refine Wr <| Oa rfl sm rfl <| Oa rfl sm rfl <| Oa rfl za rfl <| Oa rfl za rfl <| On ?_
    refine CWp.ret <| FQ.ret (by simp only [aRet, Tryz.f142, aResults, aResult, lk, Nat.reduceEqDiff, reduceIte] <;> rfl) ?_
    exact ⟨s, a, b, rfl, rfl, hs0, by omega, .inl ⟨rfl, rfl⟩⟩
  · refine Wr <| Oa rfl za rfl <| Oa rfl za rfl <| On ?_
    refine W.seq <| Wd <| Sa rfl sm rfl <| Sa rfl sm rfl <| Sa rfl (zi (hv := by simp (disch := first | omega | simp only [nx]; omega) only [aIndexAddr, ty37, ty9, hpl, hr, if_pos, Int.toNat_natCast, Nat.mul_one, Nat.zero_add, rg, AHeap.set_set] <;> rfl)) rfl <| Sa rfl (zl (hv := by simp (disch := first | omega | simp only [nx]; omega) only [aLoad, ty9, rowOf, hpl, hr, if_pos, Int.toNat_natCast, Nat.mul_one, Nat.zero_add, rg, AHeap.set_set] <;> rfl)) rfl <| Sa rfl sm rfl <| Sa rfl sm rfl <| Sa rfl (zi (hv := by simp (disch := first | omega | simp only [nx]; omega) only [aIndexAddr, ty37, ty9, hpl, hr, if_pos, Int.toNat_natCast, Nat.mul_one, Nat.zero_add, rg, AHeap.set_set] <;> rfl)) rfl <| Sa rfl (zl (hv := by simp (disch := first | omega | simp only [nx]; omega) only [aLoad, ty9, rowOf, hpl, hr, if_pos, Int.toNat_natCast, Nat.mul_one, Nat.zero_add, rg, AHeap.set_set] <;> rfl)) rfl <| SqW.callD rfl (by simp only [aopnds, lk] <;> rfl) en132 (less_c _ _ _ _ hl) rfl <| Sn ?_
    refine Wy <| Wr <| Oa rfl sm rfl <| Oa rfl (so_nilCheck (by simp only [lk] <;> rfl)) rfl <| Oa rfl (zl (hv := by simp (disch := first | omega | simp only [nx]; omega) only [aLoad, ty3, rowOf, hpl, hr, if_pos, Int.toNat_natCast, Nat.mul_one, Nat.zero_add, rg, AHeap.set_set] <;> rfl)) rfl <| Oa rfl (zb (hv := bi_w bi_add (by first | (simp only [w1] <;> rfl) | rfl))) rfl <| Oa rfl (so_nilCheck (by simp only [lk] <;> rfl)) rfl <| Oa rfl (zs (hv := by simp (disch := first | omega | simp only [nx]; omega) only [aStore, ty3, writeRow, hpl, hr, if_pos, Int.toNat_natCast, Nat.mul_one, Nat.zero_add, rg, AHeap.set_set] <;> rfl)) rfl <| On ?_
    refine Wr <| Oa rfl sm rfl <| Oa rfl sm rfl <| Oa rfl za rfl <| Oa rfl za rfl <| On ?_
    refine CWp.ret <| SQ.ret <| FQ.ret (by simp only [aRet, Tryz.f142, aResults, aResult, lk, Nat.reduceEqDiff, reduceIte] <;> rfl) ?_
    exact ⟨s + 1, b, a, rfl, rfl, by omega, by omega, .inr ⟨rfl, rfl⟩⟩
theorem median_c (h0 h : AHeap) (r N q : Nat) (d : Array El) (hN : d.size = N) (hr : h.get r = some (row d)) (hq : ¬ q = r) (s : Int) (hh : h0 = h.set q (cell s)) (hs0 : 0 ≤ s) (hs1 : s ≤ 90) (a b c : Nat) (ha : a < N) (hb : b < N) (hc : c < N) (hsz : N < 1000000000) :
    FWp Tryz.prog 139 [sl r N, I64 a, I64 b, I64 c, P0 q] h0 fun u h' => ∃ (s' : Int) (x : Nat), u = I64 x ∧ h' = h.set q (cell s') ∧ 0 ≤ s' ∧ s' ≤ s + 3 ∧ (x = a ∨ x = b ∨ x = c) := by
  subst hh
  refine W.enter tyOK Tryz.func139 rfl rfl ?_
  simp only [entry]
  refine Wr <| Oa rfl za rfl <| On ?_
  refine Wr <| Oa rfl sm rfl <| Oa rfl sm rfl <| Oa rfl sm rfl <| Oa rfl sm rfl <| OSuf.call rfl (by simp only [aopnds, lk] <;> rfl) en142 (order2_c h r N q d hN hr hq s hs0 (by omega) a b ha hb hsz) ?_
  rintro _ _ ⟨s1, x1, y1, rfl, rfl, g1, g2, g3⟩
  refine ⟨_, rfl, ?_⟩
  refine Oa rfl sm rfl <| Oa rfl (ze (hv := by simp (disch := first | omega | simp only [nx]; omega) only [aExtract, hpl, hr] <;> rfl)) rfl <| Oa rfl (ze (hv := by simp (disch := first | omega | simp only [nx]; omega) only [aExtract, hpl, hr] <;> rfl)) rfl <| Oa rfl za rfl <| Oa rfl za rfl <| On ?_
  refine Wr <| Oa rfl sm rfl <| Oa rfl sm rfl <| Oa rfl sm rfl <| Oa rfl sm rfl <| OSuf.call rfl (by simp only [aopnds, lk] <;> rfl) en142 (order2_c h r N q d hN hr hq s1 g1 (by omega) y1 c (by omega) hc hsz) ?_
  rintro _ _ ⟨s2, x2, y2, rfl, rfl, g4, g5, g6⟩
  refine ⟨_, rfl, ?_⟩
  refine Oa rfl sm rfl <| Oa rfl (ze (hv := by simp (disch := first | omega | simp only [nx]; omega) only [aExtract, hpl, hr] <;> rfl)) rfl <| Oa rfl (ze (hv := by simp (disch := first | omega | simp only [nx]; omega) only [aExtract, hpl, hr] <;> rfl)) rfl <| Oa rfl za rfl <| Oa rfl za rfl <| On ?_
  refine Wr <| Oa rfl sm rfl <| Oa rfl sm rfl <| Oa rfl sm rfl <| Oa rfl sm rfl <| OSuf.call rfl (by simp only [aopnds, lk] <;> rfl) en142 (order2_c h r N q d hN hr hq s2 g4 (by omega) x1 x2 (by omega) (by omega) hsz) ?_
  rintro _ _ ⟨s3, x3, y3, rfl, rfl, g7, g8, g9⟩
  refine ⟨_, rfl, ?_⟩
  refine Oa rfl sm rfl <| Oa rfl (ze (hv := by simp (disch := first | omega | simp only [nx]; omega) only [aExtract, hpl, hr] <;> rfl)) rfl <| Oa rfl (ze (hv := by simp (disch := first | omega | simp only [nx]; omega) only [aExtract, hpl, hr] <;> rfl)) rfl <| Oa rfl za rfl <| Oa rfl za rfl <| On ?_
  refine Wr <| Oa rfl sm rfl <| Oa rfl za rfl <| On ?_
  refine CWp.ret <| FQ.ret (by simp only [aRet, Tryz.f139, aResults, aResult, lk, Nat.reduceEqDiff, reduceIte] <;> rfl) ?_
  exact ⟨s3, y3, rfl, rfl, g7, by omega, by omega⟩
theorem adjacent_c (h0 h : AHeap) (r N q : Nat) (d : Array El) (hN : d.size = N) (hr : h.get r = some (row d)) (hq : ¬ q = r) (s : Int) (hh : h0 = h.set q (cell s)) (hs0 : 0 ≤ s) (hs1 : s ≤ 90) (a : Nat) (ha : 1 ≤ a) (hb : a + 1 < N) (hsz : N < 1000000000) :
    FWp Tryz.prog 138 [sl r N, I64 a, P0 q] h0 fun u h' => ∃ (s' : Int) (x : Nat), u = I64 x ∧ h' = h.set q (cell s') ∧ 0 ≤ s' ∧ s' ≤ s + 3 ∧ (a ≤ x + 1 ∧ x ≤ a + 1) := by
  subst hh
  have w1 : IntKind.i64.wrap ((a : Int) - 1) = ((a - 1 : Nat) : Int) := by rw [wrap_i64 (by omega) (by omega)]; omega
  have w2 : IntKind.i64.wrap ((a : Int) + 1) = ((a + 1 : Nat) : Int) := by rw [wrap_i64 (by omega) (by omega)]; omega
  refine W.enter tyOK Tryz.func138 rfl rfl ?_
  simp only [entry]
  refine Wr <| Oa rfl za rfl <| On ?_
  refine Wr <| Oa rfl sm rfl <| Oa rfl sm rfl <| Oa rfl (zb (hv := bi_w bi_sub (by first | (simp only [w1, w2] <;> rfl) | rfl))) rfl <| Oa rfl sm rfl <| Oa rfl sm rfl <| Oa rfl (zb (hv := bi_w bi_add (by first | (simp only [w1, w2] <;> rfl) | rfl))) rfl <| Oa rfl sm rfl <| OSuf.call rfl (by simp only [aopnds, lk] <;> rfl) en139 (median_c _ h r N q d hN hr hq s rfl hs0 hs1 (a - 1) a (a + 1) (by omega) (by omega) hb hsz) ?_
  rintro _ _ ⟨s1, x1, rfl, rfl, g1, g2, g3⟩
  refine ⟨_, rfl, ?_⟩
  refine Oa rfl za rfl <| On ?_
  refine CWp.ret <| FQ.ret (by simp only [aRet, Tryz.f138, aResults, aResult, lk, Nat.reduceEqDiff, reduceIte] <;> rfl) ?_
  exact ⟨s1, x1, rfl, rfl, g1, g2, by omega⟩
theorem pivot_c (h : AHeap) (r N : Nat) (hrn : r < h.next) (d : Array El) (hN : d.size = N) (a b : Nat) (hab : a + 12 < b) (hb : b ≤ N) (hsz : N < 1000000000) :
    FWp Tryz.prog 129 [sl r N, I64 a, I64 b] (h.set r (row d)) fun u h' => (∃ (p : Nat) (hint : Int), u = .tuple #[I64 p, I64 hint] ∧ a ≤ p ∧ p < b) ∧ h' = h.set r (row d) := by
  refine FWp.gcE (K0 := fun u h' => (∃ (p : Nat) (hint : Int), u = .tuple #[I64 p, I64 hint] ∧ a ≤ p ∧ p < b) ∧ ∃ s, h' = ((h.set r (row d)).new (cell 0)).set h.next (cell s)) ?_ ?_
  · have w1 : IntKind.i64.wrap ((b : Int) - (a : Int)) = ((b - a : Nat) : Int) := by rw [wrap_i64 (by omega) (by omega)]; omega
    have w2 : IntKind.i64.wrap (((b - a : Nat) : Int).tdiv 4) = (((b - a) / 4 : Nat) : Int) := by rw [Int.tdiv_eq_ediv_of_nonneg (by omega), wrap_i64 (by omega) (by omega)]; omega
    obtain ⟨l4, hl4⟩ : ∃ l4, l4 = (b - a) / 4 := ⟨_, rfl⟩
    rw [← hl4] at w2
    have w3 : IntKind.i64.wrap ((l4 : Int) * 1) = (l4 : Int) := by rw [wrap_i64 (by omega) (by omega)]; omega
    have w4 : IntKind.i64.wrap ((l4 : Int) * 2) = ((l4 * 2 : Nat) : Int) := by rw [wrap_i64 (by omega) (by omega)]; omega
    have w5 : IntKind.i64.wrap ((l4 : Int) * 3) = ((l4 * 3 : Nat) : Int) := by rw [wrap_i64 (by omega) (by omega)]; omega
    have w6 : IntKind.i64.wrap ((a : Int) + (l4 : Int)) = ((a + l4 : Nat) : Int) := by rw [wrap_i64 (by omega) (by omega)]; omega
    have w7 : IntKind.i64.wrap ((a : Int) + ((l4 * 2 : Nat) : Int)) = ((a + l4 * 2 : Nat) : Int) := by rw [wrap_i64 (by omega) (by omega)]; omega
    have w8 : IntKind.i64.wrap ((a : Int) + ((l4 * 3 : Nat) : Int)) = ((a + l4 * 3 : Nat) : Int) := by rw [wrap_i64 (by omega) (by omega)]; omega
    obtain ⟨g, hg⟩ : ∃ g, g = (h.set r (row d)).new (cell 0) := ⟨_, rfl⟩
    have hgr : g.get r = some (row d) := by rw [hg, zN (by simp only [AHeap.next_set]; omega), AHeap.get_set_same]
    have hg0 : g = g.set h.next (cell 0) := (AHeap.set_self (by rw [hg]; exact zQ)).symm
    have hqr : ¬ h.next = r := by omega
    refine W.enter tyOK Tryz.func129 rfl rfl ?_
    simp only [entry]
    have fin : ∀ (s : Int) (p : Nat) (hint : Int), a ≤ p → p < b → (∃ (p : Nat) (hint : Int), Value.tuple #[I64 p, I64 hint] = .tuple #[I64 p, I64 hint] ∧ a ≤ p ∧ p < b) := fun s p hint h1 h2 => ⟨p, hint, rfl, h1, h2⟩
    by_cases h50 : ((b - a : Nat) : Int) ≥ 50
    · refine Wr <| Oa rfl za rfl <| Oa rfl za rfl <| On ?_
      refine Wr <| Oa rfl sm rfl <| Oa rfl sm rfl <| Oa rfl (zb (hv := bi_w bi_sub (by first | (simp only [w1, w2, w3, w4, w5, w6, w7, w8] <;> rfl) | rfl))) rfl <| Oa rfl za rfl <| On ?_
      refine Wr <| Oa rfl (so_alloc (by simp only [aAlloc, ty3] <;> rfl)) rfl <| On ?_
      refine Wr <| Oa rfl sm rfl <| Oa rfl sm rfl <| Oa rfl (zb (hv := bi_w (bi_quo (by decide)) (by first | (simp only [w1, w2, w3, w4, w5, w6, w7, w8] <;> rfl) | rfl))) rfl <| Oa rfl (zb (hv := bi_w bi_mul (by first | (simp only [w1, w2, w3, w4, w5, w6, w7, w8] <;> rfl) | rfl))) rfl <| Oa rfl (zb (hv := bi_w bi_add (by first | (simp only [w1, w2, w3, w4, w5, w6, w7, w8] <;> rfl) | rfl))) rfl <| Oa rfl za rfl <| On ?_
      refine Wr <| Oa rfl sm rfl <| Oa rfl sm rfl <| Oa rfl (zb (hv := bi_w (bi_quo (by decide)) (by first | (simp only [w1, w2, w3, w4, w5, w6, w7, w8] <;> rfl) | rfl))) rfl <| Oa rfl (zb (hv := bi_w bi_mul (by first | (simp only [w1, w2, w3, w4, w5, w6, w7, w8] <;> rfl) | rfl))) rfl <| Oa rfl (zb (hv := bi_w bi_add (by first | (simp only [w1, w2, w3, w4, w5, w6, w7, w8] <;> rfl) | rfl))) rfl <| Oa rfl za rfl <| On ?_
      refine Wr <| Oa rfl sm rfl <| Oa rfl sm rfl <| Oa rfl (zb (hv := bi_w (bi_quo (by decide)) (by first | (simp only [w1, w2, w3, w4, w5, w6, w7, w8] <;> rfl) | rfl))) rfl <| Oa rfl (zb (hv := bi_w bi_mul (by first | (simp only [w1, w2, w3, w4, w5, w6, w7, w8] <;> rfl) | rfl))) rfl <| Oa rfl (zb (hv := bi_w bi_add (by first | (simp only [w1, w2, w3, w4, w5, w6, w7, w8] <;> rfl) | rfl))) rfl <| Oa rfl za rfl <| On ?_
      refine W.seq <| Wr <| Oa rfl sm rfl <| Ot rfl (zb (hv := bi_geq)) rfl (by first | rfl | assumption | ((simp only [bl, hgr]) <;> first | done | assumption | omega) | (simp; done) | (simp; omega)) <| On ?_
      refine Wy <| W.seq <| Wr <| Oa rfl sm rfl <| Ot rfl (zb (hv := bi_geq)) rfl (by first | rfl | assumption | ((simp only [bl, hgr]) <;> first | done | assumption | omega) | (simp; done) | (simp; omega)) <| On ?_
      refine Wy <| Wr <| Oa rfl sm rfl <| Oa rfl sm rfl <| OSuf.call rfl (by simp only [aopnds, lk] <;> rfl) en138 (adjacent_c _ g r N h.next d hN hgr hqr 0 (hg ▸ hg0) (by omega) (by omega) (a + l4) (by omega) (by omega) hsz) ?_
      rintro _ _ ⟨s1, x1, rfl, rfl, g1, g2, g3⟩
      refine ⟨_, rfl, ?_⟩
      refine Oa rfl za rfl <| On ?_
      refine Wr <| Oa rfl sm rfl <| Oa rfl sm rfl <| OSuf.call rfl (by simp only [aopnds, lk] <;> rfl) en138 (adjacent_c _ g r N h.next d hN hgr hqr s1 rfl g1 (by omega) (a + l4 * 2) (by omega) (by omega) hsz) ?_
      rintro _ _ ⟨s2, x2, rfl, rfl, g4, g5, g6⟩
      refine ⟨_, rfl, ?_⟩
      refine Oa rfl za rfl <| On ?_
      refine W.reg <| Oa rfl sm rfl <| Oa rfl sm rfl <| OSuf.call rfl (by simp only [aopnds, lk] <;> rfl) en138 (adjacent_c _ g r N h.next d hN hgr hqr s2 rfl g4 (by omega) (a + l4 * 3) (by omega) (by omega) hsz) ?_
      rintro _ _ ⟨s3, x3, rfl, rfl, g7, g8, g9⟩
      refine ⟨_, rfl, ?_⟩
      refine Oa rfl za rfl <| On ?_
      refine W.reg <| Oa rfl sm rfl <| Oa rfl sm rfl <| Oa rfl sm rfl <| Oa rfl sm rfl <| OSuf.call rfl (by simp only [aopnds, lk] <;> rfl) en139 (median_c _ g r N h.next d hN hgr hqr s3 rfl g7 (by omega) x1 x2 x3 (by omega) (by omega) (by omega) hsz) ?_
      rintro _ _ ⟨s4, x4, rfl, rfl, g10, g11, g12⟩
      refine ⟨_, rfl, ?_⟩
      refine Oa rfl za rfl <| On ?_
      refine Wr <| Oa rfl (zl (hv := by simp (disch := first | omega | simp only [nx]; omega) only [aLoad, ty3, rowOf, hpl, hgr] <;> rfl)) rfl <| On ?_
      refine W.block <| Wr <| OSuf.aopB tyOK rfl (zb (hv := bi_eql)) (fun _ => rfl) (fun hb => ?_) (fun hb => ?_)
      · try simp only [bl] at hb
        refine Ot rfl za rfl rfl <| On ?_
        refine Wy <| Wr <| Oa rfl sm rfl <| Oa rfl za rfl <| Oa rfl za rfl <| On ?_
        refine CWp.ret <| BQ.ret <| FQ.ret (by simp only [aRet, Tryz.f129, aResults, aResult, lk, Nat.reduceEqDiff, reduceIte] <;> rfl) ?_
        exact ⟨⟨x4, 1, rfl, by omega, by omega⟩, s4, by rw [hg]⟩
      · try simp only [bl] at hb
        refine Of rfl za rfl rfl <| On ?_
        refine Wn <| Wr <| OSuf.aopB tyOK rfl (zb (hv := bi_eql)) (fun _ => rfl) (fun hb => ?_) (fun hb => ?_)
        · try simp only [bl] at hb
          refine Ot rfl za rfl rfl <| On ?_
          refine Wy <| Wr <| Oa rfl sm rfl <| Oa rfl za rfl <| Oa rfl za rfl <| On ?_
          refine CWp.ret <| BQ.ret <| FQ.ret (by simp only [aRet, Tryz.f129, aResults, aResult, lk, Nat.reduceEqDiff, reduceIte] <;> rfl) ?_
          exact ⟨⟨x4, 2, rfl, by omega, by omega⟩, s4, by rw [hg]⟩
        · try simp only [bl] at hb
          refine Of rfl za rfl rfl <| On ?_
          refine Wn <| Wr <| Oa rfl sm rfl <| Oa rfl za rfl <| Oa rfl za rfl <| On ?_
          refine CWp.ret <| BQ.ret <| FQ.ret (by simp only [aRet, Tryz.f129, aResults, aResult, lk, Nat.reduceEqDiff, reduceIte] <;> rfl) ?_
          exact ⟨⟨x4, 0, rfl, by omega, by omega⟩, s4, by rw [hg]⟩
    · refine Wr <| Oa rfl za rfl <| Oa rfl za rfl <| On ?_
      refine Wr <| Oa rfl sm rfl <| Oa rfl sm rfl <| Oa rfl (zb (hv := bi_w bi_sub (by first | (simp only [w1, w2, w3, w4, w5, w6, w7, w8] <;> rfl) | rfl))) rfl <| Oa rfl za rfl <| On ?_
      refine Wr <| Oa rfl (so_alloc (by simp only [aAlloc, ty3] <;> rfl)) rfl <| On ?_
      refine Wr <| Oa rfl sm rfl <| Oa rfl sm rfl <| Oa rfl (zb (hv := bi_w (bi_quo (by decide)) (by first | (simp only [w1, w2, w3, w4, w5, w6, w7, w8] <;> rfl) | rfl))) rfl <| Oa rfl (zb (hv := bi_w bi_mul (by first | (simp only [w1, w2, w3, w4, w5, w6, w7, w8] <;> rfl) | rfl))) rfl <| Oa rfl (zb (hv := bi_w bi_add (by first | (simp only [w1, w2, w3, w4, w5, w6, w7, w8] <;> rfl) | rfl))) rfl <| Oa rfl za rfl <| On ?_
      refine Wr <| Oa rfl sm rfl <| Oa rfl sm rfl <| Oa rfl (zb (hv := bi_w (bi_quo (by decide)) (by first | (simp only [w1, w2, w3, w4, w5, w6, w7, w8] <;> rfl) | rfl))) rfl <| Oa rfl (zb (hv := bi_w bi_mul (by first | (simp only [w1, w2, w3, w4, w5, w6, w7, w8] <;> rfl) | rfl))) rfl <| Oa rfl (zb (hv := bi_w bi_add (by first | (simp only [w1, w2, w3, w4, w5, w6, w7, w8] <;> rfl) | rfl))) rfl <| Oa rfl za rfl <| On ?_
      refine Wr <| Oa rfl sm rfl <| Oa rfl sm rfl <| Oa rfl (zb (hv := bi_w (bi_quo (by decide)) (by first | (simp only [w1, w2, w3, w4, w5, w6, w7, w8] <;> rfl) | rfl))) rfl <| Oa rfl (zb (hv := bi_w bi_mul (by first | (simp only [w1, w2, w3, w4, w5, w6, w7, w8] <;> rfl) | rfl))) rfl <| Oa rfl (zb (hv := bi_w bi_add (by first | (simp only [w1, w2, w3, w4, w5, w6, w7, w8] <;> rfl) | rfl))) rfl <| Oa rfl za rfl <| On ?_
      refine W.seq <| Wr <| Oa rfl sm rfl <| Ot rfl (zb (hv := bi_geq)) rfl (by first | rfl | assumption | ((simp only [bl, hgr]) <;> first | done | assumption | omega) | (simp; done) | (simp; omega)) <| On ?_
      refine Wy <| W.seq <| Wr <| Oa rfl sm rfl <| Of rfl (zb (hv := bi_geq)) rfl (by first | rfl | assumption | ((simp only [bl, hgr]) <;> first | done | assumption | omega) | (simp; done) | (simp; omega)) <| On ?_
      refine Wn <| CWp.skip <| SQ.normal ?_
      refine W.reg <| Oa rfl sm rfl <| Oa rfl sm rfl <| Oa rfl sm rfl <| Oa rfl sm rfl <| OSuf.call rfl (by simp only [aopnds, lk] <;> rfl) en139 (median_c _ g r N h.next d hN hgr hqr 0 (hg ▸ hg0) (by omega) (by omega) (a + l4) (a + l4 * 2) (a + l4 * 3) (by omega) (by omega) (by omega) hsz) ?_
      rintro _ _ ⟨s4, x4, rfl, rfl, g10, g11, g12⟩
      refine ⟨_, rfl, ?_⟩
      refine Oa rfl za rfl <| On ?_
      refine Wr <| Oa rfl (zl (hv := by simp (disch := first | omega | simp only [nx]; omega) only [aLoad, ty3, rowOf, hpl, hgr] <;> rfl)) rfl <| On ?_
      refine W.block <| Wr <| OSuf.aopB tyOK rfl (zb (hv := bi_eql)) (fun _ => rfl) (fun hb => ?_) (fun hb => ?_)
      · try simp only [bl] at hb
        refine Ot rfl za rfl rfl <| On ?_
        refine Wy <| Wr <| Oa rfl sm rfl <| Oa rfl za rfl <| Oa rfl za rfl <| On ?_
        refine CWp.ret <| BQ.ret <| FQ.ret (by simp only [aRet, Tryz.f129, aResults, aResult, lk, Nat.reduceEqDiff, reduceIte] <;> rfl) ?_
        exact ⟨⟨x4, 1, rfl, by omega, by omega⟩, s4, by rw [hg]⟩
      · try simp only [bl] at hb
        refine Of rfl za rfl rfl <| On ?_
        refine Wn <| Wr <| OSuf.aopB tyOK rfl (zb (hv := bi_eql)) (fun _ => rfl) (fun hb => ?_) (fun hb => ?_)
        · try simp only [bl] at hb
          refine Ot rfl za rfl rfl <| On ?_
          refine Wy <| Wr <| Oa rfl sm rfl <| Oa rfl za rfl <| Oa rfl za rfl <| On ?_
          refine CWp.ret <| BQ.ret <| FQ.ret (by simp only [aRet, Tryz.f129, aResults, aResult, lk, Nat.reduceEqDiff, reduceIte] <;> rfl) ?_
          exact ⟨⟨x4, 2, rfl, by omega, by omega⟩, s4, by rw [hg]⟩
        · try simp only [bl] at hb
          refine Of rfl za rfl rfl <| On ?_
          refine Wn <| Wr <| Oa rfl sm rfl <| Oa rfl za rfl <| Oa rfl za rfl <| On ?_
          refine CWp.ret <| BQ.ret <| FQ.ret (by simp only [aRet, Tryz.f129, aResults, aResult, lk, Nat.reduceEqDiff, reduceIte] <;> rfl) ?_
          exact ⟨⟨x4, 0, rfl, by omega, by omega⟩, s4, by rw [hg]⟩
  · rintro u h' ⟨⟨p, hint, rfl, h1, h2⟩, s, rfl⟩
    refine ⟨.flat rfl, _, rfl, fun x o hx => .inl ⟨hx, fun hlt => ?_⟩, ⟨p, hint, rfl, h1, h2⟩, rfl⟩
    simp only [AHeap.next_set] at hlt
    rw [zS (by omega), zN (by simp only [AHeap.next_set]; omega)]; exact hx
end Go.Proofs.YtebheelmgcggmaaGreat.SortS
