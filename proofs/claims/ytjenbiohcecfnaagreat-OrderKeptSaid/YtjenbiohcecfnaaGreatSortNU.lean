/-
  Merged: SortA, Sort12U, SortNU.
-/
import Derived.Test.YtjenbiohcecfnaaGreatTy
import Derived.Test.YtjenbiohcecfnaaGreatAb32
import Derived.Test.YtjenbiohcecfnaaGreatSortN
namespace Go.Proofs.YtjenbiohcecfnaaGreat.SortU
open Go.Ab Go.Sort
set_option linter.unusedSimpArgs false
set_option linter.unusedVariables false
set_option maxRecDepth 10000
set_option maxHeartbeats 8000000
abbrev El : Type := Int
abbrev enc : El → Value := Value.int .u64
abbrev lt : El → El → Bool := ltInt
abbrev I64 (n : Int) : Value := .int .i64 n
abbrev row (d : Array El) : AObj := .cells (d.toList.map enc) 1
abbrev sl (r n : Nat) : Value := .slice (some ⟨r, 0, none⟩) n 0
theorem rg {d : Array El} {i : Nat} (hi : i < d.size) : (d.toList.map enc)[i]? = some (enc d[i]!) := arr_get enc hi
theorem rs {d : Array El} {i : Nat} {x : El} (hi : i < d.size) : splice (d.toList.map enc) i [enc x] = (d.setIfInBounds i x).toList.map enc := arr_set enc x hi
theorem rb {d : Array El} {i : Nat} (hi : i < d.size) : Nat.ble (i + 1) (d.toList.map enc).length = true := arr_ble enc hi
theorem nan_c (x : El) (h : AHeap) : FWp Tryz.prog 107 [enc x] h fun u h' => u = .bool false ∧ h' = h := by
  refine W.enter tyOK Tryz.func107 rfl rfl ?_
  simp only [entry]
  refine W.seq <| W.reg <| OSuf.aopF tyOK rfl za (fun _ => rfl) rfl <| OSuf.nil <| SQ.normal ?_
  refine W.seq <| W.reg <| OSuf.aop tyOK rfl sm rfl <| OSuf.aop tyOK rfl sm rfl <| OSuf.aop tyOK rfl (zb (hv := bi_neq)) rfl <| OSuf.aop tyOK rfl za rfl <| OSuf.nil <| SQ.normal ?_
  refine CWp.ret <| FQ.ret (by simp only [aRet, Tryz.f107, aResults, aResult, lk, Nat.reduceEqDiff, reduceIte] <;> rfl) ?_
  -- leaf: end
  exact ⟨by simp, rfl⟩
theorem less_c (x y : El) (h : AHeap) (b : Bool) (hb : lt x y = b) : FWp Tryz.prog 82 [enc x, enc y] h fun u h' => u = .bool b ∧ h' = h := by
  refine W.enter tyOK Tryz.func82 rfl rfl ?_
  simp only [entry]
  refine W.seq <| W.reg <| OSuf.aopF tyOK rfl za (fun _ => rfl) rfl <| OSuf.nil <| SQ.normal ?_
  refine W.seq <| W.reg <| OSuf.aop tyOK rfl sm rfl <| OSuf.callD rfl (by simp only [aopnds, lk] <;> rfl) en107 (nan_c x _) rfl <| OSuf.aopF tyOK rfl sm (fun _ => rfl) rfl <| OSuf.pass ag rfl <| OSuf.pass ag rfl <| OSuf.pass ag rfl <| OSuf.aopF tyOK rfl (so_pick (by simp only [lk] <;> rfl) (by simp only [lk, cond_true, cond_false] <;> rfl)) (fun _ => rfl) rfl <| OSuf.aopF tyOK rfl sm (fun _ => rfl) rfl <| OSuf.aop tyOK ag sm rfl <| OSuf.aop tyOK ag sm rfl <| OSuf.aop tyOK ag (zb (hv := bi_lss)) rfl <| OSuf.aop tyOK rfl (so_pick (by simp only [lk] <;> rfl) (by simp only [lk, cond_true, cond_false] <;> rfl)) rfl <| OSuf.aop tyOK rfl za rfl <| OSuf.nil <| SQ.normal ?_
  refine CWp.ret <| FQ.ret (by simp only [aRet, Tryz.f82, aResults, aResult, lk, Nat.reduceEqDiff, reduceIte] <;> rfl) ?_
  -- leaf: end
  exact ⟨congrArg Value.bool hb, rfl⟩
theorem insertion_c (h : AHeap) (r N : Nat) (d : Array El) (hN : d.size = N) (a b : Nat) (hab : a ≤ b) (hb : b ≤ N) (hsz : N < 1000000000) :
    FWp Tryz.prog 76 [sl r N, I64 a, I64 b] (h.set r (row d)) fun u h' => u = .tuple #[] ∧ h' = h.set r (row (insertionSort lt d a b)) := by
  refine W.enter tyOK Tryz.func76 rfl rfl ?_
  simp only [entry]
  have w0 : IntKind.i64.wrap ((a : Int) + 1) = ((a + 1 : Nat) : Int) := by rw [wrap_i64 (by omega) (by omega)]; omega
  refine W.seq <| W.reg <| OSuf.aop tyOK rfl sm rfl <| OSuf.aop tyOK rfl (zb (hv := bi_w bi_add (by first | (simp only [w0] <;> rfl) | rfl))) rfl <| OSuf.aop tyOK rfl za rfl <| OSuf.nil <| SQ.normal ?_
  -- leaf: loop
  refine W.block (W.loop (fun n L h' => ∃ (i : Nat) (dk : Array El), n = b - i ∧ a + 1 ≤ i ∧ (i ≤ b ∨ i = a + 1) ∧ dk.size = N ∧ insOuter lt a b i dk = insertionSort lt d a b ∧ h' = h.set r (row dk) ∧
      L = [(0, sl r N), (1, I64 a), (2, I64 b), (6, I64 i)]) (n := b - (a + 1)) ⟨a + 1, d, rfl, by omega, by omega, hN, rfl, rfl, rfl⟩ ?_ ?_)
  · simp [HasA, Tr.get_put]
  · rintro n L h1 ⟨i, dk, rfl, hi1, hi2, hds, heq, rfl, rfl⟩
    simp only [mkA]
    by_cases hib : (i : Int) < (b : Int)
    · refine W.seq <| W.seq <| W.reg <| OSuf.aop tyOK rfl sm rfl <| OSuf.aop tyOK rfl sm rfl <| OSuf.aopT tyOK rfl (zb (hv := bi_lss)) (fun _ => rfl) (by first | rfl | assumption | ((simp only [bl]) <;> first | done | assumption | omega) | (simp; done) | (simp; omega)) <| OSuf.nil <| SQ.normal ?_
      refine W.yes (by simp only [lk] <;> rfl) <| CWp.skip <| SQ.normal ?_
      refine W.seq <| W.block <| W.seq <| W.reg <| OSuf.aop tyOK rfl sm rfl <| OSuf.aop tyOK rfl za rfl <| OSuf.nil <| SQ.normal ?_
      -- leaf: loop
      refine W.cut (fun L h' => ∃ (dj : Array El), dj.size = N ∧ dj = insInner lt a i dk ∧ h' = h.set r (row dj) ∧ L = [(0, sl r N), (1, I64 a), (2, I64 b), (6, I64 i)]) (W.block (W.loop (fun n L h' => ∃ (j : Nat) (dj : Array El), n = j ∧ j ≤ i ∧ dj.size = N ∧ insInner lt a j dj = insInner lt a i dk ∧ h' = h.set r (row dj) ∧
          L = [(0, sl r N), (1, I64 a), (2, I64 b), (6, I64 i), (7, I64 j)]) (n := i) ⟨i, dk, rfl, by omega, hds, rfl, rfl, rfl⟩ ?_ ?_)) ?_
      · simp [HasA, Tr.get_put]
      · rintro j L h1 ⟨_, dj, rfl, hji, hdj, hq, rfl, rfl⟩
        simp only [mkA]
        by_cases hja : (j : Int) > (a : Int)
        · obtain ⟨m, rfl⟩ : ∃ m, j = m + 1 := ⟨j - 1, by omega⟩
          have w1 : IntKind.i64.wrap (((m + 1 : Nat) : Int) - 1) = (m : Int) := by rw [wrap_i64 (by omega) (by omega)]; omega
          cases hl : lt dj[m + 1]! dj[m]!
          · refine W.seq <| W.seq <| W.regD tyOK mixed (by kernel_rfl) <| SqW.aop rfl sm rfl <| SqW.aop rfl sm rfl <| SqW.aopT rfl (zb (hv := bi_gtr)) (fun _ => rfl) (by first | rfl | assumption | ((simp only [bl, if_pos, Int.toNat_natCast, Nat.mul_one, Nat.zero_add, rg]) <;> first | done | assumption | omega) | (simp; done) | (simp; omega)) <| SqW.aopT rfl sm (fun _ => rfl) rfl <| SqW.aop ag sm rfl <| SqW.aop ag sm rfl <| SqW.aop ag (zi (hv := by simp (disch := first | assumption | omega | (simp only [nx] <;> omega) | fail) only [aIndexAddr, ty40, ty27, hpl, if_pos, Int.toNat_natCast, Nat.mul_one, Nat.zero_add, rg] <;> rfl)) rfl <| SqW.aop ag (zl (hv := by simp (disch := first | assumption | omega | (simp only [nx] <;> omega) | fail) only [aLoad, ty27, rowOf, hpl, if_pos, Int.toNat_natCast, Nat.mul_one, Nat.zero_add, rg] <;> rfl)) rfl <| SqW.aop ag sm rfl <| SqW.aop ag sm rfl <| SqW.aop ag (zb (hv := bi_w bi_sub (by first | (simp only [w1] <;> rfl) | rfl))) rfl <| SqW.aop ag (zi (hv := by simp (disch := first | assumption | omega | (simp only [nx] <;> omega) | fail) only [aIndexAddr, ty40, ty27, hpl, if_pos, Int.toNat_natCast, Nat.mul_one, Nat.zero_add, rg] <;> rfl)) rfl <| SqW.aop ag (zl (hv := by simp (disch := first | assumption | omega | (simp only [nx] <;> omega) | fail) only [aLoad, ty27, rowOf, hpl, if_pos, Int.toNat_natCast, Nat.mul_one, Nat.zero_add, rg] <;> rfl)) rfl <| SqW.callD ag (by simp only [aopnds, lk] <;> rfl) en82 (less_c _ _ _ _ hl) rfl <| SqW.aopF rfl (so_pick (by simp only [lk] <;> rfl) (by simp only [lk, cond_true, cond_false] <;> rfl)) (fun _ => rfl) rfl <| SqW.nil <| SQ.normal ?_
            refine W.no (by simp only [lk] <;> rfl) <| CWp.exit <| SQ.exit <| LQ.exit <| BQ.exit <| ?_
            -- leaf: cut
            refine NQ.normal (L := [(0, sl r N), (1, I64 a), (2, I64 b), (6, I64 i)]) ?_ ⟨dj, hdj, ?_, rfl, rfl⟩
            · simp only [HasA, Tr.get_put, Nat.reduceEqDiff, reduceIte, and_self]
            · rw [← hq, insInner]; simp [hl]
          · refine W.seq <| W.seq <| W.regD tyOK mixed (by kernel_rfl) <| SqW.aop rfl sm rfl <| SqW.aop rfl sm rfl <| SqW.aopT rfl (zb (hv := bi_gtr)) (fun _ => rfl) (by first | rfl | assumption | ((simp only [bl, if_pos, Int.toNat_natCast, Nat.mul_one, Nat.zero_add, rg, rs, rb, Value.cells, List.length_cons, List.length_nil, oneCells, List.all_cons, List.all_nil, Value.oneCell', Bool.and_self, cond_true, AHeap.set_set, Array.size_setIfInBounds]) <;> first | done | assumption | omega) | (simp; done) | (simp; omega)) <| SqW.aopT rfl sm (fun _ => rfl) rfl <| SqW.aop ag sm rfl <| SqW.aop ag sm rfl <| SqW.aop ag (zi (hv := by simp (disch := first | assumption | omega | (simp only [nx] <;> omega) | fail) only [aIndexAddr, ty40, ty27, hpl, if_pos, Int.toNat_natCast, Nat.mul_one, Nat.zero_add, rg, rs, rb, Value.cells, List.length_cons, List.length_nil, oneCells, List.all_cons, List.all_nil, Value.oneCell', Bool.and_self, cond_true, AHeap.set_set, Array.size_setIfInBounds] <;> rfl)) rfl <| SqW.aop ag (zl (hv := by simp (disch := first | assumption | omega | (simp only [nx] <;> omega) | fail) only [aLoad, ty27, rowOf, hpl, if_pos, Int.toNat_natCast, Nat.mul_one, Nat.zero_add, rg, rs, rb, Value.cells, List.length_cons, List.length_nil, oneCells, List.all_cons, List.all_nil, Value.oneCell', Bool.and_self, cond_true, AHeap.set_set, Array.size_setIfInBounds] <;> rfl)) rfl <| SqW.aop ag sm rfl <| SqW.aop ag sm rfl <| SqW.aop ag (zb (hv := bi_w bi_sub (by first | (simp only [w1] <;> rfl) | rfl))) rfl <| SqW.aop ag (zi (hv := by simp (disch := first | assumption | omega | (simp only [nx] <;> omega) | fail) only [aIndexAddr, ty40, ty27, hpl, if_pos, Int.toNat_natCast, Nat.mul_one, Nat.zero_add, rg, rs, rb, Value.cells, List.length_cons, List.length_nil, oneCells, List.all_cons, List.all_nil, Value.oneCell', Bool.and_self, cond_true, AHeap.set_set, Array.size_setIfInBounds] <;> rfl)) rfl <| SqW.aop ag (zl (hv := by simp (disch := first | assumption | omega | (simp only [nx] <;> omega) | fail) only [aLoad, ty27, rowOf, hpl, if_pos, Int.toNat_natCast, Nat.mul_one, Nat.zero_add, rg, rs, rb, Value.cells, List.length_cons, List.length_nil, oneCells, List.all_cons, List.all_nil, Value.oneCell', Bool.and_self, cond_true, AHeap.set_set, Array.size_setIfInBounds] <;> rfl)) rfl <| SqW.callD ag (by simp only [aopnds, lk] <;> rfl) en82 (less_c _ _ _ _ hl) rfl <| SqW.aopT rfl (so_pick (by simp only [lk] <;> rfl) (by simp only [lk, cond_true, cond_false] <;> rfl)) (fun _ => rfl) rfl <| SqW.nil <| SQ.normal ?_
            refine W.yes (by simp only [lk] <;> rfl) <| CWp.skip <| SQ.normal ?_
            refine W.seq <| W.block <| W.regD tyOK mixed (by kernel_rfl) <| SqW.aop rfl sm rfl <| SqW.aop rfl sm rfl <| SqW.aop rfl sm rfl <| SqW.aop rfl sm rfl <| SqW.aop rfl (zb (hv := bi_w bi_sub (by first | (simp only [w1] <;> rfl) | rfl))) rfl <| SqW.aop rfl sm rfl <| SqW.aop rfl sm rfl <| SqW.aop rfl (zb (hv := bi_w bi_sub (by first | (simp only [w1] <;> rfl) | rfl))) rfl <| SqW.aop rfl (zi (hv := by simp (disch := first | assumption | omega | (simp only [nx] <;> omega) | fail) only [aIndexAddr, ty40, ty27, hpl, if_pos, Int.toNat_natCast, Nat.mul_one, Nat.zero_add, rg, rs, rb, Value.cells, List.length_cons, List.length_nil, oneCells, List.all_cons, List.all_nil, Value.oneCell', Bool.and_self, cond_true, AHeap.set_set, Array.size_setIfInBounds] <;> rfl)) rfl <| SqW.aop rfl (zl (hv := by simp (disch := first | assumption | omega | (simp only [nx] <;> omega) | fail) only [aLoad, ty27, rowOf, hpl, if_pos, Int.toNat_natCast, Nat.mul_one, Nat.zero_add, rg, rs, rb, Value.cells, List.length_cons, List.length_nil, oneCells, List.all_cons, List.all_nil, Value.oneCell', Bool.and_self, cond_true, AHeap.set_set, Array.size_setIfInBounds] <;> rfl)) rfl <| SqW.aop rfl sm rfl <| SqW.aop rfl sm rfl <| SqW.aop rfl (zi (hv := by simp (disch := first | assumption | omega | (simp only [nx] <;> omega) | fail) only [aIndexAddr, ty40, ty27, hpl, if_pos, Int.toNat_natCast, Nat.mul_one, Nat.zero_add, rg, rs, rb, Value.cells, List.length_cons, List.length_nil, oneCells, List.all_cons, List.all_nil, Value.oneCell', Bool.and_self, cond_true, AHeap.set_set, Array.size_setIfInBounds] <;> rfl)) rfl <| SqW.aop rfl (zl (hv := by simp (disch := first | assumption | omega | (simp only [nx] <;> omega) | fail) only [aLoad, ty27, rowOf, hpl, if_pos, Int.toNat_natCast, Nat.mul_one, Nat.zero_add, rg, rs, rb, Value.cells, List.length_cons, List.length_nil, oneCells, List.all_cons, List.all_nil, Value.oneCell', Bool.and_self, cond_true, AHeap.set_set, Array.size_setIfInBounds] <;> rfl)) rfl <| SqW.aop rfl (zi (hv := by simp (disch := first | assumption | omega | (simp only [nx] <;> omega) | fail) only [aIndexAddr, ty40, ty27, hpl, if_pos, Int.toNat_natCast, Nat.mul_one, Nat.zero_add, rg, rs, rb, Value.cells, List.length_cons, List.length_nil, oneCells, List.all_cons, List.all_nil, Value.oneCell', Bool.and_self, cond_true, AHeap.set_set, Array.size_setIfInBounds] <;> rfl)) rfl <| SqW.aop rfl (zs (hv := by simp (disch := first | assumption | omega | (simp only [nx] <;> omega) | fail) only [aStore, ty27, writeRow, hpl, if_pos, Int.toNat_natCast, Nat.mul_one, Nat.zero_add, rg, rs, rb, Value.cells, List.length_cons, List.length_nil, oneCells, List.all_cons, List.all_nil, Value.oneCell', Bool.and_self, cond_true, AHeap.set_set, Array.size_setIfInBounds] <;> rfl)) rfl <| SqW.aop rfl (zi (hv := by simp (disch := first | assumption | omega | (simp only [nx] <;> omega) | fail) only [aIndexAddr, ty40, ty27, hpl, if_pos, Int.toNat_natCast, Nat.mul_one, Nat.zero_add, rg, rs, rb, Value.cells, List.length_cons, List.length_nil, oneCells, List.all_cons, List.all_nil, Value.oneCell', Bool.and_self, cond_true, AHeap.set_set, Array.size_setIfInBounds] <;> rfl)) rfl <| SqW.aop rfl (zs (hv := by simp (disch := first | assumption | omega | (simp only [nx] <;> omega) | fail) only [aStore, ty27, writeRow, hpl, if_pos, Int.toNat_natCast, Nat.mul_one, Nat.zero_add, rg, rs, rb, Value.cells, List.length_cons, List.length_nil, oneCells, List.all_cons, List.all_nil, Value.oneCell', Bool.and_self, cond_true, AHeap.set_set, Array.size_setIfInBounds] <;> rfl)) rfl <| SqW.nil <| BQ.normal <| SQ.normal ?_
            refine W.reg <| OSuf.aop tyOK rfl sm rfl <| OSuf.aop tyOK rfl (zb (hv := bi_w bi_sub (by first | (simp only [w1] <;> rfl) | rfl))) rfl <| OSuf.aop tyOK rfl za rfl <| OSuf.nil <| ?_
            -- leaf: round
            refine LQ.normal (m := m) (L := [(0, sl r N), (1, I64 a), (2, I64 b), (6, I64 i), (7, I64 m)]) (by omega) ?_ ⟨m, swp dj (m + 1) m, rfl, by omega, by rw [size_swp]; exact hdj, ?_, rfl, rfl⟩
            · simp only [HasA, Tr.get_put, Nat.reduceEqDiff, reduceIte, w1, and_self]
            · rw [← hq, insInner]; simp [hl]; omega
        · refine W.seq <| W.seq <| W.regD tyOK mixed (by kernel_rfl) <| SqW.aop rfl sm rfl <| SqW.aop rfl sm rfl <| SqW.aopF rfl (zb (hv := bi_gtr)) (fun _ => rfl) (by first | rfl | assumption | ((simp only [bl]) <;> first | done | assumption | omega) | (simp; done) | (simp; omega)) <| SqW.aopF rfl sm (fun _ => rfl) rfl <| SqW.pass ag rfl <| SqW.pass ag rfl <| SqW.pass ag rfl <| SqW.pass ag rfl <| SqW.pass ag rfl <| SqW.pass ag rfl <| SqW.pass ag rfl <| SqW.pass ag rfl <| SqW.pass ag rfl <| SqW.pass ag rfl <| SqW.aopF rfl (so_pick (by simp only [lk] <;> rfl) (by simp only [lk, cond_true, cond_false] <;> rfl)) (fun _ => rfl) rfl <| SqW.nil <| SQ.normal ?_
          refine W.no (by simp only [lk] <;> rfl) <| CWp.exit <| SQ.exit <| LQ.exit <| BQ.exit <| ?_
          -- leaf: cut
          refine NQ.normal (L := [(0, sl r N), (1, I64 a), (2, I64 b), (6, I64 i)]) ?_ ⟨dj, hdj, ?_, rfl, rfl⟩
          · simp only [HasA, Tr.get_put, Nat.reduceEqDiff, reduceIte, and_self]
          · rw [← hq]
            cases j with
            | zero => rfl
            | succ m => rw [insInner]; simp; omega
      · rintro L a' h1 ha ⟨dj, hdj, rfl, rfl, rfl⟩
        have w1 : IntKind.i64.wrap ((i : Int) + 1) = ((i + 1 : Nat) : Int) := by rw [wrap_i64 (by omega) (by omega)]; omega
        refine BQ.normal <| SQ.normal <| CWp.known ha ?_
        simp only [mkA]
        refine W.reg <| OSuf.aop tyOK rfl sm rfl <| OSuf.aop tyOK rfl (zb (hv := bi_w bi_add (by first | (simp only [w1] <;> rfl) | rfl))) rfl <| OSuf.aop tyOK rfl za rfl <| OSuf.nil <| ?_
        -- leaf: round
        refine LQ.normal (m := b - (i + 1)) (L := [(0, sl r N), (1, I64 a), (2, I64 b), (6, I64 (i + 1 : Nat))]) (by omega) ?_ ⟨i + 1, insInner lt a i dk, rfl, by omega, by omega, hdj, ?_, rfl, rfl⟩
        · simp only [HasA, Tr.get_put, Nat.reduceEqDiff, reduceIte, w1, and_self]
        · rw [← heq]
          conv => rhs; rw [insOuter]
          rw [if_pos (by omega)]
    · refine W.seq <| W.seq <| W.reg <| OSuf.aop tyOK rfl sm rfl <| OSuf.aop tyOK rfl sm rfl <| OSuf.aopF tyOK rfl (zb (hv := bi_lss)) (fun _ => rfl) (by first | rfl | assumption | ((simp only [bl]) <;> first | done | assumption | omega) | (simp; done) | (simp; omega)) <| OSuf.nil <| SQ.normal ?_
      refine W.no (by simp only [lk] <;> rfl) <| CWp.exit <| SQ.exit <| LQ.exit <| BQ.exit <| FQ.normal (by simp only [aRet, Tryz.f76, aResults, aResult, lk, Nat.reduceEqDiff, reduceIte] <;> rfl) ?_
      -- leaf: end
      refine ⟨rfl, ?_⟩
      rw [← heq, insOuter, if_neg (by omega)]
theorem swo : SWO lt := swo_ltInt
theorem pdq_x (h : AHeap) (r N : Nat) (d : Array El) (hN : d.size = N) (h12 : N ≤ 12) (lim : Int) :
    FWp Tryz.prog 63 [sl r N, I64 0, I64 N, I64 lim] (h.set r (row d)) fun u h' => u = .tuple #[] ∧ h' = h.set r (row (insertionSort lt d 0 N)) := by
  have w1 : IntKind.i64.wrap ((N : Int) - 0) = (N : Int) := by rw [wrap_i64 (by omega) (by omega)]; omega
  have hle : (N : Int) ≤ 12 := by omega
  refine W.enter tyOK Tryz.func63 rfl rfl ?_
  simp only [entry]
  refine W.seq <| W.reg <| OSuf.aopT tyOK rfl za (fun _ => rfl) rfl <| OSuf.nil <| SQ.normal ?_
  refine W.seq <| W.reg <| OSuf.aopT tyOK rfl za (fun _ => rfl) rfl <| OSuf.nil <| SQ.normal ?_
  -- leaf: loop
  refine W.block (W.loop (fun m L h' => h' = h.set r (row d) ∧ L = [(0, sl r N), (1, I64 0), (2, I64 N)]) (n := 0) ⟨rfl, rfl⟩ ?_ ?_)
  · simp [HasA, Tr.get_put]
  rintro m L g ⟨rfl, rfl⟩
  simp only [mkA]
  refine W.block <| W.seq <| W.reg <| OSuf.aop tyOK rfl sm rfl <| OSuf.aop tyOK rfl sm rfl <| OSuf.aop tyOK rfl (zb (hv := bi_w bi_sub (by first | (simp only [w1] <;> rfl) | rfl))) rfl <| OSuf.aop tyOK rfl za rfl <| OSuf.nil <| SQ.normal ?_
  refine W.seq <| W.seq <| W.reg <| OSuf.aop tyOK rfl sm rfl <| OSuf.aopT tyOK rfl (zb (hv := bi_leq)) (fun _ => rfl) (decide_eq_true hle) <| OSuf.nil <| SQ.normal ?_
  refine W.yes (by simp only [lk] <;> rfl) <| W.seq <| W.reg <| OSuf.aop tyOK rfl sm rfl <| OSuf.aop tyOK rfl sm rfl <| OSuf.aop tyOK rfl sm rfl <| OSuf.callD rfl (by simp only [aopnds, lk] <;> rfl) en76 (insertion_c h r N d hN 0 N (by omega) (by omega) (by omega)) rfl <| OSuf.nil <| SQ.normal ?_
  refine CWp.ret <| SQ.ret <| BQ.ret <| LQ.ret <| BQ.ret <| FQ.ret (by simp only [aRet, Tryz.f63, aResults, aResult, lk, Nat.reduceEqDiff, reduceIte] <;> rfl) ?_
  -- leaf: end
  exact ⟨rfl, rfl⟩
theorem sort_x (h : AHeap) (r N : Nat) (h12 : N ≤ 12) (d : Array El) (hN : d.size = N) :
    FWp Tryz.prog 36 [sl r N] (h.set r (row d)) fun u h' => u = .tuple #[] ∧ h' = h.set r (row (insertionSort lt d 0 N)) := by
  have w1 : IntKind.u64.wrap (N : Int) = (N : Int) := wrap_u64 (by omega) (by omega)
  refine W.enter tyOK Tryz.func36 rfl rfl ?_
  simp only [entry]
  refine W.seq <| W.reg <| OSuf.aop tyOK rfl sm rfl <| OSuf.aop tyOK rfl (so_len (by simp only [aopnds, lk] <;> rfl) (by simp (disch := first | assumption | omega | (simp only [nx] <;> omega) | fail) only [aLenOf, ty40, hpl] <;> rfl)) rfl <| OSuf.aop tyOK rfl za rfl <| OSuf.nil <| SQ.normal ?_
  refine W.reg <| OSuf.aop tyOK rfl sm rfl <| OSuf.aop tyOK rfl sm rfl <| OSuf.aop tyOK rfl sm rfl <| OSuf.aop tyOK rfl (so_conw (so_conv tyOK (by simp only [lk] <;> rfl) ty3 ⟨_, rfl⟩ ty134 rfl) (by first | (simp only [w1] <;> rfl) | rfl)) rfl <| OSuf.callD rfl (by simp only [aopnds, lk] <;> rfl) en64 (SortS.len_c _ N (by omega)) rfl <| OSuf.callD rfl (by simp only [aopnds, lk] <;> rfl) en63 (pdq_x h r N d hN h12 _) rfl <| OSuf.nil <| FQ.normal (by simp only [aRet, Tryz.f36, aResults, aResult, lk, Nat.reduceEqDiff, reduceIte] <;> rfl) ?_
  -- leaf: end
  exact ⟨rfl, rfl⟩
theorem sort_c (h : AHeap) (r N : Nat) (h12 : N ≤ 12) (d : Array El) (hN : d.size = N) :
    FWp Tryz.prog 36 [sl r N] (h.set r (row d)) fun u h' => u = .tuple #[] ∧ ∃ d' : Array El, h' = h.set r (row d') ∧ PermIn 0 N d d' ∧ SortedIn lt 0 N d' := by
  refine (sort_x h r N h12 d hN).mono ?_
  rintro u h' ⟨rfl, rfl⟩
  obtain ⟨p1, p2⟩ := insertionSort_holds swo d 0 N (by omega) (by omega)
  exact ⟨rfl, _, rfl, p1, p2⟩
theorem insertion_nil (h : AHeap) : FWp Tryz.prog 76 [.slice none 0 0, I64 0, I64 0] h fun u h' => u = .tuple #[] ∧ h' = h := by
  refine W.enter tyOK Tryz.func76 rfl rfl ?_
  simp only [entry]
  have w0 : IntKind.i64.wrap ((0 : Int) + 1) = 1 := by decide
  refine W.seq <| W.reg <| OSuf.aop tyOK rfl sm rfl <| OSuf.aop tyOK rfl (zb (hv := bi_w bi_add (by first | (simp only [w0] <;> rfl) | rfl))) rfl <| OSuf.aop tyOK rfl za rfl <| OSuf.nil <| SQ.normal ?_
  -- leaf: loop
  refine W.block (W.loop (fun n L h' => h' = h ∧ L = [(2, I64 0), (6, I64 1)]) (n := 0) ⟨rfl, rfl⟩ ?_ ?_)
  · simp [HasA, Tr.get_put]
  · rintro n L h1 ⟨rfl, rfl⟩
    simp only [mkA]
    refine W.seq <| W.seq <| W.reg <| OSuf.aop tyOK rfl sm rfl <| OSuf.aop tyOK rfl sm rfl <| OSuf.aopF tyOK rfl (zb (hv := bi_lss)) (fun _ => rfl) (by first | rfl | assumption | ((simp only [bl]) <;> first | done | assumption | omega) | (simp; done) | (simp; omega)) <| OSuf.nil <| SQ.normal ?_
    refine W.no (by simp only [lk] <;> rfl) <| CWp.exit <| SQ.exit <| LQ.exit <| BQ.exit <| FQ.normal (by simp only [aRet, Tryz.f76, aResults, aResult, lk, Nat.reduceEqDiff, reduceIte] <;> rfl) ?_
    -- leaf: end
    exact ⟨rfl, rfl⟩
theorem pdq_nil (h : AHeap) (lim : Int) : FWp Tryz.prog 63 [.slice none 0 0, I64 0, I64 0, I64 lim] h fun u h' => u = .tuple #[] ∧ h' = h := by
  refine W.enter tyOK Tryz.func63 rfl rfl ?_
  simp only [entry]
  have w0 : IntKind.i64.wrap ((0 : Int) - 0) = 0 := by decide
  refine W.seq <| W.reg <| OSuf.aopT tyOK rfl za (fun _ => rfl) rfl <| OSuf.nil <| SQ.normal ?_
  refine W.seq <| W.reg <| OSuf.aopT tyOK rfl za (fun _ => rfl) rfl <| OSuf.nil <| SQ.normal ?_
  -- leaf: loop
  refine W.block (W.loop (fun n L h' => h' = h ∧ L = [(0, .slice none 0 0), (1, I64 0), (2, I64 0)]) (n := 0) ⟨rfl, rfl⟩ ?_ ?_)
  · simp [HasA, Tr.get_put]
  · rintro n L h1 ⟨rfl, rfl⟩
    simp only [mkA]
    refine W.block <| W.seq <| W.reg <| OSuf.aop tyOK rfl sm rfl <| OSuf.aop tyOK rfl sm rfl <| OSuf.aop tyOK rfl (zb (hv := bi_w bi_sub (by first | (simp only [w0] <;> rfl) | rfl))) rfl <| OSuf.aop tyOK rfl za rfl <| OSuf.nil <| SQ.normal ?_
    refine W.seq <| W.seq <| W.reg <| OSuf.aop tyOK rfl sm rfl <| OSuf.aopT tyOK rfl (zb (hv := bi_leq)) (fun _ => rfl) (by first | rfl | assumption | ((simp only [bl]) <;> first | done | assumption | omega) | (simp; done) | (simp; omega)) <| OSuf.nil <| SQ.normal ?_
    refine W.yes (by simp only [lk] <;> rfl) <| W.seq <| W.reg <| OSuf.aop tyOK rfl sm rfl <| OSuf.aop tyOK rfl sm rfl <| OSuf.aop tyOK rfl sm rfl <| OSuf.callD rfl (by simp only [aopnds, lk] <;> rfl) en76 (insertion_nil _) rfl <| OSuf.nil <| SQ.normal ?_
    refine CWp.ret <| SQ.ret <| BQ.ret <| LQ.ret <| BQ.ret <| FQ.ret (by simp only [aRet, Tryz.f63, aResults, aResult, lk, Nat.reduceEqDiff, reduceIte] <;> rfl) ?_
    -- leaf: end
    exact ⟨rfl, rfl⟩
theorem sort_nil (h : AHeap) : FWp Tryz.prog 36 [.slice none 0 0] h fun u h' => u = .tuple #[] ∧ h' = h := by
  have w1 : IntKind.u64.wrap ((0 : Nat) : Int) = ((0 : Nat) : Int) := by decide
  refine W.enter tyOK Tryz.func36 rfl rfl ?_
  simp only [entry]
  refine W.seq <| W.reg <| OSuf.aop tyOK rfl sm rfl <| OSuf.aop tyOK rfl (so_len (by simp only [aopnds, lk] <;> rfl) (by simp (disch := first | assumption | omega | (simp only [nx] <;> omega) | fail) only [aLenOf, ty40, hpl] <;> rfl)) rfl <| OSuf.aop tyOK rfl za rfl <| OSuf.nil <| SQ.normal ?_
  refine W.reg <| OSuf.aop tyOK rfl sm rfl <| OSuf.aop tyOK rfl sm rfl <| OSuf.aop tyOK rfl sm rfl <| OSuf.aop tyOK rfl (so_conw (so_conv tyOK (by simp only [lk] <;> rfl) ty3 ⟨_, rfl⟩ ty134 rfl) (by first | (simp only [w1] <;> rfl) | rfl)) rfl <| OSuf.callD rfl (by simp only [aopnds, lk] <;> rfl) en64 (SortS.len_c _ 0 (by omega)) rfl <| OSuf.callD rfl (by simp only [aopnds, lk] <;> rfl) en63 (pdq_nil _ _) rfl <| OSuf.nil <| FQ.normal (by simp only [aRet, Tryz.f36, aResults, aResult, lk, Nat.reduceEqDiff, reduceIte] <;> rfl) ?_
  -- leaf: end
  exact ⟨rfl, rfl⟩
end Go.Proofs.YtjenbiohcecfnaaGreat.SortU
