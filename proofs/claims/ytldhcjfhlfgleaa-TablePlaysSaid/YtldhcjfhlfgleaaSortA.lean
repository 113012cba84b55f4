/-
  The sort of the library, walked, at string: cmp.Less, insertionSortOrdered.
-/
import Derived.Test.YtldhcjfhlfgleaaTy
import Derived.Test.YtldhcjfhlfgleaaAb37
namespace Go.Proofs.Ytldhcjfhlfgleaa.SortS
open Go.Ab Go.Sort
set_option linter.unusedSimpArgs false
set_option linter.unusedVariables false
set_option maxRecDepth 10000
set_option maxHeartbeats 4000000

abbrev El : Type := List UInt8
abbrev enc : El → Value := fun s => Value.string ⟨⟨s⟩⟩
abbrev lt : El → El → Bool := ltStr
abbrev I64 (n : Int) : Value := .int .i64 n
abbrev row (d : Array El) : AObj := .cells (d.toList.map enc) 1
abbrev sl (r n : Nat) : Value := .slice (some ⟨r, 0, none⟩) n 0

theorem rg {d : Array El} {i : Nat} (hi : i < d.size) : (d.toList.map enc)[i]? = some (enc d[i]!) := arr_get enc hi
theorem rs {d : Array El} {i : Nat} {x : El} (hi : i < d.size) : splice (d.toList.map enc) i [enc x] = (d.setIfInBounds i x).toList.map enc := arr_set enc x hi
theorem rb {d : Array El} {i : Nat} (hi : i < d.size) : Nat.ble (i + 1) (d.toList.map enc).length = true := arr_ble enc hi

theorem nan_c (x : El) (h : AHeap) : FWp Try.prog 62 [enc x] h fun u h' => u = .bool false ∧ h' = h := by
  refine W.enter tyOK Try.func62 rfl rfl ?_
  simp only [entry]
  refine W.seq <| W.reg <| OSuf.aopF tyOK rfl (so_assign (by simp only [lk] <;> rfl)) (fun _ => rfl) rfl <| OSuf.nil <| SQ.normal ?_
  refine W.seq <| W.reg <| OSuf.aop tyOK rfl sm rfl <| OSuf.aop tyOK rfl sm rfl <| OSuf.aop tyOK rfl (so_bin (by simp only [lk] <;> rfl) (by simp only [lk] <;> rfl) bs_neq) rfl <| OSuf.aop tyOK rfl (so_assign (by simp only [lk] <;> rfl)) rfl <| OSuf.nil <| SQ.normal ?_
  refine CWp.ret <| FQ.ret (by simp only [aRet, Try.f62, aResults, aResult, lk, Nat.reduceEqDiff, reduceIte] <;> rfl) ?_
  -- leaf: end
  exact ⟨by simp, rfl⟩
theorem less_c (x y : El) (h : AHeap) (b : Bool) (hb : lt x y = b) : FWp Try.prog 50 [enc x, enc y] h fun u h' => u = .bool b ∧ h' = h := by
  refine W.enter tyOK Try.func50 rfl rfl ?_
  simp only [entry]
  refine W.seq <| W.reg <| OSuf.aopF tyOK rfl (so_assign (by simp only [lk] <;> rfl)) (fun _ => rfl) rfl <| OSuf.nil <| SQ.normal ?_
  refine W.seq <| W.reg <| OSuf.aop tyOK rfl sm rfl <| OSuf.callD rfl (by simp only [aopnds, lk] <;> rfl) en62 (nan_c x _) rfl <| OSuf.aopF tyOK rfl sm (fun _ => rfl) rfl <| OSuf.pass ag rfl <| OSuf.pass ag rfl <| OSuf.pass ag rfl <| OSuf.aopF tyOK rfl (so_pick (by simp only [lk] <;> rfl) (by simp only [lk, cond_true, cond_false] <;> rfl)) (fun _ => rfl) rfl <| OSuf.aopF tyOK rfl sm (fun _ => rfl) rfl <| OSuf.aop tyOK ag sm rfl <| OSuf.aop tyOK ag sm rfl <| OSuf.aop tyOK ag (so_bin (by simp only [lk] <;> rfl) (by simp only [lk] <;> rfl) bs_lss) rfl <| OSuf.aop tyOK rfl (so_pick (by simp only [lk] <;> rfl) (by simp only [lk, cond_true, cond_false] <;> rfl)) rfl <| OSuf.aop tyOK rfl (so_assign (by simp only [lk] <;> rfl)) rfl <| OSuf.nil <| SQ.normal ?_
  refine CWp.ret <| FQ.ret (by simp only [aRet, Try.f50, aResults, aResult, lk, Nat.reduceEqDiff, reduceIte] <;> rfl) ?_
  -- leaf: end
  exact ⟨congrArg Value.bool ((str_lt x y).trans hb), rfl⟩

theorem insertion_c (h : AHeap) (r N : Nat) (d : Array El) (hN : d.size = N) (a b : Nat) (hab : a ≤ b) (hb : b ≤ N) (hsz : N < 1000000000) :
    FWp Try.prog 44 [sl r N, I64 a, I64 b] (h.set r (row d)) fun u h' => u = .tuple #[] ∧ h' = h.set r (row (insertionSort lt d a b)) := by
  refine W.enter tyOK Try.func44 rfl rfl ?_
  simp only [entry]
  have w0 : IntKind.i64.wrap ((a : Int) + 1) = ((a + 1 : Nat) : Int) := by rw [wrap_i64 (by omega) (by omega)]; omega
  refine W.seq <| W.reg <| OSuf.aop tyOK rfl sm rfl <| OSuf.aop tyOK rfl (so_bin (by simp only [lk] <;> rfl) (by simp only [lk] <;> rfl) (bi_w bi_add (by first | (simp only [w0] <;> rfl) | rfl))) rfl <| OSuf.aop tyOK rfl (so_assign (by simp only [lk] <;> rfl)) rfl <| OSuf.nil <| SQ.normal ?_
  -- leaf: loop
  refine W.block (W.loop (fun n L h' => ∃ (i : Nat) (dk : Array El), n = b - i ∧ a + 1 ≤ i ∧ (i ≤ b ∨ i = a + 1) ∧ dk.size = N ∧ insOuter lt a b i dk = insertionSort lt d a b ∧ h' = h.set r (row dk) ∧
      L = [(0, sl r N), (1, I64 a), (2, I64 b), (6, I64 i)]) (n := b - (a + 1)) ⟨a + 1, d, rfl, by omega, by omega, hN, rfl, rfl, rfl⟩ ?_ ?_)
  · simp [HasA, Tr.get_put]
  · rintro n L h1 ⟨i, dk, rfl, hi1, hi2, hds, heq, rfl, rfl⟩
    simp only [mkA]
    by_cases hib : (i : Int) < (b : Int)
    · refine W.seq <| W.seq <| W.reg <| OSuf.aop tyOK rfl sm rfl <| OSuf.aop tyOK rfl sm rfl <| OSuf.aopT tyOK rfl (so_bin (by simp only [lk] <;> rfl) (by simp only [lk] <;> rfl) bi_lss) (fun _ => rfl) (by first | rfl | assumption | ((simp only [bl]) <;> first | done | assumption | omega) | (simp; done) | (simp; omega)) <| OSuf.nil <| SQ.normal ?_
      refine W.yes (by simp only [lk] <;> rfl) <| CWp.skip <| SQ.normal ?_
      refine W.seq <| W.block <| W.seq <| W.reg <| OSuf.aop tyOK rfl sm rfl <| OSuf.aop tyOK rfl (so_assign (by simp only [lk] <;> rfl)) rfl <| OSuf.nil <| SQ.normal ?_
      -- leaf: loop
      refine W.cut (fun L h' => ∃ (dj : Array El), dj.size = N ∧ dj = insInner lt a i dk ∧ h' = h.set r (row dj) ∧ L = [(0, sl r N), (1, I64 a), (2, I64 b), (6, I64 i)]) (W.block (W.loop (fun n L h' => ∃ (j : Nat) (dj : Array El), n = j ∧ j ≤ i ∧ dj.size = N ∧ insInner lt a j dj = insInner lt a i dk ∧ h' = h.set r (row dj) ∧
          L = [(0, sl r N), (1, I64 a), (2, I64 b), (6, I64 i), (7, I64 j)]) (n := i) ⟨i, dk, rfl, by omega, hds, rfl, rfl, rfl⟩ ?_ ?_)) ?_
      · simp [HasA, Tr.get_put]
      · rintro j L h1 ⟨_, dj, rfl, hji, hdj, hq, rfl, rfl⟩
        simp only [mkA]
        by_cases hja : (j : Int) > (a : Int)
        · obtain ⟨m, rfl⟩ : ∃ m, j = m + 1 := ⟨j - 1, by omega⟩
          have w1 : IntKind.i64.wrap (((m + 1 : Nat) : Int) - 1) = (m : Int) := by rw [wrap_i64 (by omega) (by omega)]; omega
          cases hl : lt dj[m + 1]! dj[m]!
          · refine W.seq <| W.seq <| W.regD tyOK mixed (by kernel_rfl) <| SqW.aop rfl sm rfl <| SqW.aop rfl sm rfl <| SqW.aopT rfl (so_bin (by simp only [lk] <;> rfl) (by simp only [lk] <;> rfl) bi_gtr) (fun _ => rfl) (by first | rfl | assumption | ((simp only [bl, if_pos, Int.toNat_natCast, Nat.mul_one, Nat.zero_add, rg]) <;> first | done | assumption | omega) | (simp; done) | (simp; omega)) <| SqW.aopT rfl sm (fun _ => rfl) rfl <| SqW.aop ag sm rfl <| SqW.aop ag sm rfl <| SqW.aop ag (so_indexAddr (by simp only [lk] <;> rfl) (by simp only [lk] <;> rfl) (by simp (disch := first | assumption | omega | (simp only [nx] <;> omega) | fail) only [aIndexAddr, ty60, ty9, hpl, if_pos, Int.toNat_natCast, Nat.mul_one, Nat.zero_add, rg] <;> rfl)) rfl <| SqW.aop ag (so_load (by simp only [lk] <;> rfl) (by simp (disch := first | assumption | omega | (simp only [nx] <;> omega) | fail) only [aLoad, ty9, rowOf, hpl, if_pos, Int.toNat_natCast, Nat.mul_one, Nat.zero_add, rg] <;> rfl)) rfl <| SqW.aop ag sm rfl <| SqW.aop ag sm rfl <| SqW.aop ag (so_bin (by simp only [lk] <;> rfl) (by simp only [lk] <;> rfl) (bi_w bi_sub (by first | (simp only [w1] <;> rfl) | rfl))) rfl <| SqW.aop ag (so_indexAddr (by simp only [lk] <;> rfl) (by simp only [lk] <;> rfl) (by simp (disch := first | assumption | omega | (simp only [nx] <;> omega) | fail) only [aIndexAddr, ty60, ty9, hpl, if_pos, Int.toNat_natCast, Nat.mul_one, Nat.zero_add, rg] <;> rfl)) rfl <| SqW.aop ag (so_load (by simp only [lk] <;> rfl) (by simp (disch := first | assumption | omega | (simp only [nx] <;> omega) | fail) only [aLoad, ty9, rowOf, hpl, if_pos, Int.toNat_natCast, Nat.mul_one, Nat.zero_add, rg] <;> rfl)) rfl <| SqW.callD ag (by simp only [aopnds, lk] <;> rfl) en50 (less_c _ _ _ _ hl) rfl <| SqW.aopF rfl (so_pick (by simp only [lk] <;> rfl) (by simp only [lk, cond_true, cond_false] <;> rfl)) (fun _ => rfl) rfl <| SqW.nil <| SQ.normal ?_
            refine W.no (by simp only [lk] <;> rfl) <| CWp.exit <| SQ.exit <| LQ.exit <| BQ.exit <| ?_
            -- leaf: cut
            refine NQ.normal (L := [(0, sl r N), (1, I64 a), (2, I64 b), (6, I64 i)]) ?_ ⟨dj, hdj, ?_, rfl, rfl⟩
            · simp only [HasA, Tr.get_put, Nat.reduceEqDiff, reduceIte, and_self]
            · rw [← hq, insInner]; simp [hl]
          · refine W.seq <| W.seq <| W.regD tyOK mixed (by kernel_rfl) <| SqW.aop rfl sm rfl <| SqW.aop rfl sm rfl <| SqW.aopT rfl (so_bin (by simp only [lk] <;> rfl) (by simp only [lk] <;> rfl) bi_gtr) (fun _ => rfl) (by first | rfl | assumption | ((simp only [bl, if_pos, Int.toNat_natCast, Nat.mul_one, Nat.zero_add, rg, rs, rb, Value.cells, List.length_cons, List.length_nil, oneCells, List.all_cons, List.all_nil, Value.oneCell', Bool.and_self, cond_true, AHeap.set_set, Array.size_setIfInBounds]) <;> first | done | assumption | omega) | (simp; done) | (simp; omega)) <| SqW.aopT rfl sm (fun _ => rfl) rfl <| SqW.aop ag sm rfl <| SqW.aop ag sm rfl <| SqW.aop ag (so_indexAddr (by simp only [lk] <;> rfl) (by simp only [lk] <;> rfl) (by simp (disch := first | assumption | omega | (simp only [nx] <;> omega) | fail) only [aIndexAddr, ty60, ty9, hpl, if_pos, Int.toNat_natCast, Nat.mul_one, Nat.zero_add, rg, rs, rb, Value.cells, List.length_cons, List.length_nil, oneCells, List.all_cons, List.all_nil, Value.oneCell', Bool.and_self, cond_true, AHeap.set_set, Array.size_setIfInBounds] <;> rfl)) rfl <| SqW.aop ag (so_load (by simp only [lk] <;> rfl) (by simp (disch := first | assumption | omega | (simp only [nx] <;> omega) | fail) only [aLoad, ty9, rowOf, hpl, if_pos, Int.toNat_natCast, Nat.mul_one, Nat.zero_add, rg, rs, rb, Value.cells, List.length_cons, List.length_nil, oneCells, List.all_cons, List.all_nil, Value.oneCell', Bool.and_self, cond_true, AHeap.set_set, Array.size_setIfInBounds] <;> rfl)) rfl <| SqW.aop ag sm rfl <| SqW.aop ag sm rfl <| SqW.aop ag (so_bin (by simp only [lk] <;> rfl) (by simp only [lk] <;> rfl) (bi_w bi_sub (by first | (simp only [w1] <;> rfl) | rfl))) rfl <| SqW.aop ag (so_indexAddr (by simp only [lk] <;> rfl) (by simp only [lk] <;> rfl) (by simp (disch := first | assumption | omega | (simp only [nx] <;> omega) | fail) only [aIndexAddr, ty60, ty9, hpl, if_pos, Int.toNat_natCast, Nat.mul_one, Nat.zero_add, rg, rs, rb, Value.cells, List.length_cons, List.length_nil, oneCells, List.all_cons, List.all_nil, Value.oneCell', Bool.and_self, cond_true, AHeap.set_set, Array.size_setIfInBounds] <;> rfl)) rfl <| SqW.aop ag (so_load (by simp only [lk] <;> rfl) (by simp (disch := first | assumption | omega | (simp only [nx] <;> omega) | fail) only [aLoad, ty9, rowOf, hpl, if_pos, Int.toNat_natCast, Nat.mul_one, Nat.zero_add, rg, rs, rb, Value.cells, List.length_cons, List.length_nil, oneCells, List.all_cons, List.all_nil, Value.oneCell', Bool.and_self, cond_true, AHeap.set_set, Array.size_setIfInBounds] <;> rfl)) rfl <| SqW.callD ag (by simp only [aopnds, lk] <;> rfl) en50 (less_c _ _ _ _ hl) rfl <| SqW.aopT rfl (so_pick (by simp only [lk] <;> rfl) (by simp only [lk, cond_true, cond_false] <;> rfl)) (fun _ => rfl) rfl <| SqW.nil <| SQ.normal ?_
            refine W.yes (by simp only [lk] <;> rfl) <| CWp.skip <| SQ.normal ?_
            refine W.seq <| W.block <| W.regD tyOK mixed (by kernel_rfl) <| SqW.aop rfl sm rfl <| SqW.aop rfl sm rfl <| SqW.aop rfl sm rfl <| SqW.aop rfl sm rfl <| SqW.aop rfl (so_bin (by simp only [lk] <;> rfl) (by simp only [lk] <;> rfl) (bi_w bi_sub (by first | (simp only [w1] <;> rfl) | rfl))) rfl <| SqW.aop rfl sm rfl <| SqW.aop rfl sm rfl <| SqW.aop rfl (so_bin (by simp only [lk] <;> rfl) (by simp only [lk] <;> rfl) (bi_w bi_sub (by first | (simp only [w1] <;> rfl) | rfl))) rfl <| SqW.aop rfl (so_indexAddr (by simp only [lk] <;> rfl) (by simp only [lk] <;> rfl) (by simp (disch := first | assumption | omega | (simp only [nx] <;> omega) | fail) only [aIndexAddr, ty60, ty9, hpl, if_pos, Int.toNat_natCast, Nat.mul_one, Nat.zero_add, rg, rs, rb, Value.cells, List.length_cons, List.length_nil, oneCells, List.all_cons, List.all_nil, Value.oneCell', Bool.and_self, cond_true, AHeap.set_set, Array.size_setIfInBounds] <;> rfl)) rfl <| SqW.aop rfl (so_load (by simp only [lk] <;> rfl) (by simp (disch := first | assumption | omega | (simp only [nx] <;> omega) | fail) only [aLoad, ty9, rowOf, hpl, if_pos, Int.toNat_natCast, Nat.mul_one, Nat.zero_add, rg, rs, rb, Value.cells, List.length_cons, List.length_nil, oneCells, List.all_cons, List.all_nil, Value.oneCell', Bool.and_self, cond_true, AHeap.set_set, Array.size_setIfInBounds] <;> rfl)) rfl <| SqW.aop rfl sm rfl <| SqW.aop rfl sm rfl <| SqW.aop rfl (so_indexAddr (by simp only [lk] <;> rfl) (by simp only [lk] <;> rfl) (by simp (disch := first | assumption | omega | (simp only [nx] <;> omega) | fail) only [aIndexAddr, ty60, ty9, hpl, if_pos, Int.toNat_natCast, Nat.mul_one, Nat.zero_add, rg, rs, rb, Value.cells, List.length_cons, List.length_nil, oneCells, List.all_cons, List.all_nil, Value.oneCell', Bool.and_self, cond_true, AHeap.set_set, Array.size_setIfInBounds] <;> rfl)) rfl <| SqW.aop rfl (so_load (by simp only [lk] <;> rfl) (by simp (disch := first | assumption | omega | (simp only [nx] <;> omega) | fail) only [aLoad, ty9, rowOf, hpl, if_pos, Int.toNat_natCast, Nat.mul_one, Nat.zero_add, rg, rs, rb, Value.cells, List.length_cons, List.length_nil, oneCells, List.all_cons, List.all_nil, Value.oneCell', Bool.and_self, cond_true, AHeap.set_set, Array.size_setIfInBounds] <;> rfl)) rfl <| SqW.aop rfl (so_indexAddr (by simp only [lk] <;> rfl) (by simp only [lk] <;> rfl) (by simp (disch := first | assumption | omega | (simp only [nx] <;> omega) | fail) only [aIndexAddr, ty60, ty9, hpl, if_pos, Int.toNat_natCast, Nat.mul_one, Nat.zero_add, rg, rs, rb, Value.cells, List.length_cons, List.length_nil, oneCells, List.all_cons, List.all_nil, Value.oneCell', Bool.and_self, cond_true, AHeap.set_set, Array.size_setIfInBounds] <;> rfl)) rfl <| SqW.aop rfl (so_store (by simp only [lk] <;> rfl) (by simp only [lk] <;> rfl) (by simp (disch := first | assumption | omega | (simp only [nx] <;> omega) | fail) only [aStore, ty9, writeRow, hpl, if_pos, Int.toNat_natCast, Nat.mul_one, Nat.zero_add, rg, rs, rb, Value.cells, List.length_cons, List.length_nil, oneCells, List.all_cons, List.all_nil, Value.oneCell', Bool.and_self, cond_true, AHeap.set_set, Array.size_setIfInBounds] <;> rfl)) rfl <| SqW.aop rfl (so_indexAddr (by simp only [lk] <;> rfl) (by simp only [lk] <;> rfl) (by simp (disch := first | assumption | omega | (simp only [nx] <;> omega) | fail) only [aIndexAddr, ty60, ty9, hpl, if_pos, Int.toNat_natCast, Nat.mul_one, Nat.zero_add, rg, rs, rb, Value.cells, List.length_cons, List.length_nil, oneCells, List.all_cons, List.all_nil, Value.oneCell', Bool.and_self, cond_true, AHeap.set_set, Array.size_setIfInBounds] <;> rfl)) rfl <| SqW.aop rfl (so_store (by simp only [lk] <;> rfl) (by simp only [lk] <;> rfl) (by simp (disch := first | assumption | omega | (simp only [nx] <;> omega) | fail) only [aStore, ty9, writeRow, hpl, if_pos, Int.toNat_natCast, Nat.mul_one, Nat.zero_add, rg, rs, rb, Value.cells, List.length_cons, List.length_nil, oneCells, List.all_cons, List.all_nil, Value.oneCell', Bool.and_self, cond_true, AHeap.set_set, Array.size_setIfInBounds] <;> rfl)) rfl <| SqW.nil <| BQ.normal <| SQ.normal ?_
            refine W.reg <| OSuf.aop tyOK rfl sm rfl <| OSuf.aop tyOK rfl (so_bin (by simp only [lk] <;> rfl) (by simp only [lk] <;> rfl) (bi_w bi_sub (by first | (simp only [w1] <;> rfl) | rfl))) rfl <| OSuf.aop tyOK rfl (so_assign (by simp only [lk] <;> rfl)) rfl <| OSuf.nil <| ?_
            -- leaf: round
            refine LQ.normal (m := m) (L := [(0, sl r N), (1, I64 a), (2, I64 b), (6, I64 i), (7, I64 m)]) (by omega) ?_ ⟨m, swp dj (m + 1) m, rfl, by omega, by rw [size_swp]; exact hdj, ?_, rfl, rfl⟩
            · simp only [HasA, Tr.get_put, Nat.reduceEqDiff, reduceIte, w1, and_self]
            · rw [← hq, insInner]; simp [hl]; omega
        · refine W.seq <| W.seq <| W.regD tyOK mixed (by kernel_rfl) <| SqW.aop rfl sm rfl <| SqW.aop rfl sm rfl <| SqW.aopF rfl (so_bin (by simp only [lk] <;> rfl) (by simp only [lk] <;> rfl) bi_gtr) (fun _ => rfl) (by first | rfl | assumption | ((simp only [bl]) <;> first | done | assumption | omega) | (simp; done) | (simp; omega)) <| SqW.aopF rfl sm (fun _ => rfl) rfl <| SqW.pass ag rfl <| SqW.pass ag rfl <| SqW.pass ag rfl <| SqW.pass ag rfl <| SqW.pass ag rfl <| SqW.pass ag rfl <| SqW.pass ag rfl <| SqW.pass ag rfl <| SqW.pass ag rfl <| SqW.pass ag rfl <| SqW.aopF rfl (so_pick (by simp only [lk] <;> rfl) (by simp only [lk, cond_true, cond_false] <;> rfl)) (fun _ => rfl) rfl <| SqW.nil <| SQ.normal ?_
          refine W.no (by simp only [lk] <;> rfl) <| CWp.exit <| SQ.exit <| LQ.exit <| BQ.exit <| ?_
          -- leaf: cut
          refine NQ.normal (L := [(0, sl r N), (1, I64 a), (2, I64 b), (6, I64 i)]) ?_ ⟨dj, hdj, ?_, rfl, rfl⟩
          · simp only [HasA, Tr.get_put, Nat.reduceEqDiff, reduceIte, and_self]
          · rw [← hq]
            cases j with
            | zero => rfl
            | succ m => rw [insInner]; simp; omega
      · rintro L a' h1 ha ⟨dj, hdj, rfl, rfl, rfl⟩
        have w1 : IntKind.i64.wrap ((i : Int) + 1) = ((i + 1 : Nat) : Int) := by rw [wrap_i64 (by omega) (by omega)]; omega
        refine BQ.normal <| SQ.normal <| CWp.known ha ?_
        simp only [mkA]
        refine W.reg <| OSuf.aop tyOK rfl sm rfl <| OSuf.aop tyOK rfl (so_bin (by simp only [lk] <;> rfl) (by simp only [lk] <;> rfl) (bi_w bi_add (by first | (simp only [w1] <;> rfl) | rfl))) rfl <| OSuf.aop tyOK rfl (so_assign (by simp only [lk] <;> rfl)) rfl <| OSuf.nil <| ?_
        -- leaf: round
        refine LQ.normal (m := b - (i + 1)) (L := [(0, sl r N), (1, I64 a), (2, I64 b), (6, I64 (i + 1 : Nat))]) (by omega) ?_ ⟨i + 1, insInner lt a i dk, rfl, by omega, by omega, hdj, ?_, rfl, rfl⟩
        · simp only [HasA, Tr.get_put, Nat.reduceEqDiff, reduceIte, w1, and_self]
        · rw [← heq]
          conv => rhs; rw [insOuter]
          rw [if_pos (by omega)]
    · refine W.seq <| W.seq <| W.reg <| OSuf.aop tyOK rfl sm rfl <| OSuf.aop tyOK rfl sm rfl <| OSuf.aopF tyOK rfl (so_bin (by simp only [lk] <;> rfl) (by simp only [lk] <;> rfl) bi_lss) (fun _ => rfl) (by first | rfl | assumption | ((simp only [bl]) <;> first | done | assumption | omega) | (simp; done) | (simp; omega)) <| OSuf.nil <| SQ.normal ?_
      refine W.no (by simp only [lk] <;> rfl) <| CWp.exit <| SQ.exit <| LQ.exit <| BQ.exit <| FQ.normal (by simp only [aRet, Try.f44, aResults, aResult, lk, Nat.reduceEqDiff, reduceIte] <;> rfl) ?_
      -- leaf: end
      refine ⟨rfl, ?_⟩
      rw [← heq, insOuter, if_neg (by omega)]
end Go.Proofs.Ytldhcjfhlfgleaa.SortS
