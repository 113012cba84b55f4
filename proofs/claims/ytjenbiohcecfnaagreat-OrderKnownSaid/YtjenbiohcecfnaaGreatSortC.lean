/-
  The sort of the library, walked, at string: partitionOrdered, partitionEqualOrdered.
-/
import Derived.Test.YtjenbiohcecfnaaGreatSortB
namespace Go.Proofs.YtjenbiohcecfnaaGreat.SortS
open Go.Ab Go.Sort
set_option linter.unusedSimpArgs false
set_option linter.unusedVariables false
set_option maxRecDepth 10000
set_option maxHeartbeats 4000000

theorem up_eq {p : El → Bool} {d : Array El} {j i : Nat} (h : i ≤ j) (hp : p d[i]! = true) : scanUp p d j i = scanUp p d j (i + 1) := by conv => lhs; rw [scanUp]; simp [h, hp]
theorem up_stop {p : El → Bool} {d : Array El} {j i : Nat} (h : ¬ i ≤ j ∨ p d[i]! = false) : scanUp p d j i = i := by
  rw [scanUp]
  rcases h with h | h
  · simp [h]
  · simp [h]
theorem down_eq {p : El → Bool} {d : Array El} {j i : Nat} (h : i ≤ j + 1) (hp : p d[j + 1]! = true) : scanDown p d i (j + 1) = scanDown p d i j := by conv => lhs; rw [scanDown]; simp [h, hp]
theorem down_stop {p : El → Bool} {d : Array El} {j i : Nat} (hi : 1 ≤ i) (h : ¬ i ≤ j ∨ p d[j]! = false) : scanDown p d i j = j := by
  cases j with
  | zero => rfl
  | succ j =>
    rw [scanDown]
    rcases h with h | h
    · simp [h]
    · simp [h]
theorem swp_sz {d : Array El} {i j n : Nat} (h : d.size = n) : (swp d i j).size = n := by rw [size_swp]; exact h

theorem partition_c (h : AHeap) (r N : Nat) (d : Array El) (hN : d.size = N) (a b pivot : Nat) (hap : a ≤ pivot) (hpb : pivot < b) (hb : b ≤ N) (hsz : N < 1000000000) :
    FWp Tryz.prog 101 [sl r N, I64 a, I64 b, I64 pivot] (h.set r (row d)) fun u h' => u = .tuple #[I64 (partition lt d a b pivot).1, .bool (partition lt d a b pivot).2.1] ∧ h' = h.set r (row (partition lt d a b pivot).2.2) := by
  obtain ⟨d1, hd1⟩ : ∃ d1, d1 = swp d a pivot := ⟨_, rfl⟩
  have hs1 : d1.size = N := by rw [hd1]; exact swp_sz hN
  have hpart : partition lt d a b pivot = (let i := scanUp (fun x => lt x d1[a]!) d1 (b - 1) (a + 1); let j := scanDown (fun x => !lt x d1[a]!) d1 i (b - 1); if i > j then (j, true, swp d1 j a) else
    let r := partLoop lt a (i + 1) (j - 1) (swp d1 i j); (r.1, false, swp r.2 r.1 a)) := by rw [hd1]; rfl
  rw [hpart]
  refine W.enter tyOK Tryz.func101 rfl rfl ?_
  simp only [entry]
  have w1 : IntKind.i64.wrap ((a : Int) + 1) = ((a + 1 : Nat) : Int) := by rw [wrap_i64 (by omega) (by omega)]; omega
  have w2 : IntKind.i64.wrap ((b : Int) - 1) = ((b - 1 : Nat) : Int) := by rw [wrap_i64 (by omega) (by omega)]; omega
  refine W.seq <| W.reg <| 
      OSuf.aop tyOK rfl (so_assign (by simp only [lk] <;> rfl)) rfl <|
      OSuf.aopF tyOK rfl (so_assign (by simp only [lk] <;> rfl)) (fun _ => rfl) rfl <|
      OSuf.nil <| SQ.normal ?_
  refine W.seq <| W.regD tyOK mixed (by kernel_rfl) <| 
      SqW.aop rfl (so_move (by simp only [lk] <;> rfl)) rfl <|
      SqW.aop rfl (so_move (by simp only [lk] <;> rfl)) rfl <|
      SqW.aop rfl (so_move (by simp only [lk] <;> rfl)) rfl <|
      SqW.aop rfl (so_move (by simp only [lk] <;> rfl)) rfl <|
      SqW.aop rfl (so_move (by simp only [lk] <;> rfl)) rfl <|
      SqW.aop rfl (so_move (by simp only [lk] <;> rfl)) rfl <|
      SqW.aop rfl (so_indexAddr (by simp only [lk] <;> rfl) (by simp only [lk] <;> rfl) (by simp (disch := first | assumption | omega | (simp only [nx] <;> omega) | fail) only [aIndexAddr, ty85, ty9, hpl, if_pos, Int.toNat_natCast, Nat.mul_one, Nat.zero_add, rg, rs, rb, Value.cells, List.length_cons, List.length_nil, oneCells, List.all_cons, List.all_nil, Value.oneCell', Bool.and_self, cond_true, AHeap.set_set, Array.size_setIfInBounds] <;> rfl)) rfl <|
      SqW.aop rfl (so_load (by simp only [lk] <;> rfl) (by simp (disch := first | assumption | omega | (simp only [nx] <;> omega) | fail) only [aLoad, ty9, rowOf, hpl, if_pos, Int.toNat_natCast, Nat.mul_one, Nat.zero_add, rg, rs, rb, Value.cells, List.length_cons, List.length_nil, oneCells, List.all_cons, List.all_nil, Value.oneCell', Bool.and_self, cond_true, AHeap.set_set, Array.size_setIfInBounds] <;> rfl)) rfl <|
      SqW.aop rfl (so_move (by simp only [lk] <;> rfl)) rfl <|
      SqW.aop rfl (so_move (by simp only [lk] <;> rfl)) rfl <|
      SqW.aop rfl (so_indexAddr (by simp only [lk] <;> rfl) (by simp only [lk] <;> rfl) (by simp (disch := first | assumption | omega | (simp only [nx] <;> omega) | fail) only [aIndexAddr, ty85, ty9, hpl, if_pos, Int.toNat_natCast, Nat.mul_one, Nat.zero_add, rg, rs, rb, Value.cells, List.length_cons, List.length_nil, oneCells, List.all_cons, List.all_nil, Value.oneCell', Bool.and_self, cond_true, AHeap.set_set, Array.size_setIfInBounds] <;> rfl)) rfl <|
      SqW.aop rfl (so_load (by simp only [lk] <;> rfl) (by simp (disch := first | assumption | omega | (simp only [nx] <;> omega) | fail) only [aLoad, ty9, rowOf, hpl, if_pos, Int.toNat_natCast, Nat.mul_one, Nat.zero_add, rg, rs, rb, Value.cells, List.length_cons, List.length_nil, oneCells, List.all_cons, List.all_nil, Value.oneCell', Bool.and_self, cond_true, AHeap.set_set, Array.size_setIfInBounds] <;> rfl)) rfl <|
      SqW.aop rfl (so_indexAddr (by simp only [lk] <;> rfl) (by simp only [lk] <;> rfl) (by simp (disch := first | assumption | omega | (simp only [nx] <;> omega) | fail) only [aIndexAddr, ty85, ty9, hpl, if_pos, Int.toNat_natCast, Nat.mul_one, Nat.zero_add, rg, rs, rb, Value.cells, List.length_cons, List.length_nil, oneCells, List.all_cons, List.all_nil, Value.oneCell', Bool.and_self, cond_true, AHeap.set_set, Array.size_setIfInBounds] <;> rfl)) rfl <|
      SqW.aop rfl (so_store (by simp only [lk] <;> rfl) (by simp only [lk] <;> rfl) (by simp (disch := first | assumption | omega | (simp only [nx] <;> omega) | fail) only [aStore, ty9, writeRow, hpl, if_pos, Int.toNat_natCast, Nat.mul_one, Nat.zero_add, rg, rs, rb, Value.cells, List.length_cons, List.length_nil, oneCells, List.all_cons, List.all_nil, Value.oneCell', Bool.and_self, cond_true, AHeap.set_set, Array.size_setIfInBounds] <;> rfl)) rfl <|
      SqW.aop rfl (so_indexAddr (by simp only [lk] <;> rfl) (by simp only [lk] <;> rfl) (by simp (disch := first | assumption | omega | (simp only [nx] <;> omega) | fail) only [aIndexAddr, ty85, ty9, hpl, if_pos, Int.toNat_natCast, Nat.mul_one, Nat.zero_add, rg, rs, rb, Value.cells, List.length_cons, List.length_nil, oneCells, List.all_cons, List.all_nil, Value.oneCell', Bool.and_self, cond_true, AHeap.set_set, Array.size_setIfInBounds] <;> rfl)) rfl <|
      SqW.aop rfl (so_store (by simp only [lk] <;> rfl) (by simp only [lk] <;> rfl) (by simp (disch := first | assumption | omega | (simp only [nx] <;> omega) | fail) only [aStore, ty9, writeRow, hpl, if_pos, Int.toNat_natCast, Nat.mul_one, Nat.zero_add, rg, rs, rb, Value.cells, List.length_cons, List.length_nil, oneCells, List.all_cons, List.all_nil, Value.oneCell', Bool.and_self, cond_true, AHeap.set_set, Array.size_setIfInBounds] <;> rfl)) rfl <|
      SqW.nil <| SQ.normal ?_
  refine W.seq <| W.reg <| 
      OSuf.aop tyOK rfl (so_move (by simp only [lk] <;> rfl)) rfl <|
      OSuf.aop tyOK rfl (so_bin (by simp only [lk] <;> rfl) (by simp only [lk] <;> rfl) (bi_w bi_add (by first | (simp only [w1, w2] <;> rfl) | rfl))) rfl <|
      OSuf.aop tyOK rfl (so_move (by simp only [lk] <;> rfl)) rfl <|
      OSuf.aop tyOK rfl (so_bin (by simp only [lk] <;> rfl) (by simp only [lk] <;> rfl) (bi_w bi_sub (by first | (simp only [w1, w2] <;> rfl) | rfl))) rfl <|
      OSuf.aop tyOK rfl (so_assign (by simp only [lk] <;> rfl)) rfl <|
      OSuf.aop tyOK rfl (so_assign (by simp only [lk] <;> rfl)) rfl <|
      OSuf.nil <| SQ.normal ?_
  refine W.seq <| ?_
  -- leaf: loop
  rw [show (d.setIfInBounds a d[pivot]!).setIfInBounds pivot d[a]! = d1 from hd1.symm]
  generalize hi0 : a + 1 = i0 at *
  generalize hj0 : b - 1 = j0 at *
  refine W.cut (fun L h' => h' = h.set r (row d1) ∧ L = [(0, sl r N), (1, I64 a), (10, I64 (scanUp (fun x => lt x d1[a]!) d1 j0 i0 : Nat)), (11, I64 j0)])
    (W.block (W.loop (fun n L h' => ∃ i : Nat, n = j0 + 1 - i ∧ 1 ≤ i ∧ i ≤ j0 + 1 ∧ scanUp (fun x => lt x d1[a]!) d1 j0 i = scanUp (fun x => lt x d1[a]!) d1 j0 i0 ∧ h' = h.set r (row d1) ∧ L = [(0, sl r N), (1, I64 a), (10, I64 i), (11, I64 j0)]) (n := j0 + 1 - i0) ⟨i0, rfl, by omega, by omega, rfl, rfl, rfl⟩ ?_ ?_)) ?_
  · simp [HasA, Tr.get_put]
  · rintro n L h1 ⟨i, rfl, hi1, hi2, heq, rfl, rfl⟩
    simp only [mkA]
    have w1 : IntKind.i64.wrap ((i : Int) + 1) = ((i + 1 : Nat) : Int) := by rw [wrap_i64 (by omega) (by omega)]; omega
    by_cases hij : (i : Int) ≤ (j0 : Int)
    · cases hl : lt d1[i]! d1[a]!
      · refine W.seq <| W.seq <| W.regD tyOK mixed (by kernel_rfl) <| 
            SqW.aop rfl (so_move (by simp only [lk] <;> rfl)) rfl <|
            SqW.aop rfl (so_move (by simp only [lk] <;> rfl)) rfl <|
            SqW.aopT rfl (so_bin (by simp only [lk] <;> rfl) (by simp only [lk] <;> rfl) bi_leq) (fun _ => rfl) (by first | rfl | assumption | ((simp only [bl, if_pos, Int.toNat_natCast, Nat.mul_one, Nat.zero_add, rg, rs, rb, Value.cells, List.length_cons, List.length_nil, oneCells, List.all_cons, List.all_nil, Value.oneCell', Bool.and_self, cond_true, AHeap.set_set, Array.size_setIfInBounds]) <;> first | done | assumption | omega) | (simp [if_pos, Int.toNat_natCast, Nat.mul_one, Nat.zero_add, rg, rs, rb, Value.cells, List.length_cons, List.length_nil, oneCells, List.all_cons, List.all_nil, Value.oneCell', Bool.and_self, cond_true, AHeap.set_set, Array.size_setIfInBounds]; done) | (simp [if_pos, Int.toNat_natCast, Nat.mul_one, Nat.zero_add, rg, rs, rb, Value.cells, List.length_cons, List.length_nil, oneCells, List.all_cons, List.all_nil, Value.oneCell', Bool.and_self, cond_true, AHeap.set_set, Array.size_setIfInBounds]; omega)) <|
            SqW.aopT rfl (so_move (by simp only [lk] <;> rfl)) (fun _ => rfl) rfl <|
            SqW.aop (aguard_of rfl rfl (by simp only [lk] <;> rfl) rfl) (so_move (by simp only [lk] <;> rfl)) rfl <|
            SqW.aop (aguard_of rfl rfl (by simp only [lk] <;> rfl) rfl) (so_move (by simp only [lk] <;> rfl)) rfl <|
            SqW.aop (aguard_of rfl rfl (by simp only [lk] <;> rfl) rfl) (so_indexAddr (by simp only [lk] <;> rfl) (by simp only [lk] <;> rfl) (by simp (disch := first | assumption | omega | (simp only [nx] <;> omega) | fail) only [aIndexAddr, ty85, ty9, hpl, if_pos, Int.toNat_natCast, Nat.mul_one, Nat.zero_add, rg, rs, rb, Value.cells, List.length_cons, List.length_nil, oneCells, List.all_cons, List.all_nil, Value.oneCell', Bool.and_self, cond_true, AHeap.set_set, Array.size_setIfInBounds] <;> rfl)) rfl <|
            SqW.aop (aguard_of rfl rfl (by simp only [lk] <;> rfl) rfl) (so_load (by simp only [lk] <;> rfl) (by simp (disch := first | assumption | omega | (simp only [nx] <;> omega) | fail) only [aLoad, ty9, rowOf, hpl, if_pos, Int.toNat_natCast, Nat.mul_one, Nat.zero_add, rg, rs, rb, Value.cells, List.length_cons, List.length_nil, oneCells, List.all_cons, List.all_nil, Value.oneCell', Bool.and_self, cond_true, AHeap.set_set, Array.size_setIfInBounds] <;> rfl)) rfl <|
            SqW.aop (aguard_of rfl rfl (by simp only [lk] <;> rfl) rfl) (so_move (by simp only [lk] <;> rfl)) rfl <|
            SqW.aop (aguard_of rfl rfl (by simp only [lk] <;> rfl) rfl) (so_move (by simp only [lk] <;> rfl)) rfl <|
            SqW.aop (aguard_of rfl rfl (by simp only [lk] <;> rfl) rfl) (so_indexAddr (by simp only [lk] <;> rfl) (by simp only [lk] <;> rfl) (by simp (disch := first | assumption | omega | (simp only [nx] <;> omega) | fail) only [aIndexAddr, ty85, ty9, hpl, if_pos, Int.toNat_natCast, Nat.mul_one, Nat.zero_add, rg, rs, rb, Value.cells, List.length_cons, List.length_nil, oneCells, List.all_cons, List.all_nil, Value.oneCell', Bool.and_self, cond_true, AHeap.set_set, Array.size_setIfInBounds] <;> rfl)) rfl <|
            SqW.aop (aguard_of rfl rfl (by simp only [lk] <;> rfl) rfl) (so_load (by simp only [lk] <;> rfl) (by simp (disch := first | assumption | omega | (simp only [nx] <;> omega) | fail) only [aLoad, ty9, rowOf, hpl, if_pos, Int.toNat_natCast, Nat.mul_one, Nat.zero_add, rg, rs, rb, Value.cells, List.length_cons, List.length_nil, oneCells, List.all_cons, List.all_nil, Value.oneCell', Bool.and_self, cond_true, AHeap.set_set, Array.size_setIfInBounds] <;> rfl)) rfl <|
            SqW.callD (aguard_of rfl rfl (by simp only [lk] <;> rfl) rfl) (by simp only [aopnds, lk] <;> rfl) en99 (less_c _ _ _ _ hl) rfl <|
            SqW.aopF rfl (so_pick (by simp only [lk] <;> rfl) (by simp only [lk, cond_true, cond_false] <;> rfl)) (fun _ => rfl) rfl <|
            SqW.nil <| SQ.normal ?_
        refine W.no (by simp only [lk] <;> rfl) <| CWp.exit <| SQ.exit <| LQ.exit <| BQ.exit <| ?_
        -- leaf: cut
        refine NQ.normal (L := [(0, sl r N), (1, I64 a), (10, I64 i), (11, I64 j0)]) ?_ ⟨rfl, ?_⟩
        · simp only [HasA, Tr.get_put, Nat.reduceEqDiff, reduceIte, and_self]
        · rw [← heq, up_stop (.inr (by simp [hl]))]
      · refine W.seq <| W.seq <| W.regD tyOK mixed (by kernel_rfl) <| 
            SqW.aop rfl (so_move (by simp only [lk] <;> rfl)) rfl <|
            SqW.aop rfl (so_move (by simp only [lk] <;> rfl)) rfl <|
            SqW.aopT rfl (so_bin (by simp only [lk] <;> rfl) (by simp only [lk] <;> rfl) bi_leq) (fun _ => rfl) (by first | rfl | assumption | ((simp only [bl, if_pos, Int.toNat_natCast, Nat.mul_one, Nat.zero_add, rg, rs, rb, Value.cells, List.length_cons, List.length_nil, oneCells, List.all_cons, List.all_nil, Value.oneCell', Bool.and_self, cond_true, AHeap.set_set, Array.size_setIfInBounds]) <;> first | done | assumption | omega) | (simp [if_pos, Int.toNat_natCast, Nat.mul_one, Nat.zero_add, rg, rs, rb, Value.cells, List.length_cons, List.length_nil, oneCells, List.all_cons, List.all_nil, Value.oneCell', Bool.and_self, cond_true, AHeap.set_set, Array.size_setIfInBounds]; done) | (simp [if_pos, Int.toNat_natCast, Nat.mul_one, Nat.zero_add, rg, rs, rb, Value.cells, List.length_cons, List.length_nil, oneCells, List.all_cons, List.all_nil, Value.oneCell', Bool.and_self, cond_true, AHeap.set_set, Array.size_setIfInBounds]; omega)) <|
            SqW.aopT rfl (so_move (by simp only [lk] <;> rfl)) (fun _ => rfl) rfl <|
            SqW.aop (aguard_of rfl rfl (by simp only [lk] <;> rfl) rfl) (so_move (by simp only [lk] <;> rfl)) rfl <|
            SqW.aop (aguard_of rfl rfl (by simp only [lk] <;> rfl) rfl) (so_move (by simp only [lk] <;> rfl)) rfl <|
            SqW.aop (aguard_of rfl rfl (by simp only [lk] <;> rfl) rfl) (so_indexAddr (by simp only [lk] <;> rfl) (by simp only [lk] <;> rfl) (by simp (disch := first | assumption | omega | (simp only [nx] <;> omega) | fail) only [aIndexAddr, ty85, ty9, hpl, if_pos, Int.toNat_natCast, Nat.mul_one, Nat.zero_add, rg, rs, rb, Value.cells, List.length_cons, List.length_nil, oneCells, List.all_cons, List.all_nil, Value.oneCell', Bool.and_self, cond_true, AHeap.set_set, Array.size_setIfInBounds] <;> rfl)) rfl <|
            SqW.aop (aguard_of rfl rfl (by simp only [lk] <;> rfl) rfl) (so_load (by simp only [lk] <;> rfl) (by simp (disch := first | assumption | omega | (simp only [nx] <;> omega) | fail) only [aLoad, ty9, rowOf, hpl, if_pos, Int.toNat_natCast, Nat.mul_one, Nat.zero_add, rg, rs, rb, Value.cells, List.length_cons, List.length_nil, oneCells, List.all_cons, List.all_nil, Value.oneCell', Bool.and_self, cond_true, AHeap.set_set, Array.size_setIfInBounds] <;> rfl)) rfl <|
            SqW.aop (aguard_of rfl rfl (by simp only [lk] <;> rfl) rfl) (so_move (by simp only [lk] <;> rfl)) rfl <|
            SqW.aop (aguard_of rfl rfl (by simp only [lk] <;> rfl) rfl) (so_move (by simp only [lk] <;> rfl)) rfl <|
            SqW.aop (aguard_of rfl rfl (by simp only [lk] <;> rfl) rfl) (so_indexAddr (by simp only [lk] <;> rfl) (by simp only [lk] <;> rfl) (by simp (disch := first | assumption | omega | (simp only [nx] <;> omega) | fail) only [aIndexAddr, ty85, ty9, hpl, if_pos, Int.toNat_natCast, Nat.mul_one, Nat.zero_add, rg, rs, rb, Value.cells, List.length_cons, List.length_nil, oneCells, List.all_cons, List.all_nil, Value.oneCell', Bool.and_self, cond_true, AHeap.set_set, Array.size_setIfInBounds] <;> rfl)) rfl <|
            SqW.aop (aguard_of rfl rfl (by simp only [lk] <;> rfl) rfl) (so_load (by simp only [lk] <;> rfl) (by simp (disch := first | assumption | omega | (simp only [nx] <;> omega) | fail) only [aLoad, ty9, rowOf, hpl, if_pos, Int.toNat_natCast, Nat.mul_one, Nat.zero_add, rg, rs, rb, Value.cells, List.length_cons, List.length_nil, oneCells, List.all_cons, List.all_nil, Value.oneCell', Bool.and_self, cond_true, AHeap.set_set, Array.size_setIfInBounds] <;> rfl)) rfl <|
            SqW.callD (aguard_of rfl rfl (by simp only [lk] <;> rfl) rfl) (by simp only [aopnds, lk] <;> rfl) en99 (less_c _ _ _ _ hl) rfl <|
            SqW.aopT rfl (so_pick (by simp only [lk] <;> rfl) (by simp only [lk, cond_true, cond_false] <;> rfl)) (fun _ => rfl) rfl <|
            SqW.nil <| SQ.normal ?_
        refine W.yes (by simp only [lk] <;> rfl) <| CWp.skip <| SQ.normal ?_
        refine W.block <| W.reg <| 
            OSuf.aop tyOK rfl (so_move (by simp only [lk] <;> rfl)) rfl <|
            OSuf.aop tyOK rfl (so_bin (by simp only [lk] <;> rfl) (by simp only [lk] <;> rfl) (bi_w bi_add (by first | (simp only [w1] <;> rfl) | rfl))) rfl <|
            OSuf.aop tyOK rfl (so_assign (by simp only [lk] <;> rfl)) rfl <|
            OSuf.nil <| BQ.normal <| ?_
        -- leaf: round
        refine LQ.normal (m := j0 + 1 - (i + 1)) (L := [(0, sl r N), (1, I64 a), (10, I64 (i + 1 : Nat)), (11, I64 j0)]) (by omega) ?_ ⟨i + 1, rfl, by omega, by omega, ?_, rfl, rfl⟩
        · simp only [HasA, Tr.get_put, Nat.reduceEqDiff, reduceIte, and_self]
        · rw [← heq]; exact (up_eq (by omega) (by simp [hl])).symm
    · refine W.seq <| W.seq <| W.regD tyOK mixed (by kernel_rfl) <| 
          SqW.aop rfl (so_move (by simp only [lk] <;> rfl)) rfl <|
          SqW.aop rfl (so_move (by simp only [lk] <;> rfl)) rfl <|
          SqW.aopF rfl (so_bin (by simp only [lk] <;> rfl) (by simp only [lk] <;> rfl) bi_leq) (fun _ => rfl) (by first | rfl | assumption | ((simp only [bl]) <;> first | done | assumption | omega) | (simp []; done) | (simp []; omega)) <|
          SqW.aopF rfl (so_move (by simp only [lk] <;> rfl)) (fun _ => rfl) rfl <|
          SqW.pass (aguard_of rfl rfl (by simp only [lk] <;> rfl) rfl) rfl <|
          SqW.pass (aguard_of rfl rfl (by simp only [lk] <;> rfl) rfl) rfl <|
          SqW.pass (aguard_of rfl rfl (by simp only [lk] <;> rfl) rfl) rfl <|
          SqW.pass (aguard_of rfl rfl (by simp only [lk] <;> rfl) rfl) rfl <|
          SqW.pass (aguard_of rfl rfl (by simp only [lk] <;> rfl) rfl) rfl <|
          SqW.pass (aguard_of rfl rfl (by simp only [lk] <;> rfl) rfl) rfl <|
          SqW.pass (aguard_of rfl rfl (by simp only [lk] <;> rfl) rfl) rfl <|
          SqW.pass (aguard_of rfl rfl (by simp only [lk] <;> rfl) rfl) rfl <|
          SqW.pass (aguard_of rfl rfl (by simp only [lk] <;> rfl) rfl) rfl <|
          SqW.aopF rfl (so_pick (by simp only [lk] <;> rfl) (by simp only [lk, cond_true, cond_false] <;> rfl)) (fun _ => rfl) rfl <|
          SqW.nil <| SQ.normal ?_
      refine W.no (by simp only [lk] <;> rfl) <| CWp.exit <| SQ.exit <| LQ.exit <| BQ.exit <| ?_
      -- leaf: cut
      refine NQ.normal (L := [(0, sl r N), (1, I64 a), (10, I64 i), (11, I64 j0)]) ?_ ⟨rfl, ?_⟩
      · simp only [HasA, Tr.get_put, Nat.reduceEqDiff, reduceIte, and_self]
      · rw [← heq, up_stop (.inl (by omega))]
  rintro L a' h1 ha ⟨rfl, rfl⟩
  have hi2 := (scanUp_spec (fun x => lt x d1[a]!) d1 j0 _ i0 rfl)
  have hge := scanUp_ge (fun x => lt x d1[a]!) d1 j0 i0
  have hle : scanUp (fun x => lt x d1[a]!) d1 j0 i0 ≤ j0 + 1 := by have := hi2.2.1; omega
  generalize hgi : scanUp (fun x => lt x d1[a]!) d1 j0 i0 = i2 at *
  refine SQ.normal <| CWp.known ha ?_
  simp only [mkA]
  refine W.seq <| ?_
  -- leaf: loop
  refine W.cut (fun L h' => h' = h.set r (row d1) ∧ L = [(0, sl r N), (1, I64 a), (10, I64 i2), (11, I64 (scanDown (fun x => !lt x d1[a]!) d1 i2 j0 : Nat))])
    (W.block (W.loop (fun n L h' => ∃ j : Nat, n = j ∧ j ≤ j0 ∧ scanDown (fun x => !lt x d1[a]!) d1 i2 j = scanDown (fun x => !lt x d1[a]!) d1 i2 j0 ∧ h' = h.set r (row d1) ∧ L = [(0, sl r N), (1, I64 a), (10, I64 i2), (11, I64 j)]) (n := j0) ⟨j0, rfl, by omega, rfl, rfl, rfl⟩ ?_ ?_)) ?_
  · simp [HasA, Tr.get_put]
  · rintro j L h1 ⟨_, rfl, hj, heq, rfl, rfl⟩
    simp only [mkA]
    by_cases hij : (i2 : Int) ≤ (j : Int)
    · obtain ⟨m, rfl⟩ : ∃ m, j = m + 1 := ⟨j - 1, by omega⟩
      have w1 : IntKind.i64.wrap (((m + 1 : Nat) : Int) - 1) = (m : Int) := by rw [wrap_i64 (by omega) (by omega)]; omega
      cases hl : lt d1[m + 1]! d1[a]!
      · refine W.seq <| W.seq <| W.regD tyOK mixed (by kernel_rfl) <| 
            SqW.aop rfl (so_move (by simp only [lk] <;> rfl)) rfl <|
            SqW.aop rfl (so_move (by simp only [lk] <;> rfl)) rfl <|
            SqW.aopT rfl (so_bin (by simp only [lk] <;> rfl) (by simp only [lk] <;> rfl) bi_leq) (fun _ => rfl) (by first | rfl | assumption | ((simp only [bl, if_pos, Int.toNat_natCast, Nat.mul_one, Nat.zero_add, rg, rs, rb, Value.cells, List.length_cons, List.length_nil, oneCells, List.all_cons, List.all_nil, Value.oneCell', Bool.and_self, cond_true, AHeap.set_set, Array.size_setIfInBounds]) <;> first | done | assumption | omega) | (simp [if_pos, Int.toNat_natCast, Nat.mul_one, Nat.zero_add, rg, rs, rb, Value.cells, List.length_cons, List.length_nil, oneCells, List.all_cons, List.all_nil, Value.oneCell', Bool.and_self, cond_true, AHeap.set_set, Array.size_setIfInBounds]; done) | (simp [if_pos, Int.toNat_natCast, Nat.mul_one, Nat.zero_add, rg, rs, rb, Value.cells, List.length_cons, List.length_nil, oneCells, List.all_cons, List.all_nil, Value.oneCell', Bool.and_self, cond_true, AHeap.set_set, Array.size_setIfInBounds]; omega)) <|
            SqW.aopT rfl (so_move (by simp only [lk] <;> rfl)) (fun _ => rfl) rfl <|
            SqW.aop (aguard_of rfl rfl (by simp only [lk] <;> rfl) rfl) (so_move (by simp only [lk] <;> rfl)) rfl <|
            SqW.aop (aguard_of rfl rfl (by simp only [lk] <;> rfl) rfl) (so_move (by simp only [lk] <;> rfl)) rfl <|
            SqW.aop (aguard_of rfl rfl (by simp only [lk] <;> rfl) rfl) (so_indexAddr (by simp only [lk] <;> rfl) (by simp only [lk] <;> rfl) (by simp (disch := first | assumption | omega | (simp only [nx] <;> omega) | fail) only [aIndexAddr, ty85, ty9, hpl, if_pos, Int.toNat_natCast, Nat.mul_one, Nat.zero_add, rg, rs, rb, Value.cells, List.length_cons, List.length_nil, oneCells, List.all_cons, List.all_nil, Value.oneCell', Bool.and_self, cond_true, AHeap.set_set, Array.size_setIfInBounds] <;> rfl)) rfl <|
            SqW.aop (aguard_of rfl rfl (by simp only [lk] <;> rfl) rfl) (so_load (by simp only [lk] <;> rfl) (by simp (disch := first | assumption | omega | (simp only [nx] <;> omega) | fail) only [aLoad, ty9, rowOf, hpl, if_pos, Int.toNat_natCast, Nat.mul_one, Nat.zero_add, rg, rs, rb, Value.cells, List.length_cons, List.length_nil, oneCells, List.all_cons, List.all_nil, Value.oneCell', Bool.and_self, cond_true, AHeap.set_set, Array.size_setIfInBounds] <;> rfl)) rfl <|
            SqW.aop (aguard_of rfl rfl (by simp only [lk] <;> rfl) rfl) (so_move (by simp only [lk] <;> rfl)) rfl <|
            SqW.aop (aguard_of rfl rfl (by simp only [lk] <;> rfl) rfl) (so_move (by simp only [lk] <;> rfl)) rfl <|
            SqW.aop (aguard_of rfl rfl (by simp only [lk] <;> rfl) rfl) (so_indexAddr (by simp only [lk] <;> rfl) (by simp only [lk] <;> rfl) (by simp (disch := first | assumption | omega | (simp only [nx] <;> omega) | fail) only [aIndexAddr, ty85, ty9, hpl, if_pos, Int.toNat_natCast, Nat.mul_one, Nat.zero_add, rg, rs, rb, Value.cells, List.length_cons, List.length_nil, oneCells, List.all_cons, List.all_nil, Value.oneCell', Bool.and_self, cond_true, AHeap.set_set, Array.size_setIfInBounds] <;> rfl)) rfl <|
            SqW.aop (aguard_of rfl rfl (by simp only [lk] <;> rfl) rfl) (so_load (by simp only [lk] <;> rfl) (by simp (disch := first | assumption | omega | (simp only [nx] <;> omega) | fail) only [aLoad, ty9, rowOf, hpl, if_pos, Int.toNat_natCast, Nat.mul_one, Nat.zero_add, rg, rs, rb, Value.cells, List.length_cons, List.length_nil, oneCells, List.all_cons, List.all_nil, Value.oneCell', Bool.and_self, cond_true, AHeap.set_set, Array.size_setIfInBounds] <;> rfl)) rfl <|
            SqW.callD (aguard_of rfl rfl (by simp only [lk] <;> rfl) rfl) (by simp only [aopnds, lk] <;> rfl) en99 (less_c _ _ _ _ hl) rfl <|
            SqW.aopT (aguard_of rfl rfl (by simp only [lk] <;> rfl) rfl) (so_not (by simp only [lk] <;> rfl)) (fun _ => rfl) rfl <|
            SqW.aopT rfl (so_pick (by simp only [lk] <;> rfl) (by simp only [lk, cond_true, cond_false] <;> rfl)) (fun _ => rfl) rfl <|
            SqW.nil <| SQ.normal ?_
        refine W.yes (by simp only [lk] <;> rfl) <| CWp.skip <| SQ.normal ?_
        refine W.block <| W.reg <| 
            OSuf.aop tyOK rfl (so_move (by simp only [lk] <;> rfl)) rfl <|
            OSuf.aop tyOK rfl (so_bin (by simp only [lk] <;> rfl) (by simp only [lk] <;> rfl) (bi_w bi_sub (by first | (simp only [w1] <;> rfl) | rfl))) rfl <|
            OSuf.aop tyOK rfl (so_assign (by simp only [lk] <;> rfl)) rfl <|
            OSuf.nil <| BQ.normal <| ?_
        -- leaf: round
        refine LQ.normal (m := m) (L := [(0, sl r N), (1, I64 a), (10, I64 i2), (11, I64 m)]) (by omega) ?_ ⟨m, rfl, by omega, ?_, rfl, rfl⟩
        · simp only [HasA, Tr.get_put, Nat.reduceEqDiff, reduceIte, and_self]
        · rw [← heq]; exact (down_eq (by omega) (by simp [hl])).symm
      · refine W.seq <| W.seq <| W.regD tyOK mixed (by kernel_rfl) <| 
            SqW.aop rfl (so_move (by simp only [lk] <;> rfl)) rfl <|
            SqW.aop rfl (so_move (by simp only [lk] <;> rfl)) rfl <|
            SqW.aopT rfl (so_bin (by simp only [lk] <;> rfl) (by simp only [lk] <;> rfl) bi_leq) (fun _ => rfl) (by first | rfl | assumption | ((simp only [bl, if_pos, Int.toNat_natCast, Nat.mul_one, Nat.zero_add, rg, rs, rb, Value.cells, List.length_cons, List.length_nil, oneCells, List.all_cons, List.all_nil, Value.oneCell', Bool.and_self, cond_true, AHeap.set_set, Array.size_setIfInBounds]) <;> first | done | assumption | omega) | (simp [if_pos, Int.toNat_natCast, Nat.mul_one, Nat.zero_add, rg, rs, rb, Value.cells, List.length_cons, List.length_nil, oneCells, List.all_cons, List.all_nil, Value.oneCell', Bool.and_self, cond_true, AHeap.set_set, Array.size_setIfInBounds]; done) | (simp [if_pos, Int.toNat_natCast, Nat.mul_one, Nat.zero_add, rg, rs, rb, Value.cells, List.length_cons, List.length_nil, oneCells, List.all_cons, List.all_nil, Value.oneCell', Bool.and_self, cond_true, AHeap.set_set, Array.size_setIfInBounds]; omega)) <|
            SqW.aopT rfl (so_move (by simp only [lk] <;> rfl)) (fun _ => rfl) rfl <|
            SqW.aop (aguard_of rfl rfl (by simp only [lk] <;> rfl) rfl) (so_move (by simp only [lk] <;> rfl)) rfl <|
            SqW.aop (aguard_of rfl rfl (by simp only [lk] <;> rfl) rfl) (so_move (by simp only [lk] <;> rfl)) rfl <|
            SqW.aop (aguard_of rfl rfl (by simp only [lk] <;> rfl) rfl) (so_indexAddr (by simp only [lk] <;> rfl) (by simp only [lk] <;> rfl) (by simp (disch := first | assumption | omega | (simp only [nx] <;> omega) | fail) only [aIndexAddr, ty85, ty9, hpl, if_pos, Int.toNat_natCast, Nat.mul_one, Nat.zero_add, rg, rs, rb, Value.cells, List.length_cons, List.length_nil, oneCells, List.all_cons, List.all_nil, Value.oneCell', Bool.and_self, cond_true, AHeap.set_set, Array.size_setIfInBounds] <;> rfl)) rfl <|
            SqW.aop (aguard_of rfl rfl (by simp only [lk] <;> rfl) rfl) (so_load (by simp only [lk] <;> rfl) (by simp (disch := first | assumption | omega | (simp only [nx] <;> omega) | fail) only [aLoad, ty9, rowOf, hpl, if_pos, Int.toNat_natCast, Nat.mul_one, Nat.zero_add, rg, rs, rb, Value.cells, List.length_cons, List.length_nil, oneCells, List.all_cons, List.all_nil, Value.oneCell', Bool.and_self, cond_true, AHeap.set_set, Array.size_setIfInBounds] <;> rfl)) rfl <|
            SqW.aop (aguard_of rfl rfl (by simp only [lk] <;> rfl) rfl) (so_move (by simp only [lk] <;> rfl)) rfl <|
            SqW.aop (aguard_of rfl rfl (by simp only [lk] <;> rfl) rfl) (so_move (by simp only [lk] <;> rfl)) rfl <|
            SqW.aop (aguard_of rfl rfl (by simp only [lk] <;> rfl) rfl) (so_indexAddr (by simp only [lk] <;> rfl) (by simp only [lk] <;> rfl) (by simp (disch := first | assumption | omega | (simp only [nx] <;> omega) | fail) only [aIndexAddr, ty85, ty9, hpl, if_pos, Int.toNat_natCast, Nat.mul_one, Nat.zero_add, rg, rs, rb, Value.cells, List.length_cons, List.length_nil, oneCells, List.all_cons, List.all_nil, Value.oneCell', Bool.and_self, cond_true, AHeap.set_set, Array.size_setIfInBounds] <;> rfl)) rfl <|
            SqW.aop (aguard_of rfl rfl (by simp only [lk] <;> rfl) rfl) (so_load (by simp only [lk] <;> rfl) (by simp (disch := first | assumption | omega | (simp only [nx] <;> omega) | fail) only [aLoad, ty9, rowOf, hpl, if_pos, Int.toNat_natCast, Nat.mul_one, Nat.zero_add, rg, rs, rb, Value.cells, List.length_cons, List.length_nil, oneCells, List.all_cons, List.all_nil, Value.oneCell', Bool.and_self, cond_true, AHeap.set_set, Array.size_setIfInBounds] <;> rfl)) rfl <|
            SqW.callD (aguard_of rfl rfl (by simp only [lk] <;> rfl) rfl) (by simp only [aopnds, lk] <;> rfl) en99 (less_c _ _ _ _ hl) rfl <|
            SqW.aopF (aguard_of rfl rfl (by simp only [lk] <;> rfl) rfl) (so_not (by simp only [lk] <;> rfl)) (fun _ => rfl) rfl <|
            SqW.aopF rfl (so_pick (by simp only [lk] <;> rfl) (by simp only [lk, cond_true, cond_false] <;> rfl)) (fun _ => rfl) rfl <|
            SqW.nil <| SQ.normal ?_
        refine W.no (by simp only [lk] <;> rfl) <| CWp.exit <| SQ.exit <| LQ.exit <| BQ.exit <| ?_
        -- leaf: cut
        refine NQ.normal (L := [(0, sl r N), (1, I64 a), (10, I64 i2), (11, I64 (m + 1 : Nat))]) ?_ ⟨rfl, ?_⟩
        · simp only [HasA, Tr.get_put, Nat.reduceEqDiff, reduceIte, and_self]
        · rw [← heq, down_stop (by omega) (.inr (by simp [hl]))]
    · refine W.seq <| W.seq <| W.regD tyOK mixed (by kernel_rfl) <| 
          SqW.aop rfl (so_move (by simp only [lk] <;> rfl)) rfl <|
          SqW.aop rfl (so_move (by simp only [lk] <;> rfl)) rfl <|
          SqW.aopF rfl (so_bin (by simp only [lk] <;> rfl) (by simp only [lk] <;> rfl) bi_leq) (fun _ => rfl) (by first | rfl | assumption | ((simp only [bl]) <;> first | done | assumption | omega) | (simp []; done) | (simp []; omega)) <|
          SqW.aopF rfl (so_move (by simp only [lk] <;> rfl)) (fun _ => rfl) rfl <|
          SqW.pass (aguard_of rfl rfl (by simp only [lk] <;> rfl) rfl) rfl <|
          SqW.pass (aguard_of rfl rfl (by simp only [lk] <;> rfl) rfl) rfl <|
          SqW.pass (aguard_of rfl rfl (by simp only [lk] <;> rfl) rfl) rfl <|
          SqW.pass (aguard_of rfl rfl (by simp only [lk] <;> rfl) rfl) rfl <|
          SqW.pass (aguard_of rfl rfl (by simp only [lk] <;> rfl) rfl) rfl <|
          SqW.pass (aguard_of rfl rfl (by simp only [lk] <;> rfl) rfl) rfl <|
          SqW.pass (aguard_of rfl rfl (by simp only [lk] <;> rfl) rfl) rfl <|
          SqW.pass (aguard_of rfl rfl (by simp only [lk] <;> rfl) rfl) rfl <|
          SqW.pass (aguard_of rfl rfl (by simp only [lk] <;> rfl) rfl) rfl <|
          SqW.pass (aguard_of rfl rfl (by simp only [lk] <;> rfl) rfl) rfl <|
          SqW.aopF rfl (so_pick (by simp only [lk] <;> rfl) (by simp only [lk, cond_true, cond_false] <;> rfl)) (fun _ => rfl) rfl <|
          SqW.nil <| SQ.normal ?_
      refine W.no (by simp only [lk] <;> rfl) <| CWp.exit <| SQ.exit <| LQ.exit <| BQ.exit <| ?_
      -- leaf: cut
      refine NQ.normal (L := [(0, sl r N), (1, I64 a), (10, I64 i2), (11, I64 j)]) ?_ ⟨rfl, ?_⟩
      · simp only [HasA, Tr.get_put, Nat.reduceEqDiff, reduceIte, and_self]
      · rw [← heq, down_stop (by omega) (.inl (by omega))]
  rintro L a' h1 ha ⟨rfl, rfl⟩
  have hdl := scanDown_le (fun x => !lt x d1[a]!) d1 i2 j0
  have hds2 := (scanDown_spec (fun x => !lt x d1[a]!) d1 i2 j0)
  generalize hgj : scanDown (fun x => !lt x d1[a]!) d1 i2 j0 = j2 at *
  have hdl2 : i2 ≤ j2 + 1 := hds2.2.1 (by omega)
  have hne : i2 ≤ j2 → i2 < j2 := fun hle2 => by
    have u1 := hi2.2.2.2 (by omega)
    have u2 := hds2.2.2.2 hle2 (by omega)
    rcases Nat.lt_or_eq_of_le hle2 with h0 | h0
    · exact h0
    · subst h0; try simp only at u1 u2
      first | (rw [u1] at u2; simp at u2; done) | (rw [u2] at u1; simp at u1; done)
  by_cases hgt : (i2 : Int) > (j2 : Int)
  · rw [if_pos (by omega)]
    refine SQ.normal <| CWp.known ha ?_
    simp only [mkA]
    refine W.seq <| W.seq <| W.reg <| 
        OSuf.aop tyOK rfl (so_move (by simp only [lk] <;> rfl)) rfl <|
        OSuf.aop tyOK rfl (so_move (by simp only [lk] <;> rfl)) rfl <|
        OSuf.aopT tyOK rfl (so_bin (by simp only [lk] <;> rfl) (by simp only [lk] <;> rfl) bi_gtr) (fun _ => rfl) (by first | rfl | assumption | ((simp only [bl, if_pos, Int.toNat_natCast, Nat.mul_one, Nat.zero_add, rg, rs, rb, Value.cells, List.length_cons, List.length_nil, oneCells, List.all_cons, List.all_nil, Value.oneCell', Bool.and_self, cond_true, AHeap.set_set, Array.size_setIfInBounds]) <;> first | done | assumption | omega) | (simp [if_pos, Int.toNat_natCast, Nat.mul_one, Nat.zero_add, rg, rs, rb, Value.cells, List.length_cons, List.length_nil, oneCells, List.all_cons, List.all_nil, Value.oneCell', Bool.and_self, cond_true, AHeap.set_set, Array.size_setIfInBounds]; done) | (simp [if_pos, Int.toNat_natCast, Nat.mul_one, Nat.zero_add, rg, rs, rb, Value.cells, List.length_cons, List.length_nil, oneCells, List.all_cons, List.all_nil, Value.oneCell', Bool.and_self, cond_true, AHeap.set_set, Array.size_setIfInBounds]; omega)) <|
        OSuf.nil <| SQ.normal ?_
    refine W.yes (by simp only [lk] <;> rfl) <| W.seq <| W.regD tyOK mixed (by kernel_rfl) <| 
        SqW.aop rfl (so_move (by simp only [lk] <;> rfl)) rfl <|
        SqW.aop rfl (so_move (by simp only [lk] <;> rfl)) rfl <|
        SqW.aop rfl (so_move (by simp only [lk] <;> rfl)) rfl <|
        SqW.aop rfl (so_move (by simp only [lk] <;> rfl)) rfl <|
        SqW.aop rfl (so_move (by simp only [lk] <;> rfl)) rfl <|
        SqW.aop rfl (so_move (by simp only [lk] <;> rfl)) rfl <|
        SqW.aop rfl (so_indexAddr (by simp only [lk] <;> rfl) (by simp only [lk] <;> rfl) (by simp (disch := first | assumption | omega | (simp only [nx] <;> omega) | fail) only [aIndexAddr, ty85, ty9, hpl, if_pos, Int.toNat_natCast, Nat.mul_one, Nat.zero_add, rg, rs, rb, Value.cells, List.length_cons, List.length_nil, oneCells, List.all_cons, List.all_nil, Value.oneCell', Bool.and_self, cond_true, AHeap.set_set, Array.size_setIfInBounds] <;> rfl)) rfl <|
        SqW.aop rfl (so_load (by simp only [lk] <;> rfl) (by simp (disch := first | assumption | omega | (simp only [nx] <;> omega) | fail) only [aLoad, ty9, rowOf, hpl, if_pos, Int.toNat_natCast, Nat.mul_one, Nat.zero_add, rg, rs, rb, Value.cells, List.length_cons, List.length_nil, oneCells, List.all_cons, List.all_nil, Value.oneCell', Bool.and_self, cond_true, AHeap.set_set, Array.size_setIfInBounds] <;> rfl)) rfl <|
        SqW.aop rfl (so_move (by simp only [lk] <;> rfl)) rfl <|
        SqW.aop rfl (so_move (by simp only [lk] <;> rfl)) rfl <|
        SqW.aop rfl (so_indexAddr (by simp only [lk] <;> rfl) (by simp only [lk] <;> rfl) (by simp (disch := first | assumption | omega | (simp only [nx] <;> omega) | fail) only [aIndexAddr, ty85, ty9, hpl, if_pos, Int.toNat_natCast, Nat.mul_one, Nat.zero_add, rg, rs, rb, Value.cells, List.length_cons, List.length_nil, oneCells, List.all_cons, List.all_nil, Value.oneCell', Bool.and_self, cond_true, AHeap.set_set, Array.size_setIfInBounds] <;> rfl)) rfl <|
        SqW.aop rfl (so_load (by simp only [lk] <;> rfl) (by simp (disch := first | assumption | omega | (simp only [nx] <;> omega) | fail) only [aLoad, ty9, rowOf, hpl, if_pos, Int.toNat_natCast, Nat.mul_one, Nat.zero_add, rg, rs, rb, Value.cells, List.length_cons, List.length_nil, oneCells, List.all_cons, List.all_nil, Value.oneCell', Bool.and_self, cond_true, AHeap.set_set, Array.size_setIfInBounds] <;> rfl)) rfl <|
        SqW.aop rfl (so_indexAddr (by simp only [lk] <;> rfl) (by simp only [lk] <;> rfl) (by simp (disch := first | assumption | omega | (simp only [nx] <;> omega) | fail) only [aIndexAddr, ty85, ty9, hpl, if_pos, Int.toNat_natCast, Nat.mul_one, Nat.zero_add, rg, rs, rb, Value.cells, List.length_cons, List.length_nil, oneCells, List.all_cons, List.all_nil, Value.oneCell', Bool.and_self, cond_true, AHeap.set_set, Array.size_setIfInBounds] <;> rfl)) rfl <|
        SqW.aop rfl (so_store (by simp only [lk] <;> rfl) (by simp only [lk] <;> rfl) (by simp (disch := first | assumption | omega | (simp only [nx] <;> omega) | fail) only [aStore, ty9, writeRow, hpl, if_pos, Int.toNat_natCast, Nat.mul_one, Nat.zero_add, rg, rs, rb, Value.cells, List.length_cons, List.length_nil, oneCells, List.all_cons, List.all_nil, Value.oneCell', Bool.and_self, cond_true, AHeap.set_set, Array.size_setIfInBounds] <;> rfl)) rfl <|
        SqW.aop rfl (so_indexAddr (by simp only [lk] <;> rfl) (by simp only [lk] <;> rfl) (by simp (disch := first | assumption | omega | (simp only [nx] <;> omega) | fail) only [aIndexAddr, ty85, ty9, hpl, if_pos, Int.toNat_natCast, Nat.mul_one, Nat.zero_add, rg, rs, rb, Value.cells, List.length_cons, List.length_nil, oneCells, List.all_cons, List.all_nil, Value.oneCell', Bool.and_self, cond_true, AHeap.set_set, Array.size_setIfInBounds] <;> rfl)) rfl <|
        SqW.aop rfl (so_store (by simp only [lk] <;> rfl) (by simp only [lk] <;> rfl) (by simp (disch := first | assumption | omega | (simp only [nx] <;> omega) | fail) only [aStore, ty9, writeRow, hpl, if_pos, Int.toNat_natCast, Nat.mul_one, Nat.zero_add, rg, rs, rb, Value.cells, List.length_cons, List.length_nil, oneCells, List.all_cons, List.all_nil, Value.oneCell', Bool.and_self, cond_true, AHeap.set_set, Array.size_setIfInBounds] <;> rfl)) rfl <|
        SqW.nil <| SQ.normal ?_
    refine W.seq <| W.reg <| 
        OSuf.aop tyOK rfl (so_move (by simp only [lk] <;> rfl)) rfl <|
        OSuf.aop tyOK rfl (so_assign (by simp only [lk] <;> rfl)) rfl <|
        OSuf.aopT tyOK rfl (so_assign (by simp only [lk] <;> rfl)) (fun _ => rfl) rfl <|
        OSuf.nil <| SQ.normal ?_
    refine CWp.ret <| SQ.ret <| FQ.ret (by simp only [aRet, Tryz.f101, aResults, aResult, lk, Nat.reduceEqDiff, reduceIte] <;> rfl) ?_
    -- leaf: end
    exact ⟨rfl, rfl⟩
  rw [if_neg (by omega)]
  have hlt2 := hne (by omega)
  have w3 : IntKind.i64.wrap ((i2 : Int) + 1) = ((i2 + 1 : Nat) : Int) := by rw [wrap_i64 (by omega) (by omega)]; omega
  have w4 : IntKind.i64.wrap ((j2 : Int) - 1) = ((j2 - 1 : Nat) : Int) := by rw [wrap_i64 (by omega) (by omega)]; omega
  refine SQ.normal <| CWp.known ha ?_
  simp only [mkA]
  refine W.seq <| W.seq <| W.reg <| 
      OSuf.aop tyOK rfl (so_move (by simp only [lk] <;> rfl)) rfl <|
      OSuf.aop tyOK rfl (so_move (by simp only [lk] <;> rfl)) rfl <|
      OSuf.aopF tyOK rfl (so_bin (by simp only [lk] <;> rfl) (by simp only [lk] <;> rfl) bi_gtr) (fun _ => rfl) (by first | rfl | assumption | ((simp only [bl, if_pos, Int.toNat_natCast, Nat.mul_one, Nat.zero_add, rg, rs, rb, Value.cells, List.length_cons, List.length_nil, oneCells, List.all_cons, List.all_nil, Value.oneCell', Bool.and_self, cond_true, AHeap.set_set, Array.size_setIfInBounds]) <;> first | done | assumption | omega) | (simp [if_pos, Int.toNat_natCast, Nat.mul_one, Nat.zero_add, rg, rs, rb, Value.cells, List.length_cons, List.length_nil, oneCells, List.all_cons, List.all_nil, Value.oneCell', Bool.and_self, cond_true, AHeap.set_set, Array.size_setIfInBounds]; done) | (simp [if_pos, Int.toNat_natCast, Nat.mul_one, Nat.zero_add, rg, rs, rb, Value.cells, List.length_cons, List.length_nil, oneCells, List.all_cons, List.all_nil, Value.oneCell', Bool.and_self, cond_true, AHeap.set_set, Array.size_setIfInBounds]; omega)) <|
      OSuf.nil <| SQ.normal ?_
  refine W.no (by simp only [lk] <;> rfl) <| CWp.skip <| SQ.normal ?_
  refine W.seq <| W.regD tyOK mixed (by kernel_rfl) <| 
      SqW.aop rfl (so_move (by simp only [lk] <;> rfl)) rfl <|
      SqW.aop rfl (so_move (by simp only [lk] <;> rfl)) rfl <|
      SqW.aop rfl (so_move (by simp only [lk] <;> rfl)) rfl <|
      SqW.aop rfl (so_move (by simp only [lk] <;> rfl)) rfl <|
      SqW.aop rfl (so_move (by simp only [lk] <;> rfl)) rfl <|
      SqW.aop rfl (so_move (by simp only [lk] <;> rfl)) rfl <|
      SqW.aop rfl (so_indexAddr (by simp only [lk] <;> rfl) (by simp only [lk] <;> rfl) (by simp (disch := first | assumption | omega | (simp only [nx] <;> omega) | fail) only [aIndexAddr, ty85, ty9, hpl, if_pos, Int.toNat_natCast, Nat.mul_one, Nat.zero_add, rg, rs, rb, Value.cells, List.length_cons, List.length_nil, oneCells, List.all_cons, List.all_nil, Value.oneCell', Bool.and_self, cond_true, AHeap.set_set, Array.size_setIfInBounds] <;> rfl)) rfl <|
      SqW.aop rfl (so_load (by simp only [lk] <;> rfl) (by simp (disch := first | assumption | omega | (simp only [nx] <;> omega) | fail) only [aLoad, ty9, rowOf, hpl, if_pos, Int.toNat_natCast, Nat.mul_one, Nat.zero_add, rg, rs, rb, Value.cells, List.length_cons, List.length_nil, oneCells, List.all_cons, List.all_nil, Value.oneCell', Bool.and_self, cond_true, AHeap.set_set, Array.size_setIfInBounds] <;> rfl)) rfl <|
      SqW.aop rfl (so_move (by simp only [lk] <;> rfl)) rfl <|
      SqW.aop rfl (so_move (by simp only [lk] <;> rfl)) rfl <|
      SqW.aop rfl (so_indexAddr (by simp only [lk] <;> rfl) (by simp only [lk] <;> rfl) (by simp (disch := first | assumption | omega | (simp only [nx] <;> omega) | fail) only [aIndexAddr, ty85, ty9, hpl, if_pos, Int.toNat_natCast, Nat.mul_one, Nat.zero_add, rg, rs, rb, Value.cells, List.length_cons, List.length_nil, oneCells, List.all_cons, List.all_nil, Value.oneCell', Bool.and_self, cond_true, AHeap.set_set, Array.size_setIfInBounds] <;> rfl)) rfl <|
      SqW.aop rfl (so_load (by simp only [lk] <;> rfl) (by simp (disch := first | assumption | omega | (simp only [nx] <;> omega) | fail) only [aLoad, ty9, rowOf, hpl, if_pos, Int.toNat_natCast, Nat.mul_one, Nat.zero_add, rg, rs, rb, Value.cells, List.length_cons, List.length_nil, oneCells, List.all_cons, List.all_nil, Value.oneCell', Bool.and_self, cond_true, AHeap.set_set, Array.size_setIfInBounds] <;> rfl)) rfl <|
      SqW.aop rfl (so_indexAddr (by simp only [lk] <;> rfl) (by simp only [lk] <;> rfl) (by simp (disch := first | assumption | omega | (simp only [nx] <;> omega) | fail) only [aIndexAddr, ty85, ty9, hpl, if_pos, Int.toNat_natCast, Nat.mul_one, Nat.zero_add, rg, rs, rb, Value.cells, List.length_cons, List.length_nil, oneCells, List.all_cons, List.all_nil, Value.oneCell', Bool.and_self, cond_true, AHeap.set_set, Array.size_setIfInBounds] <;> rfl)) rfl <|
      SqW.aop rfl (so_store (by simp only [lk] <;> rfl) (by simp only [lk] <;> rfl) (by simp (disch := first | assumption | omega | (simp only [nx] <;> omega) | fail) only [aStore, ty9, writeRow, hpl, if_pos, Int.toNat_natCast, Nat.mul_one, Nat.zero_add, rg, rs, rb, Value.cells, List.length_cons, List.length_nil, oneCells, List.all_cons, List.all_nil, Value.oneCell', Bool.and_self, cond_true, AHeap.set_set, Array.size_setIfInBounds] <;> rfl)) rfl <|
      SqW.aop rfl (so_indexAddr (by simp only [lk] <;> rfl) (by simp only [lk] <;> rfl) (by simp (disch := first | assumption | omega | (simp only [nx] <;> omega) | fail) only [aIndexAddr, ty85, ty9, hpl, if_pos, Int.toNat_natCast, Nat.mul_one, Nat.zero_add, rg, rs, rb, Value.cells, List.length_cons, List.length_nil, oneCells, List.all_cons, List.all_nil, Value.oneCell', Bool.and_self, cond_true, AHeap.set_set, Array.size_setIfInBounds] <;> rfl)) rfl <|
      SqW.aop rfl (so_store (by simp only [lk] <;> rfl) (by simp only [lk] <;> rfl) (by simp (disch := first | assumption | omega | (simp only [nx] <;> omega) | fail) only [aStore, ty9, writeRow, hpl, if_pos, Int.toNat_natCast, Nat.mul_one, Nat.zero_add, rg, rs, rb, Value.cells, List.length_cons, List.length_nil, oneCells, List.all_cons, List.all_nil, Value.oneCell', Bool.and_self, cond_true, AHeap.set_set, Array.size_setIfInBounds] <;> rfl)) rfl <|
      SqW.nil <| SQ.normal ?_
  refine W.seq <| W.reg <| 
      OSuf.aop tyOK rfl (so_move (by simp only [lk] <;> rfl)) rfl <|
      OSuf.aop tyOK rfl (so_bin (by simp only [lk] <;> rfl) (by simp only [lk] <;> rfl) (bi_w bi_add (by first | (simp only [w3, w4] <;> rfl) | rfl))) rfl <|
      OSuf.aop tyOK rfl (so_assign (by simp only [lk] <;> rfl)) rfl <|
      OSuf.nil <| SQ.normal ?_
  refine W.seq <| W.reg <| 
      OSuf.aop tyOK rfl (so_move (by simp only [lk] <;> rfl)) rfl <|
      OSuf.aop tyOK rfl (so_bin (by simp only [lk] <;> rfl) (by simp only [lk] <;> rfl) (bi_w bi_sub (by first | (simp only [w3, w4] <;> rfl) | rfl))) rfl <|
      OSuf.aop tyOK rfl (so_assign (by simp only [lk] <;> rfl)) rfl <|
      OSuf.nil <| SQ.normal ?_
  refine W.seq <| ?_
  -- leaf: loop
  rw [show (d1.setIfInBounds i2 d1[j2]!).setIfInBounds j2 d1[i2]! = swp d1 i2 j2 from rfl]
  obtain ⟨e2, he2⟩ : ∃ e2, e2 = swp d1 i2 j2 := ⟨_, rfl⟩
  have hse : e2.size = N := by rw [he2]; exact swp_sz hs1
  rw [← he2]
  obtain ⟨i3, hi3⟩ : ∃ i3, i3 = i2 + 1 := ⟨_, rfl⟩
  obtain ⟨j3, hj3⟩ : ∃ j3, j3 = j2 - 1 := ⟨_, rfl⟩
  rw [← hi3, ← hj3]
  have k1 : a < i3 := by omega
  have k2 : i3 ≤ j3 + 1 := by omega
  have k3 : j3 < b := by omega
  clear hi3 hj3 he2 hgi hgj hne hds2 hi2 hdl hdl2 hge hle hgt hlt2 w3 w4 ha a' hpart hd1 hs1
  refine W.cut (fun L h' => ∃ (j : Nat) (dk : Array El), dk.size = N ∧ a ≤ j ∧ j < b ∧ partLoop lt a i3 j3 e2 = (j, dk) ∧ h' = h.set r (row dk) ∧ L = [(0, sl r N), (1, I64 a), (11, I64 j)])
    (W.block (W.loop (fun n L h' => ∃ (i j : Nat) (dk : Array El), n = j + 1 - i ∧ a < i ∧ i ≤ j + 1 ∧ j < b ∧ dk.size = N ∧ partLoop lt a i j dk = partLoop lt a i3 j3 e2 ∧ h' = h.set r (row dk) ∧
      L = [(0, sl r N), (1, I64 a), (10, I64 i), (11, I64 j)]) (n := j3 + 1 - i3) ⟨i3, j3, e2, rfl, k1, k2, k3, hse, rfl, rfl, rfl⟩ ?_ ?_)) ?_
  · simp [HasA, Tr.get_put]
  · rintro n L h1 ⟨i0, j0, d1, rfl, k4, k5, k6, hs1, hloop, rfl, rfl⟩
    simp only [mkA]
    refine W.block <| W.seq <| ?_
    -- leaf: loop
    rw [partLoop_eq] at hloop
    refine W.cut (fun L h' => h' = h.set r (row d1) ∧ L = [(0, sl r N), (1, I64 a), (10, I64 (scanUp (fun x => lt x d1[a]!) d1 j0 i0 : Nat)), (11, I64 j0)])
      (W.block (W.loop (fun n L h' => ∃ i : Nat, n = j0 + 1 - i ∧ 1 ≤ i ∧ i ≤ j0 + 1 ∧ scanUp (fun x => lt x d1[a]!) d1 j0 i = scanUp (fun x => lt x d1[a]!) d1 j0 i0 ∧ h' = h.set r (row d1) ∧ L = [(0, sl r N), (1, I64 a), (10, I64 i), (11, I64 j0)]) (n := j0 + 1 - i0) ⟨i0, rfl, by omega, by omega, rfl, rfl, rfl⟩ ?_ ?_)) ?_
    · simp [HasA, Tr.get_put]
    · rintro n L h1 ⟨i, rfl, hi1, hi2, heq, rfl, rfl⟩
      simp only [mkA]
      have w1 : IntKind.i64.wrap ((i : Int) + 1) = ((i + 1 : Nat) : Int) := by rw [wrap_i64 (by omega) (by omega)]; omega
      by_cases hij : (i : Int) ≤ (j0 : Int)
      · cases hl : lt d1[i]! d1[a]!
        · refine W.seq <| W.seq <| W.regD tyOK mixed (by kernel_rfl) <| 
              SqW.aop rfl (so_move (by simp only [lk] <;> rfl)) rfl <|
              SqW.aop rfl (so_move (by simp only [lk] <;> rfl)) rfl <|
              SqW.aopT rfl (so_bin (by simp only [lk] <;> rfl) (by simp only [lk] <;> rfl) bi_leq) (fun _ => rfl) (by first | rfl | assumption | ((simp only [bl, if_pos, Int.toNat_natCast, Nat.mul_one, Nat.zero_add, rg, rs, rb, Value.cells, List.length_cons, List.length_nil, oneCells, List.all_cons, List.all_nil, Value.oneCell', Bool.and_self, cond_true, AHeap.set_set, Array.size_setIfInBounds]) <;> first | done | assumption | omega) | (simp [if_pos, Int.toNat_natCast, Nat.mul_one, Nat.zero_add, rg, rs, rb, Value.cells, List.length_cons, List.length_nil, oneCells, List.all_cons, List.all_nil, Value.oneCell', Bool.and_self, cond_true, AHeap.set_set, Array.size_setIfInBounds]; done) | (simp [if_pos, Int.toNat_natCast, Nat.mul_one, Nat.zero_add, rg, rs, rb, Value.cells, List.length_cons, List.length_nil, oneCells, List.all_cons, List.all_nil, Value.oneCell', Bool.and_self, cond_true, AHeap.set_set, Array.size_setIfInBounds]; omega)) <|
              SqW.aopT rfl (so_move (by simp only [lk] <;> rfl)) (fun _ => rfl) rfl <|
              SqW.aop (aguard_of rfl rfl (by simp only [lk] <;> rfl) rfl) (so_move (by simp only [lk] <;> rfl)) rfl <|
              SqW.aop (aguard_of rfl rfl (by simp only [lk] <;> rfl) rfl) (so_move (by simp only [lk] <;> rfl)) rfl <|
              SqW.aop (aguard_of rfl rfl (by simp only [lk] <;> rfl) rfl) (so_indexAddr (by simp only [lk] <;> rfl) (by simp only [lk] <;> rfl) (by simp (disch := first | assumption | omega | (simp only [nx] <;> omega) | fail) only [aIndexAddr, ty85, ty9, hpl, if_pos, Int.toNat_natCast, Nat.mul_one, Nat.zero_add, rg, rs, rb, Value.cells, List.length_cons, List.length_nil, oneCells, List.all_cons, List.all_nil, Value.oneCell', Bool.and_self, cond_true, AHeap.set_set, Array.size_setIfInBounds] <;> rfl)) rfl <|
              SqW.aop (aguard_of rfl rfl (by simp only [lk] <;> rfl) rfl) (so_load (by simp only [lk] <;> rfl) (by simp (disch := first | assumption | omega | (simp only [nx] <;> omega) | fail) only [aLoad, ty9, rowOf, hpl, if_pos, Int.toNat_natCast, Nat.mul_one, Nat.zero_add, rg, rs, rb, Value.cells, List.length_cons, List.length_nil, oneCells, List.all_cons, List.all_nil, Value.oneCell', Bool.and_self, cond_true, AHeap.set_set, Array.size_setIfInBounds] <;> rfl)) rfl <|
              SqW.aop (aguard_of rfl rfl (by simp only [lk] <;> rfl) rfl) (so_move (by simp only [lk] <;> rfl)) rfl <|
              SqW.aop (aguard_of rfl rfl (by simp only [lk] <;> rfl) rfl) (so_move (by simp only [lk] <;> rfl)) rfl <|
              SqW.aop (aguard_of rfl rfl (by simp only [lk] <;> rfl) rfl) (so_indexAddr (by simp only [lk] <;> rfl) (by simp only [lk] <;> rfl) (by simp (disch := first | assumption | omega | (simp only [nx] <;> omega) | fail) only [aIndexAddr, ty85, ty9, hpl, if_pos, Int.toNat_natCast, Nat.mul_one, Nat.zero_add, rg, rs, rb, Value.cells, List.length_cons, List.length_nil, oneCells, List.all_cons, List.all_nil, Value.oneCell', Bool.and_self, cond_true, AHeap.set_set, Array.size_setIfInBounds] <;> rfl)) rfl <|
              SqW.aop (aguard_of rfl rfl (by simp only [lk] <;> rfl) rfl) (so_load (by simp only [lk] <;> rfl) (by simp (disch := first | assumption | omega | (simp only [nx] <;> omega) | fail) only [aLoad, ty9, rowOf, hpl, if_pos, Int.toNat_natCast, Nat.mul_one, Nat.zero_add, rg, rs, rb, Value.cells, List.length_cons, List.length_nil, oneCells, List.all_cons, List.all_nil, Value.oneCell', Bool.and_self, cond_true, AHeap.set_set, Array.size_setIfInBounds] <;> rfl)) rfl <|
              SqW.callD (aguard_of rfl rfl (by simp only [lk] <;> rfl) rfl) (by simp only [aopnds, lk] <;> rfl) en99 (less_c _ _ _ _ hl) rfl <|
              SqW.aopF rfl (so_pick (by simp only [lk] <;> rfl) (by simp only [lk, cond_true, cond_false] <;> rfl)) (fun _ => rfl) rfl <|
              SqW.nil <| SQ.normal ?_
          refine W.no (by simp only [lk] <;> rfl) <| CWp.exit <| SQ.exit <| LQ.exit <| BQ.exit <| ?_
          -- leaf: cut
          refine NQ.normal (L := [(0, sl r N), (1, I64 a), (10, I64 i), (11, I64 j0)]) ?_ ⟨rfl, ?_⟩
          · simp only [HasA, Tr.get_put, Nat.reduceEqDiff, reduceIte, and_self]
          · rw [← heq, up_stop (.inr (by simp [hl]))]
        · refine W.seq <| W.seq <| W.regD tyOK mixed (by kernel_rfl) <| 
              SqW.aop rfl (so_move (by simp only [lk] <;> rfl)) rfl <|
              SqW.aop rfl (so_move (by simp only [lk] <;> rfl)) rfl <|
              SqW.aopT rfl (so_bin (by simp only [lk] <;> rfl) (by simp only [lk] <;> rfl) bi_leq) (fun _ => rfl) (by first | rfl | assumption | ((simp only [bl, if_pos, Int.toNat_natCast, Nat.mul_one, Nat.zero_add, rg, rs, rb, Value.cells, List.length_cons, List.length_nil, oneCells, List.all_cons, List.all_nil, Value.oneCell', Bool.and_self, cond_true, AHeap.set_set, Array.size_setIfInBounds]) <;> first | done | assumption | omega) | (simp [if_pos, Int.toNat_natCast, Nat.mul_one, Nat.zero_add, rg, rs, rb, Value.cells, List.length_cons, List.length_nil, oneCells, List.all_cons, List.all_nil, Value.oneCell', Bool.and_self, cond_true, AHeap.set_set, Array.size_setIfInBounds]; done) | (simp [if_pos, Int.toNat_natCast, Nat.mul_one, Nat.zero_add, rg, rs, rb, Value.cells, List.length_cons, List.length_nil, oneCells, List.all_cons, List.all_nil, Value.oneCell', Bool.and_self, cond_true, AHeap.set_set, Array.size_setIfInBounds]; omega)) <|
              SqW.aopT rfl (so_move (by simp only [lk] <;> rfl)) (fun _ => rfl) rfl <|
              SqW.aop (aguard_of rfl rfl (by simp only [lk] <;> rfl) rfl) (so_move (by simp only [lk] <;> rfl)) rfl <|
              SqW.aop (aguard_of rfl rfl (by simp only [lk] <;> rfl) rfl) (so_move (by simp only [lk] <;> rfl)) rfl <|
              SqW.aop (aguard_of rfl rfl (by simp only [lk] <;> rfl) rfl) (so_indexAddr (by simp only [lk] <;> rfl) (by simp only [lk] <;> rfl) (by simp (disch := first | assumption | omega | (simp only [nx] <;> omega) | fail) only [aIndexAddr, ty85, ty9, hpl, if_pos, Int.toNat_natCast, Nat.mul_one, Nat.zero_add, rg, rs, rb, Value.cells, List.length_cons, List.length_nil, oneCells, List.all_cons, List.all_nil, Value.oneCell', Bool.and_self, cond_true, AHeap.set_set, Array.size_setIfInBounds] <;> rfl)) rfl <|
              SqW.aop (aguard_of rfl rfl (by simp only [lk] <;> rfl) rfl) (so_load (by simp only [lk] <;> rfl) (by simp (disch := first | assumption | omega | (simp only [nx] <;> omega) | fail) only [aLoad, ty9, rowOf, hpl, if_pos, Int.toNat_natCast, Nat.mul_one, Nat.zero_add, rg, rs, rb, Value.cells, List.length_cons, List.length_nil, oneCells, List.all_cons, List.all_nil, Value.oneCell', Bool.and_self, cond_true, AHeap.set_set, Array.size_setIfInBounds] <;> rfl)) rfl <|
              SqW.aop (aguard_of rfl rfl (by simp only [lk] <;> rfl) rfl) (so_move (by simp only [lk] <;> rfl)) rfl <|
              SqW.aop (aguard_of rfl rfl (by simp only [lk] <;> rfl) rfl) (so_move (by simp only [lk] <;> rfl)) rfl <|
              SqW.aop (aguard_of rfl rfl (by simp only [lk] <;> rfl) rfl) (so_indexAddr (by simp only [lk] <;> rfl) (by simp only [lk] <;> rfl) (by simp (disch := first | assumption | omega | (simp only [nx] <;> omega) | fail) only [aIndexAddr, ty85, ty9, hpl, if_pos, Int.toNat_natCast, Nat.mul_one, Nat.zero_add, rg, rs, rb, Value.cells, List.length_cons, List.length_nil, oneCells, List.all_cons, List.all_nil, Value.oneCell', Bool.and_self, cond_true, AHeap.set_set, Array.size_setIfInBounds] <;> rfl)) rfl <|
              SqW.aop (aguard_of rfl rfl (by simp only [lk] <;> rfl) rfl) (so_load (by simp only [lk] <;> rfl) (by simp (disch := first | assumption | omega | (simp only [nx] <;> omega) | fail) only [aLoad, ty9, rowOf, hpl, if_pos, Int.toNat_natCast, Nat.mul_one, Nat.zero_add, rg, rs, rb, Value.cells, List.length_cons, List.length_nil, oneCells, List.all_cons, List.all_nil, Value.oneCell', Bool.and_self, cond_true, AHeap.set_set, Array.size_setIfInBounds] <;> rfl)) rfl <|
              SqW.callD (aguard_of rfl rfl (by simp only [lk] <;> rfl) rfl) (by simp only [aopnds, lk] <;> rfl) en99 (less_c _ _ _ _ hl) rfl <|
              SqW.aopT rfl (so_pick (by simp only [lk] <;> rfl) (by simp only [lk, cond_true, cond_false] <;> rfl)) (fun _ => rfl) rfl <|
              SqW.nil <| SQ.normal ?_
          refine W.yes (by simp only [lk] <;> rfl) <| CWp.skip <| SQ.normal ?_
          refine W.block <| W.reg <| 
              OSuf.aop tyOK rfl (so_move (by simp only [lk] <;> rfl)) rfl <|
              OSuf.aop tyOK rfl (so_bin (by simp only [lk] <;> rfl) (by simp only [lk] <;> rfl) (bi_w bi_add (by first | (simp only [w1] <;> rfl) | rfl))) rfl <|
              OSuf.aop tyOK rfl (so_assign (by simp only [lk] <;> rfl)) rfl <|
              OSuf.nil <| BQ.normal <| ?_
          -- leaf: round
          refine LQ.normal (m := j0 + 1 - (i + 1)) (L := [(0, sl r N), (1, I64 a), (10, I64 (i + 1 : Nat)), (11, I64 j0)]) (by omega) ?_ ⟨i + 1, rfl, by omega, by omega, ?_, rfl, rfl⟩
          · simp only [HasA, Tr.get_put, Nat.reduceEqDiff, reduceIte, and_self]
          · rw [← heq]; exact (up_eq (by omega) (by simp [hl])).symm
      · refine W.seq <| W.seq <| W.regD tyOK mixed (by kernel_rfl) <| 
            SqW.aop rfl (so_move (by simp only [lk] <;> rfl)) rfl <|
            SqW.aop rfl (so_move (by simp only [lk] <;> rfl)) rfl <|
            SqW.aopF rfl (so_bin (by simp only [lk] <;> rfl) (by simp only [lk] <;> rfl) bi_leq) (fun _ => rfl) (by first | rfl | assumption | ((simp only [bl]) <;> first | done | assumption | omega) | (simp []; done) | (simp []; omega)) <|
            SqW.aopF rfl (so_move (by simp only [lk] <;> rfl)) (fun _ => rfl) rfl <|
            SqW.pass (aguard_of rfl rfl (by simp only [lk] <;> rfl) rfl) rfl <|
            SqW.pass (aguard_of rfl rfl (by simp only [lk] <;> rfl) rfl) rfl <|
            SqW.pass (aguard_of rfl rfl (by simp only [lk] <;> rfl) rfl) rfl <|
            SqW.pass (aguard_of rfl rfl (by simp only [lk] <;> rfl) rfl) rfl <|
            SqW.pass (aguard_of rfl rfl (by simp only [lk] <;> rfl) rfl) rfl <|
            SqW.pass (aguard_of rfl rfl (by simp only [lk] <;> rfl) rfl) rfl <|
            SqW.pass (aguard_of rfl rfl (by simp only [lk] <;> rfl) rfl) rfl <|
            SqW.pass (aguard_of rfl rfl (by simp only [lk] <;> rfl) rfl) rfl <|
            SqW.pass (aguard_of rfl rfl (by simp only [lk] <;> rfl) rfl) rfl <|
            SqW.aopF rfl (so_pick (by simp only [lk] <;> rfl) (by simp only [lk, cond_true, cond_false] <;> rfl)) (fun _ => rfl) rfl <|
            SqW.nil <| SQ.normal ?_
        refine W.no (by simp only [lk] <;> rfl) <| CWp.exit <| SQ.exit <| LQ.exit <| BQ.exit <| ?_
        -- leaf: cut
        refine NQ.normal (L := [(0, sl r N), (1, I64 a), (10, I64 i), (11, I64 j0)]) ?_ ⟨rfl, ?_⟩
        · simp only [HasA, Tr.get_put, Nat.reduceEqDiff, reduceIte, and_self]
        · rw [← heq, up_stop (.inl (by omega))]
    rintro L a' h1 ha ⟨rfl, rfl⟩
    have hi2 := (scanUp_spec (fun x => lt x d1[a]!) d1 j0 _ i0 rfl)
    have hge := scanUp_ge (fun x => lt x d1[a]!) d1 j0 i0
    have hle : scanUp (fun x => lt x d1[a]!) d1 j0 i0 ≤ j0 + 1 := by have := hi2.2.1; omega
    generalize hgi : scanUp (fun x => lt x d1[a]!) d1 j0 i0 = i2 at *
    refine SQ.normal <| CWp.known ha ?_
    simp only [mkA]
    refine W.seq <| ?_
    -- leaf: loop
    refine W.cut (fun L h' => h' = h.set r (row d1) ∧ L = [(0, sl r N), (1, I64 a), (10, I64 i2), (11, I64 (scanDown (fun x => !lt x d1[a]!) d1 i2 j0 : Nat))])
      (W.block (W.loop (fun n L h' => ∃ j : Nat, n = j ∧ j ≤ j0 ∧ scanDown (fun x => !lt x d1[a]!) d1 i2 j = scanDown (fun x => !lt x d1[a]!) d1 i2 j0 ∧ h' = h.set r (row d1) ∧ L = [(0, sl r N), (1, I64 a), (10, I64 i2), (11, I64 j)]) (n := j0) ⟨j0, rfl, by omega, rfl, rfl, rfl⟩ ?_ ?_)) ?_
    · simp [HasA, Tr.get_put]
    · rintro j L h1 ⟨_, rfl, hj, heq, rfl, rfl⟩
      simp only [mkA]
      by_cases hij : (i2 : Int) ≤ (j : Int)
      · obtain ⟨m, rfl⟩ : ∃ m, j = m + 1 := ⟨j - 1, by omega⟩
        have w1 : IntKind.i64.wrap (((m + 1 : Nat) : Int) - 1) = (m : Int) := by rw [wrap_i64 (by omega) (by omega)]; omega
        cases hl : lt d1[m + 1]! d1[a]!
        · refine W.seq <| W.seq <| W.regD tyOK mixed (by kernel_rfl) <| 
              SqW.aop rfl (so_move (by simp only [lk] <;> rfl)) rfl <|
              SqW.aop rfl (so_move (by simp only [lk] <;> rfl)) rfl <|
              SqW.aopT rfl (so_bin (by simp only [lk] <;> rfl) (by simp only [lk] <;> rfl) bi_leq) (fun _ => rfl) (by first | rfl | assumption | ((simp only [bl, if_pos, Int.toNat_natCast, Nat.mul_one, Nat.zero_add, rg, rs, rb, Value.cells, List.length_cons, List.length_nil, oneCells, List.all_cons, List.all_nil, Value.oneCell', Bool.and_self, cond_true, AHeap.set_set, Array.size_setIfInBounds]) <;> first | done | assumption | omega) | (simp [if_pos, Int.toNat_natCast, Nat.mul_one, Nat.zero_add, rg, rs, rb, Value.cells, List.length_cons, List.length_nil, oneCells, List.all_cons, List.all_nil, Value.oneCell', Bool.and_self, cond_true, AHeap.set_set, Array.size_setIfInBounds]; done) | (simp [if_pos, Int.toNat_natCast, Nat.mul_one, Nat.zero_add, rg, rs, rb, Value.cells, List.length_cons, List.length_nil, oneCells, List.all_cons, List.all_nil, Value.oneCell', Bool.and_self, cond_true, AHeap.set_set, Array.size_setIfInBounds]; omega)) <|
              SqW.aopT rfl (so_move (by simp only [lk] <;> rfl)) (fun _ => rfl) rfl <|
              SqW.aop (aguard_of rfl rfl (by simp only [lk] <;> rfl) rfl) (so_move (by simp only [lk] <;> rfl)) rfl <|
              SqW.aop (aguard_of rfl rfl (by simp only [lk] <;> rfl) rfl) (so_move (by simp only [lk] <;> rfl)) rfl <|
              SqW.aop (aguard_of rfl rfl (by simp only [lk] <;> rfl) rfl) (so_indexAddr (by simp only [lk] <;> rfl) (by simp only [lk] <;> rfl) (by simp (disch := first | assumption | omega | (simp only [nx] <;> omega) | fail) only [aIndexAddr, ty85, ty9, hpl, if_pos, Int.toNat_natCast, Nat.mul_one, Nat.zero_add, rg, rs, rb, Value.cells, List.length_cons, List.length_nil, oneCells, List.all_cons, List.all_nil, Value.oneCell', Bool.and_self, cond_true, AHeap.set_set, Array.size_setIfInBounds] <;> rfl)) rfl <|
              SqW.aop (aguard_of rfl rfl (by simp only [lk] <;> rfl) rfl) (so_load (by simp only [lk] <;> rfl) (by simp (disch := first | assumption | omega | (simp only [nx] <;> omega) | fail) only [aLoad, ty9, rowOf, hpl, if_pos, Int.toNat_natCast, Nat.mul_one, Nat.zero_add, rg, rs, rb, Value.cells, List.length_cons, List.length_nil, oneCells, List.all_cons, List.all_nil, Value.oneCell', Bool.and_self, cond_true, AHeap.set_set, Array.size_setIfInBounds] <;> rfl)) rfl <|
              SqW.aop (aguard_of rfl rfl (by simp only [lk] <;> rfl) rfl) (so_move (by simp only [lk] <;> rfl)) rfl <|
              SqW.aop (aguard_of rfl rfl (by simp only [lk] <;> rfl) rfl) (so_move (by simp only [lk] <;> rfl)) rfl <|
              SqW.aop (aguard_of rfl rfl (by simp only [lk] <;> rfl) rfl) (so_indexAddr (by simp only [lk] <;> rfl) (by simp only [lk] <;> rfl) (by simp (disch := first | assumption | omega | (simp only [nx] <;> omega) | fail) only [aIndexAddr, ty85, ty9, hpl, if_pos, Int.toNat_natCast, Nat.mul_one, Nat.zero_add, rg, rs, rb, Value.cells, List.length_cons, List.length_nil, oneCells, List.all_cons, List.all_nil, Value.oneCell', Bool.and_self, cond_true, AHeap.set_set, Array.size_setIfInBounds] <;> rfl)) rfl <|
              SqW.aop (aguard_of rfl rfl (by simp only [lk] <;> rfl) rfl) (so_load (by simp only [lk] <;> rfl) (by simp (disch := first | assumption | omega | (simp only [nx] <;> omega) | fail) only [aLoad, ty9, rowOf, hpl, if_pos, Int.toNat_natCast, Nat.mul_one, Nat.zero_add, rg, rs, rb, Value.cells, List.length_cons, List.length_nil, oneCells, List.all_cons, List.all_nil, Value.oneCell', Bool.and_self, cond_true, AHeap.set_set, Array.size_setIfInBounds] <;> rfl)) rfl <|
              SqW.callD (aguard_of rfl rfl (by simp only [lk] <;> rfl) rfl) (by simp only [aopnds, lk] <;> rfl) en99 (less_c _ _ _ _ hl) rfl <|
              SqW.aopT (aguard_of rfl rfl (by simp only [lk] <;> rfl) rfl) (so_not (by simp only [lk] <;> rfl)) (fun _ => rfl) rfl <|
              SqW.aopT rfl (so_pick (by simp only [lk] <;> rfl) (by simp only [lk, cond_true, cond_false] <;> rfl)) (fun _ => rfl) rfl <|
              SqW.nil <| SQ.normal ?_
          refine W.yes (by simp only [lk] <;> rfl) <| CWp.skip <| SQ.normal ?_
          refine W.block <| W.reg <| 
              OSuf.aop tyOK rfl (so_move (by simp only [lk] <;> rfl)) rfl <|
              OSuf.aop tyOK rfl (so_bin (by simp only [lk] <;> rfl) (by simp only [lk] <;> rfl) (bi_w bi_sub (by first | (simp only [w1] <;> rfl) | rfl))) rfl <|
              OSuf.aop tyOK rfl (so_assign (by simp only [lk] <;> rfl)) rfl <|
              OSuf.nil <| BQ.normal <| ?_
          -- leaf: round
          refine LQ.normal (m := m) (L := [(0, sl r N), (1, I64 a), (10, I64 i2), (11, I64 m)]) (by omega) ?_ ⟨m, rfl, by omega, ?_, rfl, rfl⟩
          · simp only [HasA, Tr.get_put, Nat.reduceEqDiff, reduceIte, and_self]
          · rw [← heq]; exact (down_eq (by omega) (by simp [hl])).symm
        · refine W.seq <| W.seq <| W.regD tyOK mixed (by kernel_rfl) <| 
              SqW.aop rfl (so_move (by simp only [lk] <;> rfl)) rfl <|
              SqW.aop rfl (so_move (by simp only [lk] <;> rfl)) rfl <|
              SqW.aopT rfl (so_bin (by simp only [lk] <;> rfl) (by simp only [lk] <;> rfl) bi_leq) (fun _ => rfl) (by first | rfl | assumption | ((simp only [bl, if_pos, Int.toNat_natCast, Nat.mul_one, Nat.zero_add, rg, rs, rb, Value.cells, List.length_cons, List.length_nil, oneCells, List.all_cons, List.all_nil, Value.oneCell', Bool.and_self, cond_true, AHeap.set_set, Array.size_setIfInBounds]) <;> first | done | assumption | omega) | (simp [if_pos, Int.toNat_natCast, Nat.mul_one, Nat.zero_add, rg, rs, rb, Value.cells, List.length_cons, List.length_nil, oneCells, List.all_cons, List.all_nil, Value.oneCell', Bool.and_self, cond_true, AHeap.set_set, Array.size_setIfInBounds]; done) | (simp [if_pos, Int.toNat_natCast, Nat.mul_one, Nat.zero_add, rg, rs, rb, Value.cells, List.length_cons, List.length_nil, oneCells, List.all_cons, List.all_nil, Value.oneCell', Bool.and_self, cond_true, AHeap.set_set, Array.size_setIfInBounds]; omega)) <|
              SqW.aopT rfl (so_move (by simp only [lk] <;> rfl)) (fun _ => rfl) rfl <|
              SqW.aop (aguard_of rfl rfl (by simp only [lk] <;> rfl) rfl) (so_move (by simp only [lk] <;> rfl)) rfl <|
              SqW.aop (aguard_of rfl rfl (by simp only [lk] <;> rfl) rfl) (so_move (by simp only [lk] <;> rfl)) rfl <|
              SqW.aop (aguard_of rfl rfl (by simp only [lk] <;> rfl) rfl) (so_indexAddr (by simp only [lk] <;> rfl) (by simp only [lk] <;> rfl) (by simp (disch := first | assumption | omega | (simp only [nx] <;> omega) | fail) only [aIndexAddr, ty85, ty9, hpl, if_pos, Int.toNat_natCast, Nat.mul_one, Nat.zero_add, rg, rs, rb, Value.cells, List.length_cons, List.length_nil, oneCells, List.all_cons, List.all_nil, Value.oneCell', Bool.and_self, cond_true, AHeap.set_set, Array.size_setIfInBounds] <;> rfl)) rfl <|
              SqW.aop (aguard_of rfl rfl (by simp only [lk] <;> rfl) rfl) (so_load (by simp only [lk] <;> rfl) (by simp (disch := first | assumption | omega | (simp only [nx] <;> omega) | fail) only [aLoad, ty9, rowOf, hpl, if_pos, Int.toNat_natCast, Nat.mul_one, Nat.zero_add, rg, rs, rb, Value.cells, List.length_cons, List.length_nil, oneCells, List.all_cons, List.all_nil, Value.oneCell', Bool.and_self, cond_true, AHeap.set_set, Array.size_setIfInBounds] <;> rfl)) rfl <|
              SqW.aop (aguard_of rfl rfl (by simp only [lk] <;> rfl) rfl) (so_move (by simp only [lk] <;> rfl)) rfl <|
              SqW.aop (aguard_of rfl rfl (by simp only [lk] <;> rfl) rfl) (so_move (by simp only [lk] <;> rfl)) rfl <|
              SqW.aop (aguard_of rfl rfl (by simp only [lk] <;> rfl) rfl) (so_indexAddr (by simp only [lk] <;> rfl) (by simp only [lk] <;> rfl) (by simp (disch := first | assumption | omega | (simp only [nx] <;> omega) | fail) only [aIndexAddr, ty85, ty9, hpl, if_pos, Int.toNat_natCast, Nat.mul_one, Nat.zero_add, rg, rs, rb, Value.cells, List.length_cons, List.length_nil, oneCells, List.all_cons, List.all_nil, Value.oneCell', Bool.and_self, cond_true, AHeap.set_set, Array.size_setIfInBounds] <;> rfl)) rfl <|
              SqW.aop (aguard_of rfl rfl (by simp only [lk] <;> rfl) rfl) (so_load (by simp only [lk] <;> rfl) (by simp (disch := first | assumption | omega | (simp only [nx] <;> omega) | fail) only [aLoad, ty9, rowOf, hpl, if_pos, Int.toNat_natCast, Nat.mul_one, Nat.zero_add, rg, rs, rb, Value.cells, List.length_cons, List.length_nil, oneCells, List.all_cons, List.all_nil, Value.oneCell', Bool.and_self, cond_true, AHeap.set_set, Array.size_setIfInBounds] <;> rfl)) rfl <|
              SqW.callD (aguard_of rfl rfl (by simp only [lk] <;> rfl) rfl) (by simp only [aopnds, lk] <;> rfl) en99 (less_c _ _ _ _ hl) rfl <|
              SqW.aopF (aguard_of rfl rfl (by simp only [lk] <;> rfl) rfl) (so_not (by simp only [lk] <;> rfl)) (fun _ => rfl) rfl <|
              SqW.aopF rfl (so_pick (by simp only [lk] <;> rfl) (by simp only [lk, cond_true, cond_false] <;> rfl)) (fun _ => rfl) rfl <|
              SqW.nil <| SQ.normal ?_
          refine W.no (by simp only [lk] <;> rfl) <| CWp.exit <| SQ.exit <| LQ.exit <| BQ.exit <| ?_
          -- leaf: cut
          refine NQ.normal (L := [(0, sl r N), (1, I64 a), (10, I64 i2), (11, I64 (m + 1 : Nat))]) ?_ ⟨rfl, ?_⟩
          · simp only [HasA, Tr.get_put, Nat.reduceEqDiff, reduceIte, and_self]
          · rw [← heq, down_stop (by omega) (.inr (by simp [hl]))]
      · refine W.seq <| W.seq <| W.regD tyOK mixed (by kernel_rfl) <| 
            SqW.aop rfl (so_move (by simp only [lk] <;> rfl)) rfl <|
            SqW.aop rfl (so_move (by simp only [lk] <;> rfl)) rfl <|
            SqW.aopF rfl (so_bin (by simp only [lk] <;> rfl) (by simp only [lk] <;> rfl) bi_leq) (fun _ => rfl) (by first | rfl | assumption | ((simp only [bl]) <;> first | done | assumption | omega) | (simp []; done) | (simp []; omega)) <|
            SqW.aopF rfl (so_move (by simp only [lk] <;> rfl)) (fun _ => rfl) rfl <|
            SqW.pass (aguard_of rfl rfl (by simp only [lk] <;> rfl) rfl) rfl <|
            SqW.pass (aguard_of rfl rfl (by simp only [lk] <;> rfl) rfl) rfl <|
            SqW.pass (aguard_of rfl rfl (by simp only [lk] <;> rfl) rfl) rfl <|
            SqW.pass (aguard_of rfl rfl (by simp only [lk] <;> rfl) rfl) rfl <|
            SqW.pass (aguard_of rfl rfl (by simp only [lk] <;> rfl) rfl) rfl <|
            SqW.pass (aguard_of rfl rfl (by simp only [lk] <;> rfl) rfl) rfl <|
            SqW.pass (aguard_of rfl rfl (by simp only [lk] <;> rfl) rfl) rfl <|
            SqW.pass (aguard_of rfl rfl (by simp only [lk] <;> rfl) rfl) rfl <|
            SqW.pass (aguard_of rfl rfl (by simp only [lk] <;> rfl) rfl) rfl <|
            SqW.pass (aguard_of rfl rfl (by simp only [lk] <;> rfl) rfl) rfl <|
            SqW.aopF rfl (so_pick (by simp only [lk] <;> rfl) (by simp only [lk, cond_true, cond_false] <;> rfl)) (fun _ => rfl) rfl <|
            SqW.nil <| SQ.normal ?_
        refine W.no (by simp only [lk] <;> rfl) <| CWp.exit <| SQ.exit <| LQ.exit <| BQ.exit <| ?_
        -- leaf: cut
        refine NQ.normal (L := [(0, sl r N), (1, I64 a), (10, I64 i2), (11, I64 j)]) ?_ ⟨rfl, ?_⟩
        · simp only [HasA, Tr.get_put, Nat.reduceEqDiff, reduceIte, and_self]
        · rw [← heq, down_stop (by omega) (.inl (by omega))]
    rintro L a' h1 ha ⟨rfl, rfl⟩
    have hdl := scanDown_le (fun x => !lt x d1[a]!) d1 i2 j0
    have hds2 := (scanDown_spec (fun x => !lt x d1[a]!) d1 i2 j0)
    generalize hgj : scanDown (fun x => !lt x d1[a]!) d1 i2 j0 = j2 at *
    have hdl2 : i2 ≤ j2 + 1 := hds2.2.1 (by omega)
    have hne : i2 ≤ j2 → i2 < j2 := fun hle2 => by
      have u1 := hi2.2.2.2 (by omega)
      have u2 := hds2.2.2.2 hle2 (by omega)
      rcases Nat.lt_or_eq_of_le hle2 with h0 | h0
      · exact h0
      · subst h0; try simp only at u1 u2
        first | (rw [u1] at u2; simp at u2; done) | (rw [u2] at u1; simp at u1; done)
    by_cases hgt : (i2 : Int) > (j2 : Int)
    · rw [if_pos (by omega)] at hloop
      refine SQ.normal <| CWp.known ha ?_
      simp only [mkA]
      refine W.seq <| W.seq <| W.reg <| 
          OSuf.aop tyOK rfl (so_move (by simp only [lk] <;> rfl)) rfl <|
          OSuf.aop tyOK rfl (so_move (by simp only [lk] <;> rfl)) rfl <|
          OSuf.aopT tyOK rfl (so_bin (by simp only [lk] <;> rfl) (by simp only [lk] <;> rfl) bi_gtr) (fun _ => rfl) (by first | rfl | assumption | ((simp only [bl, if_pos, Int.toNat_natCast, Nat.mul_one, Nat.zero_add, rg, rs, rb, Value.cells, List.length_cons, List.length_nil, oneCells, List.all_cons, List.all_nil, Value.oneCell', Bool.and_self, cond_true, AHeap.set_set, Array.size_setIfInBounds]) <;> first | done | assumption | omega) | (simp [if_pos, Int.toNat_natCast, Nat.mul_one, Nat.zero_add, rg, rs, rb, Value.cells, List.length_cons, List.length_nil, oneCells, List.all_cons, List.all_nil, Value.oneCell', Bool.and_self, cond_true, AHeap.set_set, Array.size_setIfInBounds]; done) | (simp [if_pos, Int.toNat_natCast, Nat.mul_one, Nat.zero_add, rg, rs, rb, Value.cells, List.length_cons, List.length_nil, oneCells, List.all_cons, List.all_nil, Value.oneCell', Bool.and_self, cond_true, AHeap.set_set, Array.size_setIfInBounds]; omega)) <|
          OSuf.nil <| SQ.normal ?_
      refine W.yes (by simp only [lk] <;> rfl) <| CWp.exit <| SQ.exit <| BQ.out rfl <| LQ.exit <| BQ.exit <| ?_
      -- leaf: cut
      refine NQ.normal (L := [(0, sl r N), (1, I64 a), (11, I64 j2)]) ?_ ⟨j2, d1, hs1, by omega, by omega, hloop.symm, rfl, rfl⟩
      simp only [HasA, Tr.get_put, Nat.reduceEqDiff, reduceIte, and_self]
    · rw [if_neg (by omega)] at hloop
      have hlt2 := hne (by omega)
      have w3 : IntKind.i64.wrap ((i2 : Int) + 1) = ((i2 + 1 : Nat) : Int) := by rw [wrap_i64 (by omega) (by omega)]; omega
      have w4 : IntKind.i64.wrap ((j2 : Int) - 1) = ((j2 - 1 : Nat) : Int) := by rw [wrap_i64 (by omega) (by omega)]; omega
      refine SQ.normal <| CWp.known ha ?_
      simp only [mkA]
      refine W.seq <| W.seq <| W.reg <| 
          OSuf.aop tyOK rfl (so_move (by simp only [lk] <;> rfl)) rfl <|
          OSuf.aop tyOK rfl (so_move (by simp only [lk] <;> rfl)) rfl <|
          OSuf.aopF tyOK rfl (so_bin (by simp only [lk] <;> rfl) (by simp only [lk] <;> rfl) bi_gtr) (fun _ => rfl) (by first | rfl | assumption | ((simp only [bl, if_pos, Int.toNat_natCast, Nat.mul_one, Nat.zero_add, rg, rs, rb, Value.cells, List.length_cons, List.length_nil, oneCells, List.all_cons, List.all_nil, Value.oneCell', Bool.and_self, cond_true, AHeap.set_set, Array.size_setIfInBounds]) <;> first | done | assumption | omega) | (simp [if_pos, Int.toNat_natCast, Nat.mul_one, Nat.zero_add, rg, rs, rb, Value.cells, List.length_cons, List.length_nil, oneCells, List.all_cons, List.all_nil, Value.oneCell', Bool.and_self, cond_true, AHeap.set_set, Array.size_setIfInBounds]; done) | (simp [if_pos, Int.toNat_natCast, Nat.mul_one, Nat.zero_add, rg, rs, rb, Value.cells, List.length_cons, List.length_nil, oneCells, List.all_cons, List.all_nil, Value.oneCell', Bool.and_self, cond_true, AHeap.set_set, Array.size_setIfInBounds]; omega)) <|
          OSuf.nil <| SQ.normal ?_
      refine W.no (by simp only [lk] <;> rfl) <| CWp.skip <| SQ.normal ?_
      refine W.seq <| W.regD tyOK mixed (by kernel_rfl) <| 
          SqW.aop rfl (so_move (by simp only [lk] <;> rfl)) rfl <|
          SqW.aop rfl (so_move (by simp only [lk] <;> rfl)) rfl <|
          SqW.aop rfl (so_move (by simp only [lk] <;> rfl)) rfl <|
          SqW.aop rfl (so_move (by simp only [lk] <;> rfl)) rfl <|
          SqW.aop rfl (so_move (by simp only [lk] <;> rfl)) rfl <|
          SqW.aop rfl (so_move (by simp only [lk] <;> rfl)) rfl <|
          SqW.aop rfl (so_indexAddr (by simp only [lk] <;> rfl) (by simp only [lk] <;> rfl) (by simp (disch := first | assumption | omega | (simp only [nx] <;> omega) | fail) only [aIndexAddr, ty85, ty9, hpl, if_pos, Int.toNat_natCast, Nat.mul_one, Nat.zero_add, rg, rs, rb, Value.cells, List.length_cons, List.length_nil, oneCells, List.all_cons, List.all_nil, Value.oneCell', Bool.and_self, cond_true, AHeap.set_set, Array.size_setIfInBounds] <;> rfl)) rfl <|
          SqW.aop rfl (so_load (by simp only [lk] <;> rfl) (by simp (disch := first | assumption | omega | (simp only [nx] <;> omega) | fail) only [aLoad, ty9, rowOf, hpl, if_pos, Int.toNat_natCast, Nat.mul_one, Nat.zero_add, rg, rs, rb, Value.cells, List.length_cons, List.length_nil, oneCells, List.all_cons, List.all_nil, Value.oneCell', Bool.and_self, cond_true, AHeap.set_set, Array.size_setIfInBounds] <;> rfl)) rfl <|
          SqW.aop rfl (so_move (by simp only [lk] <;> rfl)) rfl <|
          SqW.aop rfl (so_move (by simp only [lk] <;> rfl)) rfl <|
          SqW.aop rfl (so_indexAddr (by simp only [lk] <;> rfl) (by simp only [lk] <;> rfl) (by simp (disch := first | assumption | omega | (simp only [nx] <;> omega) | fail) only [aIndexAddr, ty85, ty9, hpl, if_pos, Int.toNat_natCast, Nat.mul_one, Nat.zero_add, rg, rs, rb, Value.cells, List.length_cons, List.length_nil, oneCells, List.all_cons, List.all_nil, Value.oneCell', Bool.and_self, cond_true, AHeap.set_set, Array.size_setIfInBounds] <;> rfl)) rfl <|
          SqW.aop rfl (so_load (by simp only [lk] <;> rfl) (by simp (disch := first | assumption | omega | (simp only [nx] <;> omega) | fail) only [aLoad, ty9, rowOf, hpl, if_pos, Int.toNat_natCast, Nat.mul_one, Nat.zero_add, rg, rs, rb, Value.cells, List.length_cons, List.length_nil, oneCells, List.all_cons, List.all_nil, Value.oneCell', Bool.and_self, cond_true, AHeap.set_set, Array.size_setIfInBounds] <;> rfl)) rfl <|
          SqW.aop rfl (so_indexAddr (by simp only [lk] <;> rfl) (by simp only [lk] <;> rfl) (by simp (disch := first | assumption | omega | (simp only [nx] <;> omega) | fail) only [aIndexAddr, ty85, ty9, hpl, if_pos, Int.toNat_natCast, Nat.mul_one, Nat.zero_add, rg, rs, rb, Value.cells, List.length_cons, List.length_nil, oneCells, List.all_cons, List.all_nil, Value.oneCell', Bool.and_self, cond_true, AHeap.set_set, Array.size_setIfInBounds] <;> rfl)) rfl <|
          SqW.aop rfl (so_store (by simp only [lk] <;> rfl) (by simp only [lk] <;> rfl) (by simp (disch := first | assumption | omega | (simp only [nx] <;> omega) | fail) only [aStore, ty9, writeRow, hpl, if_pos, Int.toNat_natCast, Nat.mul_one, Nat.zero_add, rg, rs, rb, Value.cells, List.length_cons, List.length_nil, oneCells, List.all_cons, List.all_nil, Value.oneCell', Bool.and_self, cond_true, AHeap.set_set, Array.size_setIfInBounds] <;> rfl)) rfl <|
          SqW.aop rfl (so_indexAddr (by simp only [lk] <;> rfl) (by simp only [lk] <;> rfl) (by simp (disch := first | assumption | omega | (simp only [nx] <;> omega) | fail) only [aIndexAddr, ty85, ty9, hpl, if_pos, Int.toNat_natCast, Nat.mul_one, Nat.zero_add, rg, rs, rb, Value.cells, List.length_cons, List.length_nil, oneCells, List.all_cons, List.all_nil, Value.oneCell', Bool.and_self, cond_true, AHeap.set_set, Array.size_setIfInBounds] <;> rfl)) rfl <|
          SqW.aop rfl (so_store (by simp only [lk] <;> rfl) (by simp only [lk] <;> rfl) (by simp (disch := first | assumption | omega | (simp only [nx] <;> omega) | fail) only [aStore, ty9, writeRow, hpl, if_pos, Int.toNat_natCast, Nat.mul_one, Nat.zero_add, rg, rs, rb, Value.cells, List.length_cons, List.length_nil, oneCells, List.all_cons, List.all_nil, Value.oneCell', Bool.and_self, cond_true, AHeap.set_set, Array.size_setIfInBounds] <;> rfl)) rfl <|
          SqW.nil <| SQ.normal ?_
      refine W.seq <| W.reg <| 
          OSuf.aop tyOK rfl (so_move (by simp only [lk] <;> rfl)) rfl <|
          OSuf.aop tyOK rfl (so_bin (by simp only [lk] <;> rfl) (by simp only [lk] <;> rfl) (bi_w bi_add (by first | (simp only [w3, w4] <;> rfl) | rfl))) rfl <|
          OSuf.aop tyOK rfl (so_assign (by simp only [lk] <;> rfl)) rfl <|
          OSuf.nil <| SQ.normal ?_
      refine W.reg <| 
          OSuf.aop tyOK rfl (so_move (by simp only [lk] <;> rfl)) rfl <|
          OSuf.aop tyOK rfl (so_bin (by simp only [lk] <;> rfl) (by simp only [lk] <;> rfl) (bi_w bi_sub (by first | (simp only [w3, w4] <;> rfl) | rfl))) rfl <|
          OSuf.aop tyOK rfl (so_assign (by simp only [lk] <;> rfl)) rfl <|
          OSuf.nil <| BQ.normal <| ?_
      -- leaf: round
      refine LQ.normal (m := (j2 - 1) + 1 - (i2 + 1)) (L := [(0, sl r N), (1, I64 a), (10, I64 (i2 + 1 : Nat)), (11, I64 (j2 - 1 : Nat))]) (by omega) ?_ ⟨i2 + 1, j2 - 1, swp d1 i2 j2, rfl, by omega, by omega, by omega, swp_sz hs1, hloop, rfl, rfl⟩
      simp only [HasA, Tr.get_put, Nat.reduceEqDiff, reduceIte, and_self]
  rintro L a' h1 ha ⟨j, dk, hdk, hja, hjb, hlp, rfl, rfl⟩
  rw [hlp]
  refine SQ.normal <| CWp.known ha ?_
  simp only [mkA]
  refine W.seq <| W.regD tyOK mixed (by kernel_rfl) <| 
      SqW.aop rfl (so_move (by simp only [lk] <;> rfl)) rfl <|
      SqW.aop rfl (so_move (by simp only [lk] <;> rfl)) rfl <|
      SqW.aop rfl (so_move (by simp only [lk] <;> rfl)) rfl <|
      SqW.aop rfl (so_move (by simp only [lk] <;> rfl)) rfl <|
      SqW.aop rfl (so_move (by simp only [lk] <;> rfl)) rfl <|
      SqW.aop rfl (so_move (by simp only [lk] <;> rfl)) rfl <|
      SqW.aop rfl (so_indexAddr (by simp only [lk] <;> rfl) (by simp only [lk] <;> rfl) (by simp (disch := first | assumption | omega | (simp only [nx] <;> omega) | fail) only [aIndexAddr, ty85, ty9, hpl, if_pos, Int.toNat_natCast, Nat.mul_one, Nat.zero_add, rg, rs, rb, Value.cells, List.length_cons, List.length_nil, oneCells, List.all_cons, List.all_nil, Value.oneCell', Bool.and_self, cond_true, AHeap.set_set, Array.size_setIfInBounds] <;> rfl)) rfl <|
      SqW.aop rfl (so_load (by simp only [lk] <;> rfl) (by simp (disch := first | assumption | omega | (simp only [nx] <;> omega) | fail) only [aLoad, ty9, rowOf, hpl, if_pos, Int.toNat_natCast, Nat.mul_one, Nat.zero_add, rg, rs, rb, Value.cells, List.length_cons, List.length_nil, oneCells, List.all_cons, List.all_nil, Value.oneCell', Bool.and_self, cond_true, AHeap.set_set, Array.size_setIfInBounds] <;> rfl)) rfl <|
      SqW.aop rfl (so_move (by simp only [lk] <;> rfl)) rfl <|
      SqW.aop rfl (so_move (by simp only [lk] <;> rfl)) rfl <|
      SqW.aop rfl (so_indexAddr (by simp only [lk] <;> rfl) (by simp only [lk] <;> rfl) (by simp (disch := first | assumption | omega | (simp only [nx] <;> omega) | fail) only [aIndexAddr, ty85, ty9, hpl, if_pos, Int.toNat_natCast, Nat.mul_one, Nat.zero_add, rg, rs, rb, Value.cells, List.length_cons, List.length_nil, oneCells, List.all_cons, List.all_nil, Value.oneCell', Bool.and_self, cond_true, AHeap.set_set, Array.size_setIfInBounds] <;> rfl)) rfl <|
      SqW.aop rfl (so_load (by simp only [lk] <;> rfl) (by simp (disch := first | assumption | omega | (simp only [nx] <;> omega) | fail) only [aLoad, ty9, rowOf, hpl, if_pos, Int.toNat_natCast, Nat.mul_one, Nat.zero_add, rg, rs, rb, Value.cells, List.length_cons, List.length_nil, oneCells, List.all_cons, List.all_nil, Value.oneCell', Bool.and_self, cond_true, AHeap.set_set, Array.size_setIfInBounds] <;> rfl)) rfl <|
      SqW.aop rfl (so_indexAddr (by simp only [lk] <;> rfl) (by simp only [lk] <;> rfl) (by simp (disch := first | assumption | omega | (simp only [nx] <;> omega) | fail) only [aIndexAddr, ty85, ty9, hpl, if_pos, Int.toNat_natCast, Nat.mul_one, Nat.zero_add, rg, rs, rb, Value.cells, List.length_cons, List.length_nil, oneCells, List.all_cons, List.all_nil, Value.oneCell', Bool.and_self, cond_true, AHeap.set_set, Array.size_setIfInBounds] <;> rfl)) rfl <|
      SqW.aop rfl (so_store (by simp only [lk] <;> rfl) (by simp only [lk] <;> rfl) (by simp (disch := first | assumption | omega | (simp only [nx] <;> omega) | fail) only [aStore, ty9, writeRow, hpl, if_pos, Int.toNat_natCast, Nat.mul_one, Nat.zero_add, rg, rs, rb, Value.cells, List.length_cons, List.length_nil, oneCells, List.all_cons, List.all_nil, Value.oneCell', Bool.and_self, cond_true, AHeap.set_set, Array.size_setIfInBounds] <;> rfl)) rfl <|
      SqW.aop rfl (so_indexAddr (by simp only [lk] <;> rfl) (by simp only [lk] <;> rfl) (by simp (disch := first | assumption | omega | (simp only [nx] <;> omega) | fail) only [aIndexAddr, ty85, ty9, hpl, if_pos, Int.toNat_natCast, Nat.mul_one, Nat.zero_add, rg, rs, rb, Value.cells, List.length_cons, List.length_nil, oneCells, List.all_cons, List.all_nil, Value.oneCell', Bool.and_self, cond_true, AHeap.set_set, Array.size_setIfInBounds] <;> rfl)) rfl <|
      SqW.aop rfl (so_store (by simp only [lk] <;> rfl) (by simp only [lk] <;> rfl) (by simp (disch := first | assumption | omega | (simp only [nx] <;> omega) | fail) only [aStore, ty9, writeRow, hpl, if_pos, Int.toNat_natCast, Nat.mul_one, Nat.zero_add, rg, rs, rb, Value.cells, List.length_cons, List.length_nil, oneCells, List.all_cons, List.all_nil, Value.oneCell', Bool.and_self, cond_true, AHeap.set_set, Array.size_setIfInBounds] <;> rfl)) rfl <|
      SqW.nil <| SQ.normal ?_
  refine W.seq <| W.reg <| 
      OSuf.aop tyOK rfl (so_move (by simp only [lk] <;> rfl)) rfl <|
      OSuf.aop tyOK rfl (so_assign (by simp only [lk] <;> rfl)) rfl <|
      OSuf.aopF tyOK rfl (so_assign (by simp only [lk] <;> rfl)) (fun _ => rfl) rfl <|
      OSuf.nil <| SQ.normal ?_
  refine CWp.ret <| FQ.ret (by simp only [aRet, Tryz.f101, aResults, aResult, lk, Nat.reduceEqDiff, reduceIte] <;> rfl) ?_
  -- leaf: end
  exact ⟨rfl, rfl⟩

theorem partEq_c (h : AHeap) (r N : Nat) (d : Array El) (hN : d.size = N) (a b pivot : Nat) (hap : a ≤ pivot) (hpb : pivot < b) (hb : b ≤ N) (hsz : N < 1000000000) :
    FWp Tryz.prog 100 [sl r N, I64 a, I64 b, I64 pivot] (h.set r (row d)) fun u h' => u = I64 (partitionEqual lt d a b pivot).1 ∧ h' = h.set r (row (partitionEqual lt d a b pivot).2) := by
  obtain ⟨e2, he2⟩ : ∃ d1, d1 = swp d a pivot := ⟨_, rfl⟩
  have hse : e2.size = N := by rw [he2]; exact swp_sz hN
  have hpart : partitionEqual lt d a b pivot = partEqLoop lt a (a + 1) (b - 1) e2 := by rw [he2]; rfl
  rw [hpart]
  refine W.enter tyOK Tryz.func100 rfl rfl ?_
  simp only [entry]
  have w1 : IntKind.i64.wrap ((a : Int) + 1) = ((a + 1 : Nat) : Int) := by rw [wrap_i64 (by omega) (by omega)]; omega
  have w2 : IntKind.i64.wrap ((b : Int) - 1) = ((b - 1 : Nat) : Int) := by rw [wrap_i64 (by omega) (by omega)]; omega
  refine W.seq <| W.reg <| 
      OSuf.aop tyOK rfl (so_assign (by simp only [lk] <;> rfl)) rfl <|
      OSuf.nil <| SQ.normal ?_
  refine W.seq <| W.regD tyOK mixed (by kernel_rfl) <| 
      SqW.aop rfl (so_move (by simp only [lk] <;> rfl)) rfl <|
      SqW.aop rfl (so_move (by simp only [lk] <;> rfl)) rfl <|
      SqW.aop rfl (so_move (by simp only [lk] <;> rfl)) rfl <|
      SqW.aop rfl (so_move (by simp only [lk] <;> rfl)) rfl <|
      SqW.aop rfl (so_move (by simp only [lk] <;> rfl)) rfl <|
      SqW.aop rfl (so_move (by simp only [lk] <;> rfl)) rfl <|
      SqW.aop rfl (so_indexAddr (by simp only [lk] <;> rfl) (by simp only [lk] <;> rfl) (by simp (disch := first | assumption | omega | (simp only [nx] <;> omega) | fail) only [aIndexAddr, ty85, ty9, hpl, if_pos, Int.toNat_natCast, Nat.mul_one, Nat.zero_add, rg, rs, rb, Value.cells, List.length_cons, List.length_nil, oneCells, List.all_cons, List.all_nil, Value.oneCell', Bool.and_self, cond_true, AHeap.set_set, Array.size_setIfInBounds] <;> rfl)) rfl <|
      SqW.aop rfl (so_load (by simp only [lk] <;> rfl) (by simp (disch := first | assumption | omega | (simp only [nx] <;> omega) | fail) only [aLoad, ty9, rowOf, hpl, if_pos, Int.toNat_natCast, Nat.mul_one, Nat.zero_add, rg, rs, rb, Value.cells, List.length_cons, List.length_nil, oneCells, List.all_cons, List.all_nil, Value.oneCell', Bool.and_self, cond_true, AHeap.set_set, Array.size_setIfInBounds] <;> rfl)) rfl <|
      SqW.aop rfl (so_move (by simp only [lk] <;> rfl)) rfl <|
      SqW.aop rfl (so_move (by simp only [lk] <;> rfl)) rfl <|
      SqW.aop rfl (so_indexAddr (by simp only [lk] <;> rfl) (by simp only [lk] <;> rfl) (by simp (disch := first | assumption | omega | (simp only [nx] <;> omega) | fail) only [aIndexAddr, ty85, ty9, hpl, if_pos, Int.toNat_natCast, Nat.mul_one, Nat.zero_add, rg, rs, rb, Value.cells, List.length_cons, List.length_nil, oneCells, List.all_cons, List.all_nil, Value.oneCell', Bool.and_self, cond_true, AHeap.set_set, Array.size_setIfInBounds] <;> rfl)) rfl <|
      SqW.aop rfl (so_load (by simp only [lk] <;> rfl) (by simp (disch := first | assumption | omega | (simp only [nx] <;> omega) | fail) only [aLoad, ty9, rowOf, hpl, if_pos, Int.toNat_natCast, Nat.mul_one, Nat.zero_add, rg, rs, rb, Value.cells, List.length_cons, List.length_nil, oneCells, List.all_cons, List.all_nil, Value.oneCell', Bool.and_self, cond_true, AHeap.set_set, Array.size_setIfInBounds] <;> rfl)) rfl <|
      SqW.aop rfl (so_indexAddr (by simp only [lk] <;> rfl) (by simp only [lk] <;> rfl) (by simp (disch := first | assumption | omega | (simp only [nx] <;> omega) | fail) only [aIndexAddr, ty85, ty9, hpl, if_pos, Int.toNat_natCast, Nat.mul_one, Nat.zero_add, rg, rs, rb, Value.cells, List.length_cons, List.length_nil, oneCells, List.all_cons, List.all_nil, Value.oneCell', Bool.and_self, cond_true, AHeap.set_set, Array.size_setIfInBounds] <;> rfl)) rfl <|
      SqW.aop rfl (so_store (by simp only [lk] <;> rfl) (by simp only [lk] <;> rfl) (by simp (disch := first | assumption | omega | (simp only [nx] <;> omega) | fail) only [aStore, ty9, writeRow, hpl, if_pos, Int.toNat_natCast, Nat.mul_one, Nat.zero_add, rg, rs, rb, Value.cells, List.length_cons, List.length_nil, oneCells, List.all_cons, List.all_nil, Value.oneCell', Bool.and_self, cond_true, AHeap.set_set, Array.size_setIfInBounds] <;> rfl)) rfl <|
      SqW.aop rfl (so_indexAddr (by simp only [lk] <;> rfl) (by simp only [lk] <;> rfl) (by simp (disch := first | assumption | omega | (simp only [nx] <;> omega) | fail) only [aIndexAddr, ty85, ty9, hpl, if_pos, Int.toNat_natCast, Nat.mul_one, Nat.zero_add, rg, rs, rb, Value.cells, List.length_cons, List.length_nil, oneCells, List.all_cons, List.all_nil, Value.oneCell', Bool.and_self, cond_true, AHeap.set_set, Array.size_setIfInBounds] <;> rfl)) rfl <|
      SqW.aop rfl (so_store (by simp only [lk] <;> rfl) (by simp only [lk] <;> rfl) (by simp (disch := first | assumption | omega | (simp only [nx] <;> omega) | fail) only [aStore, ty9, writeRow, hpl, if_pos, Int.toNat_natCast, Nat.mul_one, Nat.zero_add, rg, rs, rb, Value.cells, List.length_cons, List.length_nil, oneCells, List.all_cons, List.all_nil, Value.oneCell', Bool.and_self, cond_true, AHeap.set_set, Array.size_setIfInBounds] <;> rfl)) rfl <|
      SqW.nil <| SQ.normal ?_
  refine W.seq <| W.reg <| 
      OSuf.aop tyOK rfl (so_move (by simp only [lk] <;> rfl)) rfl <|
      OSuf.aop tyOK rfl (so_bin (by simp only [lk] <;> rfl) (by simp only [lk] <;> rfl) (bi_w bi_add (by first | (simp only [w1, w2] <;> rfl) | rfl))) rfl <|
      OSuf.aop tyOK rfl (so_move (by simp only [lk] <;> rfl)) rfl <|
      OSuf.aop tyOK rfl (so_bin (by simp only [lk] <;> rfl) (by simp only [lk] <;> rfl) (bi_w bi_sub (by first | (simp only [w1, w2] <;> rfl) | rfl))) rfl <|
      OSuf.aop tyOK rfl (so_assign (by simp only [lk] <;> rfl)) rfl <|
      OSuf.aop tyOK rfl (so_assign (by simp only [lk] <;> rfl)) rfl <|
      OSuf.nil <| SQ.normal ?_
  refine W.seq <| ?_
  -- leaf: loop
  rw [show (d.setIfInBounds a d[pivot]!).setIfInBounds pivot d[a]! = e2 from he2.symm]
  refine W.cut (fun L h' => ∃ (i : Nat) (dk : Array El), dk.size = N ∧ partEqLoop lt a (a + 1) (b - 1) e2 = (i, dk) ∧ h' = h.set r (row dk) ∧ L = [(9, I64 i)])
    (W.block (W.loop (fun n L h' => ∃ (i j : Nat) (dk : Array El), n = j + 1 - i ∧ a < i ∧ i ≤ j + 1 ∧ j < b ∧ dk.size = N ∧ partEqLoop lt a i j dk = partEqLoop lt a (a + 1) (b - 1) e2 ∧ h' = h.set r (row dk) ∧
      L = [(0, sl r N), (1, I64 a), (9, I64 i), (10, I64 j)]) (n := b - 1 + 1 - (a + 1)) ⟨a + 1, b - 1, e2, rfl, by omega, by omega, by omega, hse, rfl, rfl, rfl⟩ ?_ ?_)) ?_
  · simp [HasA, Tr.get_put]
  · rintro n L h1 ⟨i0, j0, d1, rfl, k4, k5, k6, hs1, hloop, rfl, rfl⟩
    simp only [mkA]
    refine W.block <| W.seq <| ?_
    -- leaf: loop
    rw [partEqLoop_eq] at hloop
    refine W.cut (fun L h' => h' = h.set r (row d1) ∧ L = [(0, sl r N), (1, I64 a), (9, I64 (scanUp (fun x => !lt d1[a]! x) d1 j0 i0 : Nat)), (10, I64 j0)])
      (W.block (W.loop (fun n L h' => ∃ i : Nat, n = j0 + 1 - i ∧ 1 ≤ i ∧ i ≤ j0 + 1 ∧ scanUp (fun x => !lt d1[a]! x) d1 j0 i = scanUp (fun x => !lt d1[a]! x) d1 j0 i0 ∧ h' = h.set r (row d1) ∧ L = [(0, sl r N), (1, I64 a), (9, I64 i), (10, I64 j0)]) (n := j0 + 1 - i0) ⟨i0, rfl, by omega, by omega, rfl, rfl, rfl⟩ ?_ ?_)) ?_
    · simp [HasA, Tr.get_put]
    · rintro n L h1 ⟨i, rfl, hi1, hi2, heq, rfl, rfl⟩
      simp only [mkA]
      have w1 : IntKind.i64.wrap ((i : Int) + 1) = ((i + 1 : Nat) : Int) := by rw [wrap_i64 (by omega) (by omega)]; omega
      by_cases hij : (i : Int) ≤ (j0 : Int)
      · cases hl : lt d1[a]! d1[i]!
        · refine W.seq <| W.seq <| W.regD tyOK mixed (by kernel_rfl) <| 
              SqW.aop rfl (so_move (by simp only [lk] <;> rfl)) rfl <|
              SqW.aop rfl (so_move (by simp only [lk] <;> rfl)) rfl <|
              SqW.aopT rfl (so_bin (by simp only [lk] <;> rfl) (by simp only [lk] <;> rfl) bi_leq) (fun _ => rfl) (by first | rfl | assumption | ((simp only [bl, if_pos, Int.toNat_natCast, Nat.mul_one, Nat.zero_add, rg, rs, rb, Value.cells, List.length_cons, List.length_nil, oneCells, List.all_cons, List.all_nil, Value.oneCell', Bool.and_self, cond_true, AHeap.set_set, Array.size_setIfInBounds]) <;> first | done | assumption | omega) | (simp [if_pos, Int.toNat_natCast, Nat.mul_one, Nat.zero_add, rg, rs, rb, Value.cells, List.length_cons, List.length_nil, oneCells, List.all_cons, List.all_nil, Value.oneCell', Bool.and_self, cond_true, AHeap.set_set, Array.size_setIfInBounds]; done) | (simp [if_pos, Int.toNat_natCast, Nat.mul_one, Nat.zero_add, rg, rs, rb, Value.cells, List.length_cons, List.length_nil, oneCells, List.all_cons, List.all_nil, Value.oneCell', Bool.and_self, cond_true, AHeap.set_set, Array.size_setIfInBounds]; omega)) <|
              SqW.aopT rfl (so_move (by simp only [lk] <;> rfl)) (fun _ => rfl) rfl <|
              SqW.aop (aguard_of rfl rfl (by simp only [lk] <;> rfl) rfl) (so_move (by simp only [lk] <;> rfl)) rfl <|
              SqW.aop (aguard_of rfl rfl (by simp only [lk] <;> rfl) rfl) (so_move (by simp only [lk] <;> rfl)) rfl <|
              SqW.aop (aguard_of rfl rfl (by simp only [lk] <;> rfl) rfl) (so_indexAddr (by simp only [lk] <;> rfl) (by simp only [lk] <;> rfl) (by simp (disch := first | assumption | omega | (simp only [nx] <;> omega) | fail) only [aIndexAddr, ty85, ty9, hpl, if_pos, Int.toNat_natCast, Nat.mul_one, Nat.zero_add, rg, rs, rb, Value.cells, List.length_cons, List.length_nil, oneCells, List.all_cons, List.all_nil, Value.oneCell', Bool.and_self, cond_true, AHeap.set_set, Array.size_setIfInBounds] <;> rfl)) rfl <|
              SqW.aop (aguard_of rfl rfl (by simp only [lk] <;> rfl) rfl) (so_load (by simp only [lk] <;> rfl) (by simp (disch := first | assumption | omega | (simp only [nx] <;> omega) | fail) only [aLoad, ty9, rowOf, hpl, if_pos, Int.toNat_natCast, Nat.mul_one, Nat.zero_add, rg, rs, rb, Value.cells, List.length_cons, List.length_nil, oneCells, List.all_cons, List.all_nil, Value.oneCell', Bool.and_self, cond_true, AHeap.set_set, Array.size_setIfInBounds] <;> rfl)) rfl <|
              SqW.aop (aguard_of rfl rfl (by simp only [lk] <;> rfl) rfl) (so_move (by simp only [lk] <;> rfl)) rfl <|
              SqW.aop (aguard_of rfl rfl (by simp only [lk] <;> rfl) rfl) (so_move (by simp only [lk] <;> rfl)) rfl <|
              SqW.aop (aguard_of rfl rfl (by simp only [lk] <;> rfl) rfl) (so_indexAddr (by simp only [lk] <;> rfl) (by simp only [lk] <;> rfl) (by simp (disch := first | assumption | omega | (simp only [nx] <;> omega) | fail) only [aIndexAddr, ty85, ty9, hpl, if_pos, Int.toNat_natCast, Nat.mul_one, Nat.zero_add, rg, rs, rb, Value.cells, List.length_cons, List.length_nil, oneCells, List.all_cons, List.all_nil, Value.oneCell', Bool.and_self, cond_true, AHeap.set_set, Array.size_setIfInBounds] <;> rfl)) rfl <|
              SqW.aop (aguard_of rfl rfl (by simp only [lk] <;> rfl) rfl) (so_load (by simp only [lk] <;> rfl) (by simp (disch := first | assumption | omega | (simp only [nx] <;> omega) | fail) only [aLoad, ty9, rowOf, hpl, if_pos, Int.toNat_natCast, Nat.mul_one, Nat.zero_add, rg, rs, rb, Value.cells, List.length_cons, List.length_nil, oneCells, List.all_cons, List.all_nil, Value.oneCell', Bool.and_self, cond_true, AHeap.set_set, Array.size_setIfInBounds] <;> rfl)) rfl <|
              SqW.callD (aguard_of rfl rfl (by simp only [lk] <;> rfl) rfl) (by simp only [aopnds, lk] <;> rfl) en99 (less_c _ _ _ _ hl) rfl <|
              SqW.aopT (aguard_of rfl rfl (by simp only [lk] <;> rfl) rfl) (so_not (by simp only [lk] <;> rfl)) (fun _ => rfl) rfl <|
              SqW.aopT rfl (so_pick (by simp only [lk] <;> rfl) (by simp only [lk, cond_true, cond_false] <;> rfl)) (fun _ => rfl) rfl <|
              SqW.nil <| SQ.normal ?_
          refine W.yes (by simp only [lk] <;> rfl) <| CWp.skip <| SQ.normal ?_
          refine W.block <| W.reg <| 
              OSuf.aop tyOK rfl (so_move (by simp only [lk] <;> rfl)) rfl <|
              OSuf.aop tyOK rfl (so_bin (by simp only [lk] <;> rfl) (by simp only [lk] <;> rfl) (bi_w bi_add (by first | (simp only [w1] <;> rfl) | rfl))) rfl <|
              OSuf.aop tyOK rfl (so_assign (by simp only [lk] <;> rfl)) rfl <|
              OSuf.nil <| BQ.normal <| ?_
          -- leaf: round
          refine LQ.normal (m := j0 + 1 - (i + 1)) (L := [(0, sl r N), (1, I64 a), (9, I64 (i + 1 : Nat)), (10, I64 j0)]) (by omega) ?_ ⟨i + 1, rfl, by omega, by omega, ?_, rfl, rfl⟩
          · simp only [HasA, Tr.get_put, Nat.reduceEqDiff, reduceIte, and_self]
          · rw [← heq]; exact (up_eq (by omega) (by simp [hl])).symm
        · refine W.seq <| W.seq <| W.regD tyOK mixed (by kernel_rfl) <| 
              SqW.aop rfl (so_move (by simp only [lk] <;> rfl)) rfl <|
              SqW.aop rfl (so_move (by simp only [lk] <;> rfl)) rfl <|
              SqW.aopT rfl (so_bin (by simp only [lk] <;> rfl) (by simp only [lk] <;> rfl) bi_leq) (fun _ => rfl) (by first | rfl | assumption | ((simp only [bl, if_pos, Int.toNat_natCast, Nat.mul_one, Nat.zero_add, rg, rs, rb, Value.cells, List.length_cons, List.length_nil, oneCells, List.all_cons, List.all_nil, Value.oneCell', Bool.and_self, cond_true, AHeap.set_set, Array.size_setIfInBounds]) <;> first | done | assumption | omega) | (simp [if_pos, Int.toNat_natCast, Nat.mul_one, Nat.zero_add, rg, rs, rb, Value.cells, List.length_cons, List.length_nil, oneCells, List.all_cons, List.all_nil, Value.oneCell', Bool.and_self, cond_true, AHeap.set_set, Array.size_setIfInBounds]; done) | (simp [if_pos, Int.toNat_natCast, Nat.mul_one, Nat.zero_add, rg, rs, rb, Value.cells, List.length_cons, List.length_nil, oneCells, List.all_cons, List.all_nil, Value.oneCell', Bool.and_self, cond_true, AHeap.set_set, Array.size_setIfInBounds]; omega)) <|
              SqW.aopT rfl (so_move (by simp only [lk] <;> rfl)) (fun _ => rfl) rfl <|
              SqW.aop (aguard_of rfl rfl (by simp only [lk] <;> rfl) rfl) (so_move (by simp only [lk] <;> rfl)) rfl <|
              SqW.aop (aguard_of rfl rfl (by simp only [lk] <;> rfl) rfl) (so_move (by simp only [lk] <;> rfl)) rfl <|
              SqW.aop (aguard_of rfl rfl (by simp only [lk] <;> rfl) rfl) (so_indexAddr (by simp only [lk] <;> rfl) (by simp only [lk] <;> rfl) (by simp (disch := first | assumption | omega | (simp only [nx] <;> omega) | fail) only [aIndexAddr, ty85, ty9, hpl, if_pos, Int.toNat_natCast, Nat.mul_one, Nat.zero_add, rg, rs, rb, Value.cells, List.length_cons, List.length_nil, oneCells, List.all_cons, List.all_nil, Value.oneCell', Bool.and_self, cond_true, AHeap.set_set, Array.size_setIfInBounds] <;> rfl)) rfl <|
              SqW.aop (aguard_of rfl rfl (by simp only [lk] <;> rfl) rfl) (so_load (by simp only [lk] <;> rfl) (by simp (disch := first | assumption | omega | (simp only [nx] <;> omega) | fail) only [aLoad, ty9, rowOf, hpl, if_pos, Int.toNat_natCast, Nat.mul_one, Nat.zero_add, rg, rs, rb, Value.cells, List.length_cons, List.length_nil, oneCells, List.all_cons, List.all_nil, Value.oneCell', Bool.and_self, cond_true, AHeap.set_set, Array.size_setIfInBounds] <;> rfl)) rfl <|
              SqW.aop (aguard_of rfl rfl (by simp only [lk] <;> rfl) rfl) (so_move (by simp only [lk] <;> rfl)) rfl <|
              SqW.aop (aguard_of rfl rfl (by simp only [lk] <;> rfl) rfl) (so_move (by simp only [lk] <;> rfl)) rfl <|
              SqW.aop (aguard_of rfl rfl (by simp only [lk] <;> rfl) rfl) (so_indexAddr (by simp only [lk] <;> rfl) (by simp only [lk] <;> rfl) (by simp (disch := first | assumption | omega | (simp only [nx] <;> omega) | fail) only [aIndexAddr, ty85, ty9, hpl, if_pos, Int.toNat_natCast, Nat.mul_one, Nat.zero_add, rg, rs, rb, Value.cells, List.length_cons, List.length_nil, oneCells, List.all_cons, List.all_nil, Value.oneCell', Bool.and_self, cond_true, AHeap.set_set, Array.size_setIfInBounds] <;> rfl)) rfl <|
              SqW.aop (aguard_of rfl rfl (by simp only [lk] <;> rfl) rfl) (so_load (by simp only [lk] <;> rfl) (by simp (disch := first | assumption | omega | (simp only [nx] <;> omega) | fail) only [aLoad, ty9, rowOf, hpl, if_pos, Int.toNat_natCast, Nat.mul_one, Nat.zero_add, rg, rs, rb, Value.cells, List.length_cons, List.length_nil, oneCells, List.all_cons, List.all_nil, Value.oneCell', Bool.and_self, cond_true, AHeap.set_set, Array.size_setIfInBounds] <;> rfl)) rfl <|
              SqW.callD (aguard_of rfl rfl (by simp only [lk] <;> rfl) rfl) (by simp only [aopnds, lk] <;> rfl) en99 (less_c _ _ _ _ hl) rfl <|
              SqW.aopF (aguard_of rfl rfl (by simp only [lk] <;> rfl) rfl) (so_not (by simp only [lk] <;> rfl)) (fun _ => rfl) rfl <|
              SqW.aopF rfl (so_pick (by simp only [lk] <;> rfl) (by simp only [lk, cond_true, cond_false] <;> rfl)) (fun _ => rfl) rfl <|
              SqW.nil <| SQ.normal ?_
          refine W.no (by simp only [lk] <;> rfl) <| CWp.exit <| SQ.exit <| LQ.exit <| BQ.exit <| ?_
          -- leaf: cut
          refine NQ.normal (L := [(0, sl r N), (1, I64 a), (9, I64 i), (10, I64 j0)]) ?_ ⟨rfl, ?_⟩
          · simp only [HasA, Tr.get_put, Nat.reduceEqDiff, reduceIte, and_self]
          · rw [← heq, up_stop (.inr (by simp [hl]))]
      · refine W.seq <| W.seq <| W.regD tyOK mixed (by kernel_rfl) <| 
            SqW.aop rfl (so_move (by simp only [lk] <;> rfl)) rfl <|
            SqW.aop rfl (so_move (by simp only [lk] <;> rfl)) rfl <|
            SqW.aopF rfl (so_bin (by simp only [lk] <;> rfl) (by simp only [lk] <;> rfl) bi_leq) (fun _ => rfl) (by first | rfl | assumption | ((simp only [bl]) <;> first | done | assumption | omega) | (simp []; done) | (simp []; omega)) <|
            SqW.aopF rfl (so_move (by simp only [lk] <;> rfl)) (fun _ => rfl) rfl <|
            SqW.pass (aguard_of rfl rfl (by simp only [lk] <;> rfl) rfl) rfl <|
            SqW.pass (aguard_of rfl rfl (by simp only [lk] <;> rfl) rfl) rfl <|
            SqW.pass (aguard_of rfl rfl (by simp only [lk] <;> rfl) rfl) rfl <|
            SqW.pass (aguard_of rfl rfl (by simp only [lk] <;> rfl) rfl) rfl <|
            SqW.pass (aguard_of rfl rfl (by simp only [lk] <;> rfl) rfl) rfl <|
            SqW.pass (aguard_of rfl rfl (by simp only [lk] <;> rfl) rfl) rfl <|
            SqW.pass (aguard_of rfl rfl (by simp only [lk] <;> rfl) rfl) rfl <|
            SqW.pass (aguard_of rfl rfl (by simp only [lk] <;> rfl) rfl) rfl <|
            SqW.pass (aguard_of rfl rfl (by simp only [lk] <;> rfl) rfl) rfl <|
            SqW.pass (aguard_of rfl rfl (by simp only [lk] <;> rfl) rfl) rfl <|
            SqW.aopF rfl (so_pick (by simp only [lk] <;> rfl) (by simp only [lk, cond_true, cond_false] <;> rfl)) (fun _ => rfl) rfl <|
            SqW.nil <| SQ.normal ?_
        refine W.no (by simp only [lk] <;> rfl) <| CWp.exit <| SQ.exit <| LQ.exit <| BQ.exit <| ?_
        -- leaf: cut
        refine NQ.normal (L := [(0, sl r N), (1, I64 a), (9, I64 i), (10, I64 j0)]) ?_ ⟨rfl, ?_⟩
        · simp only [HasA, Tr.get_put, Nat.reduceEqDiff, reduceIte, and_self]
        · rw [← heq, up_stop (.inl (by omega))]
    rintro L a' h1 ha ⟨rfl, rfl⟩
    have hi2 := (scanUp_spec (fun x => !lt d1[a]! x) d1 j0 _ i0 rfl)
    have hge := scanUp_ge (fun x => !lt d1[a]! x) d1 j0 i0
    have hle : scanUp (fun x => !lt d1[a]! x) d1 j0 i0 ≤ j0 + 1 := by have := hi2.2.1; omega
    generalize hgi : scanUp (fun x => !lt d1[a]! x) d1 j0 i0 = i2 at *
    refine SQ.normal <| CWp.known ha ?_
    simp only [mkA]
    refine W.seq <| ?_
    -- leaf: loop
    refine W.cut (fun L h' => h' = h.set r (row d1) ∧ L = [(0, sl r N), (1, I64 a), (9, I64 i2), (10, I64 (scanDown (fun x => lt d1[a]! x) d1 i2 j0 : Nat))])
      (W.block (W.loop (fun n L h' => ∃ j : Nat, n = j ∧ j ≤ j0 ∧ scanDown (fun x => lt d1[a]! x) d1 i2 j = scanDown (fun x => lt d1[a]! x) d1 i2 j0 ∧ h' = h.set r (row d1) ∧ L = [(0, sl r N), (1, I64 a), (9, I64 i2), (10, I64 j)]) (n := j0) ⟨j0, rfl, by omega, rfl, rfl, rfl⟩ ?_ ?_)) ?_
    · simp [HasA, Tr.get_put]
    · rintro j L h1 ⟨_, rfl, hj, heq, rfl, rfl⟩
      simp only [mkA]
      by_cases hij : (i2 : Int) ≤ (j : Int)
      · obtain ⟨m, rfl⟩ : ∃ m, j = m + 1 := ⟨j - 1, by omega⟩
        have w1 : IntKind.i64.wrap (((m + 1 : Nat) : Int) - 1) = (m : Int) := by rw [wrap_i64 (by omega) (by omega)]; omega
        cases hl : lt d1[a]! d1[m + 1]!
        · refine W.seq <| W.seq <| W.regD tyOK mixed (by kernel_rfl) <| 
              SqW.aop rfl (so_move (by simp only [lk] <;> rfl)) rfl <|
              SqW.aop rfl (so_move (by simp only [lk] <;> rfl)) rfl <|
              SqW.aopT rfl (so_bin (by simp only [lk] <;> rfl) (by simp only [lk] <;> rfl) bi_leq) (fun _ => rfl) (by first | rfl | assumption | ((simp only [bl, if_pos, Int.toNat_natCast, Nat.mul_one, Nat.zero_add, rg, rs, rb, Value.cells, List.length_cons, List.length_nil, oneCells, List.all_cons, List.all_nil, Value.oneCell', Bool.and_self, cond_true, AHeap.set_set, Array.size_setIfInBounds]) <;> first | done | assumption | omega) | (simp [if_pos, Int.toNat_natCast, Nat.mul_one, Nat.zero_add, rg, rs, rb, Value.cells, List.length_cons, List.length_nil, oneCells, List.all_cons, List.all_nil, Value.oneCell', Bool.and_self, cond_true, AHeap.set_set, Array.size_setIfInBounds]; done) | (simp [if_pos, Int.toNat_natCast, Nat.mul_one, Nat.zero_add, rg, rs, rb, Value.cells, List.length_cons, List.length_nil, oneCells, List.all_cons, List.all_nil, Value.oneCell', Bool.and_self, cond_true, AHeap.set_set, Array.size_setIfInBounds]; omega)) <|
              SqW.aopT rfl (so_move (by simp only [lk] <;> rfl)) (fun _ => rfl) rfl <|
              SqW.aop (aguard_of rfl rfl (by simp only [lk] <;> rfl) rfl) (so_move (by simp only [lk] <;> rfl)) rfl <|
              SqW.aop (aguard_of rfl rfl (by simp only [lk] <;> rfl) rfl) (so_move (by simp only [lk] <;> rfl)) rfl <|
              SqW.aop (aguard_of rfl rfl (by simp only [lk] <;> rfl) rfl) (so_indexAddr (by simp only [lk] <;> rfl) (by simp only [lk] <;> rfl) (by simp (disch := first | assumption | omega | (simp only [nx] <;> omega) | fail) only [aIndexAddr, ty85, ty9, hpl, if_pos, Int.toNat_natCast, Nat.mul_one, Nat.zero_add, rg, rs, rb, Value.cells, List.length_cons, List.length_nil, oneCells, List.all_cons, List.all_nil, Value.oneCell', Bool.and_self, cond_true, AHeap.set_set, Array.size_setIfInBounds] <;> rfl)) rfl <|
              SqW.aop (aguard_of rfl rfl (by simp only [lk] <;> rfl) rfl) (so_load (by simp only [lk] <;> rfl) (by simp (disch := first | assumption | omega | (simp only [nx] <;> omega) | fail) only [aLoad, ty9, rowOf, hpl, if_pos, Int.toNat_natCast, Nat.mul_one, Nat.zero_add, rg, rs, rb, Value.cells, List.length_cons, List.length_nil, oneCells, List.all_cons, List.all_nil, Value.oneCell', Bool.and_self, cond_true, AHeap.set_set, Array.size_setIfInBounds] <;> rfl)) rfl <|
              SqW.aop (aguard_of rfl rfl (by simp only [lk] <;> rfl) rfl) (so_move (by simp only [lk] <;> rfl)) rfl <|
              SqW.aop (aguard_of rfl rfl (by simp only [lk] <;> rfl) rfl) (so_move (by simp only [lk] <;> rfl)) rfl <|
              SqW.aop (aguard_of rfl rfl (by simp only [lk] <;> rfl) rfl) (so_indexAddr (by simp only [lk] <;> rfl) (by simp only [lk] <;> rfl) (by simp (disch := first | assumption | omega | (simp only [nx] <;> omega) | fail) only [aIndexAddr, ty85, ty9, hpl, if_pos, Int.toNat_natCast, Nat.mul_one, Nat.zero_add, rg, rs, rb, Value.cells, List.length_cons, List.length_nil, oneCells, List.all_cons, List.all_nil, Value.oneCell', Bool.and_self, cond_true, AHeap.set_set, Array.size_setIfInBounds] <;> rfl)) rfl <|
              SqW.aop (aguard_of rfl rfl (by simp only [lk] <;> rfl) rfl) (so_load (by simp only [lk] <;> rfl) (by simp (disch := first | assumption | omega | (simp only [nx] <;> omega) | fail) only [aLoad, ty9, rowOf, hpl, if_pos, Int.toNat_natCast, Nat.mul_one, Nat.zero_add, rg, rs, rb, Value.cells, List.length_cons, List.length_nil, oneCells, List.all_cons, List.all_nil, Value.oneCell', Bool.and_self, cond_true, AHeap.set_set, Array.size_setIfInBounds] <;> rfl)) rfl <|
              SqW.callD (aguard_of rfl rfl (by simp only [lk] <;> rfl) rfl) (by simp only [aopnds, lk] <;> rfl) en99 (less_c _ _ _ _ hl) rfl <|
              SqW.aopF rfl (so_pick (by simp only [lk] <;> rfl) (by simp only [lk, cond_true, cond_false] <;> rfl)) (fun _ => rfl) rfl <|
              SqW.nil <| SQ.normal ?_
          refine W.no (by simp only [lk] <;> rfl) <| CWp.exit <| SQ.exit <| LQ.exit <| BQ.exit <| ?_
          -- leaf: cut
          refine NQ.normal (L := [(0, sl r N), (1, I64 a), (9, I64 i2), (10, I64 (m + 1 : Nat))]) ?_ ⟨rfl, ?_⟩
          · simp only [HasA, Tr.get_put, Nat.reduceEqDiff, reduceIte, and_self]
          · rw [← heq, down_stop (by omega) (.inr (by simp [hl]))]
        · refine W.seq <| W.seq <| W.regD tyOK mixed (by kernel_rfl) <| 
              SqW.aop rfl (so_move (by simp only [lk] <;> rfl)) rfl <|
              SqW.aop rfl (so_move (by simp only [lk] <;> rfl)) rfl <|
              SqW.aopT rfl (so_bin (by simp only [lk] <;> rfl) (by simp only [lk] <;> rfl) bi_leq) (fun _ => rfl) (by first | rfl | assumption | ((simp only [bl, if_pos, Int.toNat_natCast, Nat.mul_one, Nat.zero_add, rg, rs, rb, Value.cells, List.length_cons, List.length_nil, oneCells, List.all_cons, List.all_nil, Value.oneCell', Bool.and_self, cond_true, AHeap.set_set, Array.size_setIfInBounds]) <;> first | done | assumption | omega) | (simp [if_pos, Int.toNat_natCast, Nat.mul_one, Nat.zero_add, rg, rs, rb, Value.cells, List.length_cons, List.length_nil, oneCells, List.all_cons, List.all_nil, Value.oneCell', Bool.and_self, cond_true, AHeap.set_set, Array.size_setIfInBounds]; done) | (simp [if_pos, Int.toNat_natCast, Nat.mul_one, Nat.zero_add, rg, rs, rb, Value.cells, List.length_cons, List.length_nil, oneCells, List.all_cons, List.all_nil, Value.oneCell', Bool.and_self, cond_true, AHeap.set_set, Array.size_setIfInBounds]; omega)) <|
              SqW.aopT rfl (so_move (by simp only [lk] <;> rfl)) (fun _ => rfl) rfl <|
              SqW.aop (aguard_of rfl rfl (by simp only [lk] <;> rfl) rfl) (so_move (by simp only [lk] <;> rfl)) rfl <|
              SqW.aop (aguard_of rfl rfl (by simp only [lk] <;> rfl) rfl) (so_move (by simp only [lk] <;> rfl)) rfl <|
              SqW.aop (aguard_of rfl rfl (by simp only [lk] <;> rfl) rfl) (so_indexAddr (by simp only [lk] <;> rfl) (by simp only [lk] <;> rfl) (by simp (disch := first | assumption | omega | (simp only [nx] <;> omega) | fail) only [aIndexAddr, ty85, ty9, hpl, if_pos, Int.toNat_natCast, Nat.mul_one, Nat.zero_add, rg, rs, rb, Value.cells, List.length_cons, List.length_nil, oneCells, List.all_cons, List.all_nil, Value.oneCell', Bool.and_self, cond_true, AHeap.set_set, Array.size_setIfInBounds] <;> rfl)) rfl <|
              SqW.aop (aguard_of rfl rfl (by simp only [lk] <;> rfl) rfl) (so_load (by simp only [lk] <;> rfl) (by simp (disch := first | assumption | omega | (simp only [nx] <;> omega) | fail) only [aLoad, ty9, rowOf, hpl, if_pos, Int.toNat_natCast, Nat.mul_one, Nat.zero_add, rg, rs, rb, Value.cells, List.length_cons, List.length_nil, oneCells, List.all_cons, List.all_nil, Value.oneCell', Bool.and_self, cond_true, AHeap.set_set, Array.size_setIfInBounds] <;> rfl)) rfl <|
              SqW.aop (aguard_of rfl rfl (by simp only [lk] <;> rfl) rfl) (so_move (by simp only [lk] <;> rfl)) rfl <|
              SqW.aop (aguard_of rfl rfl (by simp only [lk] <;> rfl) rfl) (so_move (by simp only [lk] <;> rfl)) rfl <|
              SqW.aop (aguard_of rfl rfl (by simp only [lk] <;> rfl) rfl) (so_indexAddr (by simp only [lk] <;> rfl) (by simp only [lk] <;> rfl) (by simp (disch := first | assumption | omega | (simp only [nx] <;> omega) | fail) only [aIndexAddr, ty85, ty9, hpl, if_pos, Int.toNat_natCast, Nat.mul_one, Nat.zero_add, rg, rs, rb, Value.cells, List.length_cons, List.length_nil, oneCells, List.all_cons, List.all_nil, Value.oneCell', Bool.and_self, cond_true, AHeap.set_set, Array.size_setIfInBounds] <;> rfl)) rfl <|
              SqW.aop (aguard_of rfl rfl (by simp only [lk] <;> rfl) rfl) (so_load (by simp only [lk] <;> rfl) (by simp (disch := first | assumption | omega | (simp only [nx] <;> omega) | fail) only [aLoad, ty9, rowOf, hpl, if_pos, Int.toNat_natCast, Nat.mul_one, Nat.zero_add, rg, rs, rb, Value.cells, List.length_cons, List.length_nil, oneCells, List.all_cons, List.all_nil, Value.oneCell', Bool.and_self, cond_true, AHeap.set_set, Array.size_setIfInBounds] <;> rfl)) rfl <|
              SqW.callD (aguard_of rfl rfl (by simp only [lk] <;> rfl) rfl) (by simp only [aopnds, lk] <;> rfl) en99 (less_c _ _ _ _ hl) rfl <|
              SqW.aopT rfl (so_pick (by simp only [lk] <;> rfl) (by simp only [lk, cond_true, cond_false] <;> rfl)) (fun _ => rfl) rfl <|
              SqW.nil <| SQ.normal ?_
          refine W.yes (by simp only [lk] <;> rfl) <| CWp.skip <| SQ.normal ?_
          refine W.block <| W.reg <| 
              OSuf.aop tyOK rfl (so_move (by simp only [lk] <;> rfl)) rfl <|
              OSuf.aop tyOK rfl (so_bin (by simp only [lk] <;> rfl) (by simp only [lk] <;> rfl) (bi_w bi_sub (by first | (simp only [w1] <;> rfl) | rfl))) rfl <|
              OSuf.aop tyOK rfl (so_assign (by simp only [lk] <;> rfl)) rfl <|
              OSuf.nil <| BQ.normal <| ?_
          -- leaf: round
          refine LQ.normal (m := m) (L := [(0, sl r N), (1, I64 a), (9, I64 i2), (10, I64 m)]) (by omega) ?_ ⟨m, rfl, by omega, ?_, rfl, rfl⟩
          · simp only [HasA, Tr.get_put, Nat.reduceEqDiff, reduceIte, and_self]
          · rw [← heq]; exact (down_eq (by omega) (by simp [hl])).symm
      · refine W.seq <| W.seq <| W.regD tyOK mixed (by kernel_rfl) <| 
            SqW.aop rfl (so_move (by simp only [lk] <;> rfl)) rfl <|
            SqW.aop rfl (so_move (by simp only [lk] <;> rfl)) rfl <|
            SqW.aopF rfl (so_bin (by simp only [lk] <;> rfl) (by simp only [lk] <;> rfl) bi_leq) (fun _ => rfl) (by first | rfl | assumption | ((simp only [bl]) <;> first | done | assumption | omega) | (simp []; done) | (simp []; omega)) <|
            SqW.aopF rfl (so_move (by simp only [lk] <;> rfl)) (fun _ => rfl) rfl <|
            SqW.pass (aguard_of rfl rfl (by simp only [lk] <;> rfl) rfl) rfl <|
            SqW.pass (aguard_of rfl rfl (by simp only [lk] <;> rfl) rfl) rfl <|
            SqW.pass (aguard_of rfl rfl (by simp only [lk] <;> rfl) rfl) rfl <|
            SqW.pass (aguard_of rfl rfl (by simp only [lk] <;> rfl) rfl) rfl <|
            SqW.pass (aguard_of rfl rfl (by simp only [lk] <;> rfl) rfl) rfl <|
            SqW.pass (aguard_of rfl rfl (by simp only [lk] <;> rfl) rfl) rfl <|
            SqW.pass (aguard_of rfl rfl (by simp only [lk] <;> rfl) rfl) rfl <|
            SqW.pass (aguard_of rfl rfl (by simp only [lk] <;> rfl) rfl) rfl <|
            SqW.pass (aguard_of rfl rfl (by simp only [lk] <;> rfl) rfl) rfl <|
            SqW.aopF rfl (so_pick (by simp only [lk] <;> rfl) (by simp only [lk, cond_true, cond_false] <;> rfl)) (fun _ => rfl) rfl <|
            SqW.nil <| SQ.normal ?_
        refine W.no (by simp only [lk] <;> rfl) <| CWp.exit <| SQ.exit <| LQ.exit <| BQ.exit <| ?_
        -- leaf: cut
        refine NQ.normal (L := [(0, sl r N), (1, I64 a), (9, I64 i2), (10, I64 j)]) ?_ ⟨rfl, ?_⟩
        · simp only [HasA, Tr.get_put, Nat.reduceEqDiff, reduceIte, and_self]
        · rw [← heq, down_stop (by omega) (.inl (by omega))]
    rintro L a' h1 ha ⟨rfl, rfl⟩
    have hdl := scanDown_le (fun x => lt d1[a]! x) d1 i2 j0
    have hds2 := (scanDown_spec (fun x => lt d1[a]! x) d1 i2 j0)
    generalize hgj : scanDown (fun x => lt d1[a]! x) d1 i2 j0 = j2 at *
    have hdl2 : i2 ≤ j2 + 1 := hds2.2.1 (by omega)
    have hne : i2 ≤ j2 → i2 < j2 := fun hle2 => by
      have u1 := hi2.2.2.2 (by omega)
      have u2 := hds2.2.2.2 hle2 (by omega)
      rcases Nat.lt_or_eq_of_le hle2 with h0 | h0
      · exact h0
      · subst h0; try simp only at u1 u2
        first | (rw [u1] at u2; simp at u2; done) | (rw [u2] at u1; simp at u1; done)
    by_cases hgt : (i2 : Int) > (j2 : Int)
    · rw [if_pos (by omega)] at hloop
      refine SQ.normal <| CWp.known ha ?_
      simp only [mkA]
      refine W.seq <| W.seq <| W.reg <| 
          OSuf.aop tyOK rfl (so_move (by simp only [lk] <;> rfl)) rfl <|
          OSuf.aop tyOK rfl (so_move (by simp only [lk] <;> rfl)) rfl <|
          OSuf.aopT tyOK rfl (so_bin (by simp only [lk] <;> rfl) (by simp only [lk] <;> rfl) bi_gtr) (fun _ => rfl) (by first | rfl | assumption | ((simp only [bl, if_pos, Int.toNat_natCast, Nat.mul_one, Nat.zero_add, rg, rs, rb, Value.cells, List.length_cons, List.length_nil, oneCells, List.all_cons, List.all_nil, Value.oneCell', Bool.and_self, cond_true, AHeap.set_set, Array.size_setIfInBounds]) <;> first | done | assumption | omega) | (simp [if_pos, Int.toNat_natCast, Nat.mul_one, Nat.zero_add, rg, rs, rb, Value.cells, List.length_cons, List.length_nil, oneCells, List.all_cons, List.all_nil, Value.oneCell', Bool.and_self, cond_true, AHeap.set_set, Array.size_setIfInBounds]; done) | (simp [if_pos, Int.toNat_natCast, Nat.mul_one, Nat.zero_add, rg, rs, rb, Value.cells, List.length_cons, List.length_nil, oneCells, List.all_cons, List.all_nil, Value.oneCell', Bool.and_self, cond_true, AHeap.set_set, Array.size_setIfInBounds]; omega)) <|
          OSuf.nil <| SQ.normal ?_
      refine W.yes (by simp only [lk] <;> rfl) <| CWp.exit <| SQ.exit <| BQ.out rfl <| LQ.exit <| BQ.exit <| ?_
      -- leaf: cut
      refine NQ.normal (L := [(9, I64 i2)]) ?_ ⟨i2, d1, hs1, hloop.symm, rfl, rfl⟩
      simp only [HasA, Tr.get_put, Nat.reduceEqDiff, reduceIte, and_self]
    · rw [if_neg (by omega)] at hloop
      have hlt2 := hne (by omega)
      have w3 : IntKind.i64.wrap ((i2 : Int) + 1) = ((i2 + 1 : Nat) : Int) := by rw [wrap_i64 (by omega) (by omega)]; omega
      have w4 : IntKind.i64.wrap ((j2 : Int) - 1) = ((j2 - 1 : Nat) : Int) := by rw [wrap_i64 (by omega) (by omega)]; omega
      refine SQ.normal <| CWp.known ha ?_
      simp only [mkA]
      refine W.seq <| W.seq <| W.reg <| 
          OSuf.aop tyOK rfl (so_move (by simp only [lk] <;> rfl)) rfl <|
          OSuf.aop tyOK rfl (so_move (by simp only [lk] <;> rfl)) rfl <|
          OSuf.aopF tyOK rfl (so_bin (by simp only [lk] <;> rfl) (by simp only [lk] <;> rfl) bi_gtr) (fun _ => rfl) (by first | rfl | assumption | ((simp only [bl, if_pos, Int.toNat_natCast, Nat.mul_one, Nat.zero_add, rg, rs, rb, Value.cells, List.length_cons, List.length_nil, oneCells, List.all_cons, List.all_nil, Value.oneCell', Bool.and_self, cond_true, AHeap.set_set, Array.size_setIfInBounds]) <;> first | done | assumption | omega) | (simp [if_pos, Int.toNat_natCast, Nat.mul_one, Nat.zero_add, rg, rs, rb, Value.cells, List.length_cons, List.length_nil, oneCells, List.all_cons, List.all_nil, Value.oneCell', Bool.and_self, cond_true, AHeap.set_set, Array.size_setIfInBounds]; done) | (simp [if_pos, Int.toNat_natCast, Nat.mul_one, Nat.zero_add, rg, rs, rb, Value.cells, List.length_cons, List.length_nil, oneCells, List.all_cons, List.all_nil, Value.oneCell', Bool.and_self, cond_true, AHeap.set_set, Array.size_setIfInBounds]; omega)) <|
          OSuf.nil <| SQ.normal ?_
      refine W.no (by simp only [lk] <;> rfl) <| CWp.skip <| SQ.normal ?_
      refine W.seq <| W.regD tyOK mixed (by kernel_rfl) <| 
          SqW.aop rfl (so_move (by simp only [lk] <;> rfl)) rfl <|
          SqW.aop rfl (so_move (by simp only [lk] <;> rfl)) rfl <|
          SqW.aop rfl (so_move (by simp only [lk] <;> rfl)) rfl <|
          SqW.aop rfl (so_move (by simp only [lk] <;> rfl)) rfl <|
          SqW.aop rfl (so_move (by simp only [lk] <;> rfl)) rfl <|
          SqW.aop rfl (so_move (by simp only [lk] <;> rfl)) rfl <|
          SqW.aop rfl (so_indexAddr (by simp only [lk] <;> rfl) (by simp only [lk] <;> rfl) (by simp (disch := first | assumption | omega | (simp only [nx] <;> omega) | fail) only [aIndexAddr, ty85, ty9, hpl, if_pos, Int.toNat_natCast, Nat.mul_one, Nat.zero_add, rg, rs, rb, Value.cells, List.length_cons, List.length_nil, oneCells, List.all_cons, List.all_nil, Value.oneCell', Bool.and_self, cond_true, AHeap.set_set, Array.size_setIfInBounds] <;> rfl)) rfl <|
          SqW.aop rfl (so_load (by simp only [lk] <;> rfl) (by simp (disch := first | assumption | omega | (simp only [nx] <;> omega) | fail) only [aLoad, ty9, rowOf, hpl, if_pos, Int.toNat_natCast, Nat.mul_one, Nat.zero_add, rg, rs, rb, Value.cells, List.length_cons, List.length_nil, oneCells, List.all_cons, List.all_nil, Value.oneCell', Bool.and_self, cond_true, AHeap.set_set, Array.size_setIfInBounds] <;> rfl)) rfl <|
          SqW.aop rfl (so_move (by simp only [lk] <;> rfl)) rfl <|
          SqW.aop rfl (so_move (by simp only [lk] <;> rfl)) rfl <|
          SqW.aop rfl (so_indexAddr (by simp only [lk] <;> rfl) (by simp only [lk] <;> rfl) (by simp (disch := first | assumption | omega | (simp only [nx] <;> omega) | fail) only [aIndexAddr, ty85, ty9, hpl, if_pos, Int.toNat_natCast, Nat.mul_one, Nat.zero_add, rg, rs, rb, Value.cells, List.length_cons, List.length_nil, oneCells, List.all_cons, List.all_nil, Value.oneCell', Bool.and_self, cond_true, AHeap.set_set, Array.size_setIfInBounds] <;> rfl)) rfl <|
          SqW.aop rfl (so_load (by simp only [lk] <;> rfl) (by simp (disch := first | assumption | omega | (simp only [nx] <;> omega) | fail) only [aLoad, ty9, rowOf, hpl, if_pos, Int.toNat_natCast, Nat.mul_one, Nat.zero_add, rg, rs, rb, Value.cells, List.length_cons, List.length_nil, oneCells, List.all_cons, List.all_nil, Value.oneCell', Bool.and_self, cond_true, AHeap.set_set, Array.size_setIfInBounds] <;> rfl)) rfl <|
          SqW.aop rfl (so_indexAddr (by simp only [lk] <;> rfl) (by simp only [lk] <;> rfl) (by simp (disch := first | assumption | omega | (simp only [nx] <;> omega) | fail) only [aIndexAddr, ty85, ty9, hpl, if_pos, Int.toNat_natCast, Nat.mul_one, Nat.zero_add, rg, rs, rb, Value.cells, List.length_cons, List.length_nil, oneCells, List.all_cons, List.all_nil, Value.oneCell', Bool.and_self, cond_true, AHeap.set_set, Array.size_setIfInBounds] <;> rfl)) rfl <|
          SqW.aop rfl (so_store (by simp only [lk] <;> rfl) (by simp only [lk] <;> rfl) (by simp (disch := first | assumption | omega | (simp only [nx] <;> omega) | fail) only [aStore, ty9, writeRow, hpl, if_pos, Int.toNat_natCast, Nat.mul_one, Nat.zero_add, rg, rs, rb, Value.cells, List.length_cons, List.length_nil, oneCells, List.all_cons, List.all_nil, Value.oneCell', Bool.and_self, cond_true, AHeap.set_set, Array.size_setIfInBounds] <;> rfl)) rfl <|
          SqW.aop rfl (so_indexAddr (by simp only [lk] <;> rfl) (by simp only [lk] <;> rfl) (by simp (disch := first | assumption | omega | (simp only [nx] <;> omega) | fail) only [aIndexAddr, ty85, ty9, hpl, if_pos, Int.toNat_natCast, Nat.mul_one, Nat.zero_add, rg, rs, rb, Value.cells, List.length_cons, List.length_nil, oneCells, List.all_cons, List.all_nil, Value.oneCell', Bool.and_self, cond_true, AHeap.set_set, Array.size_setIfInBounds] <;> rfl)) rfl <|
          SqW.aop rfl (so_store (by simp only [lk] <;> rfl) (by simp only [lk] <;> rfl) (by simp (disch := first | assumption | omega | (simp only [nx] <;> omega) | fail) only [aStore, ty9, writeRow, hpl, if_pos, Int.toNat_natCast, Nat.mul_one, Nat.zero_add, rg, rs, rb, Value.cells, List.length_cons, List.length_nil, oneCells, List.all_cons, List.all_nil, Value.oneCell', Bool.and_self, cond_true, AHeap.set_set, Array.size_setIfInBounds] <;> rfl)) rfl <|
          SqW.nil <| SQ.normal ?_
      refine W.seq <| W.reg <| 
          OSuf.aop tyOK rfl (so_move (by simp only [lk] <;> rfl)) rfl <|
          OSuf.aop tyOK rfl (so_bin (by simp only [lk] <;> rfl) (by simp only [lk] <;> rfl) (bi_w bi_add (by first | (simp only [w3, w4] <;> rfl) | rfl))) rfl <|
          OSuf.aop tyOK rfl (so_assign (by simp only [lk] <;> rfl)) rfl <|
          OSuf.nil <| SQ.normal ?_
      refine W.reg <| 
          OSuf.aop tyOK rfl (so_move (by simp only [lk] <;> rfl)) rfl <|
          OSuf.aop tyOK rfl (so_bin (by simp only [lk] <;> rfl) (by simp only [lk] <;> rfl) (bi_w bi_sub (by first | (simp only [w3, w4] <;> rfl) | rfl))) rfl <|
          OSuf.aop tyOK rfl (so_assign (by simp only [lk] <;> rfl)) rfl <|
          OSuf.nil <| BQ.normal <| ?_
      -- leaf: round
      refine LQ.normal (m := (j2 - 1) + 1 - (i2 + 1)) (L := [(0, sl r N), (1, I64 a), (9, I64 (i2 + 1 : Nat)), (10, I64 (j2 - 1 : Nat))]) (by omega) ?_ ⟨i2 + 1, j2 - 1, swp d1 i2 j2, rfl, by omega, by omega, by omega, swp_sz hs1, hloop, rfl, rfl⟩
      simp only [HasA, Tr.get_put, Nat.reduceEqDiff, reduceIte, and_self]
  rintro L a' h1 ha ⟨i, dk, hdk, hlp, rfl, rfl⟩
  rw [hlp]
  refine SQ.normal <| CWp.known ha ?_
  simp only [mkA]
  refine W.seq <| W.reg <| 
      OSuf.aop tyOK rfl (so_move (by simp only [lk] <;> rfl)) rfl <|
      OSuf.aop tyOK rfl (so_assign (by simp only [lk] <;> rfl)) rfl <|
      OSuf.nil <| SQ.normal ?_
  refine CWp.ret <| FQ.ret (by simp only [aRet, Tryz.f100, aResults, aResult, lk, Nat.reduceEqDiff, reduceIte] <;> rfl) ?_
  -- leaf: end
  exact ⟨rfl, rfl⟩
end Go.Proofs.YtjenbiohcecfnaaGreat.SortS
