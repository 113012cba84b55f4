/-
  The sort of the library, walked, at string: pdqsortOrdered, Sort.
-/
import Derived.Test.YtldhcjfhlfgleaaSortG
namespace Go.Proofs.Ytldhcjfhlfgleaa.SortS
open Go.Ab Go.Sort
set_option linter.unusedSimpArgs false
set_option linter.unusedVariables false
set_option maxRecDepth 10000
set_option maxHeartbeats 8000000

theorem swo : SWO lt := swo_ltStr

theorem pdq_c (h : AHeap) (r N : Nat) (hrn : r < h.next) (hsz : N < 1000000000) : ∀ (n a b lim : Nat) (d : Array El), b - a ≤ n → d.size = N → a ≤ b → b ≤ N → lim ≤ 100 → Below lt a b d →
    FWp Try.prog 40 [sl r N, I64 a, I64 b, I64 lim] (h.set r (row d)) fun u h' => u = .tuple #[] ∧ ∃ d' : Array El, h' = h.set r (row d') ∧ PermIn a b d d' ∧ SortedIn lt a b d' := by
  intro n
  induction n using Nat.strongRecOn with
  | _ n ih =>
  intro a b lim d hn hN hab hb hlim hB
  refine W.enter tyOK Try.func40 rfl rfl ?_
  simp only [entry]
  refine W.seq <| W.reg <| OSuf.aopT tyOK rfl (so_assign (by simp only [lk] <;> rfl)) (fun _ => rfl) rfl <| OSuf.nil <| SQ.normal ?_
  refine W.seq <| W.reg <| OSuf.aopT tyOK rfl (so_assign (by simp only [lk] <;> rfl)) (fun _ => rfl) rfl <| OSuf.nil <| SQ.normal ?_
  -- leaf: loop
  refine W.block (W.loop (fun n1 L h' => ∃ (a1 b1 lim1 : Nat) (wb wp : Bool) (dk : Array El), n1 = b1 - a1 ∧ a ≤ a1 ∧ a1 ≤ b1 ∧ b1 ≤ b ∧ lim1 ≤ 100 ∧ dk.size = N ∧ Below lt a1 b1 dk ∧ (∀ R, PermIn a1 b1 dk R → SortedIn lt a1 b1 R → PermIn a b d R ∧ SortedIn lt a b R) ∧ h' = h.set r (row dk) ∧
      L = [(0, sl r N), (1, I64 a1), (2, I64 b1), (3, I64 lim1), (8, .bool wb), (9, .bool wp)]) (n := b - a) ⟨a, b, lim, true, true, d, rfl, Nat.le_refl _, hab, Nat.le_refl _, hlim, hN, hB, fun R h1 h2 => ⟨h1, h2⟩, rfl, rfl⟩ ?_ ?_)
  · simp [HasA, Tr.get_put]
  rintro n1 L h1 ⟨a1, b1, lim1, wb, wp, dk, rfl, ha1, hab1, hbb1, hl1, hds, hB1, hcont, rfl, rfl⟩
  simp only [mkA]
  have w1 : IntKind.i64.wrap ((b1 : Int) - (a1 : Int)) = ((b1 - a1 : Nat) : Int) := by rw [wrap_i64 (by omega) (by omega)]; omega
  by_cases h12 : ((b1 - a1 : Nat) : Int) ≤ 12
  · refine W.block <| W.seq <| W.reg <| OSuf.aop tyOK rfl sm rfl <| OSuf.aop tyOK rfl sm rfl <| OSuf.aop tyOK rfl (so_bin (by simp only [lk] <;> rfl) (by simp only [lk] <;> rfl) (bi_w bi_sub (by first | (simp only [w1] <;> rfl) | rfl))) rfl <| OSuf.aop tyOK rfl (so_assign (by simp only [lk] <;> rfl)) rfl <| OSuf.nil <| SQ.normal ?_
    refine W.seq <| W.seq <| W.reg <| OSuf.aop tyOK rfl sm rfl <| OSuf.aopT tyOK rfl (so_bin (by simp only [lk] <;> rfl) (by simp only [lk] <;> rfl) bi_leq) (fun _ => rfl) (by first | rfl | assumption | ((simp only [bl]) <;> first | done | assumption | omega) | (simp; done) | (simp; omega)) <| OSuf.nil <| SQ.normal ?_
    refine W.yes (by simp only [lk] <;> rfl) <| W.seq <| W.reg <| OSuf.aop tyOK rfl sm rfl <| OSuf.aop tyOK rfl sm rfl <| OSuf.aop tyOK rfl sm rfl <| OSuf.callD rfl (by simp only [aopnds, lk] <;> rfl) en44 (insertion_c h r N dk hds a1 b1 hab1 (by omega) hsz) rfl <| OSuf.nil <| SQ.normal ?_
    refine CWp.ret <| SQ.ret <| BQ.ret <| LQ.ret <| BQ.ret <| FQ.ret (by simp only [aRet, Try.f40, aResults, aResult, lk, Nat.reduceEqDiff, reduceIte] <;> rfl) ?_
    -- leaf: end
    obtain ⟨p1, p2⟩ := insertionSort_holds swo dk a1 b1 hab1 (by omega)
    exact ⟨rfl, _, rfl, hcont _ p1 p2⟩
  by_cases hl0 : (lim1 : Int) = 0
  · refine W.block <| W.seq <| W.reg <| OSuf.aop tyOK rfl sm rfl <| OSuf.aop tyOK rfl sm rfl <| OSuf.aop tyOK rfl (so_bin (by simp only [lk] <;> rfl) (by simp only [lk] <;> rfl) (bi_w bi_sub (by first | (simp only [w1] <;> rfl) | rfl))) rfl <| OSuf.aop tyOK rfl (so_assign (by simp only [lk] <;> rfl)) rfl <| OSuf.nil <| SQ.normal ?_
    refine W.seq <| W.seq <| W.reg <| OSuf.aop tyOK rfl sm rfl <| OSuf.aopF tyOK rfl (so_bin (by simp only [lk] <;> rfl) (by simp only [lk] <;> rfl) bi_leq) (fun _ => rfl) (by first | rfl | assumption | ((simp only [bl, hl0]) <;> first | done | assumption | omega) | (simp; done) | (simp; omega)) <| OSuf.nil <| SQ.normal ?_
    refine W.no (by simp only [lk] <;> rfl) <| CWp.skip <| SQ.normal ?_
    refine W.seq <| W.seq <| W.reg <| OSuf.aop tyOK rfl sm rfl <| OSuf.aopT tyOK rfl (so_bin (by simp only [lk] <;> rfl) (by simp only [lk] <;> rfl) bi_eql) (fun _ => rfl) (by first | rfl | assumption | ((simp only [bl, hl0]) <;> first | done | assumption | omega) | (simp; done) | (simp; omega)) <| OSuf.nil <| SQ.normal ?_
    refine W.yes (by simp only [lk] <;> rfl) <| W.seq <| W.reg <| OSuf.aop tyOK rfl sm rfl <| OSuf.aop tyOK rfl sm rfl <| OSuf.aop tyOK rfl sm rfl <| OSuf.callD rfl (by simp only [aopnds, lk] <;> rfl) en45 (heap_c h r N dk hds a1 b1 hab1 (by omega) hsz) rfl <| OSuf.nil <| SQ.normal ?_
    refine CWp.ret <| SQ.ret <| BQ.ret <| LQ.ret <| BQ.ret <| FQ.ret (by simp only [aRet, Try.f40, aResults, aResult, lk, Nat.reduceEqDiff, reduceIte] <;> rfl) ?_
    -- leaf: end
    obtain ⟨p1, p2⟩ := heapSort_holds swo dk a1 b1 hab1 (by omega)
    exact ⟨rfl, _, rfl, hcont _ p1 p2⟩
  refine W.block <| W.seq <| W.reg <| OSuf.aop tyOK rfl sm rfl <| OSuf.aop tyOK rfl sm rfl <| OSuf.aop tyOK rfl (so_bin (by simp only [lk] <;> rfl) (by simp only [lk] <;> rfl) (bi_w bi_sub (by first | (simp only [w1] <;> rfl) | rfl))) rfl <| OSuf.aop tyOK rfl (so_assign (by simp only [lk] <;> rfl)) rfl <| OSuf.nil <| SQ.normal ?_
  refine W.seq <| W.seq <| W.reg <| OSuf.aop tyOK rfl sm rfl <| OSuf.aopF tyOK rfl (so_bin (by simp only [lk] <;> rfl) (by simp only [lk] <;> rfl) bi_leq) (fun _ => rfl) (by first | rfl | assumption | ((simp only [bl]) <;> first | done | assumption | omega) | (simp; done) | (simp; omega)) <| OSuf.nil <| SQ.normal ?_
  refine W.no (by simp only [lk] <;> rfl) <| CWp.skip <| SQ.normal ?_
  refine W.seq <| W.seq <| W.reg <| OSuf.aop tyOK rfl sm rfl <| OSuf.aopF tyOK rfl (so_bin (by simp only [lk] <;> rfl) (by simp only [lk] <;> rfl) bi_eql) (fun _ => rfl) (by first | rfl | assumption | ((simp only [bl]) <;> first | done | assumption | omega) | (simp; done) | (simp; omega)) <| OSuf.nil <| SQ.normal ?_
  refine W.no (by simp only [lk] <;> rfl) <| CWp.skip <| SQ.normal ?_
  refine W.seq <| ?_
  -- leaf: upto
  have hlt1 : a1 + 12 < b1 := by omega
  refine W.cut (fun L h' => ∃ (d1 : Array El) (lim2 : Nat), lim2 ≤ 100 ∧ PermIn a1 b1 dk d1 ∧ h' = h.set r (row d1) ∧ L = [(0, sl r N), (1, I64 a1), (2, I64 b1), (3, I64 lim2), (8, .bool wb), (9, .bool wp), (10, I64 (b1 - a1 : Nat))]) ?_ ?_
  · have w2 : IntKind.i64.wrap ((lim1 : Int) - 1) = ((lim1 - 1 : Nat) : Int) := by rw [wrap_i64 (by omega) (by omega)]; omega
    cases wb
    · refine W.seq <| W.reg <| OSuf.aopF tyOK rfl sm (fun _ => rfl) (by first | rfl | assumption | ((simp only [bl]) <;> first | done | assumption | omega) | (simp; done) | (simp; omega)) <| OSuf.aopT tyOK rfl (so_not (by simp only [lk] <;> rfl)) (fun _ => rfl) rfl <| OSuf.nil <| SQ.normal ?_
      refine W.yes (by simp only [lk] <;> rfl) <| W.seq <| W.reg <| OSuf.aop tyOK rfl sm rfl <| OSuf.aop tyOK rfl sm rfl <| OSuf.aop tyOK rfl sm rfl <| OSuf.call rfl (by simp only [aopnds, lk] <;> rfl) en46 (break_c h r N hrn dk hds a1 b1 hlt1 (by omega) hsz) ?_
      rintro _ _ ⟨rfl, d1, hp, rfl⟩
      refine ⟨_, rfl, ?_⟩
      refine OSuf.nil <| SQ.normal ?_
      refine W.reg <| OSuf.aop tyOK rfl sm rfl <| OSuf.aop tyOK rfl (so_bin (by simp only [lk] <;> rfl) (by simp only [lk] <;> rfl) (bi_w bi_sub (by first | (simp only [w2] <;> rfl) | rfl))) rfl <| OSuf.aop tyOK rfl (so_assign (by simp only [lk] <;> rfl)) rfl <| OSuf.nil <| ?_
      -- leaf: cut
      refine NQ.normal (L := [(0, sl r N), (1, I64 a1), (2, I64 b1), (3, I64 (lim1 - 1 : Nat)), (8, .bool false), (9, .bool wp), (10, I64 (b1 - a1 : Nat))]) ?_ ⟨d1, lim1 - 1, by omega, hp, rfl, rfl⟩
      simp only [HasA, Tr.get_put, Nat.reduceEqDiff, reduceIte, and_self]
    · refine W.seq <| W.reg <| OSuf.aopT tyOK rfl sm (fun _ => rfl) (by first | rfl | assumption | ((simp only [bl]) <;> first | done | assumption | omega) | (simp; done) | (simp; omega)) <| OSuf.aopF tyOK rfl (so_not (by simp only [lk] <;> rfl)) (fun _ => rfl) rfl <| OSuf.nil <| SQ.normal ?_
      refine W.no (by simp only [lk] <;> rfl) <| CWp.skip <| ?_
      -- leaf: cut
      refine NQ.normal (L := [(0, sl r N), (1, I64 a1), (2, I64 b1), (3, I64 lim1), (8, .bool true), (9, .bool wp), (10, I64 (b1 - a1 : Nat))]) ?_ ⟨dk, lim1, hl1, permIn_refl _ _ _, rfl, rfl⟩
      simp only [HasA, Tr.get_put, Nat.reduceEqDiff, reduceIte, and_self]
  rintro L a' h1 ha ⟨d1, lim2, hl2, hp1, rfl, rfl⟩
  have hs1 : d1.size = N := hp1.1.trans hds
  refine SQ.normal <| CWp.known ha ?_
  simp only [mkA]
  refine W.seq <| W.reg <| OSuf.aop tyOK rfl sm rfl <| OSuf.aop tyOK rfl sm rfl <| OSuf.aop tyOK rfl sm rfl <| OSuf.call rfl (by simp only [aopnds, lk] <;> rfl) en47 (pivot_c h r N hrn d1 hs1 a1 b1 hlt1 (by omega) hsz) ?_
  rintro _ _ ⟨⟨pv, hint, rfl, hpv1, hpv2⟩, rfl⟩
  refine ⟨_, rfl, ?_⟩
  refine OSuf.aop tyOK rfl sm rfl <| OSuf.aop tyOK rfl (so_extract (by simp only [lk] <;> rfl) (by simp (disch := first | assumption | omega | (simp only [nx] <;> omega) | fail) only [aExtract, hpl] <;> rfl)) rfl <| OSuf.aop tyOK rfl (so_extract (by simp only [lk] <;> rfl) (by simp (disch := first | assumption | omega | (simp only [nx] <;> omega) | fail) only [aExtract, hpl] <;> rfl)) rfl <| OSuf.aop tyOK rfl (so_assign (by simp only [lk] <;> rfl)) rfl <| OSuf.aop tyOK rfl (so_assign (by simp only [lk] <;> rfl)) rfl <| OSuf.nil <| SQ.normal ?_
  refine W.seq <| ?_
  -- leaf: upto
  refine W.cut (fun L h' => ∃ (d2 : Array El) (pv2 : Nat) (hint2 : Int), a1 ≤ pv2 ∧ pv2 < b1 ∧ PermIn a1 b1 dk d2 ∧ h' = h.set r (row d2) ∧ L = [(0, sl r N), (1, I64 a1), (2, I64 b1), (3, I64 lim2), (8, .bool wb), (9, .bool wp), (10, I64 (b1 - a1 : Nat)), (11, I64 pv2), (12, I64 hint2)]) ?_ ?_
  · by_cases hh : hint = 2
    · have w2 : IntKind.i64.wrap ((b1 : Int) - 1) = ((b1 - 1 : Nat) : Int) := by rw [wrap_i64 (by omega) (by omega)]; omega
      have w3 : IntKind.i64.wrap ((pv : Int) - (a1 : Int)) = ((pv - a1 : Nat) : Int) := by rw [wrap_i64 (by omega) (by omega)]; omega
      have w4 : IntKind.i64.wrap (((b1 - 1 : Nat) : Int) - ((pv - a1 : Nat) : Int)) = ((b1 - 1 - (pv - a1) : Nat) : Int) := by rw [wrap_i64 (by omega) (by omega)]; omega
      refine W.seq <| W.reg <| OSuf.aop tyOK rfl sm rfl <| OSuf.aopT tyOK rfl (so_bin (by simp only [lk] <;> rfl) (by simp only [lk] <;> rfl) bi_eql) (fun _ => rfl) (by first | rfl | assumption | ((simp only [bl, hh]) <;> first | done | assumption | omega) | (simp; done) | (simp; omega)) <| OSuf.nil <| SQ.normal ?_
      refine W.yes (by simp only [lk] <;> rfl) <| W.seq <| W.reg <| OSuf.aop tyOK rfl sm rfl <| OSuf.aop tyOK rfl sm rfl <| OSuf.aop tyOK rfl sm rfl <| OSuf.callD rfl (by simp only [aopnds, lk] <;> rfl) en48 (reverse_c h r N d1 hs1 a1 b1 (by omega) (by omega) hsz) rfl <| OSuf.nil <| SQ.normal ?_
      refine W.seq <| W.reg <| OSuf.aop tyOK rfl sm rfl <| OSuf.aop tyOK rfl (so_bin (by simp only [lk] <;> rfl) (by simp only [lk] <;> rfl) (bi_w bi_sub (by first | (simp only [w2, w3, w4] <;> rfl) | rfl))) rfl <| OSuf.aop tyOK rfl sm rfl <| OSuf.aop tyOK rfl sm rfl <| OSuf.aop tyOK rfl (so_bin (by simp only [lk] <;> rfl) (by simp only [lk] <;> rfl) (bi_w bi_sub (by first | (simp only [w2, w3, w4] <;> rfl) | rfl))) rfl <| OSuf.aop tyOK rfl (so_bin (by simp only [lk] <;> rfl) (by simp only [lk] <;> rfl) (bi_w bi_sub (by first | (simp only [w2, w3, w4] <;> rfl) | rfl))) rfl <| OSuf.aop tyOK rfl (so_assign (by simp only [lk] <;> rfl)) rfl <| OSuf.nil <| SQ.normal ?_
      refine W.reg <| OSuf.aop tyOK rfl (so_assign (by simp only [lk] <;> rfl)) rfl <| OSuf.nil <| ?_
      -- leaf: cut
      refine NQ.normal (L := [(0, sl r N), (1, I64 a1), (2, I64 b1), (3, I64 lim2), (8, .bool wb), (9, .bool wp), (10, I64 (b1 - a1 : Nat)), (11, I64 (b1 - 1 - (pv - a1) : Nat)), (12, I64 1)]) ?_ ⟨_, b1 - 1 - (pv - a1), 1, by omega, by omega, permIn_trans _ _ _ _ _ hp1 (reverseRange_holds d1 a1 b1 (by omega) (by omega)), rfl, rfl⟩
      simp only [HasA, Tr.get_put, Nat.reduceEqDiff, reduceIte, and_self]
    · refine W.seq <| W.reg <| OSuf.aop tyOK rfl sm rfl <| OSuf.aopF tyOK rfl (so_bin (by simp only [lk] <;> rfl) (by simp only [lk] <;> rfl) bi_eql) (fun _ => rfl) (by first | rfl | assumption | ((simp only [bl, hh]) <;> first | done | assumption | omega) | (simp; done) | (simp; omega)) <| OSuf.nil <| SQ.normal ?_
      refine W.no (by simp only [lk] <;> rfl) <| CWp.skip <| ?_
      -- leaf: cut
      refine NQ.normal (L := [(0, sl r N), (1, I64 a1), (2, I64 b1), (3, I64 lim2), (8, .bool wb), (9, .bool wp), (10, I64 (b1 - a1 : Nat)), (11, I64 pv), (12, I64 hint)]) ?_ ⟨d1, pv, hint, hpv1, hpv2, hp1, rfl, rfl⟩
      simp only [HasA, Tr.get_put, Nat.reduceEqDiff, reduceIte, and_self]
  clear hp1 hs1 ha
  clear hpv1 hpv2
  rintro L a' h1 ha ⟨d2, pv2, hint2, hq1, hq2, hp2, rfl, rfl⟩
  have hs2 : d2.size = N := hp2.1.trans hds
  refine SQ.normal <| CWp.known ha ?_
  simp only [mkA]
  refine W.seq <| ?_
  -- leaf: upto
  refine W.cut (fun L h' => ∃ (d3 : Array El), PermIn a1 b1 dk d3 ∧ h' = h.set r (row d3) ∧ L = [(0, sl r N), (1, I64 a1), (2, I64 b1), (3, I64 lim2), (8, .bool wb), (9, .bool wp), (10, I64 (b1 - a1 : Nat)), (11, I64 pv2)]) ?_ ?_
  · have skip : ∀ a, HasA a [(0, sl r N), (1, I64 a1), (2, I64 b1), (3, I64 lim2), (8, .bool wb), (9, .bool wp), (10, I64 (b1 - a1 : Nat)), (11, I64 pv2)] → ∀ Q, NQ (fun L h' => ∃ (d3 : Array El), PermIn a1 b1 dk d3 ∧ h' = h.set r (row d3) ∧ L = [(0, sl r N), (1, I64 a1), (2, I64 b1), (3, I64 lim2), (8, .bool wb), (9, .bool wp), (10, I64 (b1 - a1 : Nat)), (11, I64 pv2)]) Q .normal a (h.set r (row d2)) :=
      fun a hA Q => NQ.normal hA ⟨d2, hp2, rfl, rfl⟩
    cases wb
    · refine W.seq <| W.reg <| OSuf.aopF tyOK rfl sm (fun _ => rfl) (by first | rfl | assumption | ((simp only [bl]) <;> first | done | assumption | omega) | (simp; done) | (simp; omega)) <| OSuf.aopF tyOK rfl sm (fun _ => rfl) rfl <| OSuf.pass ag rfl <| OSuf.aopF tyOK rfl (so_pick (by simp only [lk] <;> rfl) (by simp only [lk, cond_true, cond_false] <;> rfl)) (fun _ => rfl) rfl <| OSuf.aopF tyOK rfl sm (fun _ => rfl) rfl <| OSuf.pass ag rfl <| OSuf.pass ag rfl <| OSuf.aopF tyOK rfl (so_pick (by simp only [lk] <;> rfl) (by simp only [lk, cond_true, cond_false] <;> rfl)) (fun _ => rfl) rfl <| OSuf.nil <| SQ.normal ?_
      refine W.no (by simp only [lk] <;> rfl) <| CWp.skip <| ?_
      -- leaf: cut
      exact skip _ (by simp only [HasA, Tr.get_put, Nat.reduceEqDiff, reduceIte, and_self]) _
    cases wp
    · refine W.seq <| W.reg <| OSuf.aopT tyOK rfl sm (fun _ => rfl) (by first | rfl | assumption | ((simp only [bl]) <;> first | done | assumption | omega) | (simp; done) | (simp; omega)) <| OSuf.aopT tyOK rfl sm (fun _ => rfl) rfl <| OSuf.aopF tyOK ag sm (fun _ => rfl) (by first | rfl | assumption | ((simp only [bl]) <;> first | done | assumption | omega) | (simp; done) | (simp; omega)) <| OSuf.aopF tyOK rfl (so_pick (by simp only [lk] <;> rfl) (by simp only [lk, cond_true, cond_false] <;> rfl)) (fun _ => rfl) rfl <| OSuf.aopF tyOK rfl sm (fun _ => rfl) rfl <| OSuf.pass ag rfl <| OSuf.pass ag rfl <| OSuf.aopF tyOK rfl (so_pick (by simp only [lk] <;> rfl) (by simp only [lk, cond_true, cond_false] <;> rfl)) (fun _ => rfl) rfl <| OSuf.nil <| SQ.normal ?_
      refine W.no (by simp only [lk] <;> rfl) <| CWp.skip <| ?_
      -- leaf: cut
      exact skip _ (by simp only [HasA, Tr.get_put, Nat.reduceEqDiff, reduceIte, and_self]) _
    by_cases hh : hint2 = 1
    · have hBB := hB1.perm (by omega) hp2
      obtain ⟨q1, q2⟩ := partialInsertionSort_holds swo d2 a1 b1 (by omega) (by omega) hBB
      have hc := partial_c h r N d2 hs2 a1 b1 (by omega) (by omega) hsz
      cases hres : (partialInsertionSort lt d2 a1 b1).2
      · rw [hres] at hc
        refine W.seq <| W.reg <| OSuf.aopT tyOK rfl sm (fun _ => rfl) (by first | rfl | assumption | ((simp only [bl, hh]) <;> first | done | assumption | omega) | (simp; done) | (simp; omega)) <| OSuf.aopT tyOK rfl sm (fun _ => rfl) rfl <| OSuf.aopT tyOK ag sm (fun _ => rfl) (by first | rfl | assumption | ((simp only [bl, hh]) <;> first | done | assumption | omega) | (simp; done) | (simp; omega)) <| OSuf.aopT tyOK rfl (so_pick (by simp only [lk] <;> rfl) (by simp only [lk, cond_true, cond_false] <;> rfl)) (fun _ => rfl) rfl <| OSuf.aopT tyOK rfl sm (fun _ => rfl) rfl <| OSuf.aop tyOK ag sm rfl <| OSuf.aopT tyOK ag (so_bin (by simp only [lk] <;> rfl) (by simp only [lk] <;> rfl) bi_eql) (fun _ => rfl) (by first | rfl | assumption | ((simp only [bl, hh]) <;> first | done | assumption | omega) | (simp; done) | (simp; omega)) <| OSuf.aopT tyOK rfl (so_pick (by simp only [lk] <;> rfl) (by simp only [lk, cond_true, cond_false] <;> rfl)) (fun _ => rfl) rfl <| OSuf.nil <| SQ.normal ?_
        refine W.yes (by simp only [lk] <;> rfl) <| W.seq <| W.reg <| OSuf.aop tyOK rfl sm rfl <| OSuf.aop tyOK rfl sm rfl <| OSuf.aop tyOK rfl sm rfl <| OSuf.callD rfl (by simp only [aopnds, lk] <;> rfl) en49 (hc) rfl <| OSuf.nil <| SQ.normal ?_
        refine W.no (by simp only [lk] <;> rfl) <| CWp.skip <| ?_
        -- leaf: cut
        refine NQ.normal (L := [(0, sl r N), (1, I64 a1), (2, I64 b1), (3, I64 lim2), (8, .bool true), (9, .bool true), (10, I64 (b1 - a1 : Nat)), (11, I64 pv2)]) ?_ ⟨_, permIn_trans _ _ _ _ _ hp2 q1, rfl, rfl⟩
        simp only [HasA, Tr.get_put, Nat.reduceEqDiff, reduceIte, and_self]
      · rw [hres] at hc
        refine W.seq <| W.reg <| OSuf.aopT tyOK rfl sm (fun _ => rfl) (by first | rfl | assumption | ((simp only [bl, hh]) <;> first | done | assumption | omega) | (simp; done) | (simp; omega)) <| OSuf.aopT tyOK rfl sm (fun _ => rfl) rfl <| OSuf.aopT tyOK ag sm (fun _ => rfl) (by first | rfl | assumption | ((simp only [bl, hh]) <;> first | done | assumption | omega) | (simp; done) | (simp; omega)) <| OSuf.aopT tyOK rfl (so_pick (by simp only [lk] <;> rfl) (by simp only [lk, cond_true, cond_false] <;> rfl)) (fun _ => rfl) rfl <| OSuf.aopT tyOK rfl sm (fun _ => rfl) rfl <| OSuf.aop tyOK ag sm rfl <| OSuf.aopT tyOK ag (so_bin (by simp only [lk] <;> rfl) (by simp only [lk] <;> rfl) bi_eql) (fun _ => rfl) (by first | rfl | assumption | ((simp only [bl, hh]) <;> first | done | assumption | omega) | (simp; done) | (simp; omega)) <| OSuf.aopT tyOK rfl (so_pick (by simp only [lk] <;> rfl) (by simp only [lk, cond_true, cond_false] <;> rfl)) (fun _ => rfl) rfl <| OSuf.nil <| SQ.normal ?_
        refine W.yes (by simp only [lk] <;> rfl) <| W.seq <| W.reg <| OSuf.aop tyOK rfl sm rfl <| OSuf.aop tyOK rfl sm rfl <| OSuf.aop tyOK rfl sm rfl <| OSuf.callD rfl (by simp only [aopnds, lk] <;> rfl) en49 (hc) rfl <| OSuf.nil <| SQ.normal ?_
        refine W.yes (by simp only [lk] <;> rfl) <| CWp.ret <| NQ.ret <| SQ.ret <| BQ.ret <| LQ.ret <| BQ.ret <| FQ.ret (by simp only [aRet, Try.f40, aResults, aResult, lk, Nat.reduceEqDiff, reduceIte] <;> rfl) ?_
        -- leaf: end
        exact ⟨rfl, _, rfl, hcont _ (permIn_trans _ _ _ _ _ hp2 q1) (q2 hres)⟩
    · refine W.seq <| W.reg <| OSuf.aopT tyOK rfl sm (fun _ => rfl) (by first | rfl | assumption | ((simp only [bl, hh]) <;> first | done | assumption | omega) | (simp; done) | (simp; omega)) <| OSuf.aopT tyOK rfl sm (fun _ => rfl) rfl <| OSuf.aopT tyOK ag sm (fun _ => rfl) (by first | rfl | assumption | ((simp only [bl, hh]) <;> first | done | assumption | omega) | (simp; done) | (simp; omega)) <| OSuf.aopT tyOK rfl (so_pick (by simp only [lk] <;> rfl) (by simp only [lk, cond_true, cond_false] <;> rfl)) (fun _ => rfl) rfl <| OSuf.aopT tyOK rfl sm (fun _ => rfl) rfl <| OSuf.aop tyOK ag sm rfl <| OSuf.aopF tyOK ag (so_bin (by simp only [lk] <;> rfl) (by simp only [lk] <;> rfl) bi_eql) (fun _ => rfl) (by first | rfl | assumption | ((simp only [bl, hh]) <;> first | done | assumption | omega) | (simp; done) | (simp; omega)) <| OSuf.aopF tyOK rfl (so_pick (by simp only [lk] <;> rfl) (by simp only [lk, cond_true, cond_false] <;> rfl)) (fun _ => rfl) rfl <| OSuf.nil <| SQ.normal ?_
      refine W.no (by simp only [lk] <;> rfl) <| CWp.skip <| ?_
      -- leaf: cut
      exact skip _ (by simp only [HasA, Tr.get_put, Nat.reduceEqDiff, reduceIte, and_self]) _
  clear hp2 hs2 ha
  rintro L a' h1 ha ⟨d3, hp3, rfl, rfl⟩
  have hs3 : d3.size = N := hp3.1.trans hds
  have hB3 := hB1.perm (by omega) hp3
  have w5 : IntKind.i64.wrap ((a1 : Int) - 1) = ((a1 : Int) - 1) := wrap_i64 (by omega) (by omega)
  by_cases heqp : 0 < a1 ∧ lt d3[a1 - 1]! d3[pv2]! = false
  · have w6 : IntKind.i64.wrap ((a1 : Int) - 1) = ((a1 - 1 : Nat) : Int) := by rw [wrap_i64 (by omega) (by omega)]; omega
    obtain ⟨mid, d4, hx⟩ : ∃ mid d4, partitionEqual lt d3 a1 b1 pv2 = (mid, d4) := ⟨_, _, rfl⟩
    obtain ⟨r1, r2, r3, r4, r5⟩ := round_eq swo (partitionEqual_holds lt) heqp.1 hq1 hq2 (by omega) hB3 heqp.2 hx
    have hc := partEq_c h r N d3 hs3 a1 b1 pv2 hq1 hq2 (by omega) hsz
    rw [hx] at hc
    dsimp only at hc
    refine SQ.normal <| CWp.known ha ?_
    simp only [mkA]
    refine W.seq <| W.seq <| W.regD tyOK mixed (by kernel_rfl) <| SqW.aop rfl sm rfl <| SqW.aopT rfl (so_bin (by simp only [lk] <;> rfl) (by simp only [lk] <;> rfl) bi_gtr) (fun _ => rfl) (by first | rfl | assumption | ((simp only [bl, if_pos, Int.toNat_natCast, Nat.mul_one, Nat.zero_add, rg, rs, rb, Value.cells, List.length_cons, List.length_nil, oneCells, List.all_cons, List.all_nil, Value.oneCell', Bool.and_self, cond_true, AHeap.set_set, Array.size_setIfInBounds]) <;> first | done | assumption | omega) | (simp; done) | (simp; omega)) <| SqW.aopT rfl sm (fun _ => rfl) rfl <| SqW.aop ag sm rfl <| SqW.aop ag sm rfl <| SqW.aop ag (so_bin (by simp only [lk] <;> rfl) (by simp only [lk] <;> rfl) (bi_w bi_sub (by first | (simp only [w6] <;> rfl) | rfl))) rfl <| SqW.aop ag (so_indexAddr (by simp only [lk] <;> rfl) (by simp only [lk] <;> rfl) (by simp (disch := first | assumption | omega | (simp only [nx] <;> omega) | fail) only [aIndexAddr, ty60, ty9, hpl, if_pos, Int.toNat_natCast, Nat.mul_one, Nat.zero_add, rg, rs, rb, Value.cells, List.length_cons, List.length_nil, oneCells, List.all_cons, List.all_nil, Value.oneCell', Bool.and_self, cond_true, AHeap.set_set, Array.size_setIfInBounds] <;> rfl)) rfl <| SqW.aop ag (so_load (by simp only [lk] <;> rfl) (by simp (disch := first | assumption | omega | (simp only [nx] <;> omega) | fail) only [aLoad, ty9, rowOf, hpl, if_pos, Int.toNat_natCast, Nat.mul_one, Nat.zero_add, rg, rs, rb, Value.cells, List.length_cons, List.length_nil, oneCells, List.all_cons, List.all_nil, Value.oneCell', Bool.and_self, cond_true, AHeap.set_set, Array.size_setIfInBounds] <;> rfl)) rfl <| SqW.aop ag sm rfl <| SqW.aop ag sm rfl <| SqW.aop ag (so_indexAddr (by simp only [lk] <;> rfl) (by simp only [lk] <;> rfl) (by simp (disch := first | assumption | omega | (simp only [nx] <;> omega) | fail) only [aIndexAddr, ty60, ty9, hpl, if_pos, Int.toNat_natCast, Nat.mul_one, Nat.zero_add, rg, rs, rb, Value.cells, List.length_cons, List.length_nil, oneCells, List.all_cons, List.all_nil, Value.oneCell', Bool.and_self, cond_true, AHeap.set_set, Array.size_setIfInBounds] <;> rfl)) rfl <| SqW.aop ag (so_load (by simp only [lk] <;> rfl) (by simp (disch := first | assumption | omega | (simp only [nx] <;> omega) | fail) only [aLoad, ty9, rowOf, hpl, if_pos, Int.toNat_natCast, Nat.mul_one, Nat.zero_add, rg, rs, rb, Value.cells, List.length_cons, List.length_nil, oneCells, List.all_cons, List.all_nil, Value.oneCell', Bool.and_self, cond_true, AHeap.set_set, Array.size_setIfInBounds] <;> rfl)) rfl <| SqW.callD ag (by simp only [aopnds, lk] <;> rfl) en50 (less_c _ _ _ _ heqp.2) rfl <| SqW.aopT ag (so_not (by simp only [lk] <;> rfl)) (fun _ => rfl) rfl <| SqW.aopT rfl (so_pick (by simp only [lk] <;> rfl) (by simp only [lk, cond_true, cond_false] <;> rfl)) (fun _ => rfl) rfl <| SqW.nil <| SQ.normal ?_
    refine W.yes (by simp only [lk] <;> rfl) <| W.seq <| W.reg <| OSuf.aop tyOK rfl sm rfl <| OSuf.aop tyOK rfl sm rfl <| OSuf.aop tyOK rfl sm rfl <| OSuf.aop tyOK rfl sm rfl <| OSuf.callD rfl (by simp only [aopnds, lk] <;> rfl) en51 (hc) rfl <| OSuf.aop tyOK rfl (so_assign (by simp only [lk] <;> rfl)) rfl <| OSuf.nil <| SQ.normal ?_
    refine W.seq <| W.reg <| OSuf.aop tyOK rfl sm rfl <| OSuf.aop tyOK rfl (so_assign (by simp only [lk] <;> rfl)) rfl <| OSuf.nil <| SQ.normal ?_
    refine CWp.exit <| SQ.exit <| BQ.exit <| ?_
    -- leaf: round
    refine LQ.normal (m := b1 - mid) (L := [(0, sl r N), (1, I64 mid), (2, I64 b1), (3, I64 lim2), (8, .bool wb), (9, .bool wp)]) (by omega) ?_ ⟨mid, b1, lim2, wb, wp, d4, rfl, by omega, by omega, hbb1, hl2, r3.trans hs3, r4, fun R e1 e2 => ?_, rfl, rfl⟩
    · simp only [HasA, Tr.get_put, Nat.reduceEqDiff, reduceIte, and_self]
    · obtain ⟨g1, g2⟩ := r5 R e1 e2
      exact hcont R (permIn_trans _ _ _ _ _ hp3 g1) g2
  obtain ⟨mid, ap, d4, hx⟩ : ∃ mid ap d4, partition lt d3 a1 b1 pv2 = (mid, ap, d4) := ⟨_, _, _, rfl⟩
  obtain ⟨r1, r2, r3, r4, r5, r6, r7⟩ := round_part swo (partition_holds lt) hq1 hq2 (by omega) hB3 hx
  have hc := partition_c h r N d3 hs3 a1 b1 pv2 hq1 hq2 (by omega) hsz
  rw [hx] at hc
  dsimp only at hc
  have hs4 : d4.size = N := r3.trans hs3
  have v1 : IntKind.i64.wrap ((mid : Int) - (a1 : Int)) = ((mid - a1 : Nat) : Int) := by rw [wrap_i64 (by omega) (by omega)]; omega
  have v2 : IntKind.i64.wrap ((b1 : Int) - (mid : Int)) = ((b1 - mid : Nat) : Int) := by rw [wrap_i64 (by omega) (by omega)]; omega
  have v3 : IntKind.i64.wrap ((mid : Int) + 1) = ((mid + 1 : Nat) : Int) := by rw [wrap_i64 (by omega) (by omega)]; omega
  have v4 : IntKind.i64.wrap (((b1 - a1 : Nat) : Int).tdiv 8) = (((b1 - a1) / 8 : Nat) : Int) := by rw [Int.tdiv_eq_ediv_of_nonneg (by omega), wrap_i64 (by omega) (by omega)]; omega
  have goL : ∀ (wb2 : Bool) (a' : Tr Value) (h' : AHeap) (Q : AExit → Tr Value → AHeap → Prop), (∃ dL : Array El, h' = h.set r (row dL) ∧ PermIn a1 mid d4 dL ∧ SortedIn lt a1 mid dL) → HasA a' [(0, sl r N), (1, I64 (mid + 1 : Nat)), (2, I64 b1), (3, I64 lim2), (8, .bool wb2), (9, .bool ap)] →
      LQ (b1 - a1) (fun n1 L h' => ∃ (a1 b1 lim1 : Nat) (wb wp : Bool) (dk : Array El), n1 = b1 - a1 ∧ a ≤ a1 ∧ a1 ≤ b1 ∧ b1 ≤ b ∧ lim1 ≤ 100 ∧ dk.size = N ∧ Below lt a1 b1 dk ∧ (∀ R, PermIn a1 b1 dk R → SortedIn lt a1 b1 R → PermIn a b d R ∧ SortedIn lt a b R) ∧ h' = h.set r (row dk) ∧
        L = [(0, sl r N), (1, I64 a1), (2, I64 b1), (3, I64 lim1), (8, .bool wb), (9, .bool wp)]) Q .normal a' h' := by
    rintro wb2 a' h' Q ⟨dL, rfl, e1, e2⟩ hA
    obtain ⟨g1, g2⟩ := r6 dL e1 e2
    refine LQ.normal (m := b1 - (mid + 1)) (by omega) hA ⟨mid + 1, b1, lim2, wb2, ap, dL, rfl, by omega, by omega, hbb1, hl2, e1.1.trans hs4, g1, fun R f1 f2 => ?_, rfl, rfl⟩
    obtain ⟨k1, k2⟩ := g2 R f1 f2
    exact hcont R (permIn_trans _ _ _ _ _ hp3 k1) k2
  have goR : ∀ (wb2 : Bool) (a' : Tr Value) (h' : AHeap) (Q : AExit → Tr Value → AHeap → Prop), (∃ dL : Array El, h' = h.set r (row dL) ∧ PermIn (mid + 1) b1 d4 dL ∧ SortedIn lt (mid + 1) b1 dL) → HasA a' [(0, sl r N), (1, I64 a1), (2, I64 mid), (3, I64 lim2), (8, .bool wb2), (9, .bool ap)] →
      LQ (b1 - a1) (fun n1 L h' => ∃ (a1 b1 lim1 : Nat) (wb wp : Bool) (dk : Array El), n1 = b1 - a1 ∧ a ≤ a1 ∧ a1 ≤ b1 ∧ b1 ≤ b ∧ lim1 ≤ 100 ∧ dk.size = N ∧ Below lt a1 b1 dk ∧ (∀ R, PermIn a1 b1 dk R → SortedIn lt a1 b1 R → PermIn a b d R ∧ SortedIn lt a b R) ∧ h' = h.set r (row dk) ∧
        L = [(0, sl r N), (1, I64 a1), (2, I64 b1), (3, I64 lim1), (8, .bool wb), (9, .bool wp)]) Q .normal a' h' := by
    rintro wb2 a' h' Q ⟨dL, rfl, e1, e2⟩ hA
    obtain ⟨g1, g2⟩ := r7 dL e1 e2
    refine LQ.normal (m := mid - a1) (by omega) hA ⟨a1, mid, lim2, wb2, ap, dL, rfl, by omega, by omega, by omega, hl2, e1.1.trans hs4, g1, fun R f1 f2 => ?_, rfl, rfl⟩
    obtain ⟨k1, k2⟩ := g2 R f1 f2
    exact hcont R (permIn_trans _ _ _ _ _ hp3 k1) k2
  have recL := ih (mid - a1) (by omega) a1 mid lim2 d4 (Nat.le_refl _) hs4 (by omega) (by omega) hl2 r4
  have recR := ih (b1 - (mid + 1)) (by omega) (mid + 1) b1 lim2 d4 (Nat.le_refl _) hs4 (by omega) (by omega) hl2 r5

  by_cases ha0 : (a1 : Int) > 0
  · have w6 : IntKind.i64.wrap ((a1 : Int) - 1) = ((a1 - 1 : Nat) : Int) := by rw [wrap_i64 (by omega) (by omega)]; omega
    have hl : lt d3[a1 - 1]! d3[pv2]! = true := by
      cases hlv : lt d3[a1 - 1]! d3[pv2]!
      · exact (heqp ⟨by omega, hlv⟩).elim
      · rfl
    by_cases hlr : ((mid - a1 : Nat) : Int) < ((b1 - mid : Nat) : Int)
    · refine SQ.normal <| CWp.known ha ?_
      simp only [mkA]
      refine W.seq <| W.seq <| W.regD tyOK mixed (by kernel_rfl) <| SqW.aop rfl sm rfl <| SqW.aopT rfl (so_bin (by simp only [lk] <;> rfl) (by simp only [lk] <;> rfl) bi_gtr) (fun _ => rfl) (by first | rfl | assumption | ((simp only [bl, if_pos, Int.toNat_natCast, Nat.mul_one, Nat.zero_add, rg, rs, rb, Value.cells, List.length_cons, List.length_nil, oneCells, List.all_cons, List.all_nil, Value.oneCell', Bool.and_self, cond_true, AHeap.set_set, Array.size_setIfInBounds]) <;> first | done | assumption | omega) | (simp; done) | (simp; omega)) <| SqW.aopT rfl sm (fun _ => rfl) rfl <| SqW.aop ag sm rfl <| SqW.aop ag sm rfl <| SqW.aop ag (so_bin (by simp only [lk] <;> rfl) (by simp only [lk] <;> rfl) (bi_w bi_sub (by first | (simp only [w6, v1, v2, v3, v4] <;> rfl) | rfl))) rfl <| SqW.aop ag (so_indexAddr (by simp only [lk] <;> rfl) (by simp only [lk] <;> rfl) (by simp (disch := first | assumption | omega | (simp only [nx] <;> omega) | fail) only [aIndexAddr, ty60, ty9, hpl, if_pos, Int.toNat_natCast, Nat.mul_one, Nat.zero_add, rg, rs, rb, Value.cells, List.length_cons, List.length_nil, oneCells, List.all_cons, List.all_nil, Value.oneCell', Bool.and_self, cond_true, AHeap.set_set, Array.size_setIfInBounds] <;> rfl)) rfl <| SqW.aop ag (so_load (by simp only [lk] <;> rfl) (by simp (disch := first | assumption | omega | (simp only [nx] <;> omega) | fail) only [aLoad, ty9, rowOf, hpl, if_pos, Int.toNat_natCast, Nat.mul_one, Nat.zero_add, rg, rs, rb, Value.cells, List.length_cons, List.length_nil, oneCells, List.all_cons, List.all_nil, Value.oneCell', Bool.and_self, cond_true, AHeap.set_set, Array.size_setIfInBounds] <;> rfl)) rfl <| SqW.aop ag sm rfl <| SqW.aop ag sm rfl <| SqW.aop ag (so_indexAddr (by simp only [lk] <;> rfl) (by simp only [lk] <;> rfl) (by simp (disch := first | assumption | omega | (simp only [nx] <;> omega) | fail) only [aIndexAddr, ty60, ty9, hpl, if_pos, Int.toNat_natCast, Nat.mul_one, Nat.zero_add, rg, rs, rb, Value.cells, List.length_cons, List.length_nil, oneCells, List.all_cons, List.all_nil, Value.oneCell', Bool.and_self, cond_true, AHeap.set_set, Array.size_setIfInBounds] <;> rfl)) rfl <| SqW.aop ag (so_load (by simp only [lk] <;> rfl) (by simp (disch := first | assumption | omega | (simp only [nx] <;> omega) | fail) only [aLoad, ty9, rowOf, hpl, if_pos, Int.toNat_natCast, Nat.mul_one, Nat.zero_add, rg, rs, rb, Value.cells, List.length_cons, List.length_nil, oneCells, List.all_cons, List.all_nil, Value.oneCell', Bool.and_self, cond_true, AHeap.set_set, Array.size_setIfInBounds] <;> rfl)) rfl <| SqW.callD ag (by simp only [aopnds, lk] <;> rfl) en50 (less_c _ _ _ _ hl) rfl <| SqW.aopF ag (so_not (by simp only [lk] <;> rfl)) (fun _ => rfl) rfl <| SqW.aopF rfl (so_pick (by simp only [lk] <;> rfl) (by simp only [lk, cond_true, cond_false] <;> rfl)) (fun _ => rfl) rfl <| SqW.nil <| SQ.normal ?_
      refine W.no (by simp only [lk] <;> rfl) <| CWp.skip <| SQ.normal ?_
      refine W.seq <| W.reg <| OSuf.aop tyOK rfl sm rfl <| OSuf.aop tyOK rfl sm rfl <| OSuf.aop tyOK rfl sm rfl <| OSuf.aop tyOK rfl sm rfl <| OSuf.callD rfl (by simp only [aopnds, lk] <;> rfl) en52 (hc) rfl <| OSuf.aop tyOK rfl sm rfl <| OSuf.aop tyOK rfl (so_extract (by simp only [lk] <;> rfl) (by simp (disch := first | assumption | omega | (simp only [nx] <;> omega) | fail) only [aExtract, hpl, if_pos, Int.toNat_natCast, Nat.mul_one, Nat.zero_add, rg, rs, rb, Value.cells, List.length_cons, List.length_nil, oneCells, List.all_cons, List.all_nil, Value.oneCell', Bool.and_self, cond_true, AHeap.set_set, Array.size_setIfInBounds] <;> rfl)) rfl <| OSuf.aop tyOK rfl (so_extract (by simp only [lk] <;> rfl) (by simp (disch := first | assumption | omega | (simp only [nx] <;> omega) | fail) only [aExtract, hpl, if_pos, Int.toNat_natCast, Nat.mul_one, Nat.zero_add, rg, rs, rb, Value.cells, List.length_cons, List.length_nil, oneCells, List.all_cons, List.all_nil, Value.oneCell', Bool.and_self, cond_true, AHeap.set_set, Array.size_setIfInBounds] <;> rfl)) rfl <| OSuf.aop tyOK rfl (so_assign (by simp only [lk] <;> rfl)) rfl <| OSuf.aop tyOK rfl (so_assign (by simp only [lk] <;> rfl)) rfl <| OSuf.nil <| SQ.normal ?_
      refine W.seq <| W.reg <| OSuf.aop tyOK rfl sm rfl <| OSuf.aop tyOK rfl (so_assign (by simp only [lk] <;> rfl)) rfl <| OSuf.nil <| SQ.normal ?_
      refine W.seq <| W.reg <| OSuf.aop tyOK rfl sm rfl <| OSuf.aop tyOK rfl sm rfl <| OSuf.aop tyOK rfl (so_bin (by simp only [lk] <;> rfl) (by simp only [lk] <;> rfl) (bi_w bi_sub (by first | (simp only [w6, v1, v2, v3, v4] <;> rfl) | rfl))) rfl <| OSuf.aop tyOK rfl sm rfl <| OSuf.aop tyOK rfl sm rfl <| OSuf.aop tyOK rfl (so_bin (by simp only [lk] <;> rfl) (by simp only [lk] <;> rfl) (bi_w bi_sub (by first | (simp only [w6, v1, v2, v3, v4] <;> rfl) | rfl))) rfl <| OSuf.aop tyOK rfl (so_assign (by simp only [lk] <;> rfl)) rfl <| OSuf.aop tyOK rfl (so_assign (by simp only [lk] <;> rfl)) rfl <| OSuf.nil <| SQ.normal ?_
      refine W.seq <| W.reg <| OSuf.aop tyOK rfl sm rfl <| OSuf.aop tyOK rfl (so_bin (by simp only [lk] <;> rfl) (by simp only [lk] <;> rfl) (bi_w (bi_quo (by decide)) (by first | (simp only [w6, v1, v2, v3, v4] <;> rfl) | rfl))) rfl <| OSuf.aop tyOK rfl (so_assign (by simp only [lk] <;> rfl)) rfl <| OSuf.nil <| SQ.normal ?_
      refine W.seq <| W.reg <| OSuf.aop tyOK rfl sm rfl <| OSuf.aop tyOK rfl sm rfl <| OSuf.aopT tyOK rfl (so_bin (by simp only [lk] <;> rfl) (by simp only [lk] <;> rfl) bi_lss) (fun _ => rfl) (by first | rfl | assumption | ((simp only [bl, if_pos, Int.toNat_natCast, Nat.mul_one, Nat.zero_add, rg, rs, rb, Value.cells, List.length_cons, List.length_nil, oneCells, List.all_cons, List.all_nil, Value.oneCell', Bool.and_self, cond_true, AHeap.set_set, Array.size_setIfInBounds]) <;> first | done | assumption | omega) | (simp; done) | (simp; omega)) <| OSuf.nil <| SQ.normal ?_
      refine W.yes (by simp only [lk] <;> rfl) <| W.seq <| W.reg <| OSuf.aop tyOK rfl sm rfl <| OSuf.aop tyOK rfl sm rfl <| OSuf.aop tyOK rfl (so_bin (by simp only [lk] <;> rfl) (by simp only [lk] <;> rfl) bi_geq) rfl <| OSuf.aop tyOK rfl (so_assign (by simp only [lk] <;> rfl)) rfl <| OSuf.nil <| SQ.normal ?_
      refine W.seq <| W.reg <| OSuf.aop tyOK rfl sm rfl <| OSuf.aop tyOK rfl sm rfl <| OSuf.aop tyOK rfl sm rfl <| OSuf.aop tyOK rfl sm rfl <| OSuf.call rfl (by simp only [aopnds, lk] <;> rfl) en40 (recL) ?_
      rintro _ _ ⟨rfl, dL, rfl, e1, e2⟩
      refine ⟨_, rfl, ?_⟩
      refine OSuf.nil <| SQ.normal ?_
      refine W.reg <| OSuf.aop tyOK rfl sm rfl <| OSuf.aop tyOK rfl (so_bin (by simp only [lk] <;> rfl) (by simp only [lk] <;> rfl) (bi_w bi_add (by first | (simp only [w6, v1, v2, v3, v4] <;> rfl) | rfl))) rfl <| OSuf.aop tyOK rfl (so_assign (by simp only [lk] <;> rfl)) rfl <| OSuf.nil <| BQ.normal <| ?_
      -- leaf: round
      exact goL (decide (((mid - a1 : Nat) : Int) ≥ (((b1 - a1) / 8 : Nat) : Int))) _ _ _ ⟨dL, rfl, e1, e2⟩ (by simp only [HasA, Tr.get_put, Nat.reduceEqDiff, reduceIte, and_self])
    · refine SQ.normal <| CWp.known ha ?_
      simp only [mkA]
      refine W.seq <| W.seq <| W.regD tyOK mixed (by kernel_rfl) <| SqW.aop rfl sm rfl <| SqW.aopT rfl (so_bin (by simp only [lk] <;> rfl) (by simp only [lk] <;> rfl) bi_gtr) (fun _ => rfl) (by first | rfl | assumption | ((simp only [bl, if_pos, Int.toNat_natCast, Nat.mul_one, Nat.zero_add, rg, rs, rb, Value.cells, List.length_cons, List.length_nil, oneCells, List.all_cons, List.all_nil, Value.oneCell', Bool.and_self, cond_true, AHeap.set_set, Array.size_setIfInBounds]) <;> first | done | assumption | omega) | (simp; done) | (simp; omega)) <| SqW.aopT rfl sm (fun _ => rfl) rfl <| SqW.aop ag sm rfl <| SqW.aop ag sm rfl <| SqW.aop ag (so_bin (by simp only [lk] <;> rfl) (by simp only [lk] <;> rfl) (bi_w bi_sub (by first | (simp only [w6, v1, v2, v3, v4] <;> rfl) | rfl))) rfl <| SqW.aop ag (so_indexAddr (by simp only [lk] <;> rfl) (by simp only [lk] <;> rfl) (by simp (disch := first | assumption | omega | (simp only [nx] <;> omega) | fail) only [aIndexAddr, ty60, ty9, hpl, if_pos, Int.toNat_natCast, Nat.mul_one, Nat.zero_add, rg, rs, rb, Value.cells, List.length_cons, List.length_nil, oneCells, List.all_cons, List.all_nil, Value.oneCell', Bool.and_self, cond_true, AHeap.set_set, Array.size_setIfInBounds] <;> rfl)) rfl <| SqW.aop ag (so_load (by simp only [lk] <;> rfl) (by simp (disch := first | assumption | omega | (simp only [nx] <;> omega) | fail) only [aLoad, ty9, rowOf, hpl, if_pos, Int.toNat_natCast, Nat.mul_one, Nat.zero_add, rg, rs, rb, Value.cells, List.length_cons, List.length_nil, oneCells, List.all_cons, List.all_nil, Value.oneCell', Bool.and_self, cond_true, AHeap.set_set, Array.size_setIfInBounds] <;> rfl)) rfl <| SqW.aop ag sm rfl <| SqW.aop ag sm rfl <| SqW.aop ag (so_indexAddr (by simp only [lk] <;> rfl) (by simp only [lk] <;> rfl) (by simp (disch := first | assumption | omega | (simp only [nx] <;> omega) | fail) only [aIndexAddr, ty60, ty9, hpl, if_pos, Int.toNat_natCast, Nat.mul_one, Nat.zero_add, rg, rs, rb, Value.cells, List.length_cons, List.length_nil, oneCells, List.all_cons, List.all_nil, Value.oneCell', Bool.and_self, cond_true, AHeap.set_set, Array.size_setIfInBounds] <;> rfl)) rfl <| SqW.aop ag (so_load (by simp only [lk] <;> rfl) (by simp (disch := first | assumption | omega | (simp only [nx] <;> omega) | fail) only [aLoad, ty9, rowOf, hpl, if_pos, Int.toNat_natCast, Nat.mul_one, Nat.zero_add, rg, rs, rb, Value.cells, List.length_cons, List.length_nil, oneCells, List.all_cons, List.all_nil, Value.oneCell', Bool.and_self, cond_true, AHeap.set_set, Array.size_setIfInBounds] <;> rfl)) rfl <| SqW.callD ag (by simp only [aopnds, lk] <;> rfl) en50 (less_c _ _ _ _ hl) rfl <| SqW.aopF ag (so_not (by simp only [lk] <;> rfl)) (fun _ => rfl) rfl <| SqW.aopF rfl (so_pick (by simp only [lk] <;> rfl) (by simp only [lk, cond_true, cond_false] <;> rfl)) (fun _ => rfl) rfl <| SqW.nil <| SQ.normal ?_
      refine W.no (by simp only [lk] <;> rfl) <| CWp.skip <| SQ.normal ?_
      refine W.seq <| W.reg <| OSuf.aop tyOK rfl sm rfl <| OSuf.aop tyOK rfl sm rfl <| OSuf.aop tyOK rfl sm rfl <| OSuf.aop tyOK rfl sm rfl <| OSuf.callD rfl (by simp only [aopnds, lk] <;> rfl) en52 (hc) rfl <| OSuf.aop tyOK rfl sm rfl <| OSuf.aop tyOK rfl (so_extract (by simp only [lk] <;> rfl) (by simp (disch := first | assumption | omega | (simp only [nx] <;> omega) | fail) only [aExtract, hpl, if_pos, Int.toNat_natCast, Nat.mul_one, Nat.zero_add, rg, rs, rb, Value.cells, List.length_cons, List.length_nil, oneCells, List.all_cons, List.all_nil, Value.oneCell', Bool.and_self, cond_true, AHeap.set_set, Array.size_setIfInBounds] <;> rfl)) rfl <| OSuf.aop tyOK rfl (so_extract (by simp only [lk] <;> rfl) (by simp (disch := first | assumption | omega | (simp only [nx] <;> omega) | fail) only [aExtract, hpl, if_pos, Int.toNat_natCast, Nat.mul_one, Nat.zero_add, rg, rs, rb, Value.cells, List.length_cons, List.length_nil, oneCells, List.all_cons, List.all_nil, Value.oneCell', Bool.and_self, cond_true, AHeap.set_set, Array.size_setIfInBounds] <;> rfl)) rfl <| OSuf.aop tyOK rfl (so_assign (by simp only [lk] <;> rfl)) rfl <| OSuf.aop tyOK rfl (so_assign (by simp only [lk] <;> rfl)) rfl <| OSuf.nil <| SQ.normal ?_
      refine W.seq <| W.reg <| OSuf.aop tyOK rfl sm rfl <| OSuf.aop tyOK rfl (so_assign (by simp only [lk] <;> rfl)) rfl <| OSuf.nil <| SQ.normal ?_
      refine W.seq <| W.reg <| OSuf.aop tyOK rfl sm rfl <| OSuf.aop tyOK rfl sm rfl <| OSuf.aop tyOK rfl (so_bin (by simp only [lk] <;> rfl) (by simp only [lk] <;> rfl) (bi_w bi_sub (by first | (simp only [w6, v1, v2, v3, v4] <;> rfl) | rfl))) rfl <| OSuf.aop tyOK rfl sm rfl <| OSuf.aop tyOK rfl sm rfl <| OSuf.aop tyOK rfl (so_bin (by simp only [lk] <;> rfl) (by simp only [lk] <;> rfl) (bi_w bi_sub (by first | (simp only [w6, v1, v2, v3, v4] <;> rfl) | rfl))) rfl <| OSuf.aop tyOK rfl (so_assign (by simp only [lk] <;> rfl)) rfl <| OSuf.aop tyOK rfl (so_assign (by simp only [lk] <;> rfl)) rfl <| OSuf.nil <| SQ.normal ?_
      refine W.seq <| W.reg <| OSuf.aop tyOK rfl sm rfl <| OSuf.aop tyOK rfl (so_bin (by simp only [lk] <;> rfl) (by simp only [lk] <;> rfl) (bi_w (bi_quo (by decide)) (by first | (simp only [w6, v1, v2, v3, v4] <;> rfl) | rfl))) rfl <| OSuf.aop tyOK rfl (so_assign (by simp only [lk] <;> rfl)) rfl <| OSuf.nil <| SQ.normal ?_
      refine W.seq <| W.reg <| OSuf.aop tyOK rfl sm rfl <| OSuf.aop tyOK rfl sm rfl <| OSuf.aopF tyOK rfl (so_bin (by simp only [lk] <;> rfl) (by simp only [lk] <;> rfl) bi_lss) (fun _ => rfl) (by first | rfl | assumption | ((simp only [bl, if_pos, Int.toNat_natCast, Nat.mul_one, Nat.zero_add, rg, rs, rb, Value.cells, List.length_cons, List.length_nil, oneCells, List.all_cons, List.all_nil, Value.oneCell', Bool.and_self, cond_true, AHeap.set_set, Array.size_setIfInBounds]) <;> first | done | assumption | omega) | (simp; done) | (simp; omega)) <| OSuf.nil <| SQ.normal ?_
      refine W.no (by simp only [lk] <;> rfl) <| W.seq <| W.reg <| OSuf.aop tyOK rfl sm rfl <| OSuf.aop tyOK rfl sm rfl <| OSuf.aop tyOK rfl (so_bin (by simp only [lk] <;> rfl) (by simp only [lk] <;> rfl) bi_geq) rfl <| OSuf.aop tyOK rfl (so_assign (by simp only [lk] <;> rfl)) rfl <| OSuf.nil <| SQ.normal ?_
      refine W.seq <| W.reg <| OSuf.aop tyOK rfl sm rfl <| OSuf.aop tyOK rfl sm rfl <| OSuf.aop tyOK rfl (so_bin (by simp only [lk] <;> rfl) (by simp only [lk] <;> rfl) (bi_w bi_add (by first | (simp only [w6, v1, v2, v3, v4] <;> rfl) | rfl))) rfl <| OSuf.aop tyOK rfl sm rfl <| OSuf.aop tyOK rfl sm rfl <| OSuf.call rfl (by simp only [aopnds, lk] <;> rfl) en40 (recR) ?_
      rintro _ _ ⟨rfl, dL, rfl, e1, e2⟩
      refine ⟨_, rfl, ?_⟩
      refine OSuf.nil <| SQ.normal ?_
      refine W.reg <| OSuf.aop tyOK rfl sm rfl <| OSuf.aop tyOK rfl (so_assign (by simp only [lk] <;> rfl)) rfl <| OSuf.nil <| BQ.normal <| ?_
      -- leaf: round
      exact goR (decide (((b1 - mid : Nat) : Int) ≥ (((b1 - a1) / 8 : Nat) : Int))) _ _ _ ⟨dL, rfl, e1, e2⟩ (by simp only [HasA, Tr.get_put, Nat.reduceEqDiff, reduceIte, and_self])
  by_cases hlr : ((mid - a1 : Nat) : Int) < ((b1 - mid : Nat) : Int)
  · refine SQ.normal <| CWp.known ha ?_
    simp only [mkA]
    refine W.seq <| W.seq <| W.regD tyOK mixed (by kernel_rfl) <| SqW.aop rfl sm rfl <| SqW.aopF rfl (so_bin (by simp only [lk] <;> rfl) (by simp only [lk] <;> rfl) bi_gtr) (fun _ => rfl) (by first | rfl | assumption | ((simp only [bl, if_pos, Int.toNat_natCast, Nat.mul_one, Nat.zero_add, rg, rs, rb, Value.cells, List.length_cons, List.length_nil, oneCells, List.all_cons, List.all_nil, Value.oneCell', Bool.and_self, cond_true, AHeap.set_set, Array.size_setIfInBounds]) <;> first | done | assumption | omega) | (simp; done) | (simp; omega)) <| SqW.aopF rfl sm (fun _ => rfl) rfl <| SqW.pass ag rfl <| SqW.pass ag rfl <| SqW.pass ag rfl <| SqW.pass ag rfl <| SqW.pass ag rfl <| SqW.pass ag rfl <| SqW.pass ag rfl <| SqW.pass ag rfl <| SqW.pass ag rfl <| SqW.pass ag rfl <| SqW.pass ag rfl <| SqW.aopF rfl (so_pick (by simp only [lk] <;> rfl) (by simp only [lk, cond_true, cond_false] <;> rfl)) (fun _ => rfl) rfl <| SqW.nil <| SQ.normal ?_
    refine W.no (by simp only [lk] <;> rfl) <| CWp.skip <| SQ.normal ?_
    refine W.seq <| W.reg <| OSuf.aop tyOK rfl sm rfl <| OSuf.aop tyOK rfl sm rfl <| OSuf.aop tyOK rfl sm rfl <| OSuf.aop tyOK rfl sm rfl <| OSuf.callD rfl (by simp only [aopnds, lk] <;> rfl) en52 (hc) rfl <| OSuf.aop tyOK rfl sm rfl <| OSuf.aop tyOK rfl (so_extract (by simp only [lk] <;> rfl) (by simp (disch := first | assumption | omega | (simp only [nx] <;> omega) | fail) only [aExtract, hpl, if_pos, Int.toNat_natCast, Nat.mul_one, Nat.zero_add, rg, rs, rb, Value.cells, List.length_cons, List.length_nil, oneCells, List.all_cons, List.all_nil, Value.oneCell', Bool.and_self, cond_true, AHeap.set_set, Array.size_setIfInBounds] <;> rfl)) rfl <| OSuf.aop tyOK rfl (so_extract (by simp only [lk] <;> rfl) (by simp (disch := first | assumption | omega | (simp only [nx] <;> omega) | fail) only [aExtract, hpl, if_pos, Int.toNat_natCast, Nat.mul_one, Nat.zero_add, rg, rs, rb, Value.cells, List.length_cons, List.length_nil, oneCells, List.all_cons, List.all_nil, Value.oneCell', Bool.and_self, cond_true, AHeap.set_set, Array.size_setIfInBounds] <;> rfl)) rfl <| OSuf.aop tyOK rfl (so_assign (by simp only [lk] <;> rfl)) rfl <| OSuf.aop tyOK rfl (so_assign (by simp only [lk] <;> rfl)) rfl <| OSuf.nil <| SQ.normal ?_
    refine W.seq <| W.reg <| OSuf.aop tyOK rfl sm rfl <| OSuf.aop tyOK rfl (so_assign (by simp only [lk] <;> rfl)) rfl <| OSuf.nil <| SQ.normal ?_
    refine W.seq <| W.reg <| OSuf.aop tyOK rfl sm rfl <| OSuf.aop tyOK rfl sm rfl <| OSuf.aop tyOK rfl (so_bin (by simp only [lk] <;> rfl) (by simp only [lk] <;> rfl) (bi_w bi_sub (by first | (simp only [v1, v2, v3, v4] <;> rfl) | rfl))) rfl <| OSuf.aop tyOK rfl sm rfl <| OSuf.aop tyOK rfl sm rfl <| OSuf.aop tyOK rfl (so_bin (by simp only [lk] <;> rfl) (by simp only [lk] <;> rfl) (bi_w bi_sub (by first | (simp only [v1, v2, v3, v4] <;> rfl) | rfl))) rfl <| OSuf.aop tyOK rfl (so_assign (by simp only [lk] <;> rfl)) rfl <| OSuf.aop tyOK rfl (so_assign (by simp only [lk] <;> rfl)) rfl <| OSuf.nil <| SQ.normal ?_
    refine W.seq <| W.reg <| OSuf.aop tyOK rfl sm rfl <| OSuf.aop tyOK rfl (so_bin (by simp only [lk] <;> rfl) (by simp only [lk] <;> rfl) (bi_w (bi_quo (by decide)) (by first | (simp only [v1, v2, v3, v4] <;> rfl) | rfl))) rfl <| OSuf.aop tyOK rfl (so_assign (by simp only [lk] <;> rfl)) rfl <| OSuf.nil <| SQ.normal ?_
    refine W.seq <| W.reg <| OSuf.aop tyOK rfl sm rfl <| OSuf.aop tyOK rfl sm rfl <| OSuf.aopT tyOK rfl (so_bin (by simp only [lk] <;> rfl) (by simp only [lk] <;> rfl) bi_lss) (fun _ => rfl) (by first | rfl | assumption | ((simp only [bl, if_pos, Int.toNat_natCast, Nat.mul_one, Nat.zero_add, rg, rs, rb, Value.cells, List.length_cons, List.length_nil, oneCells, List.all_cons, List.all_nil, Value.oneCell', Bool.and_self, cond_true, AHeap.set_set, Array.size_setIfInBounds]) <;> first | done | assumption | omega) | (simp; done) | (simp; omega)) <| OSuf.nil <| SQ.normal ?_
    refine W.yes (by simp only [lk] <;> rfl) <| W.seq <| W.reg <| OSuf.aop tyOK rfl sm rfl <| OSuf.aop tyOK rfl sm rfl <| OSuf.aop tyOK rfl (so_bin (by simp only [lk] <;> rfl) (by simp only [lk] <;> rfl) bi_geq) rfl <| OSuf.aop tyOK rfl (so_assign (by simp only [lk] <;> rfl)) rfl <| OSuf.nil <| SQ.normal ?_
    refine W.seq <| W.reg <| OSuf.aop tyOK rfl sm rfl <| OSuf.aop tyOK rfl sm rfl <| OSuf.aop tyOK rfl sm rfl <| OSuf.aop tyOK rfl sm rfl <| OSuf.call rfl (by simp only [aopnds, lk] <;> rfl) en40 (recL) ?_
    rintro _ _ ⟨rfl, dL, rfl, e1, e2⟩
    refine ⟨_, rfl, ?_⟩
    refine OSuf.nil <| SQ.normal ?_
    refine W.reg <| OSuf.aop tyOK rfl sm rfl <| OSuf.aop tyOK rfl (so_bin (by simp only [lk] <;> rfl) (by simp only [lk] <;> rfl) (bi_w bi_add (by first | (simp only [v1, v2, v3, v4] <;> rfl) | rfl))) rfl <| OSuf.aop tyOK rfl (so_assign (by simp only [lk] <;> rfl)) rfl <| OSuf.nil <| BQ.normal <| ?_
    -- leaf: round
    exact goL (decide (((mid - a1 : Nat) : Int) ≥ (((b1 - a1) / 8 : Nat) : Int))) _ _ _ ⟨dL, rfl, e1, e2⟩ (by simp only [HasA, Tr.get_put, Nat.reduceEqDiff, reduceIte, and_self])
  · refine SQ.normal <| CWp.known ha ?_
    simp only [mkA]
    refine W.seq <| W.seq <| W.regD tyOK mixed (by kernel_rfl) <| SqW.aop rfl sm rfl <| SqW.aopF rfl (so_bin (by simp only [lk] <;> rfl) (by simp only [lk] <;> rfl) bi_gtr) (fun _ => rfl) (by first | rfl | assumption | ((simp only [bl, if_pos, Int.toNat_natCast, Nat.mul_one, Nat.zero_add, rg, rs, rb, Value.cells, List.length_cons, List.length_nil, oneCells, List.all_cons, List.all_nil, Value.oneCell', Bool.and_self, cond_true, AHeap.set_set, Array.size_setIfInBounds]) <;> first | done | assumption | omega) | (simp; done) | (simp; omega)) <| SqW.aopF rfl sm (fun _ => rfl) rfl <| SqW.pass ag rfl <| SqW.pass ag rfl <| SqW.pass ag rfl <| SqW.pass ag rfl <| SqW.pass ag rfl <| SqW.pass ag rfl <| SqW.pass ag rfl <| SqW.pass ag rfl <| SqW.pass ag rfl <| SqW.pass ag rfl <| SqW.pass ag rfl <| SqW.aopF rfl (so_pick (by simp only [lk] <;> rfl) (by simp only [lk, cond_true, cond_false] <;> rfl)) (fun _ => rfl) rfl <| SqW.nil <| SQ.normal ?_
    refine W.no (by simp only [lk] <;> rfl) <| CWp.skip <| SQ.normal ?_
    refine W.seq <| W.reg <| OSuf.aop tyOK rfl sm rfl <| OSuf.aop tyOK rfl sm rfl <| OSuf.aop tyOK rfl sm rfl <| OSuf.aop tyOK rfl sm rfl <| OSuf.callD rfl (by simp only [aopnds, lk] <;> rfl) en52 (hc) rfl <| OSuf.aop tyOK rfl sm rfl <| OSuf.aop tyOK rfl (so_extract (by simp only [lk] <;> rfl) (by simp (disch := first | assumption | omega | (simp only [nx] <;> omega) | fail) only [aExtract, hpl, if_pos, Int.toNat_natCast, Nat.mul_one, Nat.zero_add, rg, rs, rb, Value.cells, List.length_cons, List.length_nil, oneCells, List.all_cons, List.all_nil, Value.oneCell', Bool.and_self, cond_true, AHeap.set_set, Array.size_setIfInBounds] <;> rfl)) rfl <| OSuf.aop tyOK rfl (so_extract (by simp only [lk] <;> rfl) (by simp (disch := first | assumption | omega | (simp only [nx] <;> omega) | fail) only [aExtract, hpl, if_pos, Int.toNat_natCast, Nat.mul_one, Nat.zero_add, rg, rs, rb, Value.cells, List.length_cons, List.length_nil, oneCells, List.all_cons, List.all_nil, Value.oneCell', Bool.and_self, cond_true, AHeap.set_set, Array.size_setIfInBounds] <;> rfl)) rfl <| OSuf.aop tyOK rfl (so_assign (by simp only [lk] <;> rfl)) rfl <| OSuf.aop tyOK rfl (so_assign (by simp only [lk] <;> rfl)) rfl <| OSuf.nil <| SQ.normal ?_
    refine W.seq <| W.reg <| OSuf.aop tyOK rfl sm rfl <| OSuf.aop tyOK rfl (so_assign (by simp only [lk] <;> rfl)) rfl <| OSuf.nil <| SQ.normal ?_
    refine W.seq <| W.reg <| OSuf.aop tyOK rfl sm rfl <| OSuf.aop tyOK rfl sm rfl <| OSuf.aop tyOK rfl (so_bin (by simp only [lk] <;> rfl) (by simp only [lk] <;> rfl) (bi_w bi_sub (by first | (simp only [v1, v2, v3, v4] <;> rfl) | rfl))) rfl <| OSuf.aop tyOK rfl sm rfl <| OSuf.aop tyOK rfl sm rfl <| OSuf.aop tyOK rfl (so_bin (by simp only [lk] <;> rfl) (by simp only [lk] <;> rfl) (bi_w bi_sub (by first | (simp only [v1, v2, v3, v4] <;> rfl) | rfl))) rfl <| OSuf.aop tyOK rfl (so_assign (by simp only [lk] <;> rfl)) rfl <| OSuf.aop tyOK rfl (so_assign (by simp only [lk] <;> rfl)) rfl <| OSuf.nil <| SQ.normal ?_
    refine W.seq <| W.reg <| OSuf.aop tyOK rfl sm rfl <| OSuf.aop tyOK rfl (so_bin (by simp only [lk] <;> rfl) (by simp only [lk] <;> rfl) (bi_w (bi_quo (by decide)) (by first | (simp only [v1, v2, v3, v4] <;> rfl) | rfl))) rfl <| OSuf.aop tyOK rfl (so_assign (by simp only [lk] <;> rfl)) rfl <| OSuf.nil <| SQ.normal ?_
    refine W.seq <| W.reg <| OSuf.aop tyOK rfl sm rfl <| OSuf.aop tyOK rfl sm rfl <| OSuf.aopF tyOK rfl (so_bin (by simp only [lk] <;> rfl) (by simp only [lk] <;> rfl) bi_lss) (fun _ => rfl) (by first | rfl | assumption | ((simp only [bl, if_pos, Int.toNat_natCast, Nat.mul_one, Nat.zero_add, rg, rs, rb, Value.cells, List.length_cons, List.length_nil, oneCells, List.all_cons, List.all_nil, Value.oneCell', Bool.and_self, cond_true, AHeap.set_set, Array.size_setIfInBounds]) <;> first | done | assumption | omega) | (simp; done) | (simp; omega)) <| OSuf.nil <| SQ.normal ?_
    refine W.no (by simp only [lk] <;> rfl) <| W.seq <| W.reg <| OSuf.aop tyOK rfl sm rfl <| OSuf.aop tyOK rfl sm rfl <| OSuf.aop tyOK rfl (so_bin (by simp only [lk] <;> rfl) (by simp only [lk] <;> rfl) bi_geq) rfl <| OSuf.aop tyOK rfl (so_assign (by simp only [lk] <;> rfl)) rfl <| OSuf.nil <| SQ.normal ?_
    refine W.seq <| W.reg <| OSuf.aop tyOK rfl sm rfl <| OSuf.aop tyOK rfl sm rfl <| OSuf.aop tyOK rfl (so_bin (by simp only [lk] <;> rfl) (by simp only [lk] <;> rfl) (bi_w bi_add (by first | (simp only [v1, v2, v3, v4] <;> rfl) | rfl))) rfl <| OSuf.aop tyOK rfl sm rfl <| OSuf.aop tyOK rfl sm rfl <| OSuf.call rfl (by simp only [aopnds, lk] <;> rfl) en40 (recR) ?_
    rintro _ _ ⟨rfl, dL, rfl, e1, e2⟩
    refine ⟨_, rfl, ?_⟩
    refine OSuf.nil <| SQ.normal ?_
    refine W.reg <| OSuf.aop tyOK rfl sm rfl <| OSuf.aop tyOK rfl (so_assign (by simp only [lk] <;> rfl)) rfl <| OSuf.nil <| BQ.normal <| ?_
    -- leaf: round
    exact goR (decide (((b1 - mid : Nat) : Int) ≥ (((b1 - a1) / 8 : Nat) : Int))) _ _ _ ⟨dL, rfl, e1, e2⟩ (by simp only [HasA, Tr.get_put, Nat.reduceEqDiff, reduceIte, and_self])

theorem sort_c (h : AHeap) (r N : Nat) (hrn : r < h.next) (hsz : N < 1000000000) (d : Array El) (hN : d.size = N) :
    FWp Try.prog 36 [sl r N] (h.set r (row d)) fun u h' => u = .tuple #[] ∧ ∃ d' : Array El, h' = h.set r (row d') ∧ PermIn 0 N d d' ∧ SortedIn lt 0 N d' := by
  have hb : bitsLen N ≤ 30 := (bitsLen_le_iff N 30).2 (by omega)
  have w1 : IntKind.u64.wrap (N : Int) = (N : Int) := wrap_u64 (by omega) (by omega)
  refine W.enter tyOK Try.func36 rfl rfl ?_
  simp only [entry]
  refine W.seq <| W.reg <| OSuf.aop tyOK rfl sm rfl <| OSuf.aop tyOK rfl (so_len (by simp only [aopnds, lk] <;> rfl) (by simp (disch := first | assumption | omega | (simp only [nx] <;> omega) | fail) only [aLenOf, ty60, hpl] <;> rfl)) rfl <| OSuf.aop tyOK rfl (so_assign (by simp only [lk] <;> rfl)) rfl <| OSuf.nil <| SQ.normal ?_
  refine W.reg <| OSuf.aop tyOK rfl sm rfl <| OSuf.aop tyOK rfl sm rfl <| OSuf.aop tyOK rfl sm rfl <| OSuf.aop tyOK rfl (so_conw (so_conv tyOK (by simp only [lk] <;> rfl) ty3 ⟨_, rfl⟩ ty91 rfl) (by first | (simp only [w1] <;> rfl) | rfl)) rfl <| OSuf.callD rfl (by simp only [aopnds, lk] <;> rfl) en41 (len_c _ N (by omega)) rfl <| OSuf.call rfl (by simp only [aopnds, lk] <;> rfl) en40 (pdq_c h r N hrn hsz N 0 N (bitsLen N) d (by omega) hN (by omega) (Nat.le_refl _) (by omega) (.inl rfl)) ?_
  rintro _ _ ⟨rfl, d', rfl, e1, e2⟩
  refine ⟨_, rfl, ?_⟩
  refine OSuf.nil <| FQ.normal (by simp only [aRet, Try.f36, aResults, aResult, lk, Nat.reduceEqDiff, reduceIte] <;> rfl) ?_
  -- leaf: end
  exact ⟨rfl, d', rfl, e1, e2⟩
end Go.Proofs.Ytldhcjfhlfgleaa.SortS
