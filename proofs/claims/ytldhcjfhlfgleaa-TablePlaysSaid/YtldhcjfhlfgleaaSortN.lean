/-
  Sorting none; a sorted list is the only one, at string.
-/
import Derived.Test.YtldhcjfhlfgleaaSortH
namespace Go.Proofs.Ytldhcjfhlfgleaa.SortS
open Go.Ab Go.Sort
set_option linter.unusedSimpArgs false
set_option linter.unusedVariables false
set_option maxRecDepth 10000
set_option maxHeartbeats 8000000

/-! Sorting none. -/
theorem insertion_nil (h : AHeap) : FWp Try.prog 44 [.slice none 0 0, I64 0, I64 0] h fun u h' => u = .tuple #[] ∧ h' = h := by
  refine W.enter tyOK Try.func44 rfl rfl ?_
  simp only [entry]
  have w0 : IntKind.i64.wrap ((0 : Int) + 1) = 1 := by decide
  refine W.seq <| W.reg <| OSuf.aop tyOK rfl sm rfl <| OSuf.aop tyOK rfl (so_bin (by simp only [lk] <;> rfl) (by simp only [lk] <;> rfl) (bi_w bi_add (by first | (simp only [w0] <;> rfl) | rfl))) rfl <| OSuf.aop tyOK rfl (so_assign (by simp only [lk] <;> rfl)) rfl <| OSuf.nil <| SQ.normal ?_
  -- leaf: loop
  refine W.block (W.loop (fun n L h' => h' = h ∧ L = [(2, I64 0), (6, I64 1)]) (n := 0) ⟨rfl, rfl⟩ ?_ ?_)
  · simp [HasA, Tr.get_put]
  · rintro n L h1 ⟨rfl, rfl⟩
    simp only [mkA]
    refine W.seq <| W.seq <| W.reg <| OSuf.aop tyOK rfl sm rfl <| OSuf.aop tyOK rfl sm rfl <| OSuf.aopF tyOK rfl (so_bin (by simp only [lk] <;> rfl) (by simp only [lk] <;> rfl) bi_lss) (fun _ => rfl) (by first | rfl | assumption | ((simp only [bl]) <;> first | done | assumption | omega) | (simp; done) | (simp; omega)) <| OSuf.nil <| SQ.normal ?_
    refine W.no (by simp only [lk] <;> rfl) <| CWp.exit <| SQ.exit <| LQ.exit <| BQ.exit <| FQ.normal (by simp only [aRet, Try.f44, aResults, aResult, lk, Nat.reduceEqDiff, reduceIte] <;> rfl) ?_
    -- leaf: end
    exact ⟨rfl, rfl⟩
theorem pdq_nil (h : AHeap) (lim : Int) : FWp Try.prog 40 [.slice none 0 0, I64 0, I64 0, I64 lim] h fun u h' => u = .tuple #[] ∧ h' = h := by
  refine W.enter tyOK Try.func40 rfl rfl ?_
  simp only [entry]
  have w0 : IntKind.i64.wrap ((0 : Int) - 0) = 0 := by decide
  refine W.seq <| W.reg <| OSuf.aopT tyOK rfl (so_assign (by simp only [lk] <;> rfl)) (fun _ => rfl) rfl <| OSuf.nil <| SQ.normal ?_
  refine W.seq <| W.reg <| OSuf.aopT tyOK rfl (so_assign (by simp only [lk] <;> rfl)) (fun _ => rfl) rfl <| OSuf.nil <| SQ.normal ?_
  -- leaf: loop
  refine W.block (W.loop (fun n L h' => h' = h ∧ L = [(0, .slice none 0 0), (1, I64 0), (2, I64 0)]) (n := 0) ⟨rfl, rfl⟩ ?_ ?_)
  · simp [HasA, Tr.get_put]
  · rintro n L h1 ⟨rfl, rfl⟩
    simp only [mkA]
    refine W.block <| W.seq <| W.reg <| OSuf.aop tyOK rfl sm rfl <| OSuf.aop tyOK rfl sm rfl <| OSuf.aop tyOK rfl (so_bin (by simp only [lk] <;> rfl) (by simp only [lk] <;> rfl) (bi_w bi_sub (by first | (simp only [w0] <;> rfl) | rfl))) rfl <| OSuf.aop tyOK rfl (so_assign (by simp only [lk] <;> rfl)) rfl <| OSuf.nil <| SQ.normal ?_
    refine W.seq <| W.seq <| W.reg <| OSuf.aop tyOK rfl sm rfl <| OSuf.aopT tyOK rfl (so_bin (by simp only [lk] <;> rfl) (by simp only [lk] <;> rfl) bi_leq) (fun _ => rfl) (by first | rfl | assumption | ((simp only [bl]) <;> first | done | assumption | omega) | (simp; done) | (simp; omega)) <| OSuf.nil <| SQ.normal ?_
    refine W.yes (by simp only [lk] <;> rfl) <| W.seq <| W.reg <| OSuf.aop tyOK rfl sm rfl <| OSuf.aop tyOK rfl sm rfl <| OSuf.aop tyOK rfl sm rfl <| OSuf.callD rfl (by simp only [aopnds, lk] <;> rfl) en44 (insertion_nil _) rfl <| OSuf.nil <| SQ.normal ?_
    refine CWp.ret <| SQ.ret <| BQ.ret <| LQ.ret <| BQ.ret <| FQ.ret (by simp only [aRet, Try.f40, aResults, aResult, lk, Nat.reduceEqDiff, reduceIte] <;> rfl) ?_
    -- leaf: end
    exact ⟨rfl, rfl⟩
theorem sort_nil (h : AHeap) : FWp Try.prog 36 [.slice none 0 0] h fun u h' => u = .tuple #[] ∧ h' = h := by
  have w1 : IntKind.u64.wrap ((0 : Nat) : Int) = ((0 : Nat) : Int) := by decide
  refine W.enter tyOK Try.func36 rfl rfl ?_
  simp only [entry]
  refine W.seq <| W.reg <| OSuf.aop tyOK rfl sm rfl <| OSuf.aop tyOK rfl (so_len (by simp only [aopnds, lk] <;> rfl) (by simp (disch := first | assumption | omega | (simp only [nx] <;> omega) | fail) only [aLenOf, ty60, hpl] <;> rfl)) rfl <| OSuf.aop tyOK rfl (so_assign (by simp only [lk] <;> rfl)) rfl <| OSuf.nil <| SQ.normal ?_
  refine W.reg <| OSuf.aop tyOK rfl sm rfl <| OSuf.aop tyOK rfl sm rfl <| OSuf.aop tyOK rfl sm rfl <| OSuf.aop tyOK rfl (so_conw (so_conv tyOK (by simp only [lk] <;> rfl) ty3 ⟨_, rfl⟩ ty91 rfl) (by first | (simp only [w1] <;> rfl) | rfl)) rfl <| OSuf.callD rfl (by simp only [aopnds, lk] <;> rfl) en41 (len_c _ 0 (by omega)) rfl <| OSuf.callD rfl (by simp only [aopnds, lk] <;> rfl) en40 (pdq_nil _ _) rfl <| OSuf.nil <| FQ.normal (by simp only [aRet, Try.f36, aResults, aResult, lk, Nat.reduceEqDiff, reduceIte] <;> rfl) ?_
  -- leaf: end
  exact ⟨rfl, rfl⟩

theorem sorted_eq {d d' : Array El} {ks : List El} (hp : PermIn 0 d.size d d') (hs : SortedIn lt 0 d.size d') (hk : ks.Perm d.toList) (hks : ks.Pairwise (fun x y => lt y x = false)) : d'.toList = ks := by
  have hu : ∀ x y : El, lt x y = false → lt y x = false → x = y := fun x y h1 h2 => by simp only [lt, ltStr, decide_eq_false_iff_not, List.not_lt] at h1 h2; exact List.le_antisymm h2 h1
  have e1 := sorted_unique_holds (lt := lt) swo hu d d' hp hs
  have hsz : ks.length = d.size := by rw [hk.length_eq]; simp
  have e2 := sorted_unique_holds (lt := lt) swo hu d ks.toArray ⟨by simp [hsz], fun i hi => by
      rcases hi with hi | hi
      · omega
      · rw [getElem!_neg _ i (by simp; omega), getElem!_neg _ i (by omega)], by
      have e3 : (d.extract 0 d.size).toList = d.toList := by simp
      have e4 : (ks.toArray.extract 0 d.size).toList = ks := by simp [← hsz]
      rw [e3, e4]; exact hk⟩ (fun i j _ hij hj => by
      have := List.pairwise_iff_getElem.1 hks i j (by omega) (by omega) hij
      rw [getElem!_pos _ j (by simp; omega), getElem!_pos _ i (by simp; omega)]
      simpa using this)
  rw [e1, ← e2]

/-- The list in order. -/
def sortL (l : List El) : List El := l.mergeSort fun x y => !lt y x
theorem sortL_perm (l : List El) : (sortL l).Perm l := List.mergeSort_perm _ _
theorem lt_total (x y : El) : (!lt y x || !lt x y) = true := by
  cases h1 : lt y x <;> cases h2 : lt x y <;> simp
  simp only [lt, ltStr, decide_eq_true_eq] at h1 h2
  exact List.lt_irrefl _ (List.lt_trans h1 h2)
theorem lt_ttrans (x y z : El) (h1 : (!lt y x) = true) (h2 : (!lt z y) = true) : (!lt z x) = true := by
  simp only [lt, ltStr, Bool.not_eq_true', decide_eq_false_iff_not, List.not_lt] at h1 h2 ⊢
  exact List.le_trans h1 h2
theorem sortL_sorted (l : List El) : (sortL l).Pairwise fun x y => lt y x = false := by
  have := List.pairwise_mergeSort (le := fun x y : El => !lt y x) lt_ttrans lt_total l
  exact this.imp fun h => by simpa using h
theorem sorted_one {k l : List El} (hp : k.Perm l) (h1 : k.Pairwise fun x y => lt y x = false) (h2 : l.Pairwise fun x y => lt y x = false) : k = l := by
  refine List.Perm.eq_of_pairwise (fun a b _ _ h3 h4 => ?_) h1 h2 hp
  simp only [lt, ltStr, decide_eq_false_iff_not, List.not_lt] at h3 h4
  exact List.le_antisymm h3 h4
end Go.Proofs.Ytldhcjfhlfgleaa.SortS
