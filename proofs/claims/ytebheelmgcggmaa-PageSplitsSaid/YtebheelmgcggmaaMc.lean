/-
  Merged: SorRA, SorRB, SorRC.
-/
import Derived.Test.YtebheelmgcggmaaMb
set_option linter.unusedSimpArgs false
set_option linter.unusedVariables false
set_option maxRecDepth 10000
set_option maxHeartbeats 8000000
namespace Go.Proofs.Ytebheelmgcggmaa.SortR
open Go.Ab Go.Sort
abbrev El : Type := Rec
abbrev lt : El → El → Bool := ltL
abbrev CF : Value := .func (.func 34) #[] #[]
abbrev row (d : Array El) : AObj := .cells (fl d.toList) 4
abbrev sl (r n : Nat) : Value := .slice (some ⟨r, 0, none⟩) n 0
theorem get_at {d : Array El} {i : Nat} (hi : i < d.size) : d.toList[i]? = some d[i]! := by simp [hi]
theorem rg {d : Array El} {i : Nat} (hi : i < d.size) : cellsOf (fl d.toList) (i * 4) 4 = some (d[i]!).cs := fl_get (get_at hi)
theorem rs {d : Array El} {i : Nat} {x : El} (hi : i < d.size) : splice (fl d.toList) (i * 4) x.cs = fl (d.setIfInBounds i x).toList := by rw [fl_set x (by simpa using hi)]; simp
theorem rb {d : Array El} {i : Nat} (hi : i < d.size) : Nat.ble (i * 4 + 4) (fl d.toList).length = true := fl_ble (by simpa using hi)
theorem sq : (∀ {c : Prop} {i : Decidable c} {α : Type} {t e : α}, c → @ite α c i t e = t) ∧ (∀ n : Nat, (n : Int).toNat = n) ∧ (∀ n : Nat, 0 + n = n) ∧ (∀ {α β : Type} (f : α → β) (x : α), Option.map f (some x) = some (f x)) ∧ (∀ {d : Array El} {i : Nat}, i < d.size → cellsOf (fl d.toList) (i * 4) 4 = some (d[i]!).cs) ∧ (∀ {d : Array El} {i : Nat} {x : El}, i < d.size → splice (fl d.toList) (i * 4) x.cs = fl (d.setIfInBounds i x).toList) ∧ (∀ {d : Array El} {i : Nat}, i < d.size → Nat.ble (i * 4 + 4) (fl d.toList).length = true) ∧
    (∀ x : Rec, (Value.agg x.cs.toArray).cells.size = 4) ∧ (∀ x : Rec, (Value.agg x.cs.toArray).cells.toList = x.cs) ∧ (∀ x : Rec, oneCells x.cs = true) ∧ (∀ x : Rec, x.cs.length = 4) ∧ (∀ {α : Type} (a b : α), cond true a b = a) ∧ (∀ (h : AHeap) (r : Nat) (o o' : AObj), (h.set r o).set r o' = h.set r o') ∧ (∀ {α : Type} (d : Array α) (i : Nat) (x : α), (d.setIfInBounds i x).size = d.size) :=
  ⟨fun hc => if_pos hc, Int.toNat_natCast, Nat.zero_add, fun _ _ => rfl, rg, rs, rb, csz, csl, cso, csn, fun _ _ => rfl, AHeap.set_set, fun _ _ _ => by simp⟩
theorem cmp_c (x y : El) (h : AHeap) : FWp Try.prog 34 [x.V, y.V] h fun u h' => u = I64 (if lt x y = true then -1 else 1) ∧ h' = h := by
  refine FWp.gcs (.flat rfl) ?_
  refine W.enter tyOK Try.func34 rfl rfl ?_
  simp only [entry]
  refine Wr <| Oa rfl Zx rfl <| Oa rfl Zx rfl <| Oa rfl za rfl <| On ?_
  refine W.seq <| Wr <| Oa rfl (zf (hv := fa_ok (k := 1) ty33 rfl rfl ty25 rfl rfl)) rfl <| Oa rfl (zl (hv := by simp (disch := first | omega | simp only [nx] <;> omega | fail) only [aLoad, ty25, rowOf, hpl, Value.cells, ty25, ty33] <;> rfl)) rfl <| Oa rfl (zf (hv := fa_ok (k := 1) ty33 rfl rfl ty25 rfl rfl)) rfl <| Oa rfl (zl (hv := by simp (disch := first | omega | simp only [nx] <;> omega | fail) only [aLoad, ty25, rowOf, hpl, Value.cells, ty25, ty33] <;> rfl)) rfl <| OSuf.aopB tyOK rfl (zb (hv := bi_lss)) (fun _ => rfl) (fun h1 => ?_) (fun h1 => ?_)
  · try simp only [bl] at h1
    refine On ?_
    refine Wy <| Wr <| Oa rfl za rfl <| On ?_
    refine CWp.ret <| SQ.ret <| FQ.ret (by simp only [aRet, Try.f34, aResults, aResult, lk, Nat.reduceEqDiff, reduceIte] <;> rfl) ?_
    exact ⟨by simp [ltL, h1], fun r o hr ho => by simp (disch := first | omega | simp only [nx] <;> omega | fail) only [hpl]; exact ho⟩
  · try simp only [bl] at h1
    refine On ?_
    refine Wn <| CWp.skip <| SQ.normal ?_
    refine Wr <| Oa rfl za rfl <| On ?_
    refine CWp.ret <| FQ.ret (by simp only [aRet, Try.f34, aResults, aResult, lk, Nat.reduceEqDiff, reduceIte] <;> rfl) ?_
    exact ⟨by simp [ltL, h1], fun r o hr ho => by simp (disch := first | omega | simp only [nx] <;> omega | fail) only [hpl]; exact ho⟩
theorem less_v (x y : El) (h : AHeap) (b : Bool) (hb : lt x y = b) : VWp Try.prog CF [x.V, y.V] h fun u h' => u = I64 (if b = true then -1 else 1) ∧ h' = h := by
  rw [← hb]; exact VWp.func en34 (cmp_c x y h)
theorem insertion_c (h : AHeap) (r N : Nat) (d : Array El) (hN : d.size = N) (a b : Nat) (hab : a ≤ b) (hb : b ≤ N) (hsz : N < 1000000000) :
    FWp Try.prog 79 [sl r N, I64 a, I64 b, CF] (h.set r (row d)) fun u h' => u = .tuple #[] ∧ h' = h.set r (row (insertionSort lt d a b)) := by
  refine W.enter tyOK Try.func79 rfl rfl ?_
  simp only [entry]
  have w0 : IntKind.i64.wrap ((a : Int) + 1) = ((a + 1 : Nat) : Int) := by rw [wrap_i64 (by omega) (by omega)]; omega
  refine Wr <| Oa rfl sm rfl <| Oa rfl (zb (hv := bi_w bi_add (by first | (simp only [w0] <;> rfl) | rfl))) rfl <| Oa rfl za rfl <| On ?_
  -- leaf: loop
  refine W.block (W.loop (fun n L h' => ∃ (i : Nat) (dk : Array El), n = b - i ∧ a + 1 ≤ i ∧ (i ≤ b ∨ i = a + 1) ∧ dk.size = N ∧ insOuter lt a b i dk = insertionSort lt d a b ∧ h' = h.set r (row dk) ∧
      L = [(0, sl r N), (1, I64 a), (2, I64 b), (3, CF), (8, I64 i)]) (n := b - (a + 1)) ⟨a + 1, d, rfl, by omega, by omega, hN, rfl, rfl, rfl⟩ ?_ ?_)
  · simp [HasA, Tr.get_put]
  · rintro n L h1 ⟨i, dk, rfl, hi1, hi2, hds, heq, rfl, rfl⟩
    simp only [mkA]
    by_cases hib : (i : Int) < (b : Int)
    · refine W.seq <| Wr <| Oa rfl sm rfl <| Oa rfl sm rfl <| Otb rfl (zb (hv := bi_lss)) rfl <| On ?_
      refine Wy <| CWp.skip <| SQ.normal ?_
      refine W.seq <| W.block <| Wr <| Oa rfl sm rfl <| Oa rfl za rfl <| On ?_
      -- leaf: loop
      refine W.cut (fun L h' => ∃ (dj : Array El), dj.size = N ∧ dj = insInner lt a i dk ∧ h' = h.set r (row dj) ∧ L = [(0, sl r N), (1, I64 a), (2, I64 b), (3, CF), (8, I64 i)]) (W.block (W.loop (fun n L h' => ∃ (j : Nat) (dj : Array El), n = j ∧ j ≤ i ∧ dj.size = N ∧ insInner lt a j dj = insInner lt a i dk ∧ h' = h.set r (row dj) ∧
          L = [(0, sl r N), (1, I64 a), (2, I64 b), (3, CF), (8, I64 i), (9, I64 j)]) (n := i) ⟨i, dk, rfl, by omega, hds, rfl, rfl, rfl⟩ ?_ ?_)) ?_
      · simp [HasA, Tr.get_put]
      · rintro j L h1 ⟨_, dj, rfl, hji, hdj, hq, rfl, rfl⟩
        simp only [mkA]
        by_cases hja : (j : Int) > (a : Int)
        · obtain ⟨m, rfl⟩ : ∃ m, j = m + 1 := ⟨j - 1, by omega⟩
          have w1 : IntKind.i64.wrap (((m + 1 : Nat) : Int) - 1) = (m : Int) := by rw [wrap_i64 (by omega) (by omega)]; omega
          cases hl : lt dj[m + 1]! dj[m]!
          · refine W.seq <| W.seq <| W.regD tyOK mixed (by kernel_rfl) <| Sa rfl sm rfl <| Sa rfl sm rfl <| SqW.aopT rfl (zb (hv := bi_gtr)) (fun _ => rfl) (by first | rfl | assumption | ((simp only [bl, sq]) <;> first | done | assumption | omega) | (simp; done) | (simp; omega)) <| SqW.aopT rfl sm (fun _ => rfl) rfl <| Sa ag sm rfl <| Sa ag sm rfl <| Sa ag sm rfl <| Sa ag (zi (hv := by simp (disch := first | omega | simp only [nx] <;> omega | fail) only [aIndexAddr, ty26, ty33, hpl, sq] <;> rfl)) rfl <| Sa ag (zl (hv := by simp (disch := first | omega | simp only [nx] <;> omega | fail) only [aLoad, ty33, rowOf, hpl, sq] <;> rfl)) rfl <| Sa ag sm rfl <| Sa ag sm rfl <| Sa ag (zb (hv := bi_w bi_sub (by first | (simp only [w1] <;> rfl) | rfl))) rfl <| Sa ag (zi (hv := by simp (disch := first | omega | simp only [nx] <;> omega | fail) only [aIndexAddr, ty26, ty33, hpl, sq] <;> rfl)) rfl <| Sa ag (zl (hv := by simp (disch := first | omega | simp only [nx] <;> omega | fail) only [aLoad, ty33, rowOf, hpl, sq] <;> rfl)) rfl <| SqW.vcallD ag (by simp only [lk] <;> rfl) (by simp only [aopnds, lk] <;> rfl) (less_v _ _ _ _ hl) rfl <| SqW.aopF ag (zb (hv := bi_lss)) (fun _ => rfl) rfl <| SqW.aopF rfl Zp (fun _ => rfl) rfl <| Sn ?_
            refine Wn <| CWp.exit <| SQ.exit <| LQ.exit <| BQ.exit <| ?_
            -- leaf: cut
            refine NQ.normal (L := [(0, sl r N), (1, I64 a), (2, I64 b), (3, CF), (8, I64 i)]) ?_ ⟨dj, hdj, ?_, rfl, rfl⟩
            · simp only [HasA, Tr.get_put, Nat.reduceEqDiff, reduceIte, and_self]
            · rw [← hq, insInner]; simp [hl]
          · refine W.seq <| W.seq <| W.regD tyOK mixed (by kernel_rfl) <| Sa rfl sm rfl <| Sa rfl sm rfl <| SqW.aopT rfl (zb (hv := bi_gtr)) (fun _ => rfl) (by first | rfl | assumption | ((simp only [bl, sq]) <;> first | done | assumption | omega) | (simp; done) | (simp; omega)) <| SqW.aopT rfl sm (fun _ => rfl) rfl <| Sa ag sm rfl <| Sa ag sm rfl <| Sa ag sm rfl <| Sa ag (zi (hv := by simp (disch := first | omega | simp only [nx] <;> omega | fail) only [aIndexAddr, ty26, ty33, hpl, sq] <;> rfl)) rfl <| Sa ag (zl (hv := by simp (disch := first | omega | simp only [nx] <;> omega | fail) only [aLoad, ty33, rowOf, hpl, sq] <;> rfl)) rfl <| Sa ag sm rfl <| Sa ag sm rfl <| Sa ag (zb (hv := bi_w bi_sub (by first | (simp only [w1] <;> rfl) | rfl))) rfl <| Sa ag (zi (hv := by simp (disch := first | omega | simp only [nx] <;> omega | fail) only [aIndexAddr, ty26, ty33, hpl, sq] <;> rfl)) rfl <| Sa ag (zl (hv := by simp (disch := first | omega | simp only [nx] <;> omega | fail) only [aLoad, ty33, rowOf, hpl, sq] <;> rfl)) rfl <| SqW.vcallD ag (by simp only [lk] <;> rfl) (by simp only [aopnds, lk] <;> rfl) (less_v _ _ _ _ hl) rfl <| SqW.aopT ag (zb (hv := bi_lss)) (fun _ => rfl) rfl <| SqW.aopT rfl Zp (fun _ => rfl) rfl <| Sn ?_
            refine Wy <| CWp.skip <| SQ.normal ?_
            refine W.seq <| W.block <| W.regD tyOK mixed (by kernel_rfl) <| Sa rfl sm rfl <| Sa rfl sm rfl <| Sa rfl sm rfl <| Sa rfl sm rfl <| Sa rfl (zb (hv := bi_w bi_sub (by first | (simp only [w1] <;> rfl) | rfl))) rfl <| Sa rfl sm rfl <| Sa rfl sm rfl <| Sa rfl (zb (hv := bi_w bi_sub (by first | (simp only [w1] <;> rfl) | rfl))) rfl <| Sa rfl (zi (hv := by simp (disch := first | omega | simp only [nx] <;> omega | fail) only [aIndexAddr, ty26, ty33, hpl, sq] <;> rfl)) rfl <| Sa rfl (zl (hv := by simp (disch := first | omega | simp only [nx] <;> omega | fail) only [aLoad, ty33, rowOf, hpl, sq] <;> rfl)) rfl <| Sa rfl sm rfl <| Sa rfl sm rfl <| Sa rfl (zi (hv := by simp (disch := first | omega | simp only [nx] <;> omega | fail) only [aIndexAddr, ty26, ty33, hpl, sq] <;> rfl)) rfl <| Sa rfl (zl (hv := by simp (disch := first | omega | simp only [nx] <;> omega | fail) only [aLoad, ty33, rowOf, hpl, sq] <;> rfl)) rfl <| Sa rfl (zi (hv := by simp (disch := first | omega | simp only [nx] <;> omega | fail) only [aIndexAddr, ty26, ty33, hpl, sq] <;> rfl)) rfl <| Sa rfl (zs (hv := by simp (disch := first | omega | simp only [nx] <;> omega | fail) only [aStore, ty33, writeRow, hpl, sq] <;> rfl)) rfl <| Sa rfl (zi (hv := by simp (disch := first | omega | simp only [nx] <;> omega | fail) only [aIndexAddr, ty26, ty33, hpl, sq] <;> rfl)) rfl <| Sa rfl (zs (hv := by simp (disch := first | omega | simp only [nx] <;> omega | fail) only [aStore, ty33, writeRow, hpl, sq] <;> rfl)) rfl <| SqW.nil <| BQ.normal <| SQ.normal ?_
            refine W.reg <| Oa rfl sm rfl <| Oa rfl (zb (hv := bi_w bi_sub (by first | (simp only [w1] <;> rfl) | rfl))) rfl <| Oa rfl za rfl <| OSuf.nil <| ?_
            -- leaf: round
            refine LQ.normal (m := m) (L := [(0, sl r N), (1, I64 a), (2, I64 b), (3, CF), (8, I64 i), (9, I64 m)]) (by omega) ?_ ⟨m, swp dj (m + 1) m, rfl, by omega, by rw [size_swp]; exact hdj, ?_, rfl, rfl⟩
            · simp only [HasA, Tr.get_put, Nat.reduceEqDiff, reduceIte, w1, and_self]
            · rw [← hq, insInner]; simp [hl]; omega
        · refine W.seq <| W.seq <| W.regD tyOK mixed (by kernel_rfl) <| Sa rfl sm rfl <| Sa rfl sm rfl <| SqW.aopF rfl (zb (hv := bi_gtr)) (fun _ => rfl) (by first | rfl | assumption | ((simp only [bl]) <;> first | done | assumption | omega) | (simp; done) | (simp; omega)) <| SqW.aopF rfl sm (fun _ => rfl) rfl <| SqW.pass ag rfl <| SqW.pass ag rfl <| SqW.pass ag rfl <| SqW.pass ag rfl <| SqW.pass ag rfl <| SqW.pass ag rfl <| SqW.pass ag rfl <| SqW.pass ag rfl <| SqW.pass ag rfl <| SqW.pass ag rfl <| SqW.pass ag rfl <| SqW.pass ag rfl <| SqW.aopF rfl Zp (fun _ => rfl) rfl <| Sn ?_
          refine Wn <| CWp.exit <| SQ.exit <| LQ.exit <| BQ.exit <| ?_
          -- leaf: cut
          refine NQ.normal (L := [(0, sl r N), (1, I64 a), (2, I64 b), (3, CF), (8, I64 i)]) ?_ ⟨dj, hdj, ?_, rfl, rfl⟩
          · simp only [HasA, Tr.get_put, Nat.reduceEqDiff, reduceIte, and_self]
          · rw [← hq]
            cases j with
            | zero => rfl
            | succ m => rw [insInner]; simp; omega
      · rintro L a' h1 ha ⟨dj, hdj, rfl, rfl, rfl⟩
        have w1 : IntKind.i64.wrap ((i : Int) + 1) = ((i + 1 : Nat) : Int) := by rw [wrap_i64 (by omega) (by omega)]; omega
        refine BQ.normal <| SQ.normal <| CWp.known ha ?_
        simp only [mkA]
        refine W.reg <| Oa rfl sm rfl <| Oa rfl (zb (hv := bi_w bi_add (by first | (simp only [w1] <;> rfl) | rfl))) rfl <| Oa rfl za rfl <| OSuf.nil <| ?_
        -- leaf: round
        refine LQ.normal (m := b - (i + 1)) (L := [(0, sl r N), (1, I64 a), (2, I64 b), (3, CF), (8, I64 (i + 1 : Nat))]) (by omega) ?_ ⟨i + 1, insInner lt a i dk, rfl, by omega, by omega, hdj, ?_, rfl, rfl⟩
        · simp only [HasA, Tr.get_put, Nat.reduceEqDiff, reduceIte, w1, and_self]
        · rw [← heq]
          conv => rhs; rw [insOuter]
          rw [if_pos (by omega)]
    · refine W.seq <| Wr <| Oa rfl sm rfl <| Oa rfl sm rfl <| Ofb rfl (zb (hv := bi_lss)) rfl <| On ?_
      refine Wn <| CWp.exit <| SQ.exit <| LQ.exit <| BQ.exit <| FQ.normal (by simp only [aRet, Try.f79, aResults, aResult, lk, Nat.reduceEqDiff, reduceIte] <;> rfl) ?_
      -- leaf: end
      refine ⟨rfl, ?_⟩
      rw [← heq, insOuter, if_neg (by omega)]
end Go.Proofs.Ytebheelmgcggmaa.SortR
namespace Go.Proofs.Ytebheelmgcggmaa.SortR
open Go.Ab Go.Sort
theorem sift_c (h : AHeap) (r N : Nat) (d : Array El) (hN : d.size = N) (lo hi first : Nat) (hlo : lo ≤ hi) (hb : first + hi ≤ N) (hsz : N < 1000000000) :
    FWp Try.prog 102 [sl r N, I64 lo, I64 hi, I64 first, CF] (h.set r (row d)) fun u h' => u = .tuple #[] ∧ h' = h.set r (row (siftDown lt hi first lo d)) := by
  refine W.enter tyOK Try.func102 rfl rfl ?_
  simp only [entry]
  refine Wr <| Oa rfl sm rfl <| Oa rfl za rfl <| On ?_
  -- leaf: loop
  refine W.block (W.loop (fun n L h' => ∃ (root : Nat) (dk : Array El), n = hi - root ∧ root ≤ hi ∧ dk.size = N ∧ siftDown lt hi first root dk = siftDown lt hi first lo d ∧ h' = h.set r (row dk) ∧
      L = [(0, sl r N), (2, I64 hi), (3, I64 first), (4, CF), (10, I64 root)]) (n := hi - lo) ⟨lo, d, rfl, hlo, hN, rfl, rfl, rfl⟩ ?_ ?_)
  · simp [HasA, Tr.get_put]
  · rintro n L h1 ⟨root, dk, rfl, hrt, hds, heq, rfl, rfl⟩
    simp only [mkA]
    have w1 : IntKind.i64.wrap (2 * (root : Int)) = 2 * (root : Int) := wrap_i64 (by omega) (by omega)
    have w2 : IntKind.i64.wrap (2 * (root : Int) + 1) = ((2 * root + 1 : Nat) : Int) := by rw [wrap_i64 (by omega) (by omega)]; omega
    have w3 : IntKind.i64.wrap (((2 * root + 1 : Nat) : Int) + 1) = ((2 * root + 2 : Nat) : Int) := by rw [wrap_i64 (by omega) (by omega)]; omega
    have w4 : IntKind.i64.wrap ((first : Int) + ((2 * root + 1 : Nat) : Int)) = ((first + (2 * root + 1) : Nat) : Int) := by rw [wrap_i64 (by omega) (by omega)]; omega
    have w5 : IntKind.i64.wrap (((first + (2 * root + 1) : Nat) : Int) + 1) = ((first + (2 * root + 1) + 1 : Nat) : Int) := by rw [wrap_i64 (by omega) (by omega)]; omega
    have w6 : IntKind.i64.wrap ((first : Int) + (root : Int)) = ((first + root : Nat) : Int) := by rw [wrap_i64 (by omega) (by omega)]; omega
    have w7 : IntKind.i64.wrap ((first : Int) + ((2 * root + 2 : Nat) : Int)) = ((first + (2 * root + 2) : Nat) : Int) := by rw [wrap_i64 (by omega) (by omega)]; omega
    rw [siftDown] at heq
    by_cases hc : ((2 * root + 1 : Nat) : Int) ≥ (hi : Int)
    · refine W.block <| Wr <| Oa rfl sm rfl <| Oa rfl (zb (hv := bi_w bi_mul (by first | (simp only [w1, w2] <;> rfl) | rfl))) rfl <| Oa rfl (zb (hv := bi_w bi_add (by first | (simp only [w1, w2] <;> rfl) | rfl))) rfl <| Oa rfl za rfl <| On ?_
      refine W.seq <| Wr <| Oa rfl sm rfl <| Oa rfl sm rfl <| Otb rfl (zb (hv := bi_geq)) rfl <| On ?_
      refine Wy <| CWp.exit <| SQ.exit <| BQ.out rfl <| LQ.exit <| BQ.exit <| FQ.normal (by simp only [aRet, Try.f102, aResults, aResult, lk, Nat.reduceEqDiff, reduceIte] <;> rfl) ?_
      -- leaf: end
      refine ⟨rfl, ?_⟩
      rw [← heq, dif_pos (by omega)]
    rw [dif_neg (by omega)] at heq
    by_cases hc2 : ((2 * root + 2 : Nat) : Int) < (hi : Int)
    · have hc3 : 2 * root + 1 + 1 < hi := by omega
      cases hl1 : lt dk[first + (2 * root + 1)]! dk[first + (2 * root + 1) + 1]!
      · rw [hl1] at heq
        simp only [Bool.and_false, Bool.false_eq_true, if_false] at heq
        cases hl2 : lt dk[first + root]! dk[first + (2 * root + 1)]!
        · refine W.block <| Wr <| Oa rfl sm rfl <| Oa rfl (zb (hv := bi_w bi_mul (by first | (simp only [w1, w2, w3, w4, w5, w6, w7] <;> rfl) | rfl))) rfl <| Oa rfl (zb (hv := bi_w bi_add (by first | (simp only [w1, w2, w3, w4, w5, w6, w7] <;> rfl) | rfl))) rfl <| Oa rfl za rfl <| On ?_
          refine W.seq <| Wr <| Oa rfl sm rfl <| Oa rfl sm rfl <| Of rfl (zb (hv := bi_geq)) rfl (by first | rfl | assumption | ((simp only [bl, sq]) <;> first | done | assumption | omega) | (simp; done) | (simp; omega)) <| On ?_
          refine Wn <| CWp.skip <| SQ.normal ?_
          refine W.seq <| W.seq <| W.regD tyOK mixed (by kernel_rfl) <| Sa rfl sm rfl <| Sa rfl (zb (hv := bi_w bi_add (by first | (simp only [w1, w2, w3, w4, w5, w6, w7] <;> rfl) | rfl))) rfl <| Sa rfl sm rfl <| SqW.aopT rfl (zb (hv := bi_lss)) (fun _ => rfl) (by first | rfl | assumption | ((simp only [bl, sq]) <;> first | done | assumption | omega) | (simp; done) | (simp; omega)) <| SqW.aopT rfl sm (fun _ => rfl) rfl <| Sa ag sm rfl <| Sa ag sm rfl <| Sa ag sm rfl <| Sa ag sm rfl <| Sa ag (zb (hv := bi_w bi_add (by first | (simp only [w1, w2, w3, w4, w5, w6, w7] <;> rfl) | rfl))) rfl <| Sa ag (zi (hv := by simp (disch := first | omega | simp only [nx] <;> omega | fail) only [aIndexAddr, ty26, ty33, hpl, sq] <;> rfl)) rfl <| Sa ag (zl (hv := by simp (disch := first | omega | simp only [nx] <;> omega | fail) only [aLoad, ty33, rowOf, hpl, sq] <;> rfl)) rfl <| Sa ag sm rfl <| Sa ag sm rfl <| Sa ag sm rfl <| Sa ag (zb (hv := bi_w bi_add (by first | (simp only [w1, w2, w3, w4, w5, w6, w7] <;> rfl) | rfl))) rfl <| Sa ag (zb (hv := bi_w bi_add (by first | (simp only [w1, w2, w3, w4, w5, w6, w7] <;> rfl) | rfl))) rfl <| Sa ag (zi (hv := by simp (disch := first | omega | simp only [nx] <;> omega | fail) only [aIndexAddr, ty26, ty33, hpl, sq] <;> rfl)) rfl <| Sa ag (zl (hv := by simp (disch := first | omega | simp only [nx] <;> omega | fail) only [aLoad, ty33, rowOf, hpl, sq] <;> rfl)) rfl <| SqW.vcallD ag (by simp only [lk] <;> rfl) (by simp only [aopnds, lk] <;> rfl) (less_v _ _ _ _ hl1) rfl <| SqW.aopF ag (zb (hv := bi_lss)) (fun _ => rfl) rfl <| SqW.aopF rfl Zp (fun _ => rfl) rfl <| Sn ?_
          refine Wn <| CWp.skip <| SQ.normal ?_
          refine W.seq <| W.seq <| W.regD tyOK mixed (by kernel_rfl) <| Sa rfl sm rfl <| Sa rfl sm rfl <| Sa rfl sm rfl <| Sa rfl sm rfl <| Sa rfl (zb (hv := bi_w bi_add (by first | (simp only [w1, w2, w3, w4, w5, w6, w7] <;> rfl) | rfl))) rfl <| Sa rfl (zi (hv := by simp (disch := first | omega | simp only [nx] <;> omega | fail) only [aIndexAddr, ty26, ty33, hpl, sq] <;> rfl)) rfl <| Sa rfl (zl (hv := by simp (disch := first | omega | simp only [nx] <;> omega | fail) only [aLoad, ty33, rowOf, hpl, sq] <;> rfl)) rfl <| Sa rfl sm rfl <| Sa rfl sm rfl <| Sa rfl sm rfl <| Sa rfl (zb (hv := bi_w bi_add (by first | (simp only [w1, w2, w3, w4, w5, w6, w7] <;> rfl) | rfl))) rfl <| Sa rfl (zi (hv := by simp (disch := first | omega | simp only [nx] <;> omega | fail) only [aIndexAddr, ty26, ty33, hpl, sq] <;> rfl)) rfl <| Sa rfl (zl (hv := by simp (disch := first | omega | simp only [nx] <;> omega | fail) only [aLoad, ty33, rowOf, hpl, sq] <;> rfl)) rfl <| SqW.vcallD rfl (by simp only [lk] <;> rfl) (by simp only [aopnds, lk] <;> rfl) (less_v _ _ _ _ hl2) rfl <| SqW.aopF rfl (zb (hv := bi_lss)) (fun _ => rfl) rfl <| SqW.aopT rfl Zt (fun _ => rfl) rfl <| Sn ?_
          refine Wy <| CWp.ret <| SQ.ret <| BQ.ret <| LQ.ret <| BQ.ret <| FQ.ret (by simp only [aRet, Try.f102, aResults, aResult, lk, Nat.reduceEqDiff, reduceIte] <;> rfl) ?_
          -- leaf: end
          refine ⟨rfl, ?_⟩
          rw [← heq]; simp [hl2]
        · refine W.block <| Wr <| Oa rfl sm rfl <| Oa rfl (zb (hv := bi_w bi_mul (by first | (simp only [w1, w2, w3, w4, w5, w6, w7] <;> rfl) | rfl))) rfl <| Oa rfl (zb (hv := bi_w bi_add (by first | (simp only [w1, w2, w3, w4, w5, w6, w7] <;> rfl) | rfl))) rfl <| Oa rfl za rfl <| On ?_
          refine W.seq <| Wr <| Oa rfl sm rfl <| Oa rfl sm rfl <| Of rfl (zb (hv := bi_geq)) rfl (by first | rfl | assumption | ((simp only [bl, sq]) <;> first | done | assumption | omega) | (simp; done) | (simp; omega)) <| On ?_
          refine Wn <| CWp.skip <| SQ.normal ?_
          refine W.seq <| W.seq <| W.regD tyOK mixed (by kernel_rfl) <| Sa rfl sm rfl <| Sa rfl (zb (hv := bi_w bi_add (by first | (simp only [w1, w2, w3, w4, w5, w6, w7] <;> rfl) | rfl))) rfl <| Sa rfl sm rfl <| SqW.aopT rfl (zb (hv := bi_lss)) (fun _ => rfl) (by first | rfl | assumption | ((simp only [bl, sq]) <;> first | done | assumption | omega) | (simp; done) | (simp; omega)) <| SqW.aopT rfl sm (fun _ => rfl) rfl <| Sa ag sm rfl <| Sa ag sm rfl <| Sa ag sm rfl <| Sa ag sm rfl <| Sa ag (zb (hv := bi_w bi_add (by first | (simp only [w1, w2, w3, w4, w5, w6, w7] <;> rfl) | rfl))) rfl <| Sa ag (zi (hv := by simp (disch := first | omega | simp only [nx] <;> omega | fail) only [aIndexAddr, ty26, ty33, hpl, sq] <;> rfl)) rfl <| Sa ag (zl (hv := by simp (disch := first | omega | simp only [nx] <;> omega | fail) only [aLoad, ty33, rowOf, hpl, sq] <;> rfl)) rfl <| Sa ag sm rfl <| Sa ag sm rfl <| Sa ag sm rfl <| Sa ag (zb (hv := bi_w bi_add (by first | (simp only [w1, w2, w3, w4, w5, w6, w7] <;> rfl) | rfl))) rfl <| Sa ag (zb (hv := bi_w bi_add (by first | (simp only [w1, w2, w3, w4, w5, w6, w7] <;> rfl) | rfl))) rfl <| Sa ag (zi (hv := by simp (disch := first | omega | simp only [nx] <;> omega | fail) only [aIndexAddr, ty26, ty33, hpl, sq] <;> rfl)) rfl <| Sa ag (zl (hv := by simp (disch := first | omega | simp only [nx] <;> omega | fail) only [aLoad, ty33, rowOf, hpl, sq] <;> rfl)) rfl <| SqW.vcallD ag (by simp only [lk] <;> rfl) (by simp only [aopnds, lk] <;> rfl) (less_v _ _ _ _ hl1) rfl <| SqW.aopF ag (zb (hv := bi_lss)) (fun _ => rfl) rfl <| SqW.aopF rfl Zp (fun _ => rfl) rfl <| Sn ?_
          refine Wn <| CWp.skip <| SQ.normal ?_
          refine W.seq <| W.seq <| W.regD tyOK mixed (by kernel_rfl) <| Sa rfl sm rfl <| Sa rfl sm rfl <| Sa rfl sm rfl <| Sa rfl sm rfl <| Sa rfl (zb (hv := bi_w bi_add (by first | (simp only [w1, w2, w3, w4, w5, w6, w7] <;> rfl) | rfl))) rfl <| Sa rfl (zi (hv := by simp (disch := first | omega | simp only [nx] <;> omega | fail) only [aIndexAddr, ty26, ty33, hpl, sq] <;> rfl)) rfl <| Sa rfl (zl (hv := by simp (disch := first | omega | simp only [nx] <;> omega | fail) only [aLoad, ty33, rowOf, hpl, sq] <;> rfl)) rfl <| Sa rfl sm rfl <| Sa rfl sm rfl <| Sa rfl sm rfl <| Sa rfl (zb (hv := bi_w bi_add (by first | (simp only [w1, w2, w3, w4, w5, w6, w7] <;> rfl) | rfl))) rfl <| Sa rfl (zi (hv := by simp (disch := first | omega | simp only [nx] <;> omega | fail) only [aIndexAddr, ty26, ty33, hpl, sq] <;> rfl)) rfl <| Sa rfl (zl (hv := by simp (disch := first | omega | simp only [nx] <;> omega | fail) only [aLoad, ty33, rowOf, hpl, sq] <;> rfl)) rfl <| SqW.vcallD rfl (by simp only [lk] <;> rfl) (by simp only [aopnds, lk] <;> rfl) (less_v _ _ _ _ hl2) rfl <| SqW.aopT rfl (zb (hv := bi_lss)) (fun _ => rfl) rfl <| SqW.aopF rfl Zt (fun _ => rfl) rfl <| Sn ?_
          refine Wn <| CWp.skip <| SQ.normal ?_
          refine W.seq <| W.regD tyOK mixed (by kernel_rfl) <| Sa rfl sm rfl <| Sa rfl sm rfl <| Sa rfl sm rfl <| Sa rfl (zb (hv := bi_w bi_add (by first | (simp only [w1, w2, w3, w4, w5, w6, w7] <;> rfl) | rfl))) rfl <| Sa rfl sm rfl <| Sa rfl sm rfl <| Sa rfl sm rfl <| Sa rfl (zb (hv := bi_w bi_add (by first | (simp only [w1, w2, w3, w4, w5, w6, w7] <;> rfl) | rfl))) rfl <| Sa rfl sm rfl <| Sa rfl sm rfl <| Sa rfl sm rfl <| Sa rfl (zb (hv := bi_w bi_add (by first | (simp only [w1, w2, w3, w4, w5, w6, w7] <;> rfl) | rfl))) rfl <| Sa rfl (zi (hv := by simp (disch := first | omega | simp only [nx] <;> omega | fail) only [aIndexAddr, ty26, ty33, hpl, sq] <;> rfl)) rfl <| Sa rfl (zl (hv := by simp (disch := first | omega | simp only [nx] <;> omega | fail) only [aLoad, ty33, rowOf, hpl, sq] <;> rfl)) rfl <| Sa rfl sm rfl <| Sa rfl sm rfl <| Sa rfl sm rfl <| Sa rfl (zb (hv := bi_w bi_add (by first | (simp only [w1, w2, w3, w4, w5, w6, w7] <;> rfl) | rfl))) rfl <| Sa rfl (zi (hv := by simp (disch := first | omega | simp only [nx] <;> omega | fail) only [aIndexAddr, ty26, ty33, hpl, sq] <;> rfl)) rfl <| Sa rfl (zl (hv := by simp (disch := first | omega | simp only [nx] <;> omega | fail) only [aLoad, ty33, rowOf, hpl, sq] <;> rfl)) rfl <| Sa rfl (zi (hv := by simp (disch := first | omega | simp only [nx] <;> omega | fail) only [aIndexAddr, ty26, ty33, hpl, sq] <;> rfl)) rfl <| Sa rfl (zs (hv := by simp (disch := first | omega | simp only [nx] <;> omega | fail) only [aStore, ty33, writeRow, hpl, sq] <;> rfl)) rfl <| Sa rfl (zi (hv := by simp (disch := first | omega | simp only [nx] <;> omega | fail) only [aIndexAddr, ty26, ty33, hpl, sq] <;> rfl)) rfl <| Sa rfl (zs (hv := by simp (disch := first | omega | simp only [nx] <;> omega | fail) only [aStore, ty33, writeRow, hpl, sq] <;> rfl)) rfl <| Sn ?_
          refine W.reg <| Oa rfl sm rfl <| Oa rfl za rfl <| OSuf.nil <| BQ.normal <| ?_
          -- leaf: round
          refine LQ.normal (m := hi - (2 * root + 1)) (L := [(0, sl r N), (2, I64 hi), (3, I64 first), (4, CF), (10, I64 (2 * root + 1 : Nat))]) (by omega) ?_ ⟨2 * root + 1, swp dk (first + root) (first + (2 * root + 1)), rfl, by omega, by rw [size_swp]; exact hds, ?_, rfl, rfl⟩
          · simp only [HasA, Tr.get_put, Nat.reduceEqDiff, reduceIte, and_self]
          · rw [← heq]; simp [hl2]
      · rw [hl1] at heq
        have hc4 : 2 * root + 2 < hi := by omega
        simp only [hc3, decide_true, Bool.and_true, if_true, hc4, dif_pos] at heq
        cases hl2 : lt dk[first + root]! dk[first + (2 * root + 2)]!
        · refine W.block <| Wr <| Oa rfl sm rfl <| Oa rfl (zb (hv := bi_w bi_mul (by first | (simp only [w1, w2, w3, w4, w5, w6, w7] <;> rfl) | rfl))) rfl <| Oa rfl (zb (hv := bi_w bi_add (by first | (simp only [w1, w2, w3, w4, w5, w6, w7] <;> rfl) | rfl))) rfl <| Oa rfl za rfl <| On ?_
          refine W.seq <| Wr <| Oa rfl sm rfl <| Oa rfl sm rfl <| Of rfl (zb (hv := bi_geq)) rfl (by first | rfl | assumption | ((simp only [bl, sq]) <;> first | done | assumption | omega) | (simp; done) | (simp; omega)) <| On ?_
          refine Wn <| CWp.skip <| SQ.normal ?_
          refine W.seq <| W.seq <| W.regD tyOK mixed (by kernel_rfl) <| Sa rfl sm rfl <| Sa rfl (zb (hv := bi_w bi_add (by first | (simp only [w1, w2, w3, w4, w5, w6, w7] <;> rfl) | rfl))) rfl <| Sa rfl sm rfl <| SqW.aopT rfl (zb (hv := bi_lss)) (fun _ => rfl) (by first | rfl | assumption | ((simp only [bl, sq]) <;> first | done | assumption | omega) | (simp; done) | (simp; omega)) <| SqW.aopT rfl sm (fun _ => rfl) rfl <| Sa ag sm rfl <| Sa ag sm rfl <| Sa ag sm rfl <| Sa ag sm rfl <| Sa ag (zb (hv := bi_w bi_add (by first | (simp only [w1, w2, w3, w4, w5, w6, w7] <;> rfl) | rfl))) rfl <| Sa ag (zi (hv := by simp (disch := first | omega | simp only [nx] <;> omega | fail) only [aIndexAddr, ty26, ty33, hpl, sq] <;> rfl)) rfl <| Sa ag (zl (hv := by simp (disch := first | omega | simp only [nx] <;> omega | fail) only [aLoad, ty33, rowOf, hpl, sq] <;> rfl)) rfl <| Sa ag sm rfl <| Sa ag sm rfl <| Sa ag sm rfl <| Sa ag (zb (hv := bi_w bi_add (by first | (simp only [w1, w2, w3, w4, w5, w6, w7] <;> rfl) | rfl))) rfl <| Sa ag (zb (hv := bi_w bi_add (by first | (simp only [w1, w2, w3, w4, w5, w6, w7] <;> rfl) | rfl))) rfl <| Sa ag (zi (hv := by simp (disch := first | omega | simp only [nx] <;> omega | fail) only [aIndexAddr, ty26, ty33, hpl, sq] <;> rfl)) rfl <| Sa ag (zl (hv := by simp (disch := first | omega | simp only [nx] <;> omega | fail) only [aLoad, ty33, rowOf, hpl, sq] <;> rfl)) rfl <| SqW.vcallD ag (by simp only [lk] <;> rfl) (by simp only [aopnds, lk] <;> rfl) (less_v _ _ _ _ hl1) rfl <| SqW.aopT ag (zb (hv := bi_lss)) (fun _ => rfl) rfl <| SqW.aopT rfl Zp (fun _ => rfl) rfl <| Sn ?_
          refine Wy <| W.reg <| Oa rfl sm rfl <| Oa rfl (zb (hv := bi_w bi_add (by first | (simp only [w1, w2, w3, w4, w5, w6, w7] <;> rfl) | rfl))) rfl <| Oa rfl za rfl <| On ?_
          refine W.seq <| W.seq <| W.regD tyOK mixed (by kernel_rfl) <| Sa rfl sm rfl <| Sa rfl sm rfl <| Sa rfl sm rfl <| Sa rfl sm rfl <| Sa rfl (zb (hv := bi_w bi_add (by first | (simp only [w1, w2, w3, w4, w5, w6, w7] <;> rfl) | rfl))) rfl <| Sa rfl (zi (hv := by simp (disch := first | omega | simp only [nx] <;> omega | fail) only [aIndexAddr, ty26, ty33, hpl, sq] <;> rfl)) rfl <| Sa rfl (zl (hv := by simp (disch := first | omega | simp only [nx] <;> omega | fail) only [aLoad, ty33, rowOf, hpl, sq] <;> rfl)) rfl <| Sa rfl sm rfl <| Sa rfl sm rfl <| Sa rfl sm rfl <| Sa rfl (zb (hv := bi_w bi_add (by first | (simp only [w1, w2, w3, w4, w5, w6, w7] <;> rfl) | rfl))) rfl <| Sa rfl (zi (hv := by simp (disch := first | omega | simp only [nx] <;> omega | fail) only [aIndexAddr, ty26, ty33, hpl, sq] <;> rfl)) rfl <| Sa rfl (zl (hv := by simp (disch := first | omega | simp only [nx] <;> omega | fail) only [aLoad, ty33, rowOf, hpl, sq] <;> rfl)) rfl <| SqW.vcallD rfl (by simp only [lk] <;> rfl) (by simp only [aopnds, lk] <;> rfl) (less_v _ _ _ _ hl2) rfl <| SqW.aopF rfl (zb (hv := bi_lss)) (fun _ => rfl) rfl <| SqW.aopT rfl Zt (fun _ => rfl) rfl <| Sn ?_
          refine Wy <| CWp.ret <| SQ.ret <| BQ.ret <| LQ.ret <| BQ.ret <| FQ.ret (by simp only [aRet, Try.f102, aResults, aResult, lk, Nat.reduceEqDiff, reduceIte] <;> rfl) ?_
          -- leaf: end
          refine ⟨rfl, ?_⟩
          rw [← heq]; simp [hl2]
        · refine W.block <| Wr <| Oa rfl sm rfl <| Oa rfl (zb (hv := bi_w bi_mul (by first | (simp only [w1, w2, w3, w4, w5, w6, w7] <;> rfl) | rfl))) rfl <| Oa rfl (zb (hv := bi_w bi_add (by first | (simp only [w1, w2, w3, w4, w5, w6, w7] <;> rfl) | rfl))) rfl <| Oa rfl za rfl <| On ?_
          refine W.seq <| Wr <| Oa rfl sm rfl <| Oa rfl sm rfl <| Of rfl (zb (hv := bi_geq)) rfl (by first | rfl | assumption | ((simp only [bl, sq]) <;> first | done | assumption | omega) | (simp; done) | (simp; omega)) <| On ?_
          refine Wn <| CWp.skip <| SQ.normal ?_
          refine W.seq <| W.seq <| W.regD tyOK mixed (by kernel_rfl) <| Sa rfl sm rfl <| Sa rfl (zb (hv := bi_w bi_add (by first | (simp only [w1, w2, w3, w4, w5, w6, w7] <;> rfl) | rfl))) rfl <| Sa rfl sm rfl <| SqW.aopT rfl (zb (hv := bi_lss)) (fun _ => rfl) (by first | rfl | assumption | ((simp only [bl, sq]) <;> first | done | assumption | omega) | (simp; done) | (simp; omega)) <| SqW.aopT rfl sm (fun _ => rfl) rfl <| Sa ag sm rfl <| Sa ag sm rfl <| Sa ag sm rfl <| Sa ag sm rfl <| Sa ag (zb (hv := bi_w bi_add (by first | (simp only [w1, w2, w3, w4, w5, w6, w7] <;> rfl) | rfl))) rfl <| Sa ag (zi (hv := by simp (disch := first | omega | simp only [nx] <;> omega | fail) only [aIndexAddr, ty26, ty33, hpl, sq] <;> rfl)) rfl <| Sa ag (zl (hv := by simp (disch := first | omega | simp only [nx] <;> omega | fail) only [aLoad, ty33, rowOf, hpl, sq] <;> rfl)) rfl <| Sa ag sm rfl <| Sa ag sm rfl <| Sa ag sm rfl <| Sa ag (zb (hv := bi_w bi_add (by first | (simp only [w1, w2, w3, w4, w5, w6, w7] <;> rfl) | rfl))) rfl <| Sa ag (zb (hv := bi_w bi_add (by first | (simp only [w1, w2, w3, w4, w5, w6, w7] <;> rfl) | rfl))) rfl <| Sa ag (zi (hv := by simp (disch := first | omega | simp only [nx] <;> omega | fail) only [aIndexAddr, ty26, ty33, hpl, sq] <;> rfl)) rfl <| Sa ag (zl (hv := by simp (disch := first | omega | simp only [nx] <;> omega | fail) only [aLoad, ty33, rowOf, hpl, sq] <;> rfl)) rfl <| SqW.vcallD ag (by simp only [lk] <;> rfl) (by simp only [aopnds, lk] <;> rfl) (less_v _ _ _ _ hl1) rfl <| SqW.aopT ag (zb (hv := bi_lss)) (fun _ => rfl) rfl <| SqW.aopT rfl Zp (fun _ => rfl) rfl <| Sn ?_
          refine Wy <| W.reg <| Oa rfl sm rfl <| Oa rfl (zb (hv := bi_w bi_add (by first | (simp only [w1, w2, w3, w4, w5, w6, w7] <;> rfl) | rfl))) rfl <| Oa rfl za rfl <| On ?_
          refine W.seq <| W.seq <| W.regD tyOK mixed (by kernel_rfl) <| Sa rfl sm rfl <| Sa rfl sm rfl <| Sa rfl sm rfl <| Sa rfl sm rfl <| Sa rfl (zb (hv := bi_w bi_add (by first | (simp only [w1, w2, w3, w4, w5, w6, w7] <;> rfl) | rfl))) rfl <| Sa rfl (zi (hv := by simp (disch := first | omega | simp only [nx] <;> omega | fail) only [aIndexAddr, ty26, ty33, hpl, sq] <;> rfl)) rfl <| Sa rfl (zl (hv := by simp (disch := first | omega | simp only [nx] <;> omega | fail) only [aLoad, ty33, rowOf, hpl, sq] <;> rfl)) rfl <| Sa rfl sm rfl <| Sa rfl sm rfl <| Sa rfl sm rfl <| Sa rfl (zb (hv := bi_w bi_add (by first | (simp only [w1, w2, w3, w4, w5, w6, w7] <;> rfl) | rfl))) rfl <| Sa rfl (zi (hv := by simp (disch := first | omega | simp only [nx] <;> omega | fail) only [aIndexAddr, ty26, ty33, hpl, sq] <;> rfl)) rfl <| Sa rfl (zl (hv := by simp (disch := first | omega | simp only [nx] <;> omega | fail) only [aLoad, ty33, rowOf, hpl, sq] <;> rfl)) rfl <| SqW.vcallD rfl (by simp only [lk] <;> rfl) (by simp only [aopnds, lk] <;> rfl) (less_v _ _ _ _ hl2) rfl <| SqW.aopT rfl (zb (hv := bi_lss)) (fun _ => rfl) rfl <| SqW.aopF rfl Zt (fun _ => rfl) rfl <| Sn ?_
          refine Wn <| CWp.skip <| SQ.normal ?_
          refine W.seq <| W.regD tyOK mixed (by kernel_rfl) <| Sa rfl sm rfl <| Sa rfl sm rfl <| Sa rfl sm rfl <| Sa rfl (zb (hv := bi_w bi_add (by first | (simp only [w1, w2, w3, w4, w5, w6, w7] <;> rfl) | rfl))) rfl <| Sa rfl sm rfl <| Sa rfl sm rfl <| Sa rfl sm rfl <| Sa rfl (zb (hv := bi_w bi_add (by first | (simp only [w1, w2, w3, w4, w5, w6, w7] <;> rfl) | rfl))) rfl <| Sa rfl sm rfl <| Sa rfl sm rfl <| Sa rfl sm rfl <| Sa rfl (zb (hv := bi_w bi_add (by first | (simp only [w1, w2, w3, w4, w5, w6, w7] <;> rfl) | rfl))) rfl <| Sa rfl (zi (hv := by simp (disch := first | omega | simp only [nx] <;> omega | fail) only [aIndexAddr, ty26, ty33, hpl, sq] <;> rfl)) rfl <| Sa rfl (zl (hv := by simp (disch := first | omega | simp only [nx] <;> omega | fail) only [aLoad, ty33, rowOf, hpl, sq] <;> rfl)) rfl <| Sa rfl sm rfl <| Sa rfl sm rfl <| Sa rfl sm rfl <| Sa rfl (zb (hv := bi_w bi_add (by first | (simp only [w1, w2, w3, w4, w5, w6, w7] <;> rfl) | rfl))) rfl <| Sa rfl (zi (hv := by simp (disch := first | omega | simp only [nx] <;> omega | fail) only [aIndexAddr, ty26, ty33, hpl, sq] <;> rfl)) rfl <| Sa rfl (zl (hv := by simp (disch := first | omega | simp only [nx] <;> omega | fail) only [aLoad, ty33, rowOf, hpl, sq] <;> rfl)) rfl <| Sa rfl (zi (hv := by simp (disch := first | omega | simp only [nx] <;> omega | fail) only [aIndexAddr, ty26, ty33, hpl, sq] <;> rfl)) rfl <| Sa rfl (zs (hv := by simp (disch := first | omega | simp only [nx] <;> omega | fail) only [aStore, ty33, writeRow, hpl, sq] <;> rfl)) rfl <| Sa rfl (zi (hv := by simp (disch := first | omega | simp only [nx] <;> omega | fail) only [aIndexAddr, ty26, ty33, hpl, sq] <;> rfl)) rfl <| Sa rfl (zs (hv := by simp (disch := first | omega | simp only [nx] <;> omega | fail) only [aStore, ty33, writeRow, hpl, sq] <;> rfl)) rfl <| Sn ?_
          refine W.reg <| Oa rfl sm rfl <| Oa rfl za rfl <| OSuf.nil <| BQ.normal <| ?_
          -- leaf: round
          refine LQ.normal (m := hi - (2 * root + 2)) (L := [(0, sl r N), (2, I64 hi), (3, I64 first), (4, CF), (10, I64 (2 * root + 2 : Nat))]) (by omega) ?_ ⟨2 * root + 2, swp dk (first + root) (first + (2 * root + 2)), rfl, by omega, by rw [size_swp]; exact hds, ?_, rfl, rfl⟩
          · simp only [HasA, Tr.get_put, Nat.reduceEqDiff, reduceIte, and_self]
          · rw [← heq]; simp [hl2, hc2]
    · have hc3 : ¬ 2 * root + 1 + 1 < hi := by omega
      simp only [hc3, decide_false, Bool.false_and, Bool.false_eq_true, if_false] at heq
      cases hl2 : lt dk[first + root]! dk[first + (2 * root + 1)]!
      · refine W.block <| Wr <| Oa rfl sm rfl <| Oa rfl (zb (hv := bi_w bi_mul (by first | (simp only [w1, w2, w3, w4, w5, w6, w7] <;> rfl) | rfl))) rfl <| Oa rfl (zb (hv := bi_w bi_add (by first | (simp only [w1, w2, w3, w4, w5, w6, w7] <;> rfl) | rfl))) rfl <| Oa rfl za rfl <| On ?_
        refine W.seq <| Wr <| Oa rfl sm rfl <| Oa rfl sm rfl <| Of rfl (zb (hv := bi_geq)) rfl (by first | rfl | assumption | ((simp only [bl, sq]) <;> first | done | assumption | omega) | (simp; done) | (simp; omega)) <| On ?_
        refine Wn <| CWp.skip <| SQ.normal ?_
        refine W.seq <| W.seq <| W.regD tyOK mixed (by kernel_rfl) <| Sa rfl sm rfl <| Sa rfl (zb (hv := bi_w bi_add (by first | (simp only [w1, w2, w3, w4, w5, w6, w7] <;> rfl) | rfl))) rfl <| Sa rfl sm rfl <| SqW.aopF rfl (zb (hv := bi_lss)) (fun _ => rfl) (by first | rfl | assumption | ((simp only [bl, sq]) <;> first | done | assumption | omega) | (simp; done) | (simp; omega)) <| SqW.aopF rfl sm (fun _ => rfl) rfl <| SqW.pass ag rfl <| SqW.pass ag rfl <| SqW.pass ag rfl <| SqW.pass ag rfl <| SqW.pass ag rfl <| SqW.pass ag rfl <| SqW.pass ag rfl <| SqW.pass ag rfl <| SqW.pass ag rfl <| SqW.pass ag rfl <| SqW.pass ag rfl <| SqW.pass ag rfl <| SqW.pass ag rfl <| SqW.pass ag rfl <| SqW.pass ag rfl <| SqW.pass ag rfl <| SqW.aopF rfl Zp (fun _ => rfl) rfl <| Sn ?_
        refine Wn <| CWp.skip <| SQ.normal ?_
        refine W.seq <| W.seq <| W.regD tyOK mixed (by kernel_rfl) <| Sa rfl sm rfl <| Sa rfl sm rfl <| Sa rfl sm rfl <| Sa rfl sm rfl <| Sa rfl (zb (hv := bi_w bi_add (by first | (simp only [w1, w2, w3, w4, w5, w6, w7] <;> rfl) | rfl))) rfl <| Sa rfl (zi (hv := by simp (disch := first | omega | simp only [nx] <;> omega | fail) only [aIndexAddr, ty26, ty33, hpl, sq] <;> rfl)) rfl <| Sa rfl (zl (hv := by simp (disch := first | omega | simp only [nx] <;> omega | fail) only [aLoad, ty33, rowOf, hpl, sq] <;> rfl)) rfl <| Sa rfl sm rfl <| Sa rfl sm rfl <| Sa rfl sm rfl <| Sa rfl (zb (hv := bi_w bi_add (by first | (simp only [w1, w2, w3, w4, w5, w6, w7] <;> rfl) | rfl))) rfl <| Sa rfl (zi (hv := by simp (disch := first | omega | simp only [nx] <;> omega | fail) only [aIndexAddr, ty26, ty33, hpl, sq] <;> rfl)) rfl <| Sa rfl (zl (hv := by simp (disch := first | omega | simp only [nx] <;> omega | fail) only [aLoad, ty33, rowOf, hpl, sq] <;> rfl)) rfl <| SqW.vcallD rfl (by simp only [lk] <;> rfl) (by simp only [aopnds, lk] <;> rfl) (less_v _ _ _ _ hl2) rfl <| SqW.aopF rfl (zb (hv := bi_lss)) (fun _ => rfl) rfl <| SqW.aopT rfl Zt (fun _ => rfl) rfl <| Sn ?_
        refine Wy <| CWp.ret <| SQ.ret <| BQ.ret <| LQ.ret <| BQ.ret <| FQ.ret (by simp only [aRet, Try.f102, aResults, aResult, lk, Nat.reduceEqDiff, reduceIte] <;> rfl) ?_
        -- leaf: end
        refine ⟨rfl, ?_⟩
        rw [← heq]; simp [hl2]
      · refine W.block <| Wr <| Oa rfl sm rfl <| Oa rfl (zb (hv := bi_w bi_mul (by first | (simp only [w1, w2, w3, w4, w5, w6, w7] <;> rfl) | rfl))) rfl <| Oa rfl (zb (hv := bi_w bi_add (by first | (simp only [w1, w2, w3, w4, w5, w6, w7] <;> rfl) | rfl))) rfl <| Oa rfl za rfl <| On ?_
        refine W.seq <| Wr <| Oa rfl sm rfl <| Oa rfl sm rfl <| Of rfl (zb (hv := bi_geq)) rfl (by first | rfl | assumption | ((simp only [bl, sq]) <;> first | done | assumption | omega) | (simp; done) | (simp; omega)) <| On ?_
        refine Wn <| CWp.skip <| SQ.normal ?_
        refine W.seq <| W.seq <| W.regD tyOK mixed (by kernel_rfl) <| Sa rfl sm rfl <| Sa rfl (zb (hv := bi_w bi_add (by first | (simp only [w1, w2, w3, w4, w5, w6, w7] <;> rfl) | rfl))) rfl <| Sa rfl sm rfl <| SqW.aopF rfl (zb (hv := bi_lss)) (fun _ => rfl) (by first | rfl | assumption | ((simp only [bl, sq]) <;> first | done | assumption | omega) | (simp; done) | (simp; omega)) <| SqW.aopF rfl sm (fun _ => rfl) rfl <| SqW.pass ag rfl <| SqW.pass ag rfl <| SqW.pass ag rfl <| SqW.pass ag rfl <| SqW.pass ag rfl <| SqW.pass ag rfl <| SqW.pass ag rfl <| SqW.pass ag rfl <| SqW.pass ag rfl <| SqW.pass ag rfl <| SqW.pass ag rfl <| SqW.pass ag rfl <| SqW.pass ag rfl <| SqW.pass ag rfl <| SqW.pass ag rfl <| SqW.pass ag rfl <| SqW.aopF rfl Zp (fun _ => rfl) rfl <| Sn ?_
        refine Wn <| CWp.skip <| SQ.normal ?_
        refine W.seq <| W.seq <| W.regD tyOK mixed (by kernel_rfl) <| Sa rfl sm rfl <| Sa rfl sm rfl <| Sa rfl sm rfl <| Sa rfl sm rfl <| Sa rfl (zb (hv := bi_w bi_add (by first | (simp only [w1, w2, w3, w4, w5, w6, w7] <;> rfl) | rfl))) rfl <| Sa rfl (zi (hv := by simp (disch := first | omega | simp only [nx] <;> omega | fail) only [aIndexAddr, ty26, ty33, hpl, sq] <;> rfl)) rfl <| Sa rfl (zl (hv := by simp (disch := first | omega | simp only [nx] <;> omega | fail) only [aLoad, ty33, rowOf, hpl, sq] <;> rfl)) rfl <| Sa rfl sm rfl <| Sa rfl sm rfl <| Sa rfl sm rfl <| Sa rfl (zb (hv := bi_w bi_add (by first | (simp only [w1, w2, w3, w4, w5, w6, w7] <;> rfl) | rfl))) rfl <| Sa rfl (zi (hv := by simp (disch := first | omega | simp only [nx] <;> omega | fail) only [aIndexAddr, ty26, ty33, hpl, sq] <;> rfl)) rfl <| Sa rfl (zl (hv := by simp (disch := first | omega | simp only [nx] <;> omega | fail) only [aLoad, ty33, rowOf, hpl, sq] <;> rfl)) rfl <| SqW.vcallD rfl (by simp only [lk] <;> rfl) (by simp only [aopnds, lk] <;> rfl) (less_v _ _ _ _ hl2) rfl <| SqW.aopT rfl (zb (hv := bi_lss)) (fun _ => rfl) rfl <| SqW.aopF rfl Zt (fun _ => rfl) rfl <| Sn ?_
        refine Wn <| CWp.skip <| SQ.normal ?_
        refine W.seq <| W.regD tyOK mixed (by kernel_rfl) <| Sa rfl sm rfl <| Sa rfl sm rfl <| Sa rfl sm rfl <| Sa rfl (zb (hv := bi_w bi_add (by first | (simp only [w1, w2, w3, w4, w5, w6, w7] <;> rfl) | rfl))) rfl <| Sa rfl sm rfl <| Sa rfl sm rfl <| Sa rfl sm rfl <| Sa rfl (zb (hv := bi_w bi_add (by first | (simp only [w1, w2, w3, w4, w5, w6, w7] <;> rfl) | rfl))) rfl <| Sa rfl sm rfl <| Sa rfl sm rfl <| Sa rfl sm rfl <| Sa rfl (zb (hv := bi_w bi_add (by first | (simp only [w1, w2, w3, w4, w5, w6, w7] <;> rfl) | rfl))) rfl <| Sa rfl (zi (hv := by simp (disch := first | omega | simp only [nx] <;> omega | fail) only [aIndexAddr, ty26, ty33, hpl, sq] <;> rfl)) rfl <| Sa rfl (zl (hv := by simp (disch := first | omega | simp only [nx] <;> omega | fail) only [aLoad, ty33, rowOf, hpl, sq] <;> rfl)) rfl <| Sa rfl sm rfl <| Sa rfl sm rfl <| Sa rfl sm rfl <| Sa rfl (zb (hv := bi_w bi_add (by first | (simp only [w1, w2, w3, w4, w5, w6, w7] <;> rfl) | rfl))) rfl <| Sa rfl (zi (hv := by simp (disch := first | omega | simp only [nx] <;> omega | fail) only [aIndexAddr, ty26, ty33, hpl, sq] <;> rfl)) rfl <| Sa rfl (zl (hv := by simp (disch := first | omega | simp only [nx] <;> omega | fail) only [aLoad, ty33, rowOf, hpl, sq] <;> rfl)) rfl <| Sa rfl (zi (hv := by simp (disch := first | omega | simp only [nx] <;> omega | fail) only [aIndexAddr, ty26, ty33, hpl, sq] <;> rfl)) rfl <| Sa rfl (zs (hv := by simp (disch := first | omega | simp only [nx] <;> omega | fail) only [aStore, ty33, writeRow, hpl, sq] <;> rfl)) rfl <| Sa rfl (zi (hv := by simp (disch := first | omega | simp only [nx] <;> omega | fail) only [aIndexAddr, ty26, ty33, hpl, sq] <;> rfl)) rfl <| Sa rfl (zs (hv := by simp (disch := first | omega | simp only [nx] <;> omega | fail) only [aStore, ty33, writeRow, hpl, sq] <;> rfl)) rfl <| Sn ?_
        refine W.reg <| Oa rfl sm rfl <| Oa rfl za rfl <| OSuf.nil <| BQ.normal <| ?_
        -- leaf: round
        refine LQ.normal (m := hi - (2 * root + 1)) (L := [(0, sl r N), (2, I64 hi), (3, I64 first), (4, CF), (10, I64 (2 * root + 1 : Nat))]) (by omega) ?_ ⟨2 * root + 1, swp dk (first + root) (first + (2 * root + 1)), rfl, by omega, by rw [size_swp]; exact hds, ?_, rfl, rfl⟩
        · simp only [HasA, Tr.get_put, Nat.reduceEqDiff, reduceIte, and_self]
        · rw [← heq]; simp [hl2]
theorem sift_size (hi first : Nat) : ∀ (n root : Nat) (e : Array El), hi - root ≤ n → (siftDown lt hi first root e).size = e.size := by
  intro n
  induction n with
  | zero => intro root e hn; rw [siftDown, dif_pos (by omega)]
  | succ n ih =>
    intro root e hn
    rw [siftDown]
    split
    · rfl
    · split
      · split
        · rfl
        · split
          · rw [ih _ _ (by omega), size_swp]
          · rfl
      · split
        · rfl
        · rw [ih _ _ (by omega), size_swp]
theorem heap_c (h : AHeap) (r N : Nat) (d : Array El) (hN : d.size = N) (a b : Nat) (hab : a ≤ b) (hb : b ≤ N) (hsz : N < 1000000000) :
    FWp Try.prog 80 [sl r N, I64 a, I64 b, CF] (h.set r (row d)) fun u h' => u = .tuple #[] ∧ h' = h.set r (row (heapSort lt d a b)) := by
  refine W.enter tyOK Try.func80 rfl rfl ?_
  simp only [entry]
  have w1 : IntKind.i64.wrap ((b : Int) - (a : Int)) = ((b - a : Nat) : Int) := by rw [wrap_i64 (by omega) (by omega)]; omega
  have w2 : IntKind.i64.wrap (((b - a : Nat) : Int) - 1) = ((b - a : Nat) : Int) - 1 := wrap_i64 (by omega) (by omega)
  have w3 : IntKind.i64.wrap ((((b - a : Nat) : Int) - 1).tdiv 2) = (((b - a - 1) / 2 + 1 : Nat) : Int) - 1 := by
    rw [wrap_i64]
    · by_cases h0 : b - a = 0
      · rw [h0]; rfl
      · rw [Int.tdiv_eq_ediv_of_nonneg (by omega)]; omega
    · by_cases h0 : b - a = 0
      · rw [h0]; decide
      · rw [Int.tdiv_eq_ediv_of_nonneg (by omega)]; omega
    · by_cases h0 : b - a = 0
      · rw [h0]; decide
      · rw [Int.tdiv_eq_ediv_of_nonneg (by omega)]; omega
  refine Wr <| Oa rfl sm rfl <| Oa rfl za rfl <| On ?_
  refine Wr <| Oa rfl za rfl <| On ?_
  refine Wr <| Oa rfl sm rfl <| Oa rfl sm rfl <| Oa rfl (zb (hv := bi_w bi_sub (by first | (simp only [w1, w2, w3] <;> rfl) | rfl))) rfl <| Oa rfl za rfl <| On ?_
  refine W.seq <| Wr <| Oa rfl sm rfl <| Oa rfl (zb (hv := bi_w bi_sub (by first | (simp only [w1, w2, w3] <;> rfl) | rfl))) rfl <| Oa rfl (zb (hv := bi_w (bi_quo (by decide)) (by first | (simp only [w1, w2, w3] <;> rfl) | rfl))) rfl <| Oa rfl za rfl <| On ?_
  -- leaf: loop
  refine W.cut (fun L h' => ∃ dk : Array El, dk.size = N ∧ dk = heapBuild lt (b - a) a ((b - a - 1) / 2 + 1) d ∧ h' = h.set r (row dk) ∧ L = [(0, sl r N), (3, CF), (8, I64 a), (9, I64 (0 : Nat)), (10, I64 (b - a : Nat))])
    (W.block (W.loop (fun n L h' => ∃ (dk : Array El), n ≤ (b - a - 1) / 2 + 1 ∧ dk.size = N ∧ heapBuild lt (b - a) a n dk = heapBuild lt (b - a) a ((b - a - 1) / 2 + 1) d ∧ h' = h.set r (row dk) ∧
      L = [(0, sl r N), (3, CF), (8, I64 a), (9, I64 (0 : Nat)), (10, I64 (b - a : Nat)), (11, I64 ((n : Int) - 1))]) (n := (b - a - 1) / 2 + 1) ⟨d, Nat.le_refl _, hN, rfl, rfl, rfl⟩ ?_ ?_)) ?_
  · simp [HasA, Tr.get_put]
  · rintro n L h1 ⟨dk, hn, hds, heq, rfl, rfl⟩
    simp only [mkA]
    cases n with
    | zero =>
      refine W.seq <| Wr <| Oa rfl sm rfl <| Ofb rfl (zb (hv := bi_geq)) rfl <| On ?_
      refine Wn <| CWp.exit <| SQ.exit <| LQ.exit <| BQ.exit <| ?_
      -- leaf: cut
      refine NQ.normal (L := [(0, sl r N), (3, CF), (8, I64 a), (9, I64 (0 : Nat)), (10, I64 (b - a : Nat))]) ?_ ⟨dk, hds, heq, rfl, rfl⟩
      simp [HasA, Tr.get_put]
    | succ k =>
      have e1 : (((k + 1 : Nat) : Int) - 1) = (k : Int) := by omega
      rw [e1]
      have w4 : IntKind.i64.wrap ((k : Int) - 1) = (k : Int) - 1 := wrap_i64 (by omega) (by omega)
      have hk : k ≤ b - a := by omega
      refine W.seq <| Wr <| Oa rfl sm rfl <| Otb rfl (zb (hv := bi_geq)) rfl <| On ?_
      refine Wy <| CWp.skip <| SQ.normal ?_
      refine W.seq <| W.block <| W.reg <| Oa rfl sm rfl <| Oa rfl sm rfl <| Oa rfl sm rfl <| Oa rfl sm rfl <| Oa rfl sm rfl <| OSuf.callD rfl (by simp only [aopnds, lk] <;> rfl) en102 (sift_c h r N dk hds k (b - a) a hk (by omega) (by omega)) rfl <| OSuf.nil <| BQ.normal <| SQ.normal ?_
      refine W.reg <| Oa rfl sm rfl <| Oa rfl (zb (hv := bi_w bi_sub (by first | (simp only [w4] <;> rfl) | rfl))) rfl <| Oa rfl za rfl <| OSuf.nil <| ?_
      -- leaf: round
      refine LQ.normal (m := k) (L := [(0, sl r N), (3, CF), (8, I64 a), (9, I64 (0 : Nat)), (10, I64 (b - a : Nat)), (11, I64 ((k : Int) - 1))]) (by omega) ?_ ⟨siftDown lt (b - a) a k dk, by omega, ?_, ?_, rfl, rfl⟩
      · simp only [HasA, Tr.get_put, Nat.reduceEqDiff, reduceIte, and_self]
      · rw [sift_size _ _ _ _ _ (Nat.le_refl _)]; exact hds
      · rw [← heq]; rfl
  rintro L a' h1 ha ⟨dk, hds, hdk, rfl, rfl⟩
  refine SQ.normal <| CWp.known ha ?_
  simp only [mkA]
  refine Wr <| Oa rfl sm rfl <| Oa rfl (zb (hv := bi_w bi_sub (by first | (simp only [w2] <;> rfl) | rfl))) rfl <| Oa rfl za rfl <| On ?_
  -- leaf: loop
  refine W.block (W.loop (fun n L h' => ∃ (dj : Array El), n ≤ b - a ∧ dj.size = N ∧ heapPop lt a n dj = heapPop lt a (b - a) dk ∧ h' = h.set r (row dj) ∧
      L = [(0, sl r N), (3, CF), (8, I64 a), (9, I64 (0 : Nat)), (12, I64 ((n : Int) - 1))]) (n := b - a) ⟨dk, Nat.le_refl _, hds, rfl, rfl, rfl⟩ ?_ ?_)
  · simp [HasA, Tr.get_put]
  · rintro n L h1 ⟨dj, hn, hdj, heq, rfl, rfl⟩
    simp only [mkA]
    cases n with
    | zero =>
      refine W.seq <| Wr <| Oa rfl sm rfl <| Ofb rfl (zb (hv := bi_geq)) rfl <| On ?_
      refine Wn <| CWp.exit <| SQ.exit <| LQ.exit <| BQ.exit <| FQ.normal (by simp only [aRet, Try.f80, aResults, aResult, lk, Nat.reduceEqDiff, reduceIte] <;> rfl) ?_
      -- leaf: end
      refine ⟨rfl, ?_⟩
      rw [heapSort, ← hdk, ← heq]; rfl
    | succ k =>
      have e1 : (((k + 1 : Nat) : Int) - 1) = (k : Int) := by omega
      rw [e1]
      have w4 : IntKind.i64.wrap ((k : Int) - 1) = (k : Int) - 1 := wrap_i64 (by omega) (by omega)
      have w5 : IntKind.i64.wrap ((a : Int) + (k : Int)) = ((a + k : Nat) : Int) := by rw [wrap_i64 (by omega) (by omega)]; omega
      have hsw : (swp dj a (a + k)).size = N := by rw [size_swp]; exact hdj
      refine W.seq <| Wr <| Oa rfl sm rfl <| Ot rfl (zb (hv := bi_geq)) rfl (by first | rfl | assumption | ((simp only [bl, sq]) <;> first | done | assumption | omega) | (simp; done) | (simp; omega)) <| On ?_
      refine Wy <| CWp.skip <| SQ.normal ?_
      refine W.seq <| W.block <| W.seq <| W.regD tyOK mixed (by kernel_rfl) <| Sa rfl sm rfl <| Sa rfl sm rfl <| Sa rfl sm rfl <| Sa rfl sm rfl <| Sa rfl sm rfl <| Sa rfl (zb (hv := bi_w bi_add (by first | (simp only [w4, w5] <;> rfl) | rfl))) rfl <| Sa rfl sm rfl <| Sa rfl sm rfl <| Sa rfl sm rfl <| Sa rfl (zb (hv := bi_w bi_add (by first | (simp only [w4, w5] <;> rfl) | rfl))) rfl <| Sa rfl (zi (hv := by simp (disch := first | omega | simp only [nx] <;> omega | fail) only [aIndexAddr, ty26, ty33, hpl, sq] <;> rfl)) rfl <| Sa rfl (zl (hv := by simp (disch := first | omega | simp only [nx] <;> omega | fail) only [aLoad, ty33, rowOf, hpl, sq] <;> rfl)) rfl <| Sa rfl sm rfl <| Sa rfl sm rfl <| Sa rfl (zi (hv := by simp (disch := first | omega | simp only [nx] <;> omega | fail) only [aIndexAddr, ty26, ty33, hpl, sq] <;> rfl)) rfl <| Sa rfl (zl (hv := by simp (disch := first | omega | simp only [nx] <;> omega | fail) only [aLoad, ty33, rowOf, hpl, sq] <;> rfl)) rfl <| Sa rfl (zi (hv := by simp (disch := first | omega | simp only [nx] <;> omega | fail) only [aIndexAddr, ty26, ty33, hpl, sq] <;> rfl)) rfl <| Sa rfl (zs (hv := by simp (disch := first | omega | simp only [nx] <;> omega | fail) only [aStore, ty33, writeRow, hpl, sq] <;> rfl)) rfl <| Sa rfl (zi (hv := by simp (disch := first | omega | simp only [nx] <;> omega | fail) only [aIndexAddr, ty26, ty33, hpl, sq] <;> rfl)) rfl <| Sa rfl (zs (hv := by simp (disch := first | omega | simp only [nx] <;> omega | fail) only [aStore, ty33, writeRow, hpl, sq] <;> rfl)) rfl <| Sn ?_
      refine W.reg <| Oa rfl sm rfl <| Oa rfl sm rfl <| Oa rfl sm rfl <| Oa rfl sm rfl <| Oa rfl sm rfl <| OSuf.callD rfl (by simp only [aopnds, lk] <;> rfl) en102 (sift_c h r N (swp dj a (a + k)) hsw 0 k a (by omega) (by omega) (by omega)) rfl <| OSuf.nil <| BQ.normal <| SQ.normal ?_
      refine W.reg <| Oa rfl sm rfl <| Oa rfl (zb (hv := bi_w bi_sub (by first | (simp only [w4, w5] <;> rfl) | rfl))) rfl <| Oa rfl za rfl <| OSuf.nil <| ?_
      -- leaf: round
      refine LQ.normal (m := k) (L := [(0, sl r N), (3, CF), (8, I64 a), (9, I64 (0 : Nat)), (12, I64 ((k : Int) - 1))]) (by omega) ?_ ⟨siftDown lt k a 0 (swp dj a (a + k)), by omega, ?_, ?_, rfl, rfl⟩
      · simp only [HasA, Tr.get_put, Nat.reduceEqDiff, reduceIte, and_self]
      · rw [sift_size _ _ _ _ _ (Nat.le_refl _)]; exact hsw
      · rw [← heq]; rfl
theorem reverse_c (h : AHeap) (r N : Nat) (d : Array El) (hN : d.size = N) (a b : Nat) (hab : a < b) (hb : b ≤ N) (hsz : N < 1000000000) :
    FWp Try.prog 83 [sl r N, I64 a, I64 b, CF] (h.set r (row d)) fun u h' => u = .tuple #[] ∧ h' = h.set r (row (reverseRange d a b)) := by
  refine W.enter tyOK Try.func83 rfl rfl ?_
  simp only [entry]
  have w1 : IntKind.i64.wrap ((b : Int) - 1) = ((b - 1 : Nat) : Int) := by rw [wrap_i64 (by omega) (by omega)]; omega
  refine Wr <| Oa rfl sm rfl <| Oa rfl za rfl <| On ?_
  refine Wr <| Oa rfl sm rfl <| Oa rfl (zb (hv := bi_w bi_sub (by first | (simp only [w1] <;> rfl) | rfl))) rfl <| Oa rfl za rfl <| On ?_
  -- leaf: loop
  refine W.block (W.loop (fun n L h' => ∃ (i j : Nat) (dk : Array El), n = j - i ∧ a ≤ i ∧ i ≤ b ∧ j < b ∧ dk.size = N ∧ reverseLoop i j dk = reverseRange d a b ∧ h' = h.set r (row dk) ∧
      L = [(0, sl r N), (3, CF), (8, I64 i), (9, I64 j)]) (n := b - 1 - a) ⟨a, b - 1, d, rfl, by omega, by omega, by omega, hN, rfl, rfl, rfl⟩ ?_ ?_)
  · simp [HasA, Tr.get_put]
  · rintro n L h1 ⟨i, j, dk, rfl, hi, hib, hj, hds, heq, rfl, rfl⟩
    simp only [mkA]
    rw [reverseLoop] at heq
    by_cases hij : (i : Int) < (j : Int)
    · have w2 : IntKind.i64.wrap ((i : Int) + 1) = ((i + 1 : Nat) : Int) := by rw [wrap_i64 (by omega) (by omega)]; omega
      have w3 : IntKind.i64.wrap ((j : Int) - 1) = ((j - 1 : Nat) : Int) := by rw [wrap_i64 (by omega) (by omega)]; omega
      rw [if_pos (by omega)] at heq
      refine W.seq <| Wr <| Oa rfl sm rfl <| Oa rfl sm rfl <| Ot rfl (zb (hv := bi_lss)) rfl (by first | rfl | assumption | ((simp only [bl, sq]) <;> first | done | assumption | omega) | (simp; done) | (simp; omega)) <| On ?_
      refine Wy <| CWp.skip <| SQ.normal ?_
      refine W.block <| W.seq <| W.regD tyOK mixed (by kernel_rfl) <| Sa rfl sm rfl <| Sa rfl sm rfl <| Sa rfl sm rfl <| Sa rfl sm rfl <| Sa rfl sm rfl <| Sa rfl sm rfl <| Sa rfl (zi (hv := by simp (disch := first | omega | simp only [nx] <;> omega | fail) only [aIndexAddr, ty26, ty33, hpl, sq] <;> rfl)) rfl <| Sa rfl (zl (hv := by simp (disch := first | omega | simp only [nx] <;> omega | fail) only [aLoad, ty33, rowOf, hpl, sq] <;> rfl)) rfl <| Sa rfl sm rfl <| Sa rfl sm rfl <| Sa rfl (zi (hv := by simp (disch := first | omega | simp only [nx] <;> omega | fail) only [aIndexAddr, ty26, ty33, hpl, sq] <;> rfl)) rfl <| Sa rfl (zl (hv := by simp (disch := first | omega | simp only [nx] <;> omega | fail) only [aLoad, ty33, rowOf, hpl, sq] <;> rfl)) rfl <| Sa rfl (zi (hv := by simp (disch := first | omega | simp only [nx] <;> omega | fail) only [aIndexAddr, ty26, ty33, hpl, sq] <;> rfl)) rfl <| Sa rfl (zs (hv := by simp (disch := first | omega | simp only [nx] <;> omega | fail) only [aStore, ty33, writeRow, hpl, sq] <;> rfl)) rfl <| Sa rfl (zi (hv := by simp (disch := first | omega | simp only [nx] <;> omega | fail) only [aIndexAddr, ty26, ty33, hpl, sq] <;> rfl)) rfl <| Sa rfl (zs (hv := by simp (disch := first | omega | simp only [nx] <;> omega | fail) only [aStore, ty33, writeRow, hpl, sq] <;> rfl)) rfl <| Sn ?_
      refine Wr <| Oa rfl sm rfl <| Oa rfl (zb (hv := bi_w bi_add (by first | (simp only [w2, w3] <;> rfl) | rfl))) rfl <| Oa rfl za rfl <| On ?_
      refine W.reg <| Oa rfl sm rfl <| Oa rfl (zb (hv := bi_w bi_sub (by first | (simp only [w2, w3] <;> rfl) | rfl))) rfl <| Oa rfl za rfl <| OSuf.nil <| BQ.normal <| ?_
      -- leaf: round
      refine LQ.normal (m := (j - 1) - (i + 1)) (L := [(0, sl r N), (3, CF), (8, I64 (i + 1 : Nat)), (9, I64 (j - 1 : Nat))]) (by omega) ?_ ⟨i + 1, j - 1, swp dk i j, rfl, by omega, by omega, by omega, by rw [size_swp]; exact hds, heq, rfl, rfl⟩
      simp only [HasA, Tr.get_put, Nat.reduceEqDiff, reduceIte, and_self]
    · rw [if_neg (by omega)] at heq
      refine W.seq <| Wr <| Oa rfl sm rfl <| Oa rfl sm rfl <| Ofb rfl (zb (hv := bi_lss)) rfl <| On ?_
      refine Wn <| CWp.exit <| SQ.exit <| LQ.exit <| BQ.exit <| FQ.normal (by simp only [aRet, Try.f83, aResults, aResult, lk, Nat.reduceEqDiff, reduceIte] <;> rfl) ?_
      -- leaf: end
      exact ⟨rfl, by rw [← heq]⟩
end Go.Proofs.Ytebheelmgcggmaa.SortR
namespace Go.Proofs.Ytebheelmgcggmaa.SortR
open Go.Ab Go.Sort
theorem up_eq {p : El → Bool} {d : Array El} {j i : Nat} (h : i ≤ j) (hp : p d[i]! = true) : scanUp p d j i = scanUp p d j (i + 1) := by conv => lhs; rw [scanUp]; simp [h, hp]
theorem up_stop {p : El → Bool} {d : Array El} {j i : Nat} (h : ¬ i ≤ j ∨ p d[i]! = false) : scanUp p d j i = i := by
  rw [scanUp]
  rcases h with h | h
  · simp [h]
  · simp [h]
theorem down_eq {p : El → Bool} {d : Array El} {j i : Nat} (h : i ≤ j + 1) (hp : p d[j + 1]! = true) : scanDown p d i (j + 1) = scanDown p d i j := by conv => lhs; rw [scanDown]; simp [h, hp]
theorem down_stop {p : El → Bool} {d : Array El} {j i : Nat} (hi : 1 ≤ i) (h : ¬ i ≤ j ∨ p d[j]! = false) : scanDown p d i j = j := by
  cases j with
  | zero => rfl
  | succ j =>
    rw [scanDown]
    rcases h with h | h
    · simp [h]
    · simp [h]
theorem swp_sz {d : Array El} {i j n : Nat} (h : d.size = n) : (swp d i j).size = n := by rw [size_swp]; exact h
theorem partition_c (h : AHeap) (r N : Nat) (d : Array El) (hN : d.size = N) (a b pivot : Nat) (hap : a ≤ pivot) (hpb : pivot < b) (hb : b ≤ N) (hsz : N < 1000000000) :
    FWp Try.prog 86 [sl r N, I64 a, I64 b, I64 pivot, CF] (h.set r (row d)) fun u h' => u = .tuple #[I64 (partition lt d a b pivot).1, .bool (partition lt d a b pivot).2.1] ∧ h' = h.set r (row (partition lt d a b pivot).2.2) := by
  obtain ⟨d1, hd1⟩ : ∃ d1, d1 = swp d a pivot := ⟨_, rfl⟩
  have hs1 : d1.size = N := by rw [hd1]; exact swp_sz hN
  have hpart : partition lt d a b pivot = (let i := scanUp (fun x => lt x d1[a]!) d1 (b - 1) (a + 1); let j := scanDown (fun x => !lt x d1[a]!) d1 i (b - 1); if i > j then (j, true, swp d1 j a) else
    let r := partLoop lt a (i + 1) (j - 1) (swp d1 i j); (r.1, false, swp r.2 r.1 a)) := by rw [hd1]; rfl
  rw [hpart]
  refine W.enter tyOK Try.func86 rfl rfl ?_
  simp only [entry]
  have w1 : IntKind.i64.wrap ((a : Int) + 1) = ((a + 1 : Nat) : Int) := by rw [wrap_i64 (by omega) (by omega)]; omega
  have w2 : IntKind.i64.wrap ((b : Int) - 1) = ((b - 1 : Nat) : Int) := by rw [wrap_i64 (by omega) (by omega)]; omega
  refine Wr <| Oa rfl za rfl <| Of rfl za rfl rfl <| On ?_
  refine W.seq <| W.regD tyOK mixed (by kernel_rfl) <| Sa rfl sm rfl <| Sa rfl sm rfl <| Sa rfl sm rfl <| Sa rfl sm rfl <| Sa rfl sm rfl <| Sa rfl sm rfl <| Sa rfl (zi (hv := by simp (disch := first | omega | simp only [nx] <;> omega | fail) only [aIndexAddr, ty26, ty33, hpl, sq] <;> rfl)) rfl <| Sa rfl (zl (hv := by simp (disch := first | omega | simp only [nx] <;> omega | fail) only [aLoad, ty33, rowOf, hpl, sq] <;> rfl)) rfl <| Sa rfl sm rfl <| Sa rfl sm rfl <| Sa rfl (zi (hv := by simp (disch := first | omega | simp only [nx] <;> omega | fail) only [aIndexAddr, ty26, ty33, hpl, sq] <;> rfl)) rfl <| Sa rfl (zl (hv := by simp (disch := first | omega | simp only [nx] <;> omega | fail) only [aLoad, ty33, rowOf, hpl, sq] <;> rfl)) rfl <| Sa rfl (zi (hv := by simp (disch := first | omega | simp only [nx] <;> omega | fail) only [aIndexAddr, ty26, ty33, hpl, sq] <;> rfl)) rfl <| Sa rfl (zs (hv := by simp (disch := first | omega | simp only [nx] <;> omega | fail) only [aStore, ty33, writeRow, hpl, sq] <;> rfl)) rfl <| Sa rfl (zi (hv := by simp (disch := first | omega | simp only [nx] <;> omega | fail) only [aIndexAddr, ty26, ty33, hpl, sq] <;> rfl)) rfl <| Sa rfl (zs (hv := by simp (disch := first | omega | simp only [nx] <;> omega | fail) only [aStore, ty33, writeRow, hpl, sq] <;> rfl)) rfl <| Sn ?_
  refine Wr <| Oa rfl sm rfl <| Oa rfl (zb (hv := bi_w bi_add (by first | (simp only [w1, w2] <;> rfl) | rfl))) rfl <| Oa rfl sm rfl <| Oa rfl (zb (hv := bi_w bi_sub (by first | (simp only [w1, w2] <;> rfl) | rfl))) rfl <| Oa rfl za rfl <| Oa rfl za rfl <| On ?_
  refine W.seq <| ?_
  -- leaf: loop
  rw [show (d.setIfInBounds a d[pivot]!).setIfInBounds pivot d[a]! = d1 from hd1.symm]
  generalize hi0 : a + 1 = i0 at *
  generalize hj0 : b - 1 = j0 at *
  refine W.cut (fun L h' => h' = h.set r (row d1) ∧ L = [(0, sl r N), (1, I64 a), (4, CF), (12, I64 (scanUp (fun x => lt x d1[a]!) d1 j0 i0 : Nat)), (13, I64 j0)])
    (W.block (W.loop (fun n L h' => ∃ i : Nat, n = j0 + 1 - i ∧ 1 ≤ i ∧ i ≤ j0 + 1 ∧ scanUp (fun x => lt x d1[a]!) d1 j0 i = scanUp (fun x => lt x d1[a]!) d1 j0 i0 ∧ h' = h.set r (row d1) ∧ L = [(0, sl r N), (1, I64 a), (4, CF), (12, I64 i), (13, I64 j0)]) (n := j0 + 1 - i0) ⟨i0, rfl, by omega, by omega, rfl, rfl, rfl⟩ ?_ ?_)) ?_
  · simp [HasA, Tr.get_put]
  · rintro n L h1 ⟨i, rfl, hi1, hi2, heq, rfl, rfl⟩
    simp only [mkA]
    have w1 : IntKind.i64.wrap ((i : Int) + 1) = ((i + 1 : Nat) : Int) := by rw [wrap_i64 (by omega) (by omega)]; omega
    by_cases hij : (i : Int) ≤ (j0 : Int)
    · cases hl : lt d1[i]! d1[a]!
      · refine W.seq <| W.seq <| W.regD tyOK mixed (by kernel_rfl) <| Sa rfl sm rfl <| Sa rfl sm rfl <| SqW.aopT rfl (zb (hv := bi_leq)) (fun _ => rfl) (by first | rfl | assumption | ((simp only [bl, sq]) <;> first | done | assumption | omega) | (simp; done) | (simp; omega)) <| SqW.aopT rfl sm (fun _ => rfl) rfl <| Sa ag sm rfl <| Sa ag sm rfl <| Sa ag sm rfl <| Sa ag (zi (hv := by simp (disch := first | omega | simp only [nx] <;> omega | fail) only [aIndexAddr, ty26, ty33, hpl, sq] <;> rfl)) rfl <| Sa ag (zl (hv := by simp (disch := first | omega | simp only [nx] <;> omega | fail) only [aLoad, ty33, rowOf, hpl, sq] <;> rfl)) rfl <| Sa ag sm rfl <| Sa ag sm rfl <| Sa ag (zi (hv := by simp (disch := first | omega | simp only [nx] <;> omega | fail) only [aIndexAddr, ty26, ty33, hpl, sq] <;> rfl)) rfl <| Sa ag (zl (hv := by simp (disch := first | omega | simp only [nx] <;> omega | fail) only [aLoad, ty33, rowOf, hpl, sq] <;> rfl)) rfl <| SqW.vcallD ag (by simp only [lk] <;> rfl) (by simp only [aopnds, lk] <;> rfl) (less_v _ _ _ _ hl) rfl <| SqW.aopF ag (zb (hv := bi_lss)) (fun _ => rfl) rfl <| SqW.aopF rfl Zp (fun _ => rfl) rfl <| Sn ?_
        refine Wn <| CWp.exit <| SQ.exit <| LQ.exit <| BQ.exit <| ?_
        -- leaf: cut
        refine NQ.normal (L := [(0, sl r N), (1, I64 a), (4, CF), (12, I64 i), (13, I64 j0)]) ?_ ⟨rfl, ?_⟩
        · simp only [HasA, Tr.get_put, Nat.reduceEqDiff, reduceIte, and_self]
        · rw [← heq, up_stop (.inr (by simp [hl]))]
      · refine W.seq <| W.seq <| W.regD tyOK mixed (by kernel_rfl) <| Sa rfl sm rfl <| Sa rfl sm rfl <| SqW.aopT rfl (zb (hv := bi_leq)) (fun _ => rfl) (by first | rfl | assumption | ((simp only [bl, sq]) <;> first | done | assumption | omega) | (simp; done) | (simp; omega)) <| SqW.aopT rfl sm (fun _ => rfl) rfl <| Sa ag sm rfl <| Sa ag sm rfl <| Sa ag sm rfl <| Sa ag (zi (hv := by simp (disch := first | omega | simp only [nx] <;> omega | fail) only [aIndexAddr, ty26, ty33, hpl, sq] <;> rfl)) rfl <| Sa ag (zl (hv := by simp (disch := first | omega | simp only [nx] <;> omega | fail) only [aLoad, ty33, rowOf, hpl, sq] <;> rfl)) rfl <| Sa ag sm rfl <| Sa ag sm rfl <| Sa ag (zi (hv := by simp (disch := first | omega | simp only [nx] <;> omega | fail) only [aIndexAddr, ty26, ty33, hpl, sq] <;> rfl)) rfl <| Sa ag (zl (hv := by simp (disch := first | omega | simp only [nx] <;> omega | fail) only [aLoad, ty33, rowOf, hpl, sq] <;> rfl)) rfl <| SqW.vcallD ag (by simp only [lk] <;> rfl) (by simp only [aopnds, lk] <;> rfl) (less_v _ _ _ _ hl) rfl <| SqW.aopT ag (zb (hv := bi_lss)) (fun _ => rfl) rfl <| SqW.aopT rfl Zp (fun _ => rfl) rfl <| Sn ?_
        refine Wy <| CWp.skip <| SQ.normal ?_
        refine W.block <| W.reg <| Oa rfl sm rfl <| Oa rfl (zb (hv := bi_w bi_add (by first | (simp only [w1] <;> rfl) | rfl))) rfl <| Oa rfl za rfl <| OSuf.nil <| BQ.normal <| ?_
        -- leaf: round
        refine LQ.normal (m := j0 + 1 - (i + 1)) (L := [(0, sl r N), (1, I64 a), (4, CF), (12, I64 (i + 1 : Nat)), (13, I64 j0)]) (by omega) ?_ ⟨i + 1, rfl, by omega, by omega, ?_, rfl, rfl⟩
        · simp only [HasA, Tr.get_put, Nat.reduceEqDiff, reduceIte, and_self]
        · rw [← heq]; exact (up_eq (by omega) (by simp [hl])).symm
    · refine W.seq <| W.seq <| W.regD tyOK mixed (by kernel_rfl) <| Sa rfl sm rfl <| Sa rfl sm rfl <| SqW.aopF rfl (zb (hv := bi_leq)) (fun _ => rfl) (by first | rfl | assumption | ((simp only [bl]) <;> first | done | assumption | omega) | (simp; done) | (simp; omega)) <| SqW.aopF rfl sm (fun _ => rfl) rfl <| SqW.pass ag rfl <| SqW.pass ag rfl <| SqW.pass ag rfl <| SqW.pass ag rfl <| SqW.pass ag rfl <| SqW.pass ag rfl <| SqW.pass ag rfl <| SqW.pass ag rfl <| SqW.pass ag rfl <| SqW.pass ag rfl <| SqW.pass ag rfl <| SqW.aopF rfl Zp (fun _ => rfl) rfl <| Sn ?_
      refine Wn <| CWp.exit <| SQ.exit <| LQ.exit <| BQ.exit <| ?_
      -- leaf: cut
      refine NQ.normal (L := [(0, sl r N), (1, I64 a), (4, CF), (12, I64 i), (13, I64 j0)]) ?_ ⟨rfl, ?_⟩
      · simp only [HasA, Tr.get_put, Nat.reduceEqDiff, reduceIte, and_self]
      · rw [← heq, up_stop (.inl (by omega))]
  rintro L a' h1 ha ⟨rfl, rfl⟩
  have hi2 := (scanUp_spec (fun x => lt x d1[a]!) d1 j0 _ i0 rfl)
  have hge := scanUp_ge (fun x => lt x d1[a]!) d1 j0 i0
  have hle : scanUp (fun x => lt x d1[a]!) d1 j0 i0 ≤ j0 + 1 := by have := hi2.2.1; omega
  generalize hgi : scanUp (fun x => lt x d1[a]!) d1 j0 i0 = i2 at *
  refine SQ.normal <| CWp.known ha ?_
  simp only [mkA]
  refine W.seq <| ?_
  -- leaf: loop
  refine W.cut (fun L h' => h' = h.set r (row d1) ∧ L = [(0, sl r N), (1, I64 a), (4, CF), (12, I64 i2), (13, I64 (scanDown (fun x => !lt x d1[a]!) d1 i2 j0 : Nat))])
    (W.block (W.loop (fun n L h' => ∃ j : Nat, n = j ∧ j ≤ j0 ∧ scanDown (fun x => !lt x d1[a]!) d1 i2 j = scanDown (fun x => !lt x d1[a]!) d1 i2 j0 ∧ h' = h.set r (row d1) ∧ L = [(0, sl r N), (1, I64 a), (4, CF), (12, I64 i2), (13, I64 j)]) (n := j0) ⟨j0, rfl, by omega, rfl, rfl, rfl⟩ ?_ ?_)) ?_
  · simp [HasA, Tr.get_put]
  · rintro j L h1 ⟨_, rfl, hj, heq, rfl, rfl⟩
    simp only [mkA]
    by_cases hij : (i2 : Int) ≤ (j : Int)
    · obtain ⟨m, rfl⟩ : ∃ m, j = m + 1 := ⟨j - 1, by omega⟩
      have w1 : IntKind.i64.wrap (((m + 1 : Nat) : Int) - 1) = (m : Int) := by rw [wrap_i64 (by omega) (by omega)]; omega
      cases hl : lt d1[m + 1]! d1[a]!
      · refine W.seq <| W.seq <| W.regD tyOK mixed (by kernel_rfl) <| Sa rfl sm rfl <| Sa rfl sm rfl <| SqW.aopT rfl (zb (hv := bi_leq)) (fun _ => rfl) (by first | rfl | assumption | ((simp only [bl, sq]) <;> first | done | assumption | omega) | (simp; done) | (simp; omega)) <| SqW.aopT rfl sm (fun _ => rfl) rfl <| Sa ag sm rfl <| Sa ag sm rfl <| Sa ag sm rfl <| Sa ag (zi (hv := by simp (disch := first | omega | simp only [nx] <;> omega | fail) only [aIndexAddr, ty26, ty33, hpl, sq] <;> rfl)) rfl <| Sa ag (zl (hv := by simp (disch := first | omega | simp only [nx] <;> omega | fail) only [aLoad, ty33, rowOf, hpl, sq] <;> rfl)) rfl <| Sa ag sm rfl <| Sa ag sm rfl <| Sa ag (zi (hv := by simp (disch := first | omega | simp only [nx] <;> omega | fail) only [aIndexAddr, ty26, ty33, hpl, sq] <;> rfl)) rfl <| Sa ag (zl (hv := by simp (disch := first | omega | simp only [nx] <;> omega | fail) only [aLoad, ty33, rowOf, hpl, sq] <;> rfl)) rfl <| SqW.vcallD ag (by simp only [lk] <;> rfl) (by simp only [aopnds, lk] <;> rfl) (less_v _ _ _ _ hl) rfl <| SqW.aopF ag (zb (hv := bi_lss)) (fun _ => rfl) rfl <| SqW.aopT ag Zt (fun _ => rfl) rfl <| SqW.aopT rfl Zp (fun _ => rfl) rfl <| Sn ?_
        refine Wy <| CWp.skip <| SQ.normal ?_
        refine W.block <| W.reg <| Oa rfl sm rfl <| Oa rfl (zb (hv := bi_w bi_sub (by first | (simp only [w1] <;> rfl) | rfl))) rfl <| Oa rfl za rfl <| OSuf.nil <| BQ.normal <| ?_
        -- leaf: round
        refine LQ.normal (m := m) (L := [(0, sl r N), (1, I64 a), (4, CF), (12, I64 i2), (13, I64 m)]) (by omega) ?_ ⟨m, rfl, by omega, ?_, rfl, rfl⟩
        · simp only [HasA, Tr.get_put, Nat.reduceEqDiff, reduceIte, and_self]
        · rw [← heq]; exact (down_eq (by omega) (by simp [hl])).symm
      · refine W.seq <| W.seq <| W.regD tyOK mixed (by kernel_rfl) <| Sa rfl sm rfl <| Sa rfl sm rfl <| SqW.aopT rfl (zb (hv := bi_leq)) (fun _ => rfl) (by first | rfl | assumption | ((simp only [bl, sq]) <;> first | done | assumption | omega) | (simp; done) | (simp; omega)) <| SqW.aopT rfl sm (fun _ => rfl) rfl <| Sa ag sm rfl <| Sa ag sm rfl <| Sa ag sm rfl <| Sa ag (zi (hv := by simp (disch := first | omega | simp only [nx] <;> omega | fail) only [aIndexAddr, ty26, ty33, hpl, sq] <;> rfl)) rfl <| Sa ag (zl (hv := by simp (disch := first | omega | simp only [nx] <;> omega | fail) only [aLoad, ty33, rowOf, hpl, sq] <;> rfl)) rfl <| Sa ag sm rfl <| Sa ag sm rfl <| Sa ag (zi (hv := by simp (disch := first | omega | simp only [nx] <;> omega | fail) only [aIndexAddr, ty26, ty33, hpl, sq] <;> rfl)) rfl <| Sa ag (zl (hv := by simp (disch := first | omega | simp only [nx] <;> omega | fail) only [aLoad, ty33, rowOf, hpl, sq] <;> rfl)) rfl <| SqW.vcallD ag (by simp only [lk] <;> rfl) (by simp only [aopnds, lk] <;> rfl) (less_v _ _ _ _ hl) rfl <| SqW.aopT ag (zb (hv := bi_lss)) (fun _ => rfl) rfl <| SqW.aopF ag Zt (fun _ => rfl) rfl <| SqW.aopF rfl Zp (fun _ => rfl) rfl <| Sn ?_
        refine Wn <| CWp.exit <| SQ.exit <| LQ.exit <| BQ.exit <| ?_
        -- leaf: cut
        refine NQ.normal (L := [(0, sl r N), (1, I64 a), (4, CF), (12, I64 i2), (13, I64 (m + 1 : Nat))]) ?_ ⟨rfl, ?_⟩
        · simp only [HasA, Tr.get_put, Nat.reduceEqDiff, reduceIte, and_self]
        · rw [← heq, down_stop (by omega) (.inr (by simp [hl]))]
    · refine W.seq <| W.seq <| W.regD tyOK mixed (by kernel_rfl) <| Sa rfl sm rfl <| Sa rfl sm rfl <| SqW.aopF rfl (zb (hv := bi_leq)) (fun _ => rfl) (by first | rfl | assumption | ((simp only [bl]) <;> first | done | assumption | omega) | (simp; done) | (simp; omega)) <| SqW.aopF rfl sm (fun _ => rfl) rfl <| SqW.pass ag rfl <| SqW.pass ag rfl <| SqW.pass ag rfl <| SqW.pass ag rfl <| SqW.pass ag rfl <| SqW.pass ag rfl <| SqW.pass ag rfl <| SqW.pass ag rfl <| SqW.pass ag rfl <| SqW.pass ag rfl <| SqW.pass ag rfl <| SqW.pass ag rfl <| SqW.aopF rfl Zp (fun _ => rfl) rfl <| Sn ?_
      refine Wn <| CWp.exit <| SQ.exit <| LQ.exit <| BQ.exit <| ?_
      -- leaf: cut
      refine NQ.normal (L := [(0, sl r N), (1, I64 a), (4, CF), (12, I64 i2), (13, I64 j)]) ?_ ⟨rfl, ?_⟩
      · simp only [HasA, Tr.get_put, Nat.reduceEqDiff, reduceIte, and_self]
      · rw [← heq, down_stop (by omega) (.inl (by omega))]
  rintro L a' h1 ha ⟨rfl, rfl⟩
  have hdl := scanDown_le (fun x => !lt x d1[a]!) d1 i2 j0
  have hds2 := (scanDown_spec (fun x => !lt x d1[a]!) d1 i2 j0)
  generalize hgj : scanDown (fun x => !lt x d1[a]!) d1 i2 j0 = j2 at *
  have hdl2 : i2 ≤ j2 + 1 := hds2.2.1 (by omega)
  have hne : i2 ≤ j2 → i2 < j2 := fun hle2 => by
    have u1 := hi2.2.2.2 (by omega)
    have u2 := hds2.2.2.2 hle2 (by omega)
    rcases Nat.lt_or_eq_of_le hle2 with h0 | h0
    · exact h0
    · subst h0; try simp only at u1 u2
      first | (rw [u1] at u2; simp at u2; done) | (rw [u2] at u1; simp at u1; done)
  by_cases hgt : (i2 : Int) > (j2 : Int)
  · rw [if_pos (by omega)]
    refine SQ.normal <| CWp.known ha ?_
    simp only [mkA]
    refine W.seq <| Wr <| Oa rfl sm rfl <| Oa rfl sm rfl <| Ot rfl (zb (hv := bi_gtr)) rfl (by first | rfl | assumption | ((simp only [bl, sq]) <;> first | done | assumption | omega) | (simp; done) | (simp; omega)) <| On ?_
    refine Wy <| W.seq <| W.regD tyOK mixed (by kernel_rfl) <| Sa rfl sm rfl <| Sa rfl sm rfl <| Sa rfl sm rfl <| Sa rfl sm rfl <| Sa rfl sm rfl <| Sa rfl sm rfl <| Sa rfl (zi (hv := by simp (disch := first | omega | simp only [nx] <;> omega | fail) only [aIndexAddr, ty26, ty33, hpl, sq] <;> rfl)) rfl <| Sa rfl (zl (hv := by simp (disch := first | omega | simp only [nx] <;> omega | fail) only [aLoad, ty33, rowOf, hpl, sq] <;> rfl)) rfl <| Sa rfl sm rfl <| Sa rfl sm rfl <| Sa rfl (zi (hv := by simp (disch := first | omega | simp only [nx] <;> omega | fail) only [aIndexAddr, ty26, ty33, hpl, sq] <;> rfl)) rfl <| Sa rfl (zl (hv := by simp (disch := first | omega | simp only [nx] <;> omega | fail) only [aLoad, ty33, rowOf, hpl, sq] <;> rfl)) rfl <| Sa rfl (zi (hv := by simp (disch := first | omega | simp only [nx] <;> omega | fail) only [aIndexAddr, ty26, ty33, hpl, sq] <;> rfl)) rfl <| Sa rfl (zs (hv := by simp (disch := first | omega | simp only [nx] <;> omega | fail) only [aStore, ty33, writeRow, hpl, sq] <;> rfl)) rfl <| Sa rfl (zi (hv := by simp (disch := first | omega | simp only [nx] <;> omega | fail) only [aIndexAddr, ty26, ty33, hpl, sq] <;> rfl)) rfl <| Sa rfl (zs (hv := by simp (disch := first | omega | simp only [nx] <;> omega | fail) only [aStore, ty33, writeRow, hpl, sq] <;> rfl)) rfl <| Sn ?_
    refine Wr <| Oa rfl sm rfl <| Oa rfl za rfl <| Ot rfl za rfl rfl <| On ?_
    refine CWp.ret <| SQ.ret <| FQ.ret (by simp only [aRet, Try.f86, aResults, aResult, lk, Nat.reduceEqDiff, reduceIte] <;> rfl) ?_
    -- leaf: end
    exact ⟨rfl, rfl⟩
  rw [if_neg (by omega)]
  have hlt2 := hne (by omega)
  have w3 : IntKind.i64.wrap ((i2 : Int) + 1) = ((i2 + 1 : Nat) : Int) := by rw [wrap_i64 (by omega) (by omega)]; omega
  have w4 : IntKind.i64.wrap ((j2 : Int) - 1) = ((j2 - 1 : Nat) : Int) := by rw [wrap_i64 (by omega) (by omega)]; omega
  refine SQ.normal <| CWp.known ha ?_
  simp only [mkA]
  refine W.seq <| Wr <| Oa rfl sm rfl <| Oa rfl sm rfl <| Of rfl (zb (hv := bi_gtr)) rfl (by first | rfl | assumption | ((simp only [bl, sq]) <;> first | done | assumption | omega) | (simp; done) | (simp; omega)) <| On ?_
  refine Wn <| CWp.skip <| SQ.normal ?_
  refine W.seq <| W.regD tyOK mixed (by kernel_rfl) <| Sa rfl sm rfl <| Sa rfl sm rfl <| Sa rfl sm rfl <| Sa rfl sm rfl <| Sa rfl sm rfl <| Sa rfl sm rfl <| Sa rfl (zi (hv := by simp (disch := first | omega | simp only [nx] <;> omega | fail) only [aIndexAddr, ty26, ty33, hpl, sq] <;> rfl)) rfl <| Sa rfl (zl (hv := by simp (disch := first | omega | simp only [nx] <;> omega | fail) only [aLoad, ty33, rowOf, hpl, sq] <;> rfl)) rfl <| Sa rfl sm rfl <| Sa rfl sm rfl <| Sa rfl (zi (hv := by simp (disch := first | omega | simp only [nx] <;> omega | fail) only [aIndexAddr, ty26, ty33, hpl, sq] <;> rfl)) rfl <| Sa rfl (zl (hv := by simp (disch := first | omega | simp only [nx] <;> omega | fail) only [aLoad, ty33, rowOf, hpl, sq] <;> rfl)) rfl <| Sa rfl (zi (hv := by simp (disch := first | omega | simp only [nx] <;> omega | fail) only [aIndexAddr, ty26, ty33, hpl, sq] <;> rfl)) rfl <| Sa rfl (zs (hv := by simp (disch := first | omega | simp only [nx] <;> omega | fail) only [aStore, ty33, writeRow, hpl, sq] <;> rfl)) rfl <| Sa rfl (zi (hv := by simp (disch := first | omega | simp only [nx] <;> omega | fail) only [aIndexAddr, ty26, ty33, hpl, sq] <;> rfl)) rfl <| Sa rfl (zs (hv := by simp (disch := first | omega | simp only [nx] <;> omega | fail) only [aStore, ty33, writeRow, hpl, sq] <;> rfl)) rfl <| Sn ?_
  refine Wr <| Oa rfl sm rfl <| Oa rfl (zb (hv := bi_w bi_add (by first | (simp only [w3, w4] <;> rfl) | rfl))) rfl <| Oa rfl za rfl <| On ?_
  refine Wr <| Oa rfl sm rfl <| Oa rfl (zb (hv := bi_w bi_sub (by first | (simp only [w3, w4] <;> rfl) | rfl))) rfl <| Oa rfl za rfl <| On ?_
  refine W.seq <| ?_
  -- leaf: loop
  rw [show (d1.setIfInBounds i2 d1[j2]!).setIfInBounds j2 d1[i2]! = swp d1 i2 j2 from rfl]
  obtain ⟨e2, he2⟩ : ∃ e2, e2 = swp d1 i2 j2 := ⟨_, rfl⟩
  have hse : e2.size = N := by rw [he2]; exact swp_sz hs1
  rw [← he2]
  obtain ⟨i3, hi3⟩ : ∃ i3, i3 = i2 + 1 := ⟨_, rfl⟩
  obtain ⟨j3, hj3⟩ : ∃ j3, j3 = j2 - 1 := ⟨_, rfl⟩
  rw [← hi3, ← hj3]
  have k1 : a < i3 := by omega
  have k2 : i3 ≤ j3 + 1 := by omega
  have k3 : j3 < b := by omega
  clear hi3 hj3 he2 hgi hgj hne hds2 hi2 hdl hdl2 hge hle hgt hlt2 w3 w4 ha a' hpart hd1 hs1
  refine W.cut (fun L h' => ∃ (j : Nat) (dk : Array El), dk.size = N ∧ a ≤ j ∧ j < b ∧ partLoop lt a i3 j3 e2 = (j, dk) ∧ h' = h.set r (row dk) ∧ L = [(0, sl r N), (1, I64 a), (4, CF), (13, I64 j)])
    (W.block (W.loop (fun n L h' => ∃ (i j : Nat) (dk : Array El), n = j + 1 - i ∧ a < i ∧ i ≤ j + 1 ∧ j < b ∧ dk.size = N ∧ partLoop lt a i j dk = partLoop lt a i3 j3 e2 ∧ h' = h.set r (row dk) ∧
      L = [(0, sl r N), (1, I64 a), (4, CF), (12, I64 i), (13, I64 j)]) (n := j3 + 1 - i3) ⟨i3, j3, e2, rfl, k1, k2, k3, hse, rfl, rfl, rfl⟩ ?_ ?_)) ?_
  · simp [HasA, Tr.get_put]
  · rintro n L h1 ⟨i0, j0, d1, rfl, k4, k5, k6, hs1, hloop, rfl, rfl⟩
    simp only [mkA]
    refine W.block <| W.seq <| ?_
    -- leaf: loop
    rw [partLoop_eq] at hloop
    refine W.cut (fun L h' => h' = h.set r (row d1) ∧ L = [(0, sl r N), (1, I64 a), (4, CF), (12, I64 (scanUp (fun x => lt x d1[a]!) d1 j0 i0 : Nat)), (13, I64 j0)])
      (W.block (W.loop (fun n L h' => ∃ i : Nat, n = j0 + 1 - i ∧ 1 ≤ i ∧ i ≤ j0 + 1 ∧ scanUp (fun x => lt x d1[a]!) d1 j0 i = scanUp (fun x => lt x d1[a]!) d1 j0 i0 ∧ h' = h.set r (row d1) ∧ L = [(0, sl r N), (1, I64 a), (4, CF), (12, I64 i), (13, I64 j0)]) (n := j0 + 1 - i0) ⟨i0, rfl, by omega, by omega, rfl, rfl, rfl⟩ ?_ ?_)) ?_
    · simp [HasA, Tr.get_put]
    · rintro n L h1 ⟨i, rfl, hi1, hi2, heq, rfl, rfl⟩
      simp only [mkA]
      have w1 : IntKind.i64.wrap ((i : Int) + 1) = ((i + 1 : Nat) : Int) := by rw [wrap_i64 (by omega) (by omega)]; omega
      by_cases hij : (i : Int) ≤ (j0 : Int)
      · cases hl : lt d1[i]! d1[a]!
        · refine W.seq <| W.seq <| W.regD tyOK mixed (by kernel_rfl) <| Sa rfl sm rfl <| Sa rfl sm rfl <| SqW.aopT rfl (zb (hv := bi_leq)) (fun _ => rfl) (by first | rfl | assumption | ((simp only [bl, sq]) <;> first | done | assumption | omega) | (simp; done) | (simp; omega)) <| SqW.aopT rfl sm (fun _ => rfl) rfl <| Sa ag sm rfl <| Sa ag sm rfl <| Sa ag sm rfl <| Sa ag (zi (hv := by simp (disch := first | omega | simp only [nx] <;> omega | fail) only [aIndexAddr, ty26, ty33, hpl, sq] <;> rfl)) rfl <| Sa ag (zl (hv := by simp (disch := first | omega | simp only [nx] <;> omega | fail) only [aLoad, ty33, rowOf, hpl, sq] <;> rfl)) rfl <| Sa ag sm rfl <| Sa ag sm rfl <| Sa ag (zi (hv := by simp (disch := first | omega | simp only [nx] <;> omega | fail) only [aIndexAddr, ty26, ty33, hpl, sq] <;> rfl)) rfl <| Sa ag (zl (hv := by simp (disch := first | omega | simp only [nx] <;> omega | fail) only [aLoad, ty33, rowOf, hpl, sq] <;> rfl)) rfl <| SqW.vcallD ag (by simp only [lk] <;> rfl) (by simp only [aopnds, lk] <;> rfl) (less_v _ _ _ _ hl) rfl <| SqW.aopF ag (zb (hv := bi_lss)) (fun _ => rfl) rfl <| SqW.aopF rfl Zp (fun _ => rfl) rfl <| Sn ?_
          refine Wn <| CWp.exit <| SQ.exit <| LQ.exit <| BQ.exit <| ?_
          -- leaf: cut
          refine NQ.normal (L := [(0, sl r N), (1, I64 a), (4, CF), (12, I64 i), (13, I64 j0)]) ?_ ⟨rfl, ?_⟩
          · simp only [HasA, Tr.get_put, Nat.reduceEqDiff, reduceIte, and_self]
          · rw [← heq, up_stop (.inr (by simp [hl]))]
        · refine W.seq <| W.seq <| W.regD tyOK mixed (by kernel_rfl) <| Sa rfl sm rfl <| Sa rfl sm rfl <| SqW.aopT rfl (zb (hv := bi_leq)) (fun _ => rfl) (by first | rfl | assumption | ((simp only [bl, sq]) <;> first | done | assumption | omega) | (simp; done) | (simp; omega)) <| SqW.aopT rfl sm (fun _ => rfl) rfl <| Sa ag sm rfl <| Sa ag sm rfl <| Sa ag sm rfl <| Sa ag (zi (hv := by simp (disch := first | omega | simp only [nx] <;> omega | fail) only [aIndexAddr, ty26, ty33, hpl, sq] <;> rfl)) rfl <| Sa ag (zl (hv := by simp (disch := first | omega | simp only [nx] <;> omega | fail) only [aLoad, ty33, rowOf, hpl, sq] <;> rfl)) rfl <| Sa ag sm rfl <| Sa ag sm rfl <| Sa ag (zi (hv := by simp (disch := first | omega | simp only [nx] <;> omega | fail) only [aIndexAddr, ty26, ty33, hpl, sq] <;> rfl)) rfl <| Sa ag (zl (hv := by simp (disch := first | omega | simp only [nx] <;> omega | fail) only [aLoad, ty33, rowOf, hpl, sq] <;> rfl)) rfl <| SqW.vcallD ag (by simp only [lk] <;> rfl) (by simp only [aopnds, lk] <;> rfl) (less_v _ _ _ _ hl) rfl <| SqW.aopT ag (zb (hv := bi_lss)) (fun _ => rfl) rfl <| SqW.aopT rfl Zp (fun _ => rfl) rfl <| Sn ?_
          refine Wy <| CWp.skip <| SQ.normal ?_
          refine W.block <| W.reg <| Oa rfl sm rfl <| Oa rfl (zb (hv := bi_w bi_add (by first | (simp only [w1] <;> rfl) | rfl))) rfl <| Oa rfl za rfl <| OSuf.nil <| BQ.normal <| ?_
          -- leaf: round
          refine LQ.normal (m := j0 + 1 - (i + 1)) (L := [(0, sl r N), (1, I64 a), (4, CF), (12, I64 (i + 1 : Nat)), (13, I64 j0)]) (by omega) ?_ ⟨i + 1, rfl, by omega, by omega, ?_, rfl, rfl⟩
          · simp only [HasA, Tr.get_put, Nat.reduceEqDiff, reduceIte, and_self]
          · rw [← heq]; exact (up_eq (by omega) (by simp [hl])).symm
      · refine W.seq <| W.seq <| W.regD tyOK mixed (by kernel_rfl) <| Sa rfl sm rfl <| Sa rfl sm rfl <| SqW.aopF rfl (zb (hv := bi_leq)) (fun _ => rfl) (by first | rfl | assumption | ((simp only [bl]) <;> first | done | assumption | omega) | (simp; done) | (simp; omega)) <| SqW.aopF rfl sm (fun _ => rfl) rfl <| SqW.pass ag rfl <| SqW.pass ag rfl <| SqW.pass ag rfl <| SqW.pass ag rfl <| SqW.pass ag rfl <| SqW.pass ag rfl <| SqW.pass ag rfl <| SqW.pass ag rfl <| SqW.pass ag rfl <| SqW.pass ag rfl <| SqW.pass ag rfl <| SqW.aopF rfl Zp (fun _ => rfl) rfl <| Sn ?_
        refine Wn <| CWp.exit <| SQ.exit <| LQ.exit <| BQ.exit <| ?_
        -- leaf: cut
        refine NQ.normal (L := [(0, sl r N), (1, I64 a), (4, CF), (12, I64 i), (13, I64 j0)]) ?_ ⟨rfl, ?_⟩
        · simp only [HasA, Tr.get_put, Nat.reduceEqDiff, reduceIte, and_self]
        · rw [← heq, up_stop (.inl (by omega))]
    rintro L a' h1 ha ⟨rfl, rfl⟩
    have hi2 := (scanUp_spec (fun x => lt x d1[a]!) d1 j0 _ i0 rfl)
    have hge := scanUp_ge (fun x => lt x d1[a]!) d1 j0 i0
    have hle : scanUp (fun x => lt x d1[a]!) d1 j0 i0 ≤ j0 + 1 := by have := hi2.2.1; omega
    generalize hgi : scanUp (fun x => lt x d1[a]!) d1 j0 i0 = i2 at *
    refine SQ.normal <| CWp.known ha ?_
    simp only [mkA]
    refine W.seq <| ?_
    -- leaf: loop
    refine W.cut (fun L h' => h' = h.set r (row d1) ∧ L = [(0, sl r N), (1, I64 a), (4, CF), (12, I64 i2), (13, I64 (scanDown (fun x => !lt x d1[a]!) d1 i2 j0 : Nat))])
      (W.block (W.loop (fun n L h' => ∃ j : Nat, n = j ∧ j ≤ j0 ∧ scanDown (fun x => !lt x d1[a]!) d1 i2 j = scanDown (fun x => !lt x d1[a]!) d1 i2 j0 ∧ h' = h.set r (row d1) ∧ L = [(0, sl r N), (1, I64 a), (4, CF), (12, I64 i2), (13, I64 j)]) (n := j0) ⟨j0, rfl, by omega, rfl, rfl, rfl⟩ ?_ ?_)) ?_
    · simp [HasA, Tr.get_put]
    · rintro j L h1 ⟨_, rfl, hj, heq, rfl, rfl⟩
      simp only [mkA]
      by_cases hij : (i2 : Int) ≤ (j : Int)
      · obtain ⟨m, rfl⟩ : ∃ m, j = m + 1 := ⟨j - 1, by omega⟩
        have w1 : IntKind.i64.wrap (((m + 1 : Nat) : Int) - 1) = (m : Int) := by rw [wrap_i64 (by omega) (by omega)]; omega
        cases hl : lt d1[m + 1]! d1[a]!
        · refine W.seq <| W.seq <| W.regD tyOK mixed (by kernel_rfl) <| Sa rfl sm rfl <| Sa rfl sm rfl <| SqW.aopT rfl (zb (hv := bi_leq)) (fun _ => rfl) (by first | rfl | assumption | ((simp only [bl, sq]) <;> first | done | assumption | omega) | (simp; done) | (simp; omega)) <| SqW.aopT rfl sm (fun _ => rfl) rfl <| Sa ag sm rfl <| Sa ag sm rfl <| Sa ag sm rfl <| Sa ag (zi (hv := by simp (disch := first | omega | simp only [nx] <;> omega | fail) only [aIndexAddr, ty26, ty33, hpl, sq] <;> rfl)) rfl <| Sa ag (zl (hv := by simp (disch := first | omega | simp only [nx] <;> omega | fail) only [aLoad, ty33, rowOf, hpl, sq] <;> rfl)) rfl <| Sa ag sm rfl <| Sa ag sm rfl <| Sa ag (zi (hv := by simp (disch := first | omega | simp only [nx] <;> omega | fail) only [aIndexAddr, ty26, ty33, hpl, sq] <;> rfl)) rfl <| Sa ag (zl (hv := by simp (disch := first | omega | simp only [nx] <;> omega | fail) only [aLoad, ty33, rowOf, hpl, sq] <;> rfl)) rfl <| SqW.vcallD ag (by simp only [lk] <;> rfl) (by simp only [aopnds, lk] <;> rfl) (less_v _ _ _ _ hl) rfl <| SqW.aopF ag (zb (hv := bi_lss)) (fun _ => rfl) rfl <| SqW.aopT ag Zt (fun _ => rfl) rfl <| SqW.aopT rfl Zp (fun _ => rfl) rfl <| Sn ?_
          refine Wy <| CWp.skip <| SQ.normal ?_
          refine W.block <| W.reg <| Oa rfl sm rfl <| Oa rfl (zb (hv := bi_w bi_sub (by first | (simp only [w1] <;> rfl) | rfl))) rfl <| Oa rfl za rfl <| OSuf.nil <| BQ.normal <| ?_
          -- leaf: round
          refine LQ.normal (m := m) (L := [(0, sl r N), (1, I64 a), (4, CF), (12, I64 i2), (13, I64 m)]) (by omega) ?_ ⟨m, rfl, by omega, ?_, rfl, rfl⟩
          · simp only [HasA, Tr.get_put, Nat.reduceEqDiff, reduceIte, and_self]
          · rw [← heq]; exact (down_eq (by omega) (by simp [hl])).symm
        · refine W.seq <| W.seq <| W.regD tyOK mixed (by kernel_rfl) <| Sa rfl sm rfl <| Sa rfl sm rfl <| SqW.aopT rfl (zb (hv := bi_leq)) (fun _ => rfl) (by first | rfl | assumption | ((simp only [bl, sq]) <;> first | done | assumption | omega) | (simp; done) | (simp; omega)) <| SqW.aopT rfl sm (fun _ => rfl) rfl <| Sa ag sm rfl <| Sa ag sm rfl <| Sa ag sm rfl <| Sa ag (zi (hv := by simp (disch := first | omega | simp only [nx] <;> omega | fail) only [aIndexAddr, ty26, ty33, hpl, sq] <;> rfl)) rfl <| Sa ag (zl (hv := by simp (disch := first | omega | simp only [nx] <;> omega | fail) only [aLoad, ty33, rowOf, hpl, sq] <;> rfl)) rfl <| Sa ag sm rfl <| Sa ag sm rfl <| Sa ag (zi (hv := by simp (disch := first | omega | simp only [nx] <;> omega | fail) only [aIndexAddr, ty26, ty33, hpl, sq] <;> rfl)) rfl <| Sa ag (zl (hv := by simp (disch := first | omega | simp only [nx] <;> omega | fail) only [aLoad, ty33, rowOf, hpl, sq] <;> rfl)) rfl <| SqW.vcallD ag (by simp only [lk] <;> rfl) (by simp only [aopnds, lk] <;> rfl) (less_v _ _ _ _ hl) rfl <| SqW.aopT ag (zb (hv := bi_lss)) (fun _ => rfl) rfl <| SqW.aopF ag Zt (fun _ => rfl) rfl <| SqW.aopF rfl Zp (fun _ => rfl) rfl <| Sn ?_
          refine Wn <| CWp.exit <| SQ.exit <| LQ.exit <| BQ.exit <| ?_
          -- leaf: cut
          refine NQ.normal (L := [(0, sl r N), (1, I64 a), (4, CF), (12, I64 i2), (13, I64 (m + 1 : Nat))]) ?_ ⟨rfl, ?_⟩
          · simp only [HasA, Tr.get_put, Nat.reduceEqDiff, reduceIte, and_self]
          · rw [← heq, down_stop (by omega) (.inr (by simp [hl]))]
      · refine W.seq <| W.seq <| W.regD tyOK mixed (by kernel_rfl) <| Sa rfl sm rfl <| Sa rfl sm rfl <| SqW.aopF rfl (zb (hv := bi_leq)) (fun _ => rfl) (by first | rfl | assumption | ((simp only [bl]) <;> first | done | assumption | omega) | (simp; done) | (simp; omega)) <| SqW.aopF rfl sm (fun _ => rfl) rfl <| SqW.pass ag rfl <| SqW.pass ag rfl <| SqW.pass ag rfl <| SqW.pass ag rfl <| SqW.pass ag rfl <| SqW.pass ag rfl <| SqW.pass ag rfl <| SqW.pass ag rfl <| SqW.pass ag rfl <| SqW.pass ag rfl <| SqW.pass ag rfl <| SqW.pass ag rfl <| SqW.aopF rfl Zp (fun _ => rfl) rfl <| Sn ?_
        refine Wn <| CWp.exit <| SQ.exit <| LQ.exit <| BQ.exit <| ?_
        -- leaf: cut
        refine NQ.normal (L := [(0, sl r N), (1, I64 a), (4, CF), (12, I64 i2), (13, I64 j)]) ?_ ⟨rfl, ?_⟩
        · simp only [HasA, Tr.get_put, Nat.reduceEqDiff, reduceIte, and_self]
        · rw [← heq, down_stop (by omega) (.inl (by omega))]
    rintro L a' h1 ha ⟨rfl, rfl⟩
    have hdl := scanDown_le (fun x => !lt x d1[a]!) d1 i2 j0
    have hds2 := (scanDown_spec (fun x => !lt x d1[a]!) d1 i2 j0)
    generalize hgj : scanDown (fun x => !lt x d1[a]!) d1 i2 j0 = j2 at *
    have hdl2 : i2 ≤ j2 + 1 := hds2.2.1 (by omega)
    have hne : i2 ≤ j2 → i2 < j2 := fun hle2 => by
      have u1 := hi2.2.2.2 (by omega)
      have u2 := hds2.2.2.2 hle2 (by omega)
      rcases Nat.lt_or_eq_of_le hle2 with h0 | h0
      · exact h0
      · subst h0; try simp only at u1 u2
        first | (rw [u1] at u2; simp at u2; done) | (rw [u2] at u1; simp at u1; done)
    by_cases hgt : (i2 : Int) > (j2 : Int)
    · rw [if_pos (by omega)] at hloop
      refine SQ.normal <| CWp.known ha ?_
      simp only [mkA]
      refine W.seq <| Wr <| Oa rfl sm rfl <| Oa rfl sm rfl <| Ot rfl (zb (hv := bi_gtr)) rfl (by first | rfl | assumption | ((simp only [bl, sq]) <;> first | done | assumption | omega) | (simp; done) | (simp; omega)) <| On ?_
      refine Wy <| CWp.exit <| SQ.exit <| BQ.out rfl <| LQ.exit <| BQ.exit <| ?_
      -- leaf: cut
      refine NQ.normal (L := [(0, sl r N), (1, I64 a), (4, CF), (13, I64 j2)]) ?_ ⟨j2, d1, hs1, by omega, by omega, hloop.symm, rfl, rfl⟩
      simp only [HasA, Tr.get_put, Nat.reduceEqDiff, reduceIte, and_self]
    · rw [if_neg (by omega)] at hloop
      have hlt2 := hne (by omega)
      have w3 : IntKind.i64.wrap ((i2 : Int) + 1) = ((i2 + 1 : Nat) : Int) := by rw [wrap_i64 (by omega) (by omega)]; omega
      have w4 : IntKind.i64.wrap ((j2 : Int) - 1) = ((j2 - 1 : Nat) : Int) := by rw [wrap_i64 (by omega) (by omega)]; omega
      refine SQ.normal <| CWp.known ha ?_
      simp only [mkA]
      refine W.seq <| Wr <| Oa rfl sm rfl <| Oa rfl sm rfl <| Of rfl (zb (hv := bi_gtr)) rfl (by first | rfl | assumption | ((simp only [bl, sq]) <;> first | done | assumption | omega) | (simp; done) | (simp; omega)) <| On ?_
      refine Wn <| CWp.skip <| SQ.normal ?_
      refine W.seq <| W.regD tyOK mixed (by kernel_rfl) <| Sa rfl sm rfl <| Sa rfl sm rfl <| Sa rfl sm rfl <| Sa rfl sm rfl <| Sa rfl sm rfl <| Sa rfl sm rfl <| Sa rfl (zi (hv := by simp (disch := first | omega | simp only [nx] <;> omega | fail) only [aIndexAddr, ty26, ty33, hpl, sq] <;> rfl)) rfl <| Sa rfl (zl (hv := by simp (disch := first | omega | simp only [nx] <;> omega | fail) only [aLoad, ty33, rowOf, hpl, sq] <;> rfl)) rfl <| Sa rfl sm rfl <| Sa rfl sm rfl <| Sa rfl (zi (hv := by simp (disch := first | omega | simp only [nx] <;> omega | fail) only [aIndexAddr, ty26, ty33, hpl, sq] <;> rfl)) rfl <| Sa rfl (zl (hv := by simp (disch := first | omega | simp only [nx] <;> omega | fail) only [aLoad, ty33, rowOf, hpl, sq] <;> rfl)) rfl <| Sa rfl (zi (hv := by simp (disch := first | omega | simp only [nx] <;> omega | fail) only [aIndexAddr, ty26, ty33, hpl, sq] <;> rfl)) rfl <| Sa rfl (zs (hv := by simp (disch := first | omega | simp only [nx] <;> omega | fail) only [aStore, ty33, writeRow, hpl, sq] <;> rfl)) rfl <| Sa rfl (zi (hv := by simp (disch := first | omega | simp only [nx] <;> omega | fail) only [aIndexAddr, ty26, ty33, hpl, sq] <;> rfl)) rfl <| Sa rfl (zs (hv := by simp (disch := first | omega | simp only [nx] <;> omega | fail) only [aStore, ty33, writeRow, hpl, sq] <;> rfl)) rfl <| Sn ?_
      refine Wr <| Oa rfl sm rfl <| Oa rfl (zb (hv := bi_w bi_add (by first | (simp only [w3, w4] <;> rfl) | rfl))) rfl <| Oa rfl za rfl <| On ?_
      refine W.reg <| Oa rfl sm rfl <| Oa rfl (zb (hv := bi_w bi_sub (by first | (simp only [w3, w4] <;> rfl) | rfl))) rfl <| Oa rfl za rfl <| OSuf.nil <| BQ.normal <| ?_
      -- leaf: round
      refine LQ.normal (m := (j2 - 1) + 1 - (i2 + 1)) (L := [(0, sl r N), (1, I64 a), (4, CF), (12, I64 (i2 + 1 : Nat)), (13, I64 (j2 - 1 : Nat))]) (by omega) ?_ ⟨i2 + 1, j2 - 1, swp d1 i2 j2, rfl, by omega, by omega, by omega, swp_sz hs1, hloop, rfl, rfl⟩
      simp only [HasA, Tr.get_put, Nat.reduceEqDiff, reduceIte, and_self]
  rintro L a' h1 ha ⟨j, dk, hdk, hja, hjb, hlp, rfl, rfl⟩
  rw [hlp]
  refine SQ.normal <| CWp.known ha ?_
  simp only [mkA]
  refine W.seq <| W.regD tyOK mixed (by kernel_rfl) <| Sa rfl sm rfl <| Sa rfl sm rfl <| Sa rfl sm rfl <| Sa rfl sm rfl <| Sa rfl sm rfl <| Sa rfl sm rfl <| Sa rfl (zi (hv := by simp (disch := first | omega | simp only [nx] <;> omega | fail) only [aIndexAddr, ty26, ty33, hpl, sq] <;> rfl)) rfl <| Sa rfl (zl (hv := by simp (disch := first | omega | simp only [nx] <;> omega | fail) only [aLoad, ty33, rowOf, hpl, sq] <;> rfl)) rfl <| Sa rfl sm rfl <| Sa rfl sm rfl <| Sa rfl (zi (hv := by simp (disch := first | omega | simp only [nx] <;> omega | fail) only [aIndexAddr, ty26, ty33, hpl, sq] <;> rfl)) rfl <| Sa rfl (zl (hv := by simp (disch := first | omega | simp only [nx] <;> omega | fail) only [aLoad, ty33, rowOf, hpl, sq] <;> rfl)) rfl <| Sa rfl (zi (hv := by simp (disch := first | omega | simp only [nx] <;> omega | fail) only [aIndexAddr, ty26, ty33, hpl, sq] <;> rfl)) rfl <| Sa rfl (zs (hv := by simp (disch := first | omega | simp only [nx] <;> omega | fail) only [aStore, ty33, writeRow, hpl, sq] <;> rfl)) rfl <| Sa rfl (zi (hv := by simp (disch := first | omega | simp only [nx] <;> omega | fail) only [aIndexAddr, ty26, ty33, hpl, sq] <;> rfl)) rfl <| Sa rfl (zs (hv := by simp (disch := first | omega | simp only [nx] <;> omega | fail) only [aStore, ty33, writeRow, hpl, sq] <;> rfl)) rfl <| Sn ?_
  refine Wr <| Oa rfl sm rfl <| Oa rfl za rfl <| Of rfl za rfl rfl <| On ?_
  refine CWp.ret <| FQ.ret (by simp only [aRet, Try.f86, aResults, aResult, lk, Nat.reduceEqDiff, reduceIte] <;> rfl) ?_
  -- leaf: end
  exact ⟨rfl, rfl⟩
theorem partEq_c (h : AHeap) (r N : Nat) (d : Array El) (hN : d.size = N) (a b pivot : Nat) (hap : a ≤ pivot) (hpb : pivot < b) (hb : b ≤ N) (hsz : N < 1000000000) :
    FWp Try.prog 85 [sl r N, I64 a, I64 b, I64 pivot, CF] (h.set r (row d)) fun u h' => u = I64 (partitionEqual lt d a b pivot).1 ∧ h' = h.set r (row (partitionEqual lt d a b pivot).2) := by
  obtain ⟨e2, he2⟩ : ∃ d1, d1 = swp d a pivot := ⟨_, rfl⟩
  have hse : e2.size = N := by rw [he2]; exact swp_sz hN
  have hpart : partitionEqual lt d a b pivot = partEqLoop lt a (a + 1) (b - 1) e2 := by rw [he2]; rfl
  rw [hpart]
  refine W.enter tyOK Try.func85 rfl rfl ?_
  simp only [entry]
  have w1 : IntKind.i64.wrap ((a : Int) + 1) = ((a + 1 : Nat) : Int) := by rw [wrap_i64 (by omega) (by omega)]; omega
  have w2 : IntKind.i64.wrap ((b : Int) - 1) = ((b - 1 : Nat) : Int) := by rw [wrap_i64 (by omega) (by omega)]; omega
  refine Wr <| Oa rfl za rfl <| On ?_
  refine W.seq <| W.regD tyOK mixed (by kernel_rfl) <| Sa rfl sm rfl <| Sa rfl sm rfl <| Sa rfl sm rfl <| Sa rfl sm rfl <| Sa rfl sm rfl <| Sa rfl sm rfl <| Sa rfl (zi (hv := by simp (disch := first | omega | simp only [nx] <;> omega | fail) only [aIndexAddr, ty26, ty33, hpl, sq] <;> rfl)) rfl <| Sa rfl (zl (hv := by simp (disch := first | omega | simp only [nx] <;> omega | fail) only [aLoad, ty33, rowOf, hpl, sq] <;> rfl)) rfl <| Sa rfl sm rfl <| Sa rfl sm rfl <| Sa rfl (zi (hv := by simp (disch := first | omega | simp only [nx] <;> omega | fail) only [aIndexAddr, ty26, ty33, hpl, sq] <;> rfl)) rfl <| Sa rfl (zl (hv := by simp (disch := first | omega | simp only [nx] <;> omega | fail) only [aLoad, ty33, rowOf, hpl, sq] <;> rfl)) rfl <| Sa rfl (zi (hv := by simp (disch := first | omega | simp only [nx] <;> omega | fail) only [aIndexAddr, ty26, ty33, hpl, sq] <;> rfl)) rfl <| Sa rfl (zs (hv := by simp (disch := first | omega | simp only [nx] <;> omega | fail) only [aStore, ty33, writeRow, hpl, sq] <;> rfl)) rfl <| Sa rfl (zi (hv := by simp (disch := first | omega | simp only [nx] <;> omega | fail) only [aIndexAddr, ty26, ty33, hpl, sq] <;> rfl)) rfl <| Sa rfl (zs (hv := by simp (disch := first | omega | simp only [nx] <;> omega | fail) only [aStore, ty33, writeRow, hpl, sq] <;> rfl)) rfl <| Sn ?_
  refine Wr <| Oa rfl sm rfl <| Oa rfl (zb (hv := bi_w bi_add (by first | (simp only [w1, w2] <;> rfl) | rfl))) rfl <| Oa rfl sm rfl <| Oa rfl (zb (hv := bi_w bi_sub (by first | (simp only [w1, w2] <;> rfl) | rfl))) rfl <| Oa rfl za rfl <| Oa rfl za rfl <| On ?_
  refine W.seq <| ?_
  -- leaf: loop
  rw [show (d.setIfInBounds a d[pivot]!).setIfInBounds pivot d[a]! = e2 from he2.symm]
  refine W.cut (fun L h' => ∃ (i : Nat) (dk : Array El), dk.size = N ∧ partEqLoop lt a (a + 1) (b - 1) e2 = (i, dk) ∧ h' = h.set r (row dk) ∧ L = [(4, CF), (11, I64 i)])
    (W.block (W.loop (fun n L h' => ∃ (i j : Nat) (dk : Array El), n = j + 1 - i ∧ a < i ∧ i ≤ j + 1 ∧ j < b ∧ dk.size = N ∧ partEqLoop lt a i j dk = partEqLoop lt a (a + 1) (b - 1) e2 ∧ h' = h.set r (row dk) ∧
      L = [(0, sl r N), (1, I64 a), (4, CF), (11, I64 i), (12, I64 j)]) (n := b - 1 + 1 - (a + 1)) ⟨a + 1, b - 1, e2, rfl, by omega, by omega, by omega, hse, rfl, rfl, rfl⟩ ?_ ?_)) ?_
  · simp [HasA, Tr.get_put]
  · rintro n L h1 ⟨i0, j0, d1, rfl, k4, k5, k6, hs1, hloop, rfl, rfl⟩
    simp only [mkA]
    refine W.block <| W.seq <| ?_
    -- leaf: loop
    rw [partEqLoop_eq] at hloop
    refine W.cut (fun L h' => h' = h.set r (row d1) ∧ L = [(0, sl r N), (1, I64 a), (4, CF), (11, I64 (scanUp (fun x => !lt d1[a]! x) d1 j0 i0 : Nat)), (12, I64 j0)])
      (W.block (W.loop (fun n L h' => ∃ i : Nat, n = j0 + 1 - i ∧ 1 ≤ i ∧ i ≤ j0 + 1 ∧ scanUp (fun x => !lt d1[a]! x) d1 j0 i = scanUp (fun x => !lt d1[a]! x) d1 j0 i0 ∧ h' = h.set r (row d1) ∧ L = [(0, sl r N), (1, I64 a), (4, CF), (11, I64 i), (12, I64 j0)]) (n := j0 + 1 - i0) ⟨i0, rfl, by omega, by omega, rfl, rfl, rfl⟩ ?_ ?_)) ?_
    · simp [HasA, Tr.get_put]
    · rintro n L h1 ⟨i, rfl, hi1, hi2, heq, rfl, rfl⟩
      simp only [mkA]
      have w1 : IntKind.i64.wrap ((i : Int) + 1) = ((i + 1 : Nat) : Int) := by rw [wrap_i64 (by omega) (by omega)]; omega
      by_cases hij : (i : Int) ≤ (j0 : Int)
      · cases hl : lt d1[a]! d1[i]!
        · refine W.seq <| W.seq <| W.regD tyOK mixed (by kernel_rfl) <| Sa rfl sm rfl <| Sa rfl sm rfl <| SqW.aopT rfl (zb (hv := bi_leq)) (fun _ => rfl) (by first | rfl | assumption | ((simp only [bl, sq]) <;> first | done | assumption | omega) | (simp; done) | (simp; omega)) <| SqW.aopT rfl sm (fun _ => rfl) rfl <| Sa ag sm rfl <| Sa ag sm rfl <| Sa ag sm rfl <| Sa ag (zi (hv := by simp (disch := first | omega | simp only [nx] <;> omega | fail) only [aIndexAddr, ty26, ty33, hpl, sq] <;> rfl)) rfl <| Sa ag (zl (hv := by simp (disch := first | omega | simp only [nx] <;> omega | fail) only [aLoad, ty33, rowOf, hpl, sq] <;> rfl)) rfl <| Sa ag sm rfl <| Sa ag sm rfl <| Sa ag (zi (hv := by simp (disch := first | omega | simp only [nx] <;> omega | fail) only [aIndexAddr, ty26, ty33, hpl, sq] <;> rfl)) rfl <| Sa ag (zl (hv := by simp (disch := first | omega | simp only [nx] <;> omega | fail) only [aLoad, ty33, rowOf, hpl, sq] <;> rfl)) rfl <| SqW.vcallD ag (by simp only [lk] <;> rfl) (by simp only [aopnds, lk] <;> rfl) (less_v _ _ _ _ hl) rfl <| SqW.aopF ag (zb (hv := bi_lss)) (fun _ => rfl) rfl <| SqW.aopT ag Zt (fun _ => rfl) rfl <| SqW.aopT rfl Zp (fun _ => rfl) rfl <| Sn ?_
          refine Wy <| CWp.skip <| SQ.normal ?_
          refine W.block <| W.reg <| Oa rfl sm rfl <| Oa rfl (zb (hv := bi_w bi_add (by first | (simp only [w1] <;> rfl) | rfl))) rfl <| Oa rfl za rfl <| OSuf.nil <| BQ.normal <| ?_
          -- leaf: round
          refine LQ.normal (m := j0 + 1 - (i + 1)) (L := [(0, sl r N), (1, I64 a), (4, CF), (11, I64 (i + 1 : Nat)), (12, I64 j0)]) (by omega) ?_ ⟨i + 1, rfl, by omega, by omega, ?_, rfl, rfl⟩
          · simp only [HasA, Tr.get_put, Nat.reduceEqDiff, reduceIte, and_self]
          · rw [← heq]; exact (up_eq (by omega) (by simp [hl])).symm
        · refine W.seq <| W.seq <| W.regD tyOK mixed (by kernel_rfl) <| Sa rfl sm rfl <| Sa rfl sm rfl <| SqW.aopT rfl (zb (hv := bi_leq)) (fun _ => rfl) (by first | rfl | assumption | ((simp only [bl, sq]) <;> first | done | assumption | omega) | (simp; done) | (simp; omega)) <| SqW.aopT rfl sm (fun _ => rfl) rfl <| Sa ag sm rfl <| Sa ag sm rfl <| Sa ag sm rfl <| Sa ag (zi (hv := by simp (disch := first | omega | simp only [nx] <;> omega | fail) only [aIndexAddr, ty26, ty33, hpl, sq] <;> rfl)) rfl <| Sa ag (zl (hv := by simp (disch := first | omega | simp only [nx] <;> omega | fail) only [aLoad, ty33, rowOf, hpl, sq] <;> rfl)) rfl <| Sa ag sm rfl <| Sa ag sm rfl <| Sa ag (zi (hv := by simp (disch := first | omega | simp only [nx] <;> omega | fail) only [aIndexAddr, ty26, ty33, hpl, sq] <;> rfl)) rfl <| Sa ag (zl (hv := by simp (disch := first | omega | simp only [nx] <;> omega | fail) only [aLoad, ty33, rowOf, hpl, sq] <;> rfl)) rfl <| SqW.vcallD ag (by simp only [lk] <;> rfl) (by simp only [aopnds, lk] <;> rfl) (less_v _ _ _ _ hl) rfl <| SqW.aopT ag (zb (hv := bi_lss)) (fun _ => rfl) rfl <| SqW.aopF ag Zt (fun _ => rfl) rfl <| SqW.aopF rfl Zp (fun _ => rfl) rfl <| Sn ?_
          refine Wn <| CWp.exit <| SQ.exit <| LQ.exit <| BQ.exit <| ?_
          -- leaf: cut
          refine NQ.normal (L := [(0, sl r N), (1, I64 a), (4, CF), (11, I64 i), (12, I64 j0)]) ?_ ⟨rfl, ?_⟩
          · simp only [HasA, Tr.get_put, Nat.reduceEqDiff, reduceIte, and_self]
          · rw [← heq, up_stop (.inr (by simp [hl]))]
      · refine W.seq <| W.seq <| W.regD tyOK mixed (by kernel_rfl) <| Sa rfl sm rfl <| Sa rfl sm rfl <| SqW.aopF rfl (zb (hv := bi_leq)) (fun _ => rfl) (by first | rfl | assumption | ((simp only [bl]) <;> first | done | assumption | omega) | (simp; done) | (simp; omega)) <| SqW.aopF rfl sm (fun _ => rfl) rfl <| SqW.pass ag rfl <| SqW.pass ag rfl <| SqW.pass ag rfl <| SqW.pass ag rfl <| SqW.pass ag rfl <| SqW.pass ag rfl <| SqW.pass ag rfl <| SqW.pass ag rfl <| SqW.pass ag rfl <| SqW.pass ag rfl <| SqW.pass ag rfl <| SqW.pass ag rfl <| SqW.aopF rfl Zp (fun _ => rfl) rfl <| Sn ?_
        refine Wn <| CWp.exit <| SQ.exit <| LQ.exit <| BQ.exit <| ?_
        -- leaf: cut
        refine NQ.normal (L := [(0, sl r N), (1, I64 a), (4, CF), (11, I64 i), (12, I64 j0)]) ?_ ⟨rfl, ?_⟩
        · simp only [HasA, Tr.get_put, Nat.reduceEqDiff, reduceIte, and_self]
        · rw [← heq, up_stop (.inl (by omega))]
    rintro L a' h1 ha ⟨rfl, rfl⟩
    have hi2 := (scanUp_spec (fun x => !lt d1[a]! x) d1 j0 _ i0 rfl)
    have hge := scanUp_ge (fun x => !lt d1[a]! x) d1 j0 i0
    have hle : scanUp (fun x => !lt d1[a]! x) d1 j0 i0 ≤ j0 + 1 := by have := hi2.2.1; omega
    generalize hgi : scanUp (fun x => !lt d1[a]! x) d1 j0 i0 = i2 at *
    refine SQ.normal <| CWp.known ha ?_
    simp only [mkA]
    refine W.seq <| ?_
    -- leaf: loop
    refine W.cut (fun L h' => h' = h.set r (row d1) ∧ L = [(0, sl r N), (1, I64 a), (4, CF), (11, I64 i2), (12, I64 (scanDown (fun x => lt d1[a]! x) d1 i2 j0 : Nat))])
      (W.block (W.loop (fun n L h' => ∃ j : Nat, n = j ∧ j ≤ j0 ∧ scanDown (fun x => lt d1[a]! x) d1 i2 j = scanDown (fun x => lt d1[a]! x) d1 i2 j0 ∧ h' = h.set r (row d1) ∧ L = [(0, sl r N), (1, I64 a), (4, CF), (11, I64 i2), (12, I64 j)]) (n := j0) ⟨j0, rfl, by omega, rfl, rfl, rfl⟩ ?_ ?_)) ?_
    · simp [HasA, Tr.get_put]
    · rintro j L h1 ⟨_, rfl, hj, heq, rfl, rfl⟩
      simp only [mkA]
      by_cases hij : (i2 : Int) ≤ (j : Int)
      · obtain ⟨m, rfl⟩ : ∃ m, j = m + 1 := ⟨j - 1, by omega⟩
        have w1 : IntKind.i64.wrap (((m + 1 : Nat) : Int) - 1) = (m : Int) := by rw [wrap_i64 (by omega) (by omega)]; omega
        cases hl : lt d1[a]! d1[m + 1]!
        · refine W.seq <| W.seq <| W.regD tyOK mixed (by kernel_rfl) <| Sa rfl sm rfl <| Sa rfl sm rfl <| SqW.aopT rfl (zb (hv := bi_leq)) (fun _ => rfl) (by first | rfl | assumption | ((simp only [bl, sq]) <;> first | done | assumption | omega) | (simp; done) | (simp; omega)) <| SqW.aopT rfl sm (fun _ => rfl) rfl <| Sa ag sm rfl <| Sa ag sm rfl <| Sa ag sm rfl <| Sa ag (zi (hv := by simp (disch := first | omega | simp only [nx] <;> omega | fail) only [aIndexAddr, ty26, ty33, hpl, sq] <;> rfl)) rfl <| Sa ag (zl (hv := by simp (disch := first | omega | simp only [nx] <;> omega | fail) only [aLoad, ty33, rowOf, hpl, sq] <;> rfl)) rfl <| Sa ag sm rfl <| Sa ag sm rfl <| Sa ag (zi (hv := by simp (disch := first | omega | simp only [nx] <;> omega | fail) only [aIndexAddr, ty26, ty33, hpl, sq] <;> rfl)) rfl <| Sa ag (zl (hv := by simp (disch := first | omega | simp only [nx] <;> omega | fail) only [aLoad, ty33, rowOf, hpl, sq] <;> rfl)) rfl <| SqW.vcallD ag (by simp only [lk] <;> rfl) (by simp only [aopnds, lk] <;> rfl) (less_v _ _ _ _ hl) rfl <| SqW.aopF ag (zb (hv := bi_lss)) (fun _ => rfl) rfl <| SqW.aopF rfl Zp (fun _ => rfl) rfl <| Sn ?_
          refine Wn <| CWp.exit <| SQ.exit <| LQ.exit <| BQ.exit <| ?_
          -- leaf: cut
          refine NQ.normal (L := [(0, sl r N), (1, I64 a), (4, CF), (11, I64 i2), (12, I64 (m + 1 : Nat))]) ?_ ⟨rfl, ?_⟩
          · simp only [HasA, Tr.get_put, Nat.reduceEqDiff, reduceIte, and_self]
          · rw [← heq, down_stop (by omega) (.inr (by simp [hl]))]
        · refine W.seq <| W.seq <| W.regD tyOK mixed (by kernel_rfl) <| Sa rfl sm rfl <| Sa rfl sm rfl <| SqW.aopT rfl (zb (hv := bi_leq)) (fun _ => rfl) (by first | rfl | assumption | ((simp only [bl, sq]) <;> first | done | assumption | omega) | (simp; done) | (simp; omega)) <| SqW.aopT rfl sm (fun _ => rfl) rfl <| Sa ag sm rfl <| Sa ag sm rfl <| Sa ag sm rfl <| Sa ag (zi (hv := by simp (disch := first | omega | simp only [nx] <;> omega | fail) only [aIndexAddr, ty26, ty33, hpl, sq] <;> rfl)) rfl <| Sa ag (zl (hv := by simp (disch := first | omega | simp only [nx] <;> omega | fail) only [aLoad, ty33, rowOf, hpl, sq] <;> rfl)) rfl <| Sa ag sm rfl <| Sa ag sm rfl <| Sa ag (zi (hv := by simp (disch := first | omega | simp only [nx] <;> omega | fail) only [aIndexAddr, ty26, ty33, hpl, sq] <;> rfl)) rfl <| Sa ag (zl (hv := by simp (disch := first | omega | simp only [nx] <;> omega | fail) only [aLoad, ty33, rowOf, hpl, sq] <;> rfl)) rfl <| SqW.vcallD ag (by simp only [lk] <;> rfl) (by simp only [aopnds, lk] <;> rfl) (less_v _ _ _ _ hl) rfl <| SqW.aopT ag (zb (hv := bi_lss)) (fun _ => rfl) rfl <| SqW.aopT rfl Zp (fun _ => rfl) rfl <| Sn ?_
          refine Wy <| CWp.skip <| SQ.normal ?_
          refine W.block <| W.reg <| Oa rfl sm rfl <| Oa rfl (zb (hv := bi_w bi_sub (by first | (simp only [w1] <;> rfl) | rfl))) rfl <| Oa rfl za rfl <| OSuf.nil <| BQ.normal <| ?_
          -- leaf: round
          refine LQ.normal (m := m) (L := [(0, sl r N), (1, I64 a), (4, CF), (11, I64 i2), (12, I64 m)]) (by omega) ?_ ⟨m, rfl, by omega, ?_, rfl, rfl⟩
          · simp only [HasA, Tr.get_put, Nat.reduceEqDiff, reduceIte, and_self]
          · rw [← heq]; exact (down_eq (by omega) (by simp [hl])).symm
      · refine W.seq <| W.seq <| W.regD tyOK mixed (by kernel_rfl) <| Sa rfl sm rfl <| Sa rfl sm rfl <| SqW.aopF rfl (zb (hv := bi_leq)) (fun _ => rfl) (by first | rfl | assumption | ((simp only [bl]) <;> first | done | assumption | omega) | (simp; done) | (simp; omega)) <| SqW.aopF rfl sm (fun _ => rfl) rfl <| SqW.pass ag rfl <| SqW.pass ag rfl <| SqW.pass ag rfl <| SqW.pass ag rfl <| SqW.pass ag rfl <| SqW.pass ag rfl <| SqW.pass ag rfl <| SqW.pass ag rfl <| SqW.pass ag rfl <| SqW.pass ag rfl <| SqW.pass ag rfl <| SqW.aopF rfl Zp (fun _ => rfl) rfl <| Sn ?_
        refine Wn <| CWp.exit <| SQ.exit <| LQ.exit <| BQ.exit <| ?_
        -- leaf: cut
        refine NQ.normal (L := [(0, sl r N), (1, I64 a), (4, CF), (11, I64 i2), (12, I64 j)]) ?_ ⟨rfl, ?_⟩
        · simp only [HasA, Tr.get_put, Nat.reduceEqDiff, reduceIte, and_self]
        · rw [← heq, down_stop (by omega) (.inl (by omega))]
    rintro L a' h1 ha ⟨rfl, rfl⟩
    have hdl := scanDown_le (fun x => lt d1[a]! x) d1 i2 j0
    have hds2 := (scanDown_spec (fun x => lt d1[a]! x) d1 i2 j0)
    generalize hgj : scanDown (fun x => lt d1[a]! x) d1 i2 j0 = j2 at *
    have hdl2 : i2 ≤ j2 + 1 := hds2.2.1 (by omega)
    have hne : i2 ≤ j2 → i2 < j2 := fun hle2 => by
      have u1 := hi2.2.2.2 (by omega)
      have u2 := hds2.2.2.2 hle2 (by omega)
      rcases Nat.lt_or_eq_of_le hle2 with h0 | h0
      · exact h0
      · subst h0; try simp only at u1 u2
        first | (rw [u1] at u2; simp at u2; done) | (rw [u2] at u1; simp at u1; done)
    by_cases hgt : (i2 : Int) > (j2 : Int)
    · rw [if_pos (by omega)] at hloop
      refine SQ.normal <| CWp.known ha ?_
      simp only [mkA]
      refine W.seq <| Wr <| Oa rfl sm rfl <| Oa rfl sm rfl <| Ot rfl (zb (hv := bi_gtr)) rfl (by first | rfl | assumption | ((simp only [bl, sq]) <;> first | done | assumption | omega) | (simp; done) | (simp; omega)) <| On ?_
      refine Wy <| CWp.exit <| SQ.exit <| BQ.out rfl <| LQ.exit <| BQ.exit <| ?_
      -- leaf: cut
      refine NQ.normal (L := [(4, CF), (11, I64 i2)]) ?_ ⟨i2, d1, hs1, hloop.symm, rfl, rfl⟩
      simp only [HasA, Tr.get_put, Nat.reduceEqDiff, reduceIte, and_self]
    · rw [if_neg (by omega)] at hloop
      have hlt2 := hne (by omega)
      have w3 : IntKind.i64.wrap ((i2 : Int) + 1) = ((i2 + 1 : Nat) : Int) := by rw [wrap_i64 (by omega) (by omega)]; omega
      have w4 : IntKind.i64.wrap ((j2 : Int) - 1) = ((j2 - 1 : Nat) : Int) := by rw [wrap_i64 (by omega) (by omega)]; omega
      refine SQ.normal <| CWp.known ha ?_
      simp only [mkA]
      refine W.seq <| Wr <| Oa rfl sm rfl <| Oa rfl sm rfl <| Of rfl (zb (hv := bi_gtr)) rfl (by first | rfl | assumption | ((simp only [bl, sq]) <;> first | done | assumption | omega) | (simp; done) | (simp; omega)) <| On ?_
      refine Wn <| CWp.skip <| SQ.normal ?_
      refine W.seq <| W.regD tyOK mixed (by kernel_rfl) <| Sa rfl sm rfl <| Sa rfl sm rfl <| Sa rfl sm rfl <| Sa rfl sm rfl <| Sa rfl sm rfl <| Sa rfl sm rfl <| Sa rfl (zi (hv := by simp (disch := first | omega | simp only [nx] <;> omega | fail) only [aIndexAddr, ty26, ty33, hpl, sq] <;> rfl)) rfl <| Sa rfl (zl (hv := by simp (disch := first | omega | simp only [nx] <;> omega | fail) only [aLoad, ty33, rowOf, hpl, sq] <;> rfl)) rfl <| Sa rfl sm rfl <| Sa rfl sm rfl <| Sa rfl (zi (hv := by simp (disch := first | omega | simp only [nx] <;> omega | fail) only [aIndexAddr, ty26, ty33, hpl, sq] <;> rfl)) rfl <| Sa rfl (zl (hv := by simp (disch := first | omega | simp only [nx] <;> omega | fail) only [aLoad, ty33, rowOf, hpl, sq] <;> rfl)) rfl <| Sa rfl (zi (hv := by simp (disch := first | omega | simp only [nx] <;> omega | fail) only [aIndexAddr, ty26, ty33, hpl, sq] <;> rfl)) rfl <| Sa rfl (zs (hv := by simp (disch := first | omega | simp only [nx] <;> omega | fail) only [aStore, ty33, writeRow, hpl, sq] <;> rfl)) rfl <| Sa rfl (zi (hv := by simp (disch := first | omega | simp only [nx] <;> omega | fail) only [aIndexAddr, ty26, ty33, hpl, sq] <;> rfl)) rfl <| Sa rfl (zs (hv := by simp (disch := first | omega | simp only [nx] <;> omega | fail) only [aStore, ty33, writeRow, hpl, sq] <;> rfl)) rfl <| Sn ?_
      refine Wr <| Oa rfl sm rfl <| Oa rfl (zb (hv := bi_w bi_add (by first | (simp only [w3, w4] <;> rfl) | rfl))) rfl <| Oa rfl za rfl <| On ?_
      refine W.reg <| Oa rfl sm rfl <| Oa rfl (zb (hv := bi_w bi_sub (by first | (simp only [w3, w4] <;> rfl) | rfl))) rfl <| Oa rfl za rfl <| OSuf.nil <| BQ.normal <| ?_
      -- leaf: round
      refine LQ.normal (m := (j2 - 1) + 1 - (i2 + 1)) (L := [(0, sl r N), (1, I64 a), (4, CF), (11, I64 (i2 + 1 : Nat)), (12, I64 (j2 - 1 : Nat))]) (by omega) ?_ ⟨i2 + 1, j2 - 1, swp d1 i2 j2, rfl, by omega, by omega, by omega, swp_sz hs1, hloop, rfl, rfl⟩
      simp only [HasA, Tr.get_put, Nat.reduceEqDiff, reduceIte, and_self]
  rintro L a' h1 ha ⟨i, dk, hdk, hlp, rfl, rfl⟩
  rw [hlp]
  refine SQ.normal <| CWp.known ha ?_
  simp only [mkA]
  refine Wr <| Oa rfl sm rfl <| Oa rfl za rfl <| On ?_
  refine CWp.ret <| FQ.ret (by simp only [aRet, Try.f85, aResults, aResult, lk, Nat.reduceEqDiff, reduceIte] <;> rfl) ?_
  -- leaf: end
  exact ⟨rfl, rfl⟩
end Go.Proofs.Ytebheelmgcggmaa.SortR
