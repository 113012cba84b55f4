/-
  Merged: QgA, QgB, QgC, QgD, QgE, QgF.
-/
import Derived.Test.YtebheelmgcggmaaGreatMe
import Derived.Test.YtebheelmgcggmaaGreatMf
import Derived.Test.YtebheelmgcggmaaGreatMj
set_option linter.unusedSimpArgs false
set_option linter.unusedVariables false
set_option maxRecDepth 10000
set_option maxHeartbeats 8000000
namespace Go.Proofs.YtebheelmgcggmaaGreat
open Go.Ab Go.Sort
theorem lt_cons (x y : UInt8) (a b : List UInt8) : ltStr (x :: a) (y :: b) = (decide (x < y) || (decide (x = y) && ltStr a b)) := by
  simp only [ltStr]
  rw [Bool.eq_iff_iff]
  simp [List.cons_lt_cons_iff]
theorem lt_split (x y : UInt8) (hxy : ¬ x = y) (a b : List UInt8) : ∀ p : List UInt8, ltStr (p ++ x :: a) (p ++ y :: b) = decide (x < y)
  | [] => by rw [List.nil_append, List.nil_append, lt_cons]; simp [hxy]
  | z :: p => by
    rw [List.cons_append, List.cons_append, lt_cons, lt_split x y hxy a b p]
    simp [UInt8.lt_irrefl]
theorem lt_ext : ∀ (a t : List UInt8), ltStr a (a ++ t) = decide (0 < t.length)
  | [], [] => by simp [ltStr]
  | [], x :: t => by simp [ltStr]
  | z :: a, t => by rw [List.cons_append, lt_cons, lt_ext a t]; simp [UInt8.lt_irrefl]
theorem lt_ext' : ∀ (a t : List UInt8), ltStr (a ++ t) a = false
  | [], [] => by simp [ltStr]
  | [], x :: t => by simp [ltStr]
  | z :: a, t => by rw [List.cons_append, lt_cons, lt_ext' a t]; simp [UInt8.lt_irrefl]
theorem lt_pre {a b : List UInt8} {n : Nat} (h : a.take n = b.take n) (hn : a.length ≤ n ∨ b.length ≤ n) : ltStr a b = decide (a.length < b.length) := by
  rcases Nat.le_total a.length b.length with hl | hl
  · have hn : a.length ≤ n := by omega
    rw [List.take_of_length_le hn] at h
    have hb : b = a ++ b.drop a.length := by
      have h2 : b.take a.length = a := by
        have := congrArg (fun l : List UInt8 => l.take a.length) h
        simp only [List.take_take, List.take_length] at this
        rw [Nat.min_eq_left hn] at this; exact this.symm
      rw [← h2, List.length_take, Nat.min_eq_left hl]
      simp
    have h3 := lt_ext a (b.drop a.length)
    rw [← hb] at h3
    rw [h3, decide_eq_decide]
    simp; omega
  · have hn : b.length ≤ n := by omega
    rw [List.take_of_length_le hn] at h
    have hb : a = b ++ a.drop b.length := by
      have h2 : a.take b.length = b := by
        have := congrArg (fun l : List UInt8 => l.take b.length) h
        simp only [List.take_take, List.take_length] at this
        rw [Nat.min_eq_left hn] at this; exact this
      rw [← h2, List.length_take, Nat.min_eq_left hl]
      simp
    have h3 := lt_ext' b (a.drop b.length)
    rw [← hb] at h3
    rw [h3]; symm
    simp; omega
theorem less_c (h : AHeap) (a b : List UInt8) (ha : a.length < 9223372036854775808) (hb : b.length < 9223372036854775808) : FWp Tryz.prog 49 [encS a, encS b] h fun u h' => u = .bool (ltStr a b) ∧ h' = h := by
  have e0 : (ByteArray.mk ⟨a⟩).size = a.length := rfl
  have e1 : (ByteArray.mk ⟨b⟩).size = b.length := rfl
  refine W.enter tyOK Tryz.func49 rfl rfl ?_
  simp only [entry]
  refine Wr <| Of rfl za rfl rfl <| On ?_
  refine W.seq <| Wr <| Oa rfl za rfl <| On ?_
  refine W.cut (fun L h' => h' = h ∧ ltStr a b = decide (a.length < b.length) ∧ L = [(0, encS a), (1, encS b)]) (W.block (W.loop (fun n L h' => ∃ i : Nat, n + i = a.length + 1 ∧ h' = h ∧ a.take i = b.take i ∧ i ≤ a.length ∧ i ≤ b.length ∧ L = [(0, encS a), (1, encS b), (5, I64 i)]) (n := a.length + 1) ⟨0, by omega, rfl, rfl, by omega, by omega, rfl⟩ ?_ ?_)) ?_
  · simp [HasA, Tr.get_put]
  · rintro n L h' ⟨i, hn, rfl, ht, hia, hib, rfl⟩
    simp only [mkA]
    by_cases h1 : (i : Int) < (a.length : Int)
    · have w2 : IntKind.i64.wrap ((i : Int) + 1) = ((i + 1 : Nat) : Int) := by rw [wrap_i64 (by omega) (by omega)]; omega
      by_cases h2 : (i : Int) < (b.length : Int)
      · obtain ⟨x, hx⟩ : ∃ x, a[i]? = some x := ⟨a[i]'(by omega), by simp⟩
        obtain ⟨y, hy⟩ : ∃ y, b[i]? = some y := ⟨b[i]'(by omega), by simp⟩
        have hx' : (ByteArray.mk ⟨a⟩).data.toList[i]? = some x := hx
        have hy' : (ByteArray.mk ⟨b⟩).data.toList[i]? = some y := hy
        by_cases hxy : x = y
        · have b1 : ((x.toNat : Int) != (y.toNat : Int)) = false := by simp [hxy]
          refine W.seq <| Wr <| Oa rfl sm rfl <| Oa rfl sm rfl <| Oa rfl (Zn (hv := by simp (disch := first | omega | simp only [nx]; omega) only [aLenOf, ty9, hpl, e0, e1] <;> rfl)) rfl <| Ot rfl (zb (hv := bi_lss)) rfl (by first | rfl | assumption | ((simp only [bl, e0, e1]) <;> first | done | assumption | omega) | (simp; done) | (simp; omega)) <| Ot rfl sm rfl rfl <| Oa ag sm rfl <| Oa ag sm rfl <| Oa ag (Zn (hv := by simp (disch := first | omega | simp only [nx]; omega) only [aLenOf, ty9, hpl, e0, e1] <;> rfl)) rfl <| Ot ag (zb (hv := bi_lss)) rfl (by first | rfl | assumption | ((simp only [bl, e0, e1]) <;> first | done | assumption | omega) | (simp; done) | (simp; omega)) <| Ot rfl Zp rfl rfl <| On ?_
          refine Wy <| CWp.skip <| SQ.normal ?_
          refine W.seq <| W.block <| Wd <| Sa rfl sm rfl <| Sa rfl sm rfl <| Sa rfl (so_index (by simp only [lk] <;> rfl) (by simp only [lk] <;> rfl) (ix_str ty9 rfl hx')) rfl <| Sa rfl sm rfl <| Sa rfl sm rfl <| Sa rfl (so_index (by simp only [lk] <;> rfl) (by simp only [lk] <;> rfl) (ix_str ty9 rfl hy')) rfl <| Sf rfl (zb (hv := bi_neq)) rfl (b1) <| Sn ?_
          refine Wn <| CWp.skip <| BQ.normal <| SQ.normal ?_
          refine W.reg <| Oa rfl sm rfl <| Oa rfl (zb (hv := bi_w bi_add (by first | (simp only [w2] <;> rfl) | rfl))) rfl <| Oa rfl za rfl <| OSuf.nil <| ?_
          refine LQ.normal (m := n - 1) (L := [(0, encS a), (1, encS b), (5, I64 ((i + 1 : Nat) : Int))]) (by omega) ?_ ⟨i + 1, by omega, rfl, ?_, by omega, by omega, rfl⟩
          · simp only [HasA, Tr.get_put, Nat.reduceEqDiff, reduceIte, w2, and_self]
          · rw [List.take_add_one, List.take_add_one, ht, hx, hy, hxy]
        · have hne : ¬ x.toNat = y.toNat := fun e => hxy (UInt8.toNat_inj.1 e)
          have b1 : ((x.toNat : Int) != (y.toNat : Int)) = true := by simp; omega
          have hlt : decide ((x.toNat : Int) < (y.toNat : Int)) = ltStr a b := by
            have ea : a = a.take i ++ x :: a.drop (i + 1) := by
              conv => lhs; rw [← List.take_append_drop i a, List.drop_eq_getElem_cons (by omega)]
              rw [(List.getElem?_eq_some_iff.1 hx).2]
            have eb : b = a.take i ++ y :: b.drop (i + 1) := by
              conv => lhs; rw [← List.take_append_drop i b, List.drop_eq_getElem_cons (by omega), ← ht]
              rw [(List.getElem?_eq_some_iff.1 hy).2]
            have := lt_split x y hxy (a.drop (i + 1)) (b.drop (i + 1)) (a.take i)
            rw [← ea, ← eb] at this
            rw [this, decide_eq_decide, UInt8.lt_iff_toNat_lt]; omega
          refine W.seq <| Wr <| Oa rfl sm rfl <| Oa rfl sm rfl <| Oa rfl (Zn (hv := by simp (disch := first | omega | simp only [nx]; omega) only [aLenOf, ty9, hpl, e0, e1] <;> rfl)) rfl <| Ot rfl (zb (hv := bi_lss)) rfl (by first | rfl | assumption | ((simp only [bl, e0, e1]) <;> first | done | assumption | omega) | (simp; done) | (simp; omega)) <| Ot rfl sm rfl rfl <| Oa ag sm rfl <| Oa ag sm rfl <| Oa ag (Zn (hv := by simp (disch := first | omega | simp only [nx]; omega) only [aLenOf, ty9, hpl, e0, e1] <;> rfl)) rfl <| Ot ag (zb (hv := bi_lss)) rfl (by first | rfl | assumption | ((simp only [bl, e0, e1]) <;> first | done | assumption | omega) | (simp; done) | (simp; omega)) <| Ot rfl Zp rfl rfl <| On ?_
          refine Wy <| CWp.skip <| SQ.normal ?_
          refine W.seq <| W.block <| Wd <| Sa rfl sm rfl <| Sa rfl sm rfl <| Sa rfl (so_index (by simp only [lk] <;> rfl) (by simp only [lk] <;> rfl) (ix_str ty9 rfl hx')) rfl <| Sa rfl sm rfl <| Sa rfl sm rfl <| Sa rfl (so_index (by simp only [lk] <;> rfl) (by simp only [lk] <;> rfl) (ix_str ty9 rfl hy')) rfl <| St rfl (zb (hv := bi_neq)) rfl (b1) <| Sn ?_
          refine Wy <| Wd <| Sa rfl sm rfl <| Sa rfl sm rfl <| Sa rfl (so_index (by simp only [lk] <;> rfl) (by simp only [lk] <;> rfl) (ix_str ty9 rfl hx')) rfl <| Sa rfl sm rfl <| Sa rfl sm rfl <| Sa rfl (so_index (by simp only [lk] <;> rfl) (by simp only [lk] <;> rfl) (ix_str ty9 rfl hy')) rfl <| Sa rfl (zb (hv := bi_lss)) rfl <| Sa rfl za rfl <| Sn ?_
          refine CWp.ret <| BQ.ret <| SQ.ret <| LQ.ret <| BQ.ret <| NQ.ret <| SQ.ret <| FQ.ret (by simp only [aRet, Tryz.f49, aResults, aResult, lk, Nat.reduceEqDiff, reduceIte] <;> rfl) ?_
          exact ⟨by rw [hlt], rfl⟩
      · refine W.seq <| Wr <| Oa rfl sm rfl <| Oa rfl sm rfl <| Oa rfl (Zn (hv := by simp (disch := first | omega | simp only [nx]; omega) only [aLenOf, ty9, hpl, e0, e1] <;> rfl)) rfl <| Ot rfl (zb (hv := bi_lss)) rfl (by first | rfl | assumption | ((simp only [bl, e0, e1]) <;> first | done | assumption | omega) | (simp; done) | (simp; omega)) <| Ot rfl sm rfl rfl <| Oa ag sm rfl <| Oa ag sm rfl <| Oa ag (Zn (hv := by simp (disch := first | omega | simp only [nx]; omega) only [aLenOf, ty9, hpl, e0, e1] <;> rfl)) rfl <| Of ag (zb (hv := bi_lss)) rfl (by first | rfl | assumption | ((simp only [bl, e0, e1]) <;> first | done | assumption | omega) | (simp; done) | (simp; omega)) <| Of rfl Zp rfl rfl <| On ?_
        refine Wn <| CWp.exit <| SQ.exit <| LQ.exit <| BQ.exit <| ?_
        refine NQ.normal (L := [(0, encS a), (1, encS b)]) ?_ ⟨rfl, lt_pre ht (by omega), rfl⟩
        simp only [HasA, Tr.get_put, Nat.reduceEqDiff, reduceIte, and_self]
    · refine W.seq <| Wr <| Oa rfl sm rfl <| Oa rfl sm rfl <| Oa rfl (Zn (hv := by simp (disch := first | omega | simp only [nx]; omega) only [aLenOf, ty9, hpl, e0, e1] <;> rfl)) rfl <| Of rfl (zb (hv := bi_lss)) rfl (by first | rfl | assumption | ((simp only [bl, e0, e1]) <;> first | done | assumption | omega) | (simp; done) | (simp; omega)) <| Of rfl sm rfl rfl <| Pa ag rfl <| Pa ag rfl <| Pa ag rfl <| Pa ag rfl <| Of rfl Zp rfl rfl <| On ?_
      refine Wn <| CWp.exit <| SQ.exit <| LQ.exit <| BQ.exit <| ?_
      refine NQ.normal (L := [(0, encS a), (1, encS b)]) ?_ ⟨rfl, lt_pre ht (by omega), rfl⟩
      simp only [HasA, Tr.get_put, Nat.reduceEqDiff, reduceIte, and_self]
  rintro L a' h' ha ⟨rfl, hlt, rfl⟩
  refine SQ.normal <| CWp.known ha ?_
  simp only [mkA]
  refine Wr <| Oa rfl sm rfl <| Oa rfl (Zn (hv := by simp (disch := first | omega | simp only [nx]; omega) only [aLenOf, ty9, hpl, e0, e1] <;> rfl)) rfl <| Oa rfl sm rfl <| Oa rfl (Zn (hv := by simp (disch := first | omega | simp only [nx]; omega) only [aLenOf, ty9, hpl, e0, e1] <;> rfl)) rfl <| Oa rfl (zb (hv := bi_lss)) rfl <| Oa rfl za rfl <| On ?_
  refine CWp.ret <| FQ.ret (by simp only [aRet, Tryz.f49, aResults, aResult, lk, Nat.reduceEqDiff, reduceIte] <;> rfl) ?_
  refine ⟨?_, rfl⟩
  rw [hlt]
  congr 1
  rw [decide_eq_decide]; omega
abbrev SL (s : List UInt8) : Prop := s.length < 9223372036854775808
structure LB (p : Lf) : Prop where
  low : SL p.low
  high : SL p.high
  ky : ∀ r ∈ p.all, SL r.key ∧ SL r.val
theorem inside0_c (h : AHeap) (p : Lf) (bv dv : Value) (k : List UInt8) (h1 : SL p.low) (h2 : SL p.high) (hk : SL k) : FWp Tryz.prog 85 [LV p bv dv, encS k] h fun u h' => u = .bool (insR p.low p.high k) ∧ h' = h := by
  refine FWp.gcs (.flat rfl) ?_
  have l1 := fun G : AHeap => less_c G k p.low hk h1
  have l2 := fun G : AHeap => less_c G k p.high hk h2
  refine W.enter tyOK Tryz.func85 rfl rfl ?_
  simp only [entry]
  cases c1 : ltStr k p.low with
  | true =>
    rw [c1] at l1
    refine Wr <| Oa rfl Zx rfl <| Of rfl za rfl rfl <| On ?_
    refine Wr <| Oa rfl sm rfl <| Oa rfl (zf (hv := fa_ok (k := 0) ty25 rfl rfl ty9 rfl rfl)) rfl <| Oa rfl (zl (hv := by simp (disch := first | omega | simp only [nx]; omega) only [aLoad, ty9, rowOf, hpl, Value.cells, ty25, ty9] <;> rfl)) rfl <| OSuf.callD rfl (by simp only [aopnds, lk] <;> rfl) en49 (l1 _) rfl <| Of rfl Zt rfl rfl <| Of rfl sm rfl rfl <| Pa ag rfl <| Pa ag rfl <| Pa ag rfl <| Pa ag rfl <| Pa (aguard_un rfl rfl (by simp only [lk] <;> rfl)) rfl <| Pa (aguard_un rfl rfl (by simp only [lk] <;> rfl)) rfl <| Pa (aguard_un rfl rfl (by simp only [lk] <;> rfl)) rfl <| Pa (aguard_un rfl rfl (by simp only [lk] <;> rfl)) rfl <| Pa ag rfl <| Of rfl Zp rfl rfl <| Of rfl za rfl rfl <| On ?_
    refine CWp.ret <| FQ.ret (by simp only [aRet, Tryz.f85, aResults, aResult, lk, Nat.reduceEqDiff, reduceIte] <;> rfl) ?_
    exact ⟨by simp [insR, c1], fun r o hr ho => by simp (disch := first | omega | simp only [nx]; omega) only [hpl]; exact ho⟩
  | false =>
    rw [c1] at l1
    by_cases c2 : p.high = []
    · refine Wr <| Oa rfl Zx rfl <| Of rfl za rfl rfl <| On ?_
      refine Wr <| Oa rfl sm rfl <| Oa rfl (zf (hv := fa_ok (k := 0) ty25 rfl rfl ty9 rfl rfl)) rfl <| Oa rfl (zl (hv := by simp (disch := first | omega | simp only [nx]; omega) only [aLoad, ty9, rowOf, hpl, Value.cells, ty25, ty9] <;> rfl)) rfl <| OSuf.callD rfl (by simp only [aopnds, lk] <;> rfl) en49 (l1 _) rfl <| Ot rfl Zt rfl rfl <| Ot rfl sm rfl rfl <| Oa ag (zf (hv := fa_ok (k := 1) ty25 rfl rfl ty9 rfl rfl)) rfl <| Oa ag (zl (hv := by simp (disch := first | omega | simp only [nx]; omega) only [aLoad, ty9, rowOf, hpl, Value.cells, ty25, ty9] <;> rfl)) rfl <| Ot ag (zb (hv := bs_eql)) rfl (by simp [sst, c2]) <| Ot ag sm rfl rfl <| Pa ag rfl <| Pa ag rfl <| Pa ag rfl <| Pa ag rfl <| Ot ag Zp rfl rfl <| Ot rfl Zp rfl rfl <| Ot rfl za rfl rfl <| On ?_
      refine CWp.ret <| FQ.ret (by simp only [aRet, Tryz.f85, aResults, aResult, lk, Nat.reduceEqDiff, reduceIte] <;> rfl) ?_
      exact ⟨by simp [insR, c1, c2], fun r o hr ho => by simp (disch := first | omega | simp only [nx]; omega) only [hpl]; exact ho⟩
    · refine Wr <| Oa rfl Zx rfl <| Of rfl za rfl rfl <| On ?_
      refine Wr <| Oa rfl sm rfl <| Oa rfl (zf (hv := fa_ok (k := 0) ty25 rfl rfl ty9 rfl rfl)) rfl <| Oa rfl (zl (hv := by simp (disch := first | omega | simp only [nx]; omega) only [aLoad, ty9, rowOf, hpl, Value.cells, ty25, ty9] <;> rfl)) rfl <| OSuf.callD rfl (by simp only [aopnds, lk] <;> rfl) en49 (l1 _) rfl <| Ot rfl Zt rfl rfl <| Ot rfl sm rfl rfl <| Oa ag (zf (hv := fa_ok (k := 1) ty25 rfl rfl ty9 rfl rfl)) rfl <| Oa ag (zl (hv := by simp (disch := first | omega | simp only [nx]; omega) only [aLoad, ty9, rowOf, hpl, Value.cells, ty25, ty9] <;> rfl)) rfl <| Of ag (zb (hv := bs_eql)) rfl (by simp [sst, c2]) <| Of ag sm rfl rfl <| Oa ag sm rfl <| Oa ag (zf (hv := fa_ok (k := 1) ty25 rfl rfl ty9 rfl rfl)) rfl <| Oa ag (zl (hv := by simp (disch := first | omega | simp only [nx]; omega) only [aLoad, ty9, rowOf, hpl, Value.cells, ty25, ty9] <;> rfl)) rfl <| OSuf.callD ag (by simp only [aopnds, lk] <;> rfl) en49 (l2 _) rfl <| Oa ag Zp rfl <| Oa rfl Zp rfl <| Oa rfl za rfl <| On ?_
      refine CWp.ret <| FQ.ret (by simp only [aRet, Tryz.f85, aResults, aResult, lk, Nat.reduceEqDiff, reduceIte] <;> rfl) ?_
      exact ⟨by simp [insR, c1, c2], fun r o hr ho => by simp (disch := first | omega | simp only [nx]; omega) only [hpl]; exact ho⟩
theorem may0_c (h : AHeap) (x : Rec) : FWp Tryz.prog 84 [x.V] h fun u h' => u = I64 (mayE x) ∧ h' = h := by
  have tb84 := And.intro ty27 (And.intro ty4 (ty9))
  refine FWp.gcs (.flat rfl) ?_
  have e0 : (ByteArray.mk ⟨x.key⟩).size = x.key.length := rfl
  have e1 : (ByteArray.mk ⟨x.val⟩).size = x.val.length := rfl
  refine W.enter tyOK Tryz.func84 rfl rfl ?_
  simp only [entry]
  by_cases a1 : 16 < x.key.length
  · refine Wr <| Oa rfl Zx rfl <| Oa rfl za rfl <| On ?_
    refine W.seq <| Wr <| Oa rfl (zf (hv := fa_ok (k := 0) ty27 rfl rfl ty9 rfl rfl)) rfl <| Oa rfl (zl (hv := by simp (disch := first | omega | simp only [nx]; omega) only [aLoad, ty9, rowOf, hpl, Value.cells, Rec.cs, e0, e1] <;> rfl)) rfl <| Oa rfl (Zn (hv := by simp (disch := first | omega | simp only [nx]; omega) only [aLenOf, ty9, hpl, Value.cells, places, tb84, Rec.cs, e0, e1] <;> rfl)) rfl <| Ot rfl (zb (hv := bi_gtr)) rfl (by simp; omega) <| Ot rfl sm rfl rfl <| Pa ag rfl <| Pa ag rfl <| Pa ag rfl <| Pa ag rfl <| Ot rfl Zp rfl rfl <| On ?_
    refine Wy <| Wr <| Oa rfl za rfl <| On ?_
    refine CWp.ret <| SQ.ret <| FQ.ret (by simp only [aRet, Tryz.f84, aResults, aResult, lk, Nat.reduceEqDiff, reduceIte] <;> rfl) ?_
    exact ⟨by rw [mayE, if_neg (by omega)], fun r o hr ho => by simp (disch := first | omega | simp only [nx]; omega) only [hpl]; exact ho⟩
  by_cases a2 : 24 < x.val.length
  · refine Wr <| Oa rfl Zx rfl <| Oa rfl za rfl <| On ?_
    refine W.seq <| Wr <| Oa rfl (zf (hv := fa_ok (k := 0) ty27 rfl rfl ty9 rfl rfl)) rfl <| Oa rfl (zl (hv := by simp (disch := first | omega | simp only [nx]; omega) only [aLoad, ty9, rowOf, hpl, Value.cells, Rec.cs, e0, e1] <;> rfl)) rfl <| Oa rfl (Zn (hv := by simp (disch := first | omega | simp only [nx]; omega) only [aLenOf, ty9, hpl, Value.cells, places, tb84, Rec.cs, e0, e1] <;> rfl)) rfl <| Of rfl (zb (hv := bi_gtr)) rfl (by simp; omega) <| Of rfl sm rfl rfl <| Oa ag (zf (hv := fa_ok (k := 3) ty27 rfl rfl ty9 rfl rfl)) rfl <| Oa ag (zl (hv := by simp (disch := first | omega | simp only [nx]; omega) only [aLoad, ty9, rowOf, hpl, Value.cells, Rec.cs, e0, e1] <;> rfl)) rfl <| Oa ag (Zn (hv := by simp (disch := first | omega | simp only [nx]; omega) only [aLenOf, ty9, hpl, Value.cells, places, tb84, Rec.cs, e0, e1] <;> rfl)) rfl <| Ot ag (zb (hv := bi_gtr)) rfl (by simp; omega) <| Ot rfl Zp rfl rfl <| On ?_
    refine Wy <| Wr <| Oa rfl za rfl <| On ?_
    refine CWp.ret <| SQ.ret <| FQ.ret (by simp only [aRet, Tryz.f84, aResults, aResult, lk, Nat.reduceEqDiff, reduceIte] <;> rfl) ?_
    exact ⟨by rw [mayE, if_neg (by omega)], fun r o hr ho => by simp (disch := first | omega | simp only [nx]; omega) only [hpl]; exact ho⟩
  by_cases a3 : x.key = []
  · refine Wr <| Oa rfl Zx rfl <| Oa rfl za rfl <| On ?_
    refine W.seq <| Wr <| Oa rfl (zf (hv := fa_ok (k := 0) ty27 rfl rfl ty9 rfl rfl)) rfl <| Oa rfl (zl (hv := by simp (disch := first | omega | simp only [nx]; omega) only [aLoad, ty9, rowOf, hpl, Value.cells, Rec.cs, e0, e1] <;> rfl)) rfl <| Oa rfl (Zn (hv := by simp (disch := first | omega | simp only [nx]; omega) only [aLenOf, ty9, hpl, Value.cells, places, tb84, Rec.cs, e0, e1] <;> rfl)) rfl <| Of rfl (zb (hv := bi_gtr)) rfl (by simp; omega) <| Of rfl sm rfl rfl <| Oa ag (zf (hv := fa_ok (k := 3) ty27 rfl rfl ty9 rfl rfl)) rfl <| Oa ag (zl (hv := by simp (disch := first | omega | simp only [nx]; omega) only [aLoad, ty9, rowOf, hpl, Value.cells, Rec.cs, e0, e1] <;> rfl)) rfl <| Oa ag (Zn (hv := by simp (disch := first | omega | simp only [nx]; omega) only [aLenOf, ty9, hpl, Value.cells, places, tb84, Rec.cs, e0, e1] <;> rfl)) rfl <| Of ag (zb (hv := bi_gtr)) rfl (by simp; omega) <| Of rfl Zp rfl rfl <| On ?_
    refine Wn <| CWp.skip <| SQ.normal ?_
    refine W.seq <| Wr <| Oa rfl (zf (hv := fa_ok (k := 0) ty27 rfl rfl ty9 rfl rfl)) rfl <| Oa rfl (zl (hv := by simp (disch := first | omega | simp only [nx]; omega) only [aLoad, ty9, rowOf, hpl, Value.cells, Rec.cs, e0, e1] <;> rfl)) rfl <| Ot rfl (zb (hv := bs_eql)) rfl (by simp [sst, a3]) <| Ot rfl sm rfl rfl <| Pa ag rfl <| Pa ag rfl <| Pa ag rfl <| Pa (aguard_un rfl rfl (by simp only [lk] <;> rfl)) rfl <| Pa (aguard_un rfl rfl (by simp only [lk] <;> rfl)) rfl <| Pa (aguard_un rfl rfl (by simp only [lk] <;> rfl)) rfl <| Pa ag rfl <| Ot rfl Zp rfl rfl <| On ?_
    refine Wy <| Wr <| Oa rfl za rfl <| On ?_
    refine CWp.ret <| SQ.ret <| FQ.ret (by simp only [aRet, Tryz.f84, aResults, aResult, lk, Nat.reduceEqDiff, reduceIte] <;> rfl) ?_
    exact ⟨by rw [mayE, if_pos (by omega), if_neg (fun h => h.1 a3)], fun r o hr ho => by simp (disch := first | omega | simp only [nx]; omega) only [hpl]; exact ho⟩
  cases a4 : x.del with
  | false =>
    refine Wr <| Oa rfl Zx rfl <| Oa rfl za rfl <| On ?_
    refine W.seq <| Wr <| Oa rfl (zf (hv := fa_ok (k := 0) ty27 rfl rfl ty9 rfl rfl)) rfl <| Oa rfl (zl (hv := by simp (disch := first | omega | simp only [nx]; omega) only [aLoad, ty9, rowOf, hpl, Value.cells, Rec.cs, e0, e1] <;> rfl)) rfl <| Oa rfl (Zn (hv := by simp (disch := first | omega | simp only [nx]; omega) only [aLenOf, ty9, hpl, Value.cells, places, tb84, Rec.cs, e0, e1] <;> rfl)) rfl <| Of rfl (zb (hv := bi_gtr)) rfl (by simp; omega) <| Of rfl sm rfl rfl <| Oa ag (zf (hv := fa_ok (k := 3) ty27 rfl rfl ty9 rfl rfl)) rfl <| Oa ag (zl (hv := by simp (disch := first | omega | simp only [nx]; omega) only [aLoad, ty9, rowOf, hpl, Value.cells, Rec.cs, e0, e1] <;> rfl)) rfl <| Oa ag (Zn (hv := by simp (disch := first | omega | simp only [nx]; omega) only [aLenOf, ty9, hpl, Value.cells, places, tb84, Rec.cs, e0, e1] <;> rfl)) rfl <| Of ag (zb (hv := bi_gtr)) rfl (by simp; omega) <| Of rfl Zp rfl rfl <| On ?_
    refine Wn <| CWp.skip <| SQ.normal ?_
    refine W.seq <| Wr <| Oa rfl (zf (hv := fa_ok (k := 0) ty27 rfl rfl ty9 rfl rfl)) rfl <| Oa rfl (zl (hv := by simp (disch := first | omega | simp only [nx]; omega) only [aLoad, ty9, rowOf, hpl, Value.cells, Rec.cs, e0, e1] <;> rfl)) rfl <| Of rfl (zb (hv := bs_eql)) rfl (by simp [sst, a3]) <| Of rfl sm rfl rfl <| Oa ag (zf (hv := fa_ok (k := 2) ty27 rfl rfl ty4 rfl rfl)) rfl <| Of ag (zl (hv := by simp (disch := first | omega | simp only [nx]; omega) only [aLoad, ty4, rowOf, hpl, Value.cells, Rec.cs, e0, e1] <;> rfl)) rfl (a4) <| Of ag sm rfl rfl <| Pa ag rfl <| Pa ag rfl <| Pa ag rfl <| Of ag Zp rfl rfl <| Of rfl Zp rfl rfl <| On ?_
    refine Wn <| CWp.skip <| SQ.normal ?_
    refine Wr <| Oa rfl za rfl <| On ?_
    refine CWp.ret <| FQ.ret (by simp only [aRet, Tryz.f84, aResults, aResult, lk, Nat.reduceEqDiff, reduceIte] <;> rfl) ?_
    exact ⟨by rw [mayE, if_pos (by omega), if_pos ⟨a3, fun h => by rw [a4] at h; cases h⟩], fun r o hr ho => by simp (disch := first | omega | simp only [nx]; omega) only [hpl]; exact ho⟩
  | true =>
    by_cases a5 : x.val = []
    · refine Wr <| Oa rfl Zx rfl <| Oa rfl za rfl <| On ?_
      refine W.seq <| Wr <| Oa rfl (zf (hv := fa_ok (k := 0) ty27 rfl rfl ty9 rfl rfl)) rfl <| Oa rfl (zl (hv := by simp (disch := first | omega | simp only [nx]; omega) only [aLoad, ty9, rowOf, hpl, Value.cells, Rec.cs, e0, e1] <;> rfl)) rfl <| Oa rfl (Zn (hv := by simp (disch := first | omega | simp only [nx]; omega) only [aLenOf, ty9, hpl, Value.cells, places, tb84, Rec.cs, e0, e1] <;> rfl)) rfl <| Of rfl (zb (hv := bi_gtr)) rfl (by simp; omega) <| Of rfl sm rfl rfl <| Oa ag (zf (hv := fa_ok (k := 3) ty27 rfl rfl ty9 rfl rfl)) rfl <| Oa ag (zl (hv := by simp (disch := first | omega | simp only [nx]; omega) only [aLoad, ty9, rowOf, hpl, Value.cells, Rec.cs, e0, e1] <;> rfl)) rfl <| Oa ag (Zn (hv := by simp (disch := first | omega | simp only [nx]; omega) only [aLenOf, ty9, hpl, Value.cells, places, tb84, Rec.cs, e0, e1] <;> rfl)) rfl <| Of ag (zb (hv := bi_gtr)) rfl (by simp; omega) <| Of rfl Zp rfl rfl <| On ?_
      refine Wn <| CWp.skip <| SQ.normal ?_
      refine W.seq <| Wr <| Oa rfl (zf (hv := fa_ok (k := 0) ty27 rfl rfl ty9 rfl rfl)) rfl <| Oa rfl (zl (hv := by simp (disch := first | omega | simp only [nx]; omega) only [aLoad, ty9, rowOf, hpl, Value.cells, Rec.cs, e0, e1] <;> rfl)) rfl <| Of rfl (zb (hv := bs_eql)) rfl (by simp [sst, a3]) <| Of rfl sm rfl rfl <| Oa ag (zf (hv := fa_ok (k := 2) ty27 rfl rfl ty4 rfl rfl)) rfl <| Ot ag (zl (hv := by simp (disch := first | omega | simp only [nx]; omega) only [aLoad, ty4, rowOf, hpl, Value.cells, Rec.cs, e0, e1] <;> rfl)) rfl (a4) <| Ot ag sm rfl rfl <| Oa ag (zf (hv := fa_ok (k := 3) ty27 rfl rfl ty9 rfl rfl)) rfl <| Oa ag (zl (hv := by simp (disch := first | omega | simp only [nx]; omega) only [aLoad, ty9, rowOf, hpl, Value.cells, Rec.cs, e0, e1] <;> rfl)) rfl <| Of ag (zb (hv := bs_neq)) rfl (by simp [sst, a5]) <| Of ag Zp rfl rfl <| Of rfl Zp rfl rfl <| On ?_
      refine Wn <| CWp.skip <| SQ.normal ?_
      refine Wr <| Oa rfl za rfl <| On ?_
      refine CWp.ret <| FQ.ret (by simp only [aRet, Tryz.f84, aResults, aResult, lk, Nat.reduceEqDiff, reduceIte] <;> rfl) ?_
      exact ⟨by rw [mayE, if_pos (by omega), if_pos ⟨a3, fun _ => a5⟩], fun r o hr ho => by simp (disch := first | omega | simp only [nx]; omega) only [hpl]; exact ho⟩
    · refine Wr <| Oa rfl Zx rfl <| Oa rfl za rfl <| On ?_
      refine W.seq <| Wr <| Oa rfl (zf (hv := fa_ok (k := 0) ty27 rfl rfl ty9 rfl rfl)) rfl <| Oa rfl (zl (hv := by simp (disch := first | omega | simp only [nx]; omega) only [aLoad, ty9, rowOf, hpl, Value.cells, Rec.cs, e0, e1] <;> rfl)) rfl <| Oa rfl (Zn (hv := by simp (disch := first | omega | simp only [nx]; omega) only [aLenOf, ty9, hpl, Value.cells, places, tb84, Rec.cs, e0, e1] <;> rfl)) rfl <| Of rfl (zb (hv := bi_gtr)) rfl (by simp; omega) <| Of rfl sm rfl rfl <| Oa ag (zf (hv := fa_ok (k := 3) ty27 rfl rfl ty9 rfl rfl)) rfl <| Oa ag (zl (hv := by simp (disch := first | omega | simp only [nx]; omega) only [aLoad, ty9, rowOf, hpl, Value.cells, Rec.cs, e0, e1] <;> rfl)) rfl <| Oa ag (Zn (hv := by simp (disch := first | omega | simp only [nx]; omega) only [aLenOf, ty9, hpl, Value.cells, places, tb84, Rec.cs, e0, e1] <;> rfl)) rfl <| Of ag (zb (hv := bi_gtr)) rfl (by simp; omega) <| Of rfl Zp rfl rfl <| On ?_
      refine Wn <| CWp.skip <| SQ.normal ?_
      refine W.seq <| Wr <| Oa rfl (zf (hv := fa_ok (k := 0) ty27 rfl rfl ty9 rfl rfl)) rfl <| Oa rfl (zl (hv := by simp (disch := first | omega | simp only [nx]; omega) only [aLoad, ty9, rowOf, hpl, Value.cells, Rec.cs, e0, e1] <;> rfl)) rfl <| Of rfl (zb (hv := bs_eql)) rfl (by simp [sst, a3]) <| Of rfl sm rfl rfl <| Oa ag (zf (hv := fa_ok (k := 2) ty27 rfl rfl ty4 rfl rfl)) rfl <| Ot ag (zl (hv := by simp (disch := first | omega | simp only [nx]; omega) only [aLoad, ty4, rowOf, hpl, Value.cells, Rec.cs, e0, e1] <;> rfl)) rfl (a4) <| Ot ag sm rfl rfl <| Oa ag (zf (hv := fa_ok (k := 3) ty27 rfl rfl ty9 rfl rfl)) rfl <| Oa ag (zl (hv := by simp (disch := first | omega | simp only [nx]; omega) only [aLoad, ty9, rowOf, hpl, Value.cells, Rec.cs, e0, e1] <;> rfl)) rfl <| Ot ag (zb (hv := bs_neq)) rfl (by simp [sst, a5]) <| Ot ag Zp rfl rfl <| Ot rfl Zp rfl rfl <| On ?_
      refine Wy <| Wr <| Oa rfl za rfl <| On ?_
      refine CWp.ret <| SQ.ret <| FQ.ret (by simp only [aRet, Tryz.f84, aResults, aResult, lk, Nat.reduceEqDiff, reduceIte] <;> rfl) ?_
      exact ⟨by rw [mayE, if_pos (by omega), if_neg (fun h => a5 (h.2 a4))], fun r o hr ho => by simp (disch := first | omega | simp only [nx]; omega) only [hpl]; exact ho⟩
theorem rec0_c (h : AHeap) (p : Lf) (bv dv : Value) (x : Rec) (h1 : SL p.low) (h2 : SL p.high) (hk : SL x.key) : FWp Tryz.prog 42 [LV p bv dv, x.V] h fun u h' => u = .bool (fit p.low p.high x) ∧ h' = h := by
  have tb42 := And.intro ty22 (And.intro ty25 (And.intro ty27 (ty9)))
  refine FWp.gcs (.flat rfl) ?_
  refine W.enter tyOK Tryz.func42 rfl rfl ?_
  simp only [entry]
  cases m : mayR x with
  | false =>
    refine Wr <| Oa rfl Zx rfl <| Oa rfl Zx rfl <| Of rfl za rfl rfl <| On ?_
    refine Wr <| Oa rfl (zl (hv := by simp (disch := first | omega | simp only [nx]; omega) only [aLoad, ty27, rowOf, hpl, rcl, Value.cells] <;> rfl)) rfl <| OSuf.callD rfl (by simp only [aopnds, lk] <;> rfl) en84 (may0_c _ x) rfl <| Of rfl (zb (hv := bi_eql)) rfl (by rw [mayE_ok]; exact m) <| Of rfl sm rfl rfl <| Pa ag rfl <| Pa ag rfl <| Pa ag rfl <| Of rfl Zp rfl rfl <| Of rfl sm rfl rfl <| Pa ag rfl <| Pa ag rfl <| Pa ag rfl <| Of rfl Zp rfl rfl <| Of rfl sm rfl rfl <| Pa ag rfl <| Pa ag rfl <| Pa ag rfl <| Pa ag rfl <| Of rfl Zp rfl rfl <| Of rfl za rfl rfl <| On ?_
    refine CWp.ret <| FQ.ret (by simp only [aRet, Tryz.f42, aResults, aResult, lk, Nat.reduceEqDiff, reduceIte] <;> rfl) ?_
    exact ⟨by simp [fit, m], fun r o hr ho => by simp (disch := first | omega | simp only [nx]; omega) only [hpl]; exact ho⟩
  | true =>
    by_cases c1 : x.lsn ≥ 1
    · by_cases c2 : x.lsn ≤ 1099511627776
      · refine Wr <| Oa rfl Zx rfl <| Oa rfl Zx rfl <| Of rfl za rfl rfl <| On ?_
        refine Wr <| Oa rfl (zl (hv := by simp (disch := first | omega | simp only [nx]; omega) only [aLoad, ty27, rowOf, hpl, rcl, Rec.cs, Value.cells] <;> rfl)) rfl <| OSuf.callD rfl (by simp only [aopnds, lk] <;> rfl) en84 (may0_c _ x) rfl <| Ot rfl (zb (hv := bi_eql)) rfl (by rw [mayE_ok]; exact m) <| Ot rfl sm rfl rfl <| Oa ag (zf (hv := fa_ok (k := 1) ty27 rfl rfl ty22 rfl rfl)) rfl <| Oa ag (zl (hv := by simp (disch := first | omega | simp only [nx]; omega) only [aLoad, ty22, rowOf, hpl, rcl, Rec.cs, Value.cells] <;> rfl)) rfl <| Ot ag (zb (hv := bi_geq)) rfl (by simp [c1]) <| Ot rfl Zp rfl rfl <| Ot rfl sm rfl rfl <| Oa ag (zf (hv := fa_ok (k := 1) ty27 rfl rfl ty22 rfl rfl)) rfl <| Oa ag (zl (hv := by simp (disch := first | omega | simp only [nx]; omega) only [aLoad, ty22, rowOf, hpl, rcl, Rec.cs, Value.cells] <;> rfl)) rfl <| Ot ag (zb (hv := bi_leq)) rfl (by simp [c2]) <| Ot rfl Zp rfl rfl <| Ot rfl sm rfl rfl <| Oa ag (zl (hv := by simp (disch := first | omega | simp only [nx]; omega) only [aLoad, ty25, rowOf, hpl, rcl, Rec.cs, Value.cells] <;> rfl)) rfl <| Oa ag (zf (hv := fa_ok (k := 0) ty27 rfl rfl ty9 rfl rfl)) rfl <| Oa ag (zl (hv := by simp (disch := first | omega | simp only [nx]; omega) only [aLoad, ty9, rowOf, hpl, rcl, Rec.cs, Value.cells] <;> rfl)) rfl <| OSuf.callD ag (by simp only [aopnds, lk] <;> rfl) en85 (inside0_c _ p bv dv x.key h1 h2 hk) rfl <| Oa rfl Zp rfl <| Oa rfl za rfl <| On ?_
        refine CWp.ret <| FQ.ret (by simp only [aRet, Tryz.f42, aResults, aResult, lk, Nat.reduceEqDiff, reduceIte] <;> rfl) ?_
        exact ⟨by simp [fit, m, c1, c2], fun r o hr ho => by simp (disch := first | omega | simp only [nx]; omega) only [hpl]; exact ho⟩
      · refine Wr <| Oa rfl Zx rfl <| Oa rfl Zx rfl <| Of rfl za rfl rfl <| On ?_
        refine Wr <| Oa rfl (zl (hv := by simp (disch := first | omega | simp only [nx]; omega) only [aLoad, ty27, rowOf, hpl, rcl, Rec.cs, Value.cells] <;> rfl)) rfl <| OSuf.callD rfl (by simp only [aopnds, lk] <;> rfl) en84 (may0_c _ x) rfl <| Ot rfl (zb (hv := bi_eql)) rfl (by rw [mayE_ok]; exact m) <| Ot rfl sm rfl rfl <| Oa ag (zf (hv := fa_ok (k := 1) ty27 rfl rfl ty22 rfl rfl)) rfl <| Oa ag (zl (hv := by simp (disch := first | omega | simp only [nx]; omega) only [aLoad, ty22, rowOf, hpl, rcl, Rec.cs, Value.cells] <;> rfl)) rfl <| Ot ag (zb (hv := bi_geq)) rfl (by simp [c1]) <| Ot rfl Zp rfl rfl <| Ot rfl sm rfl rfl <| Oa ag (zf (hv := fa_ok (k := 1) ty27 rfl rfl ty22 rfl rfl)) rfl <| Oa ag (zl (hv := by simp (disch := first | omega | simp only [nx]; omega) only [aLoad, ty22, rowOf, hpl, rcl, Rec.cs, Value.cells] <;> rfl)) rfl <| Of ag (zb (hv := bi_leq)) rfl (by simp [c2]) <| Of rfl Zp rfl rfl <| Of rfl sm rfl rfl <| Pa ag rfl <| Pa ag rfl <| Pa ag rfl <| Pa ag rfl <| Of rfl Zp rfl rfl <| Of rfl za rfl rfl <| On ?_
        refine CWp.ret <| FQ.ret (by simp only [aRet, Tryz.f42, aResults, aResult, lk, Nat.reduceEqDiff, reduceIte] <;> rfl) ?_
        exact ⟨by simp [fit, m, c2], fun r o hr ho => by simp (disch := first | omega | simp only [nx]; omega) only [hpl]; exact ho⟩
    · refine Wr <| Oa rfl Zx rfl <| Oa rfl Zx rfl <| Of rfl za rfl rfl <| On ?_
      refine Wr <| Oa rfl (zl (hv := by simp (disch := first | omega | simp only [nx]; omega) only [aLoad, ty27, rowOf, hpl, rcl, Rec.cs, Value.cells] <;> rfl)) rfl <| OSuf.callD rfl (by simp only [aopnds, lk] <;> rfl) en84 (may0_c _ x) rfl <| Ot rfl (zb (hv := bi_eql)) rfl (by rw [mayE_ok]; exact m) <| Ot rfl sm rfl rfl <| Oa ag (zf (hv := fa_ok (k := 1) ty27 rfl rfl ty22 rfl rfl)) rfl <| Oa ag (zl (hv := by simp (disch := first | omega | simp only [nx]; omega) only [aLoad, ty22, rowOf, hpl, rcl, Rec.cs, Value.cells] <;> rfl)) rfl <| Of ag (zb (hv := bi_geq)) rfl (by simp [c1]) <| Of rfl Zp rfl rfl <| Of rfl sm rfl rfl <| Pa ag rfl <| Pa ag rfl <| Pa ag rfl <| Of rfl Zp rfl rfl <| Of rfl sm rfl rfl <| Pa ag rfl <| Pa ag rfl <| Pa ag rfl <| Pa ag rfl <| Of rfl Zp rfl rfl <| Of rfl za rfl rfl <| On ?_
      refine CWp.ret <| FQ.ret (by simp only [aRet, Tryz.f42, aResults, aResult, lk, Nat.reduceEqDiff, reduceIte] <;> rfl) ?_
      exact ⟨by simp [fit, m, c1], fun r o hr ho => by simp (disch := first | omega | simp only [nx]; omega) only [hpl]; exact ho⟩
end Go.Proofs.YtebheelmgcggmaaGreat
namespace Go.Proofs.YtebheelmgcggmaaGreat
open Go.Ab Go.Sort
theorem chk_all {p : Lf} {x : Rec} (hx : x ∈ p.all) (h : fit p.low p.high x = false) : chk p = false := by
  cases c : chk p with
  | false => rfl
  | true =>
    simp only [chk, Bool.and_eq_true, List.all_eq_true] at c
    rw [c.2.1 x hx] at h; cases h
theorem chk_b {p : Lf} {j : Nat} {a b : Rec} (ha : p.base[j]? = some a) (hb : p.base[j + 1]? = some b) (h : ltK a b = false) : chk p = false := by
  cases c : chk p with
  | false => rfl
  | true =>
    simp only [chk, Bool.and_eq_true] at c
    rw [risB_not ha hb h] at c; cases c.2.2.1
theorem chk_d {p : Lf} {j : Nat} {a b : Rec} (ha : p.deltas[j]? = some a) (hb : p.deltas[j + 1]? = some b) (h : ltL a b = false) : chk p = false := by
  cases c : chk p with
  | false => rfl
  | true =>
    simp only [chk, Bool.and_eq_true] at c
    rw [risB_not ha hb h] at c; cases c.2.2.2
theorem check0_c (h : AHeap) (p : Lf) (bv dv : Value) (hb : RS h p.base bv) (hd : RS h p.deltas dv) (hlb : p.base.length ≤ 1000000) (hld : p.deltas.length ≤ 1000000) (lb : LB p) :
    FWp Tryz.prog 14 [LV p bv dv] h fun u h' => u = I64 (if chk p = true then 0 else 2) ∧ h' = h := by
  have tb14 := And.intro ty22 (And.intro ty23 (And.intro ty25 (And.intro ty27 (ty9))))
  obtain ⟨b1, c1, rfl⟩ := hb.form
  obtain ⟨b2, c2, rfl⟩ := hd.form
  refine FWp.gcs (.flat rfl) ?_
  refine W.enter tyOK Tryz.func14 rfl rfl ?_
  simp only [entry]
  have hsz1 := sz_str p.low
  have hsz2 := sz_str p.high
  have bad : ∀ e : Int, chk p = false → e = 2 → I64 e = I64 (if chk p = true then 0 else 2) := fun e h1 h2 => by rw [h1, h2]; rfl
  have bad' : ¬ (p.low.length ≤ 16 ∧ p.high.length ≤ 16 ∧ (p.high = [] ∨ ltStr p.low p.high = true) ∧ p.full ≤ 1099511627776 ∧ p.base.length ≤ 64 ∧ p.deltas.length ≤ 64) → chk p = false := fun hn => by simp only [chk]; rw [decide_eq_false hn]; rfl
  apply W.join (fun L h' => (p.low.length ≤ 16 ∧ p.high.length ≤ 16 ∧ (p.high = [] ∨ ltStr p.low p.high = true) ∧ p.full ≤ 1099511627776 ∧ p.base.length ≤ 64 ∧ p.deltas.length ≤ 64) ∧ h' = h.new (.cells (lcs p (.slice b1 p.base.length c1) (.slice b2 p.deltas.length c2)) 1) ∧ L = [(1, P0 h.next)])
  · intro rest
    refine Wr <| Oa rfl Zx rfl <| Oa rfl za rfl <| On ?_
    refine W.seq <| Wr <| Oa rfl (zf (hv := fa_ok (k := 0) ty25 rfl rfl ty9 rfl rfl)) rfl <| Oa rfl (zl (hv := by simp (disch := first | omega | simp only [nx]; omega) only [aLoad, ty9, rowOf, hpl, Value.cells, hsz1, hsz2] <;> rfl)) rfl <| Oa rfl (Zn (hv := by simp (disch := first | omega | simp only [nx]; omega) only [aLenOf, ty9, hpl, Value.cells, hsz1, hsz2, places, tb14] <;> rfl)) rfl <| OSuf.aopB tyOK rfl (zb (hv := bi_gtr)) (fun _ => rfl) (fun h1 => ?_) (fun h1 => ?_)
    · try simp only [bl] at h1
      refine Ot rfl sm rfl rfl <| Pa ag rfl <| Pa ag rfl <| Pa ag rfl <| Pa ag rfl <| Ot rfl Zp rfl rfl <| Ot rfl sm rfl rfl <| Pa ag rfl <| Pa ag rfl <| Pa ag rfl <| Pa ag rfl <| Pa (aguard_un rfl rfl (by simp only [lk] <;> rfl)) rfl <| Pa (aguard_un rfl rfl (by simp only [lk] <;> rfl)) rfl <| Pa (aguard_un rfl rfl (by simp only [lk] <;> rfl)) rfl <| Pa (aguard_un rfl rfl (by simp only [lk] <;> rfl)) rfl <| Pa (aguard_un rfl rfl (by simp only [lk] <;> rfl)) rfl <| Pa (aguard_un rfl rfl (by simp only [lk] <;> rfl)) rfl <| Pa ag rfl <| Ot rfl Zp rfl rfl <| Ot rfl sm rfl rfl <| Pa ag rfl <| Pa ag rfl <| Pa ag rfl <| Ot rfl Zp rfl rfl <| Ot rfl sm rfl rfl <| Pa ag rfl <| Pa ag rfl <| Pa ag rfl <| Pa ag rfl <| Ot rfl Zp rfl rfl <| Ot rfl sm rfl rfl <| Pa ag rfl <| Pa ag rfl <| Pa ag rfl <| Pa ag rfl <| Ot rfl Zp rfl rfl <| On ?_
      refine Wy <| Wr <| Oa rfl za rfl <| On ?_
      refine CWp.ret <| SQ.ret <| FQ.ret (by simp only [aRet, Tryz.f14, aResults, aResult, lk, Nat.reduceEqDiff, reduceIte] <;> rfl) ?_
      exact ⟨bad _ (bad' (by omega)) rfl, fun r o hr ho => by simp (disch := first | omega | simp only [nx]; omega) only [hpl]; exact ho⟩
    · try simp only [bl] at h1
      refine Of rfl sm rfl rfl <| Oa ag (zf (hv := fa_ok (k := 1) ty25 rfl rfl ty9 rfl rfl)) rfl <| Oa ag (zl (hv := by simp (disch := first | omega | simp only [nx]; omega) only [aLoad, ty9, rowOf, hpl, Value.cells, hsz1, hsz2] <;> rfl)) rfl <| Oa ag (Zn (hv := by simp (disch := first | omega | simp only [nx]; omega) only [aLenOf, ty9, hpl, Value.cells, hsz1, hsz2, places, tb14] <;> rfl)) rfl <| OSuf.aopB tyOK ag (zb (hv := bi_gtr)) (fun _ => rfl) (fun h2 => ?_) (fun h2 => ?_)
      · try simp only [bl] at h2
        refine Ot rfl Zp rfl rfl <| Ot rfl sm rfl rfl <| Pa ag rfl <| Pa ag rfl <| Pa ag rfl <| Pa ag rfl <| Pa (aguard_un rfl rfl (by simp only [lk] <;> rfl)) rfl <| Pa (aguard_un rfl rfl (by simp only [lk] <;> rfl)) rfl <| Pa (aguard_un rfl rfl (by simp only [lk] <;> rfl)) rfl <| Pa (aguard_un rfl rfl (by simp only [lk] <;> rfl)) rfl <| Pa (aguard_un rfl rfl (by simp only [lk] <;> rfl)) rfl <| Pa (aguard_un rfl rfl (by simp only [lk] <;> rfl)) rfl <| Pa ag rfl <| Ot rfl Zp rfl rfl <| Ot rfl sm rfl rfl <| Pa ag rfl <| Pa ag rfl <| Pa ag rfl <| Ot rfl Zp rfl rfl <| Ot rfl sm rfl rfl <| Pa ag rfl <| Pa ag rfl <| Pa ag rfl <| Pa ag rfl <| Ot rfl Zp rfl rfl <| Ot rfl sm rfl rfl <| Pa ag rfl <| Pa ag rfl <| Pa ag rfl <| Pa ag rfl <| Ot rfl Zp rfl rfl <| On ?_
        refine Wy <| Wr <| Oa rfl za rfl <| On ?_
        refine CWp.ret <| SQ.ret <| FQ.ret (by simp only [aRet, Tryz.f14, aResults, aResult, lk, Nat.reduceEqDiff, reduceIte] <;> rfl) ?_
        exact ⟨bad _ (bad' (by omega)) rfl, fun r o hr ho => by simp (disch := first | omega | simp only [nx]; omega) only [hpl]; exact ho⟩
      · try simp only [bl] at h2
        refine Of rfl Zp rfl rfl <| Of rfl sm rfl rfl <| Oa ag (zf (hv := fa_ok (k := 1) ty25 rfl rfl ty9 rfl rfl)) rfl <| Oa ag (zl (hv := by simp (disch := first | omega | simp only [nx]; omega) only [aLoad, ty9, rowOf, hpl, Value.cells, hsz1, hsz2] <;> rfl)) rfl <| OSuf.aopB tyOK ag (zb (hv := bs_neq)) (fun _ => rfl) (fun h3 => ?_) (fun h3 => ?_)
        · try simp only [bl] at h3
          refine Ot ag sm rfl rfl <| Oa ag (zf (hv := fa_ok (k := 0) ty25 rfl rfl ty9 rfl rfl)) rfl <| Oa ag (zl (hv := by simp (disch := first | omega | simp only [nx]; omega) only [aLoad, ty9, rowOf, hpl, Value.cells, hsz1, hsz2] <;> rfl)) rfl <| Oa ag (zf (hv := fa_ok (k := 1) ty25 rfl rfl ty9 rfl rfl)) rfl <| Oa ag (zl (hv := by simp (disch := first | omega | simp only [nx]; omega) only [aLoad, ty9, rowOf, hpl, Value.cells, hsz1, hsz2] <;> rfl)) rfl <| OSuf.callD ag (by simp only [aopnds, lk] <;> rfl) en49 (less_c _ _ _ lb.low lb.high) rfl <| OSuf.aopB tyOK ag Zt (fun _ => rfl) (fun h4 => ?_) (fun h4 => ?_)
          · try simp only [bl] at h4
            refine Ot ag Zp rfl rfl <| Ot rfl Zp rfl rfl <| Ot rfl sm rfl rfl <| Pa ag rfl <| Pa ag rfl <| Pa ag rfl <| Ot rfl Zp rfl rfl <| Ot rfl sm rfl rfl <| Pa ag rfl <| Pa ag rfl <| Pa ag rfl <| Pa ag rfl <| Ot rfl Zp rfl rfl <| Ot rfl sm rfl rfl <| Pa ag rfl <| Pa ag rfl <| Pa ag rfl <| Pa ag rfl <| Ot rfl Zp rfl rfl <| On ?_
            refine Wy <| Wr <| Oa rfl za rfl <| On ?_
            refine CWp.ret <| SQ.ret <| FQ.ret (by simp only [aRet, Tryz.f14, aResults, aResult, lk, Nat.reduceEqDiff, reduceIte] <;> rfl) ?_
            exact ⟨bad _ (bad' (by simp [sst] at h3 h4; simp [h3, h4])) rfl, fun r o hr ho => by simp (disch := first | omega | simp only [nx]; omega) only [hpl]; exact ho⟩
          · try simp only [bl] at h4
            refine Of ag Zp rfl rfl <| Of rfl Zp rfl rfl <| Of rfl sm rfl rfl <| Oa ag (zf (hv := fa_ok (k := 2) ty25 rfl rfl ty22 rfl rfl)) rfl <| Oa ag (zl (hv := by simp (disch := first | omega | simp only [nx]; omega) only [aLoad, ty22, rowOf, hpl, Value.cells, hsz1, hsz2] <;> rfl)) rfl <| OSuf.aopB tyOK ag (zb (hv := bi_gtr)) (fun _ => rfl) (fun h5 => ?_) (fun h5 => ?_)
            · try simp only [bl] at h5
              refine Ot rfl Zp rfl rfl <| Ot rfl sm rfl rfl <| Pa ag rfl <| Pa ag rfl <| Pa ag rfl <| Pa ag rfl <| Ot rfl Zp rfl rfl <| Ot rfl sm rfl rfl <| Pa ag rfl <| Pa ag rfl <| Pa ag rfl <| Pa ag rfl <| Ot rfl Zp rfl rfl <| On ?_
              refine Wy <| Wr <| Oa rfl za rfl <| On ?_
              refine CWp.ret <| SQ.ret <| FQ.ret (by simp only [aRet, Tryz.f14, aResults, aResult, lk, Nat.reduceEqDiff, reduceIte] <;> rfl) ?_
              exact ⟨bad _ (bad' (by omega)) rfl, fun r o hr ho => by simp (disch := first | omega | simp only [nx]; omega) only [hpl]; exact ho⟩
            · try simp only [bl] at h5
              refine Of rfl Zp rfl rfl <| Of rfl sm rfl rfl <| Oa ag (zf (hv := fa_ok (k := 3) ty25 rfl rfl ty23 rfl rfl)) rfl <| Oa ag (zl (hv := by simp (disch := first | omega | simp only [nx]; omega) only [aLoad, ty23, rowOf, hpl, Value.cells, hsz1, hsz2] <;> rfl)) rfl <| Oa ag (Zn (hv := by simp (disch := first | omega | simp only [nx]; omega) only [aLenOf, ty23, hpl, Value.cells, hsz1, hsz2, places, tb14] <;> rfl)) rfl <| OSuf.aopB tyOK ag (zb (hv := bi_gtr)) (fun _ => rfl) (fun h6 => ?_) (fun h6 => ?_)
              · try simp only [bl] at h6
                refine Ot rfl Zp rfl rfl <| Ot rfl sm rfl rfl <| Pa ag rfl <| Pa ag rfl <| Pa ag rfl <| Pa ag rfl <| Ot rfl Zp rfl rfl <| On ?_
                refine Wy <| Wr <| Oa rfl za rfl <| On ?_
                refine CWp.ret <| SQ.ret <| FQ.ret (by simp only [aRet, Tryz.f14, aResults, aResult, lk, Nat.reduceEqDiff, reduceIte] <;> rfl) ?_
                exact ⟨bad _ (bad' (by omega)) rfl, fun r o hr ho => by simp (disch := first | omega | simp only [nx]; omega) only [hpl]; exact ho⟩
              · try simp only [bl] at h6
                refine Of rfl Zp rfl rfl <| Of rfl sm rfl rfl <| Oa ag (zf (hv := fa_ok (k := 4) ty25 rfl rfl ty23 rfl rfl)) rfl <| Oa ag (zl (hv := by simp (disch := first | omega | simp only [nx]; omega) only [aLoad, ty23, rowOf, hpl, Value.cells, hsz1, hsz2] <;> rfl)) rfl <| Oa ag (Zn (hv := by simp (disch := first | omega | simp only [nx]; omega) only [aLenOf, ty23, hpl, Value.cells, hsz1, hsz2, places, tb14] <;> rfl)) rfl <| OSuf.aopB tyOK ag (zb (hv := bi_gtr)) (fun _ => rfl) (fun h7 => ?_) (fun h7 => ?_)
                · try simp only [bl] at h7
                  refine Ot rfl Zp rfl rfl <| On ?_
                  refine Wy <| Wr <| Oa rfl za rfl <| On ?_
                  refine CWp.ret <| SQ.ret <| FQ.ret (by simp only [aRet, Tryz.f14, aResults, aResult, lk, Nat.reduceEqDiff, reduceIte] <;> rfl) ?_
                  exact ⟨bad _ (bad' (by omega)) rfl, fun r o hr ho => by simp (disch := first | omega | simp only [nx]; omega) only [hpl]; exact ho⟩
                · try simp only [bl] at h7
                  refine Of rfl Zp rfl rfl <| On ?_
                  refine Wn <| CWp.skip <| SQ.normal ?_
                  refine W.seq <| ?_
                  refine rest _ _ _ ?_ ⟨⟨by omega, by omega, by simp [sst] at h3 h4; exact .inr h4, by omega, by omega, by omega⟩, rfl, rfl⟩
                  simp [HasA, Tr.get_put]
        · try simp only [bl] at h3
          refine Of ag sm rfl rfl <| Pa ag rfl <| Pa ag rfl <| Pa ag rfl <| Pa ag rfl <| Pa ag rfl <| Pa ag rfl <| Of ag Zp rfl rfl <| Of rfl Zp rfl rfl <| Of rfl sm rfl rfl <| Oa ag (zf (hv := fa_ok (k := 2) ty25 rfl rfl ty22 rfl rfl)) rfl <| Oa ag (zl (hv := by simp (disch := first | omega | simp only [nx]; omega) only [aLoad, ty22, rowOf, hpl, Value.cells, hsz1, hsz2] <;> rfl)) rfl <| OSuf.aopB tyOK ag (zb (hv := bi_gtr)) (fun _ => rfl) (fun h5 => ?_) (fun h5 => ?_)
          · try simp only [bl] at h5
            refine Ot rfl Zp rfl rfl <| Ot rfl sm rfl rfl <| Pa ag rfl <| Pa ag rfl <| Pa ag rfl <| Pa ag rfl <| Ot rfl Zp rfl rfl <| Ot rfl sm rfl rfl <| Pa ag rfl <| Pa ag rfl <| Pa ag rfl <| Pa ag rfl <| Ot rfl Zp rfl rfl <| On ?_
            refine Wy <| Wr <| Oa rfl za rfl <| On ?_
            refine CWp.ret <| SQ.ret <| FQ.ret (by simp only [aRet, Tryz.f14, aResults, aResult, lk, Nat.reduceEqDiff, reduceIte] <;> rfl) ?_
            exact ⟨bad _ (bad' (by omega)) rfl, fun r o hr ho => by simp (disch := first | omega | simp only [nx]; omega) only [hpl]; exact ho⟩
          · try simp only [bl] at h5
            refine Of rfl Zp rfl rfl <| Of rfl sm rfl rfl <| Oa ag (zf (hv := fa_ok (k := 3) ty25 rfl rfl ty23 rfl rfl)) rfl <| Oa ag (zl (hv := by simp (disch := first | omega | simp only [nx]; omega) only [aLoad, ty23, rowOf, hpl, Value.cells, hsz1, hsz2] <;> rfl)) rfl <| Oa ag (Zn (hv := by simp (disch := first | omega | simp only [nx]; omega) only [aLenOf, ty23, hpl, Value.cells, hsz1, hsz2, places, tb14] <;> rfl)) rfl <| OSuf.aopB tyOK ag (zb (hv := bi_gtr)) (fun _ => rfl) (fun h6 => ?_) (fun h6 => ?_)
            · try simp only [bl] at h6
              refine Ot rfl Zp rfl rfl <| Ot rfl sm rfl rfl <| Pa ag rfl <| Pa ag rfl <| Pa ag rfl <| Pa ag rfl <| Ot rfl Zp rfl rfl <| On ?_
              refine Wy <| Wr <| Oa rfl za rfl <| On ?_
              refine CWp.ret <| SQ.ret <| FQ.ret (by simp only [aRet, Tryz.f14, aResults, aResult, lk, Nat.reduceEqDiff, reduceIte] <;> rfl) ?_
              exact ⟨bad _ (bad' (by omega)) rfl, fun r o hr ho => by simp (disch := first | omega | simp only [nx]; omega) only [hpl]; exact ho⟩
            · try simp only [bl] at h6
              refine Of rfl Zp rfl rfl <| Of rfl sm rfl rfl <| Oa ag (zf (hv := fa_ok (k := 4) ty25 rfl rfl ty23 rfl rfl)) rfl <| Oa ag (zl (hv := by simp (disch := first | omega | simp only [nx]; omega) only [aLoad, ty23, rowOf, hpl, Value.cells, hsz1, hsz2] <;> rfl)) rfl <| Oa ag (Zn (hv := by simp (disch := first | omega | simp only [nx]; omega) only [aLenOf, ty23, hpl, Value.cells, hsz1, hsz2, places, tb14] <;> rfl)) rfl <| OSuf.aopB tyOK ag (zb (hv := bi_gtr)) (fun _ => rfl) (fun h7 => ?_) (fun h7 => ?_)
              · try simp only [bl] at h7
                refine Ot rfl Zp rfl rfl <| On ?_
                refine Wy <| Wr <| Oa rfl za rfl <| On ?_
                refine CWp.ret <| SQ.ret <| FQ.ret (by simp only [aRet, Tryz.f14, aResults, aResult, lk, Nat.reduceEqDiff, reduceIte] <;> rfl) ?_
                exact ⟨bad _ (bad' (by omega)) rfl, fun r o hr ho => by simp (disch := first | omega | simp only [nx]; omega) only [hpl]; exact ho⟩
              · try simp only [bl] at h7
                refine Of rfl Zp rfl rfl <| On ?_
                refine Wn <| CWp.skip <| SQ.normal ?_
                refine W.seq <| ?_
                refine rest _ _ _ ?_ ⟨⟨by omega, by omega, by simp [sst] at h3; exact .inl h3, by omega, by omega, by omega⟩, rfl, rfl⟩
                simp [HasA, Tr.get_put]
  rintro L h' ⟨⟨f1, f2, f3, f4, f5, f6⟩, rfl, rfl⟩
  simp only [mkA]
  obtain ⟨g, hg⟩ : ∃ g, g = h.new (.cells (lcs p (.slice b1 p.base.length c1) (.slice b2 p.deltas.length c2)) 1) := ⟨_, rfl⟩
  rw [← hg]
  have gn : g.next = h.next + 1 := by rw [hg]; rfl
  have gk : ∀ z, z < h.next → g.get z = h.get z := fun z hz => by rw [hg]; exact Gn (by omega)
  have g0 : g.get h.next = some (.cells (lcs p (.slice b1 p.base.length c1) (.slice b2 p.deltas.length c2)) 1) := by rw [hg]; exact Gq
  have hb2 := hb.mono (h' := g) (by omega) gk
  have hd2 := hd.mono (h' := g) (by omega) gk
  have old : ∀ r o, r < h.next → h.get r = some o → g.get r = some o := fun r o hr ho => by rw [gk r hr]; exact ho
  have mb : ∀ {i x}, p.base[i]? = some x → x ∈ p.all := fun {i x} hx => List.mem_append.2 (.inl (List.mem_of_getElem? hx))
  have md : ∀ {i x}, p.deltas[i]? = some x → x ∈ p.all := fun {i x} hx => List.mem_append.2 (.inr (List.mem_of_getElem? hx))
  refine Wr <| Oa rfl za rfl <| On ?_
  refine W.cut (fun L h' => (∀ x ∈ p.base, fit p.low p.high x = true) ∧ risB ltK p.base = true ∧ g = h' ∧ L = [(1, P0 h.next)]) (W.block (W.loop (fun m L h' => ∃ i : Nat, m + i = p.base.length ∧ (∀ j x, j < i → p.base[j]? = some x → fit p.low p.high x = true) ∧ (∀ j a b, j + 1 < i → p.base[j]? = some a → p.base[j + 1]? = some b → ltK a b = true) ∧ g = h' ∧ L = [(1, P0 h.next), (3, I64 i)]) (n := p.base.length) ⟨0, rfl, by omega, by omega, rfl, rfl⟩ ?_ ?_)) ?_
  · simp [HasA, Tr.get_put]
  · rintro m L h' ⟨i, hm, hf, hr, rfl, rfl⟩
    simp only [mkA]
    have w2 : IntKind.i64.wrap ((i : Int) + 1) = ((i + 1 : Nat) : Int) := by rw [wrap_i64 (by omega) (by omega)]; omega
    by_cases hk : (i : Int) < (p.base.length : Int)
    · obtain ⟨x, hx⟩ : ∃ x, p.base[i]? = some x := ⟨p.base[i]'(by omega), by simp⟩
      obtain ⟨_, r, off, rfl, hr1, hr2⟩ := RS.at_ hb2 hx
      have hc1 : (0 ≤ (i : Int) ∧ (i : Int) < (p.base.length : Int)) := by omega
      have hrec := fun G : AHeap => rec0_c G p (.slice (some ⟨r, off, none⟩) p.base.length c1) (.slice b2 p.deltas.length c2) x lb.low lb.high (lb.ky x (mb hx)).1
      cases cf : fit p.low p.high x with
      | false =>
        rw [cf] at hrec
        refine W.seq <| Wr <| Oa rfl sm rfl <| Oa rfl (zf (hv := fa_ok (k := 3) ty25 rfl rfl ty23 rfl rfl)) rfl <| Oa rfl (zl (hv := by simp (disch := first | omega | simp only [nx]; omega) only [aLoad, ty23, rowOf, hpl, g0, hc1, sb, Value.cells] <;> rfl)) rfl <| Oa rfl (Zn (hv := by simp (disch := first | omega | simp only [nx]; omega) only [aLenOf, ty23, hpl, g0, hc1, sb, Value.cells, places, tb14] <;> rfl)) rfl <| Ot rfl (zb (hv := bi_lss)) rfl (by first | rfl | assumption | ((simp only [bl, g0, hc1, sb, Value.cells, places, tb14]) <;> first | done | assumption | omega) | (simp; done) | (simp; omega)) <| On ?_
        refine Wy <| CWp.skip <| SQ.normal ?_
        refine W.seq <| W.block <| Wd <| Sa rfl (zl (hv := by simp (disch := first | omega | simp only [nx]; omega) only [aLoad, ty25, rowOf, hpl, g0, hc1, sb, Value.cells] <;> rfl)) rfl <| Sa rfl (zf (hv := fa_ok (k := 3) ty25 rfl rfl ty23 rfl rfl)) rfl <| Sa rfl (zl (hv := by simp (disch := first | omega | simp only [nx]; omega) only [aLoad, ty23, rowOf, hpl, g0, hc1, sb, Value.cells] <;> rfl)) rfl <| Sa rfl sm rfl <| Sa rfl (zi (hv := by simp (disch := first | omega | simp only [nx]; omega) only [aIndexAddr, ty23, ty27, hpl, g0, hc1, sb, Value.cells, places, tb14] <;> rfl)) rfl <| Sa rfl (zl (hv := (hr2 _ rfl).1 _ _ ty27 rfl rfl)) rfl <| SqW.callD rfl (by simp only [aopnds, lk] <;> rfl) en42 (hrec _) rfl <| St rfl Zt rfl rfl <| St rfl sm rfl rfl <| Pb ag rfl <| Pb ag rfl <| Pb ag rfl <| Pb (aguard_un rfl rfl (by simp only [lk] <;> rfl)) rfl <| Pb (aguard_un rfl rfl (by simp only [lk] <;> rfl)) rfl <| Pb (aguard_un rfl rfl (by simp only [lk] <;> rfl)) rfl <| Pb (aguard_un rfl rfl (by simp only [lk] <;> rfl)) rfl <| Pb (aguard_un rfl rfl (by simp only [lk] <;> rfl)) rfl <| Pb (aguard_un rfl rfl (by simp only [lk] <;> rfl)) rfl <| Pb (aguard_un rfl rfl (by simp only [lk] <;> rfl)) rfl <| Pb (aguard_un rfl rfl (by simp only [lk] <;> rfl)) rfl <| Pb (aguard_un rfl rfl (by simp only [lk] <;> rfl)) rfl <| Pb (aguard_un rfl rfl (by simp only [lk] <;> rfl)) rfl <| Pb (aguard_un rfl rfl (by simp only [lk] <;> rfl)) rfl <| Pb (aguard_un rfl rfl (by simp only [lk] <;> rfl)) rfl <| Pb (aguard_un rfl rfl (by simp only [lk] <;> rfl)) rfl <| Pb (aguard_un rfl rfl (by simp only [lk] <;> rfl)) rfl <| Pb (aguard_un rfl rfl (by simp only [lk] <;> rfl)) rfl <| Pb ag rfl <| St rfl Zp rfl rfl <| Sn ?_
        refine Wy <| Wr <| Oa rfl za rfl <| On ?_
        refine CWp.ret <| BQ.ret <| SQ.ret <| LQ.ret <| BQ.ret <| NQ.ret <| SQ.ret <| FQ.ret (by simp only [aRet, Tryz.f14, aResults, aResult, lk, Nat.reduceEqDiff, reduceIte] <;> rfl) ?_
        exact ⟨bad _ (chk_all (mb hx) cf) rfl, old⟩
      | true =>
        rw [cf] at hrec
        have hf' : ∀ j y, j < i + 1 → p.base[j]? = some y → fit p.low p.high y = true := fun j y hj hy => by
          by_cases e : j = i
          · subst e; rw [hx] at hy; cases hy; exact cf
          · exact hf j y (by omega) hy
        by_cases hi0 : i = 0
        · have hz : ¬ (i : Int) > 0 := by omega
          refine W.seq <| Wr <| Oa rfl sm rfl <| Oa rfl (zf (hv := fa_ok (k := 3) ty25 rfl rfl ty23 rfl rfl)) rfl <| Oa rfl (zl (hv := by simp (disch := first | omega | simp only [nx]; omega) only [aLoad, ty23, rowOf, hpl, g0, hc1, sb, Value.cells] <;> rfl)) rfl <| Oa rfl (Zn (hv := by simp (disch := first | omega | simp only [nx]; omega) only [aLenOf, ty23, hpl, g0, hc1, sb, Value.cells, places, tb14] <;> rfl)) rfl <| Ot rfl (zb (hv := bi_lss)) rfl (by first | rfl | assumption | ((simp only [bl, g0, hc1, sb, Value.cells, places, tb14]) <;> first | done | assumption | omega) | (simp; done) | (simp; omega)) <| On ?_
          refine Wy <| CWp.skip <| SQ.normal ?_
          refine W.seq <| W.block <| Wd <| Sa rfl (zl (hv := by simp (disch := first | omega | simp only [nx]; omega) only [aLoad, ty25, rowOf, hpl, g0, hc1, sb, Value.cells] <;> rfl)) rfl <| Sa rfl (zf (hv := fa_ok (k := 3) ty25 rfl rfl ty23 rfl rfl)) rfl <| Sa rfl (zl (hv := by simp (disch := first | omega | simp only [nx]; omega) only [aLoad, ty23, rowOf, hpl, g0, hc1, sb, Value.cells] <;> rfl)) rfl <| Sa rfl sm rfl <| Sa rfl (zi (hv := by simp (disch := first | omega | simp only [nx]; omega) only [aIndexAddr, ty23, ty27, hpl, g0, hc1, sb, Value.cells, places, tb14] <;> rfl)) rfl <| Sa rfl (zl (hv := (hr2 _ rfl).1 _ _ ty27 rfl rfl)) rfl <| SqW.callD rfl (by simp only [aopnds, lk] <;> rfl) en42 (hrec _) rfl <| Sf rfl Zt rfl rfl <| Sf rfl sm rfl rfl <| Sa ag sm rfl <| Sf ag (zb (hv := bi_gtr)) rfl (by first | rfl | assumption | ((simp only [bl, g0, hc1, sb, Value.cells, places, tb14]) <;> first | done | assumption | omega) | (simp; done) | (simp; omega)) <| Sf ag sm rfl rfl <| Pb ag rfl <| Pb ag rfl <| Pb ag rfl <| Pb ag rfl <| Pb ag rfl <| Pb ag rfl <| Pb ag rfl <| Pb ag rfl <| Pb ag rfl <| Pb ag rfl <| Pb ag rfl <| Pb ag rfl <| Pb ag rfl <| Pb ag rfl <| Pb ag rfl <| Sf ag Zp rfl rfl <| Sf rfl Zp rfl rfl <| Sn ?_
          refine Wn <| CWp.skip <| BQ.normal <| SQ.normal ?_
          refine W.reg <| Oa rfl sm rfl <| Oa rfl (zb (hv := bi_w bi_add (by first | (simp only [w2] <;> rfl) | rfl))) rfl <| Oa rfl za rfl <| OSuf.nil <| ?_
          refine LQ.normal (m := m - 1) (L := [(1, P0 h.next), (3, I64 ((i + 1 : Nat) : Int))]) (by omega) ?_ ⟨i + 1, by omega, hf', by omega, rfl, rfl⟩
          simp only [HasA, Tr.get_put, Nat.reduceEqDiff, reduceIte, w2, and_self]
        · obtain ⟨k, rfl⟩ : ∃ k, i = k + 1 := ⟨i - 1, by omega⟩
          have hz : ((k + 1 : Nat) : Int) > 0 := by omega
          have w3 : IntKind.i64.wrap (((k + 1 : Nat) : Int) - 1) = (k : Int) := by rw [wrap_i64 (by omega) (by omega)]; omega
          obtain ⟨y, hy⟩ : ∃ y, p.base[k]? = some y := ⟨p.base[k]'(by omega), by simp⟩
          obtain ⟨_, r', off', e', _, hr3⟩ := RS.at_ hb2 hy
          cases e'
          have hc2 : (0 ≤ (k : Int) ∧ (k : Int) < (p.base.length : Int)) := by omega
          have hl := fun G : AHeap => less_c G y.key x.key (lb.ky y (mb hy)).1 (lb.ky x (mb hx)).1
          cases cl : ltK y x with
          | true =>
            rw [show ltStr y.key x.key = true from cl] at hl
            refine W.seq <| Wr <| Oa rfl sm rfl <| Oa rfl (zf (hv := fa_ok (k := 3) ty25 rfl rfl ty23 rfl rfl)) rfl <| Oa rfl (zl (hv := by simp (disch := first | omega | simp only [nx]; omega) only [aLoad, ty23, rowOf, hpl, g0, hc1, hc2, sb, Value.cells] <;> rfl)) rfl <| Oa rfl (Zn (hv := by simp (disch := first | omega | simp only [nx]; omega) only [aLenOf, ty23, hpl, g0, hc1, hc2, sb, Value.cells, places, tb14] <;> rfl)) rfl <| Ot rfl (zb (hv := bi_lss)) rfl (by first | rfl | assumption | ((simp only [bl, g0, hc1, hc2, sb, Value.cells, places, tb14]) <;> first | done | assumption | omega) | (simp; done) | (simp; omega)) <| On ?_
            refine Wy <| CWp.skip <| SQ.normal ?_
            refine W.seq <| W.block <| Wd <| Sa rfl (zl (hv := by simp (disch := first | omega | simp only [nx]; omega) only [aLoad, ty25, rowOf, hpl, g0, hc1, hc2, sb, Value.cells] <;> rfl)) rfl <| Sa rfl (zf (hv := fa_ok (k := 3) ty25 rfl rfl ty23 rfl rfl)) rfl <| Sa rfl (zl (hv := by simp (disch := first | omega | simp only [nx]; omega) only [aLoad, ty23, rowOf, hpl, g0, hc1, hc2, sb, Value.cells] <;> rfl)) rfl <| Sa rfl sm rfl <| Sa rfl (zi (hv := by simp (disch := first | omega | simp only [nx]; omega) only [aIndexAddr, ty23, ty27, hpl, g0, hc1, hc2, sb, Value.cells, places, tb14] <;> rfl)) rfl <| Sa rfl (zl (hv := (hr2 _ rfl).1 _ _ ty27 rfl rfl)) rfl <| SqW.callD rfl (by simp only [aopnds, lk] <;> rfl) en42 (hrec _) rfl <| Sf rfl Zt rfl rfl <| Sf rfl sm rfl rfl <| Sa ag sm rfl <| St ag (zb (hv := bi_gtr)) rfl (by first | rfl | assumption | ((simp only [bl, g0, hc1, hc2, sb, Value.cells, places, tb14]) <;> first | done | assumption | omega) | (simp; done) | (simp; omega)) <| St ag sm rfl rfl <| Sa ag (zf (hv := fa_ok (k := 3) ty25 rfl rfl ty23 rfl rfl)) rfl <| Sa ag (zl (hv := by simp (disch := first | omega | simp only [nx]; omega) only [aLoad, ty23, rowOf, hpl, g0, hc1, hc2, sb, Value.cells] <;> rfl)) rfl <| Sa ag sm rfl <| Sa ag (zb (hv := bi_w bi_sub (by first | (simp only [w2, w3] <;> rfl) | rfl))) rfl <| Sa ag (zi (hv := by simp (disch := first | omega | simp only [nx]; omega) only [aIndexAddr, ty23, ty27, hpl, g0, hc1, hc2, sb, Value.cells, places, tb14] <;> rfl)) rfl <| Sa ag (zf (hv := fa_ok (k := 0) ty27 rfl rfl ty9 rfl rfl)) rfl <| Sa ag (zl (hv := (hr3 _ rfl).2 0 _ _ _ ty9 rfl rfl)) rfl <| Sa ag (zf (hv := fa_ok (k := 3) ty25 rfl rfl ty23 rfl rfl)) rfl <| Sa ag (zl (hv := by simp (disch := first | omega | simp only [nx]; omega) only [aLoad, ty23, rowOf, hpl, g0, hc1, hc2, sb, Value.cells] <;> rfl)) rfl <| Sa ag sm rfl <| Sa ag (zi (hv := by simp (disch := first | omega | simp only [nx]; omega) only [aIndexAddr, ty23, ty27, hpl, g0, hc1, hc2, sb, Value.cells, places, tb14] <;> rfl)) rfl <| Sa ag (zf (hv := fa_ok (k := 0) ty27 rfl rfl ty9 rfl rfl)) rfl <| Sa ag (zl (hv := (hr2 _ rfl).2 0 _ _ _ ty9 rfl rfl)) rfl <| SqW.callD ag (by simp only [aopnds, lk] <;> rfl) en49 (hl _) rfl <| Sf ag Zt rfl rfl <| Sf ag Zp rfl rfl <| Sf rfl Zp rfl rfl <| Sn ?_
            refine Wn <| CWp.skip <| BQ.normal <| SQ.normal ?_
            refine W.reg <| Oa rfl sm rfl <| Oa rfl (zb (hv := bi_w bi_add (by first | (simp only [w2, w3] <;> rfl) | rfl))) rfl <| Oa rfl za rfl <| OSuf.nil <| ?_
            refine LQ.normal (m := m - 1) (L := [(1, P0 h.next), (3, I64 ((k + 1 + 1 : Nat) : Int))]) (by omega) ?_ ⟨k + 1 + 1, by omega, hf', fun j a b hj h1 h2 => ?_, rfl, rfl⟩
            · simp only [HasA, Tr.get_put, Nat.reduceEqDiff, reduceIte, w2, and_self]
            · by_cases e : j = k
              · subst e; rw [hy] at h1; rw [hx] at h2; cases h1; cases h2; exact cl
              · exact hr j a b (by omega) h1 h2
          | false =>
            rw [show ltStr y.key x.key = false from cl] at hl
            refine W.seq <| Wr <| Oa rfl sm rfl <| Oa rfl (zf (hv := fa_ok (k := 3) ty25 rfl rfl ty23 rfl rfl)) rfl <| Oa rfl (zl (hv := by simp (disch := first | omega | simp only [nx]; omega) only [aLoad, ty23, rowOf, hpl, g0, hc1, hc2, sb, Value.cells] <;> rfl)) rfl <| Oa rfl (Zn (hv := by simp (disch := first | omega | simp only [nx]; omega) only [aLenOf, ty23, hpl, g0, hc1, hc2, sb, Value.cells, places, tb14] <;> rfl)) rfl <| Ot rfl (zb (hv := bi_lss)) rfl (by first | rfl | assumption | ((simp only [bl, g0, hc1, hc2, sb, Value.cells, places, tb14]) <;> first | done | assumption | omega) | (simp; done) | (simp; omega)) <| On ?_
            refine Wy <| CWp.skip <| SQ.normal ?_
            refine W.seq <| W.block <| Wd <| Sa rfl (zl (hv := by simp (disch := first | omega | simp only [nx]; omega) only [aLoad, ty25, rowOf, hpl, g0, hc1, hc2, sb, Value.cells] <;> rfl)) rfl <| Sa rfl (zf (hv := fa_ok (k := 3) ty25 rfl rfl ty23 rfl rfl)) rfl <| Sa rfl (zl (hv := by simp (disch := first | omega | simp only [nx]; omega) only [aLoad, ty23, rowOf, hpl, g0, hc1, hc2, sb, Value.cells] <;> rfl)) rfl <| Sa rfl sm rfl <| Sa rfl (zi (hv := by simp (disch := first | omega | simp only [nx]; omega) only [aIndexAddr, ty23, ty27, hpl, g0, hc1, hc2, sb, Value.cells, places, tb14] <;> rfl)) rfl <| Sa rfl (zl (hv := (hr2 _ rfl).1 _ _ ty27 rfl rfl)) rfl <| SqW.callD rfl (by simp only [aopnds, lk] <;> rfl) en42 (hrec _) rfl <| Sf rfl Zt rfl rfl <| Sf rfl sm rfl rfl <| Sa ag sm rfl <| St ag (zb (hv := bi_gtr)) rfl (by first | rfl | assumption | ((simp only [bl, g0, hc1, hc2, sb, Value.cells, places, tb14]) <;> first | done | assumption | omega) | (simp; done) | (simp; omega)) <| St ag sm rfl rfl <| Sa ag (zf (hv := fa_ok (k := 3) ty25 rfl rfl ty23 rfl rfl)) rfl <| Sa ag (zl (hv := by simp (disch := first | omega | simp only [nx]; omega) only [aLoad, ty23, rowOf, hpl, g0, hc1, hc2, sb, Value.cells] <;> rfl)) rfl <| Sa ag sm rfl <| Sa ag (zb (hv := bi_w bi_sub (by first | (simp only [w2, w3] <;> rfl) | rfl))) rfl <| Sa ag (zi (hv := by simp (disch := first | omega | simp only [nx]; omega) only [aIndexAddr, ty23, ty27, hpl, g0, hc1, hc2, sb, Value.cells, places, tb14] <;> rfl)) rfl <| Sa ag (zf (hv := fa_ok (k := 0) ty27 rfl rfl ty9 rfl rfl)) rfl <| Sa ag (zl (hv := (hr3 _ rfl).2 0 _ _ _ ty9 rfl rfl)) rfl <| Sa ag (zf (hv := fa_ok (k := 3) ty25 rfl rfl ty23 rfl rfl)) rfl <| Sa ag (zl (hv := by simp (disch := first | omega | simp only [nx]; omega) only [aLoad, ty23, rowOf, hpl, g0, hc1, hc2, sb, Value.cells] <;> rfl)) rfl <| Sa ag sm rfl <| Sa ag (zi (hv := by simp (disch := first | omega | simp only [nx]; omega) only [aIndexAddr, ty23, ty27, hpl, g0, hc1, hc2, sb, Value.cells, places, tb14] <;> rfl)) rfl <| Sa ag (zf (hv := fa_ok (k := 0) ty27 rfl rfl ty9 rfl rfl)) rfl <| Sa ag (zl (hv := (hr2 _ rfl).2 0 _ _ _ ty9 rfl rfl)) rfl <| SqW.callD ag (by simp only [aopnds, lk] <;> rfl) en49 (hl _) rfl <| St ag Zt rfl rfl <| St ag Zp rfl rfl <| St rfl Zp rfl rfl <| Sn ?_
            refine Wy <| Wr <| Oa rfl za rfl <| On ?_
            refine CWp.ret <| BQ.ret <| SQ.ret <| LQ.ret <| BQ.ret <| NQ.ret <| SQ.ret <| FQ.ret (by simp only [aRet, Tryz.f14, aResults, aResult, lk, Nat.reduceEqDiff, reduceIte] <;> rfl) ?_
            exact ⟨bad _ (chk_b hy hx cl) rfl, old⟩
    · refine W.seq <| Wr <| Oa rfl sm rfl <| Oa rfl (zf (hv := fa_ok (k := 3) ty25 rfl rfl ty23 rfl rfl)) rfl <| Oa rfl (zl (hv := by simp (disch := first | omega | simp only [nx]; omega) only [aLoad, ty23, rowOf, hpl, g0] <;> rfl)) rfl <| Oa rfl (Zn (hv := by simp (disch := first | omega | simp only [nx]; omega) only [aLenOf, ty23, hpl, g0] <;> rfl)) rfl <| Of rfl (zb (hv := bi_lss)) rfl (by first | rfl | assumption | ((simp only [bl, g0]) <;> first | done | assumption | omega) | (simp; done) | (simp; omega)) <| On ?_
      refine Wn <| CWp.exit <| SQ.exit <| LQ.exit <| BQ.exit <| ?_
      have hi : i = p.base.length := by omega
      refine NQ.normal (L := [(1, P0 h.next)]) ?_ ⟨fun x hx => ?_, risB_of fun j a b h1 h2 => hr j a b (by have := (List.getElem?_eq_some_iff.1 h2).1; omega) h1 h2, rfl, rfl⟩
      · simp only [HasA, Tr.get_put, Nat.reduceEqDiff, reduceIte, and_self]
      · obtain ⟨j, hj, rfl⟩ := List.mem_iff_getElem.1 hx
        exact hf j _ (by omega) (by simp [hj])
  rintro L a' h' ha ⟨kb, rb, rfl, rfl⟩
  refine SQ.normal <| CWp.known ha ?_
  simp only [mkA]
  refine W.seq <| Wr <| Oa rfl za rfl <| On ?_
  refine W.cut (fun L h' => (∀ x ∈ p.deltas, fit p.low p.high x = true) ∧ risB ltL p.deltas = true ∧ g = h' ∧ L = [(1, P0 h.next)]) (W.block (W.loop (fun m L h' => ∃ i : Nat, m + i = p.deltas.length ∧ (∀ j x, j < i → p.deltas[j]? = some x → fit p.low p.high x = true) ∧ (∀ j a b, j + 1 < i → p.deltas[j]? = some a → p.deltas[j + 1]? = some b → ltL a b = true) ∧ g = h' ∧ L = [(1, P0 h.next), (4, I64 i)]) (n := p.deltas.length) ⟨0, rfl, by omega, by omega, rfl, rfl⟩ ?_ ?_)) ?_
  · simp [HasA, Tr.get_put]
  · rintro m L h' ⟨i, hm, hf, hr, rfl, rfl⟩
    simp only [mkA]
    have w2 : IntKind.i64.wrap ((i : Int) + 1) = ((i + 1 : Nat) : Int) := by rw [wrap_i64 (by omega) (by omega)]; omega
    by_cases hk : (i : Int) < (p.deltas.length : Int)
    · obtain ⟨x, hx⟩ : ∃ x, p.deltas[i]? = some x := ⟨p.deltas[i]'(by omega), by simp⟩
      obtain ⟨_, r, off, rfl, hr1, hr2⟩ := RS.at_ hd2 hx
      have hc1 : (0 ≤ (i : Int) ∧ (i : Int) < (p.deltas.length : Int)) := by omega
      have hrec := fun G : AHeap => rec0_c G p (.slice b1 p.base.length c1) (.slice (some ⟨r, off, none⟩) p.deltas.length c2) x lb.low lb.high (lb.ky x (md hx)).1
      cases cf : fit p.low p.high x with
      | false =>
        rw [cf] at hrec
        refine W.seq <| Wr <| Oa rfl sm rfl <| Oa rfl (zf (hv := fa_ok (k := 4) ty25 rfl rfl ty23 rfl rfl)) rfl <| Oa rfl (zl (hv := by simp (disch := first | omega | simp only [nx]; omega) only [aLoad, ty23, rowOf, hpl, g0, hc1, sb, Value.cells] <;> rfl)) rfl <| Oa rfl (Zn (hv := by simp (disch := first | omega | simp only [nx]; omega) only [aLenOf, ty23, hpl, g0, hc1, sb, Value.cells, places, tb14] <;> rfl)) rfl <| Ot rfl (zb (hv := bi_lss)) rfl (by first | rfl | assumption | ((simp only [bl, g0, hc1, sb, Value.cells, places, tb14]) <;> first | done | assumption | omega) | (simp; done) | (simp; omega)) <| On ?_
        refine Wy <| CWp.skip <| SQ.normal ?_
        refine W.seq <| W.block <| Wd <| Sa rfl (zl (hv := by simp (disch := first | omega | simp only [nx]; omega) only [aLoad, ty25, rowOf, hpl, g0, hc1, sb, Value.cells] <;> rfl)) rfl <| Sa rfl (zf (hv := fa_ok (k := 4) ty25 rfl rfl ty23 rfl rfl)) rfl <| Sa rfl (zl (hv := by simp (disch := first | omega | simp only [nx]; omega) only [aLoad, ty23, rowOf, hpl, g0, hc1, sb, Value.cells] <;> rfl)) rfl <| Sa rfl sm rfl <| Sa rfl (zi (hv := by simp (disch := first | omega | simp only [nx]; omega) only [aIndexAddr, ty23, ty27, hpl, g0, hc1, sb, Value.cells, places, tb14] <;> rfl)) rfl <| Sa rfl (zl (hv := (hr2 _ rfl).1 _ _ ty27 rfl rfl)) rfl <| SqW.callD rfl (by simp only [aopnds, lk] <;> rfl) en42 (hrec _) rfl <| St rfl Zt rfl rfl <| St rfl sm rfl rfl <| Pb ag rfl <| Pb ag rfl <| Pb ag rfl <| Pb (aguard_un rfl rfl (by simp only [lk] <;> rfl)) rfl <| Pb (aguard_un rfl rfl (by simp only [lk] <;> rfl)) rfl <| Pb (aguard_un rfl rfl (by simp only [lk] <;> rfl)) rfl <| Pb (aguard_un rfl rfl (by simp only [lk] <;> rfl)) rfl <| Pb (aguard_un rfl rfl (by simp only [lk] <;> rfl)) rfl <| Pb (aguard_un rfl rfl (by simp only [lk] <;> rfl)) rfl <| Pb (aguard_un rfl rfl (by simp only [lk] <;> rfl)) rfl <| Pb (aguard_un rfl rfl (by simp only [lk] <;> rfl)) rfl <| Pb (aguard_un rfl rfl (by simp only [lk] <;> rfl)) rfl <| Pb (aguard_un rfl rfl (by simp only [lk] <;> rfl)) rfl <| Pb (aguard_un rfl rfl (by simp only [lk] <;> rfl)) rfl <| Pb (aguard_un rfl rfl (by simp only [lk] <;> rfl)) rfl <| Pb (aguard_un rfl rfl (by simp only [lk] <;> rfl)) rfl <| Pb (aguard_un rfl rfl (by simp only [lk] <;> rfl)) rfl <| Pb ag rfl <| St rfl Zp rfl rfl <| Sn ?_
        refine Wy <| Wr <| Oa rfl za rfl <| On ?_
        refine CWp.ret <| BQ.ret <| SQ.ret <| LQ.ret <| BQ.ret <| NQ.ret <| SQ.ret <| FQ.ret (by simp only [aRet, Tryz.f14, aResults, aResult, lk, Nat.reduceEqDiff, reduceIte] <;> rfl) ?_
        exact ⟨bad _ (chk_all (md hx) cf) rfl, old⟩
      | true =>
        rw [cf] at hrec
        have hf' : ∀ j y, j < i + 1 → p.deltas[j]? = some y → fit p.low p.high y = true := fun j y hj hy => by
          by_cases e : j = i
          · subst e; rw [hx] at hy; cases hy; exact cf
          · exact hf j y (by omega) hy
        by_cases hi0 : i = 0
        · have hz : ¬ (i : Int) > 0 := by omega
          refine W.seq <| Wr <| Oa rfl sm rfl <| Oa rfl (zf (hv := fa_ok (k := 4) ty25 rfl rfl ty23 rfl rfl)) rfl <| Oa rfl (zl (hv := by simp (disch := first | omega | simp only [nx]; omega) only [aLoad, ty23, rowOf, hpl, g0, hc1, sb, Value.cells] <;> rfl)) rfl <| Oa rfl (Zn (hv := by simp (disch := first | omega | simp only [nx]; omega) only [aLenOf, ty23, hpl, g0, hc1, sb, Value.cells, places, tb14] <;> rfl)) rfl <| Ot rfl (zb (hv := bi_lss)) rfl (by first | rfl | assumption | ((simp only [bl, g0, hc1, sb, Value.cells, places, tb14]) <;> first | done | assumption | omega) | (simp; done) | (simp; omega)) <| On ?_
          refine Wy <| CWp.skip <| SQ.normal ?_
          refine W.seq <| W.block <| Wd <| Sa rfl (zl (hv := by simp (disch := first | omega | simp only [nx]; omega) only [aLoad, ty25, rowOf, hpl, g0, hc1, sb, Value.cells] <;> rfl)) rfl <| Sa rfl (zf (hv := fa_ok (k := 4) ty25 rfl rfl ty23 rfl rfl)) rfl <| Sa rfl (zl (hv := by simp (disch := first | omega | simp only [nx]; omega) only [aLoad, ty23, rowOf, hpl, g0, hc1, sb, Value.cells] <;> rfl)) rfl <| Sa rfl sm rfl <| Sa rfl (zi (hv := by simp (disch := first | omega | simp only [nx]; omega) only [aIndexAddr, ty23, ty27, hpl, g0, hc1, sb, Value.cells, places, tb14] <;> rfl)) rfl <| Sa rfl (zl (hv := (hr2 _ rfl).1 _ _ ty27 rfl rfl)) rfl <| SqW.callD rfl (by simp only [aopnds, lk] <;> rfl) en42 (hrec _) rfl <| Sf rfl Zt rfl rfl <| Sf rfl sm rfl rfl <| Sa ag sm rfl <| Sf ag (zb (hv := bi_gtr)) rfl (by first | rfl | assumption | ((simp only [bl, g0, hc1, sb, Value.cells, places, tb14]) <;> first | done | assumption | omega) | (simp; done) | (simp; omega)) <| Sf ag sm rfl rfl <| Pb ag rfl <| Pb ag rfl <| Pb ag rfl <| Pb ag rfl <| Pb ag rfl <| Pb ag rfl <| Pb ag rfl <| Pb ag rfl <| Pb ag rfl <| Pb ag rfl <| Pb ag rfl <| Pb ag rfl <| Pb ag rfl <| Pb ag rfl <| Sf ag Zp rfl rfl <| Sf rfl Zp rfl rfl <| Sn ?_
          refine Wn <| CWp.skip <| BQ.normal <| SQ.normal ?_
          refine W.reg <| Oa rfl sm rfl <| Oa rfl (zb (hv := bi_w bi_add (by first | (simp only [w2] <;> rfl) | rfl))) rfl <| Oa rfl za rfl <| OSuf.nil <| ?_
          refine LQ.normal (m := m - 1) (L := [(1, P0 h.next), (4, I64 ((i + 1 : Nat) : Int))]) (by omega) ?_ ⟨i + 1, by omega, hf', by omega, rfl, rfl⟩
          simp only [HasA, Tr.get_put, Nat.reduceEqDiff, reduceIte, w2, and_self]
        · obtain ⟨k, rfl⟩ : ∃ k, i = k + 1 := ⟨i - 1, by omega⟩
          have hz : ((k + 1 : Nat) : Int) > 0 := by omega
          have w3 : IntKind.i64.wrap (((k + 1 : Nat) : Int) - 1) = (k : Int) := by rw [wrap_i64 (by omega) (by omega)]; omega
          obtain ⟨y, hy⟩ : ∃ y, p.deltas[k]? = some y := ⟨p.deltas[k]'(by omega), by simp⟩
          obtain ⟨_, r', off', e', _, hr3⟩ := RS.at_ hd2 hy
          cases e'
          have hc2 : (0 ≤ (k : Int) ∧ (k : Int) < (p.deltas.length : Int)) := by omega
          by_cases cl : y.lsn ≥ x.lsn
          · refine W.seq <| Wr <| Oa rfl sm rfl <| Oa rfl (zf (hv := fa_ok (k := 4) ty25 rfl rfl ty23 rfl rfl)) rfl <| Oa rfl (zl (hv := by simp (disch := first | omega | simp only [nx]; omega) only [aLoad, ty23, rowOf, hpl, g0, hc1, hc2, sb, Value.cells] <;> rfl)) rfl <| Oa rfl (Zn (hv := by simp (disch := first | omega | simp only [nx]; omega) only [aLenOf, ty23, hpl, g0, hc1, hc2, sb, Value.cells, places, tb14] <;> rfl)) rfl <| Ot rfl (zb (hv := bi_lss)) rfl (by first | rfl | assumption | ((simp only [bl, g0, hc1, hc2, sb, Value.cells, places, tb14]) <;> first | done | assumption | omega) | (simp; done) | (simp; omega)) <| On ?_
            refine Wy <| CWp.skip <| SQ.normal ?_
            refine W.seq <| W.block <| Wd <| Sa rfl (zl (hv := by simp (disch := first | omega | simp only [nx]; omega) only [aLoad, ty25, rowOf, hpl, g0, hc1, hc2, sb, Value.cells] <;> rfl)) rfl <| Sa rfl (zf (hv := fa_ok (k := 4) ty25 rfl rfl ty23 rfl rfl)) rfl <| Sa rfl (zl (hv := by simp (disch := first | omega | simp only [nx]; omega) only [aLoad, ty23, rowOf, hpl, g0, hc1, hc2, sb, Value.cells] <;> rfl)) rfl <| Sa rfl sm rfl <| Sa rfl (zi (hv := by simp (disch := first | omega | simp only [nx]; omega) only [aIndexAddr, ty23, ty27, hpl, g0, hc1, hc2, sb, Value.cells, places, tb14] <;> rfl)) rfl <| Sa rfl (zl (hv := (hr2 _ rfl).1 _ _ ty27 rfl rfl)) rfl <| SqW.callD rfl (by simp only [aopnds, lk] <;> rfl) en42 (hrec _) rfl <| Sf rfl Zt rfl rfl <| Sf rfl sm rfl rfl <| Sa ag sm rfl <| St ag (zb (hv := bi_gtr)) rfl (by first | rfl | assumption | ((simp only [bl, g0, hc1, hc2, sb, Value.cells, places, tb14]) <;> first | done | assumption | omega) | (simp; done) | (simp; omega)) <| St ag sm rfl rfl <| Sa ag (zf (hv := fa_ok (k := 4) ty25 rfl rfl ty23 rfl rfl)) rfl <| Sa ag (zl (hv := by simp (disch := first | omega | simp only [nx]; omega) only [aLoad, ty23, rowOf, hpl, g0, hc1, hc2, sb, Value.cells] <;> rfl)) rfl <| Sa ag sm rfl <| Sa ag (zb (hv := bi_w bi_sub (by first | (simp only [w2, w3] <;> rfl) | rfl))) rfl <| Sa ag (zi (hv := by simp (disch := first | omega | simp only [nx]; omega) only [aIndexAddr, ty23, ty27, hpl, g0, hc1, hc2, sb, Value.cells, places, tb14] <;> rfl)) rfl <| Sa ag (zf (hv := fa_ok (k := 1) ty27 rfl rfl ty22 rfl rfl)) rfl <| Sa ag (zl (hv := (hr3 _ rfl).2 1 _ _ _ ty22 rfl rfl)) rfl <| Sa ag (zf (hv := fa_ok (k := 4) ty25 rfl rfl ty23 rfl rfl)) rfl <| Sa ag (zl (hv := by simp (disch := first | omega | simp only [nx]; omega) only [aLoad, ty23, rowOf, hpl, g0, hc1, hc2, sb, Value.cells] <;> rfl)) rfl <| Sa ag sm rfl <| Sa ag (zi (hv := by simp (disch := first | omega | simp only [nx]; omega) only [aIndexAddr, ty23, ty27, hpl, g0, hc1, hc2, sb, Value.cells, places, tb14] <;> rfl)) rfl <| Sa ag (zf (hv := fa_ok (k := 1) ty27 rfl rfl ty22 rfl rfl)) rfl <| Sa ag (zl (hv := (hr2 _ rfl).2 1 _ _ _ ty22 rfl rfl)) rfl <| St ag (zb (hv := bi_geq)) rfl (by simp [cl]) <| St ag Zp rfl rfl <| St rfl Zp rfl rfl <| Sn ?_
            refine Wy <| Wr <| Oa rfl za rfl <| On ?_
            refine CWp.ret <| BQ.ret <| SQ.ret <| LQ.ret <| BQ.ret <| NQ.ret <| SQ.ret <| FQ.ret (by simp only [aRet, Tryz.f14, aResults, aResult, lk, Nat.reduceEqDiff, reduceIte] <;> rfl) ?_
            exact ⟨bad _ (chk_d hy hx (by simp only [ltL]; exact decide_eq_false (by omega))) rfl, old⟩
          · refine W.seq <| Wr <| Oa rfl sm rfl <| Oa rfl (zf (hv := fa_ok (k := 4) ty25 rfl rfl ty23 rfl rfl)) rfl <| Oa rfl (zl (hv := by simp (disch := first | omega | simp only [nx]; omega) only [aLoad, ty23, rowOf, hpl, g0, hc1, hc2, sb, Value.cells] <;> rfl)) rfl <| Oa rfl (Zn (hv := by simp (disch := first | omega | simp only [nx]; omega) only [aLenOf, ty23, hpl, g0, hc1, hc2, sb, Value.cells, places, tb14] <;> rfl)) rfl <| Ot rfl (zb (hv := bi_lss)) rfl (by first | rfl | assumption | ((simp only [bl, g0, hc1, hc2, sb, Value.cells, places, tb14]) <;> first | done | assumption | omega) | (simp; done) | (simp; omega)) <| On ?_
            refine Wy <| CWp.skip <| SQ.normal ?_
            refine W.seq <| W.block <| Wd <| Sa rfl (zl (hv := by simp (disch := first | omega | simp only [nx]; omega) only [aLoad, ty25, rowOf, hpl, g0, hc1, hc2, sb, Value.cells] <;> rfl)) rfl <| Sa rfl (zf (hv := fa_ok (k := 4) ty25 rfl rfl ty23 rfl rfl)) rfl <| Sa rfl (zl (hv := by simp (disch := first | omega | simp only [nx]; omega) only [aLoad, ty23, rowOf, hpl, g0, hc1, hc2, sb, Value.cells] <;> rfl)) rfl <| Sa rfl sm rfl <| Sa rfl (zi (hv := by simp (disch := first | omega | simp only [nx]; omega) only [aIndexAddr, ty23, ty27, hpl, g0, hc1, hc2, sb, Value.cells, places, tb14] <;> rfl)) rfl <| Sa rfl (zl (hv := (hr2 _ rfl).1 _ _ ty27 rfl rfl)) rfl <| SqW.callD rfl (by simp only [aopnds, lk] <;> rfl) en42 (hrec _) rfl <| Sf rfl Zt rfl rfl <| Sf rfl sm rfl rfl <| Sa ag sm rfl <| St ag (zb (hv := bi_gtr)) rfl (by first | rfl | assumption | ((simp only [bl, g0, hc1, hc2, sb, Value.cells, places, tb14]) <;> first | done | assumption | omega) | (simp; done) | (simp; omega)) <| St ag sm rfl rfl <| Sa ag (zf (hv := fa_ok (k := 4) ty25 rfl rfl ty23 rfl rfl)) rfl <| Sa ag (zl (hv := by simp (disch := first | omega | simp only [nx]; omega) only [aLoad, ty23, rowOf, hpl, g0, hc1, hc2, sb, Value.cells] <;> rfl)) rfl <| Sa ag sm rfl <| Sa ag (zb (hv := bi_w bi_sub (by first | (simp only [w2, w3] <;> rfl) | rfl))) rfl <| Sa ag (zi (hv := by simp (disch := first | omega | simp only [nx]; omega) only [aIndexAddr, ty23, ty27, hpl, g0, hc1, hc2, sb, Value.cells, places, tb14] <;> rfl)) rfl <| Sa ag (zf (hv := fa_ok (k := 1) ty27 rfl rfl ty22 rfl rfl)) rfl <| Sa ag (zl (hv := (hr3 _ rfl).2 1 _ _ _ ty22 rfl rfl)) rfl <| Sa ag (zf (hv := fa_ok (k := 4) ty25 rfl rfl ty23 rfl rfl)) rfl <| Sa ag (zl (hv := by simp (disch := first | omega | simp only [nx]; omega) only [aLoad, ty23, rowOf, hpl, g0, hc1, hc2, sb, Value.cells] <;> rfl)) rfl <| Sa ag sm rfl <| Sa ag (zi (hv := by simp (disch := first | omega | simp only [nx]; omega) only [aIndexAddr, ty23, ty27, hpl, g0, hc1, hc2, sb, Value.cells, places, tb14] <;> rfl)) rfl <| Sa ag (zf (hv := fa_ok (k := 1) ty27 rfl rfl ty22 rfl rfl)) rfl <| Sa ag (zl (hv := (hr2 _ rfl).2 1 _ _ _ ty22 rfl rfl)) rfl <| Sf ag (zb (hv := bi_geq)) rfl (by simp [cl]) <| Sf ag Zp rfl rfl <| Sf rfl Zp rfl rfl <| Sn ?_
            refine Wn <| CWp.skip <| BQ.normal <| SQ.normal ?_
            refine W.reg <| Oa rfl sm rfl <| Oa rfl (zb (hv := bi_w bi_add (by first | (simp only [w2, w3] <;> rfl) | rfl))) rfl <| Oa rfl za rfl <| OSuf.nil <| ?_
            refine LQ.normal (m := m - 1) (L := [(1, P0 h.next), (4, I64 ((k + 1 + 1 : Nat) : Int))]) (by omega) ?_ ⟨k + 1 + 1, by omega, hf', fun j a b hj h1 h2 => ?_, rfl, rfl⟩
            · simp only [HasA, Tr.get_put, Nat.reduceEqDiff, reduceIte, w2, and_self]
            · by_cases e : j = k
              · subst e; rw [hy] at h1; rw [hx] at h2; cases h1; cases h2; simp only [ltL]; exact decide_eq_true (by omega)
              · exact hr j a b (by omega) h1 h2
    · refine W.seq <| Wr <| Oa rfl sm rfl <| Oa rfl (zf (hv := fa_ok (k := 4) ty25 rfl rfl ty23 rfl rfl)) rfl <| Oa rfl (zl (hv := by simp (disch := first | omega | simp only [nx]; omega) only [aLoad, ty23, rowOf, hpl, g0] <;> rfl)) rfl <| Oa rfl (Zn (hv := by simp (disch := first | omega | simp only [nx]; omega) only [aLenOf, ty23, hpl, g0] <;> rfl)) rfl <| Of rfl (zb (hv := bi_lss)) rfl (by first | rfl | assumption | ((simp only [bl, g0]) <;> first | done | assumption | omega) | (simp; done) | (simp; omega)) <| On ?_
      refine Wn <| CWp.exit <| SQ.exit <| LQ.exit <| BQ.exit <| ?_
      have hi : i = p.deltas.length := by omega
      refine NQ.normal (L := [(1, P0 h.next)]) ?_ ⟨fun x hx => ?_, risB_of fun j a b h1 h2 => hr j a b (by have := (List.getElem?_eq_some_iff.1 h2).1; omega) h1 h2, rfl, rfl⟩
      · simp only [HasA, Tr.get_put, Nat.reduceEqDiff, reduceIte, and_self]
      · obtain ⟨j, hj, rfl⟩ := List.mem_iff_getElem.1 hx
        exact hf j _ (by omega) (by simp [hj])
  rintro L a' h' ha ⟨kd, rd, rfl, rfl⟩
  refine SQ.normal <| CWp.known ha ?_
  simp only [mkA]
  refine Wr <| Oa rfl za rfl <| On ?_
  refine CWp.ret <| FQ.ret (by simp only [aRet, Tryz.f14, aResults, aResult, lk, Nat.reduceEqDiff, reduceIte] <;> rfl) ?_
  have hc : chk p = true := by
    simp only [chk]
    rw [decide_eq_true ⟨f1, f2, f3, f4, f5, f6⟩, rb, rd, List.all_eq_true.2 (fun x hx => by
      rcases List.mem_append.1 hx with hx | hx
      · exact kb x hx
      · exact kd x hx)]
    rfl
  exact ⟨by rw [if_pos hc], old⟩
end Go.Proofs.YtebheelmgcggmaaGreat
namespace Go.Proofs.YtebheelmgcggmaaGreat
open Go.Ab Go.Sort
def svRow : Value → Option Nat
  | .slice (some a) _ _ => some a.block
  | _ => none
inductive SV (h : AHeap) (sz lo : Nat) : List Value → Value → Prop
  | nil : SV h sz lo [] (.slice none 0 0)
  | some {y n : Nat} {vs : List Value} (hn : vs.length = n * sz) (hlo : lo ≤ y) (hy : y < h.next) (hg : h.get y = .some (.cells vs sz)) (hne : vs ≠ []) : SV h sz lo vs (.slice (.some ⟨y, 0, .none⟩) n 0)
theorem SV.mono {h h' : AHeap} {sz lo : Nat} {vs : List Value} {v : Value} (s : SV h sz lo vs v) (hn : h.next ≤ h'.next) (hk : ∀ z, z < h.next → svRow v = Option.some z → h'.get z = h.get z) : SV h' sz lo vs v := by
  cases s with
  | nil => exact .nil
  | some h1 h2 h3 h4 h5 => exact .some h1 h2 (by omega) (by rw [hk _ h3 rfl]; exact h4) h5
theorem aCells_part {h : AHeap} {r off n len size c : Nat} {vs new : List Value} (hr : rowOf h r = some vs) (hl : n ≤ len) (hc : cellsOf vs off (n * size) = some new) : aCells h size n (.slice (some ⟨r, off, none⟩) len c) = some new := by
  cases e1 : Nat.beq (n * size) 0 with
  | false => simp only [aCells, e1, cond_false, Nat.ble_eq_true_of_le hl, cond_true, hr, hc]
  | true =>
    have e2 := Nat.eq_of_beq_eq_true e1
    rw [e2] at hc
    have := (cellsOf_some hc).2.1
    simp only [List.take_zero] at this
    simp only [aCells, e1, cond_true, this]
theorem ap_any {h : AHeap} {sz lo k : Nat} {A B : List Value} {v x : Value} (s : SV h sz lo A v) (hl : aLen x = some k) (hx : aCells h sz k x = some B) (hB : B.length = k * sz) (hone : oneCells B = true) (hlen : vLen v + k ≤ 3000000) (hlo : lo ≤ h.next) (hsz : 0 < sz := by decide) :
    ∃ v' h', (∀ ats A', appT T ats = some A' → A'.size = sz → A'.bytes ≤ 100 → aAppend T ats v x h = some (v', h')) ∧ SV h' sz lo (A ++ B) v' ∧ h.next ≤ h'.next ∧ h'.next ≤ h.next + 1 ∧ (∀ z, z < h.next → ¬ svRow v = some z → h'.get z = h.get z) ∧ ((svRow v' = svRow v ∧ k = 0) ∨ svRow v' = some h.next) ∧ vLen v' = vLen v + k := by
  cases hk : Nat.beq k 0 with
  | true =>
    have e := Nat.eq_of_beq_eq_true hk
    subst e
    have e2 : B = [] := List.length_eq_zero_iff.1 (by rw [hB]; omega)
    subst e2
    refine ⟨v, h, fun ats A' h1 h2 h3 => ?_, by rw [List.append_nil]; exact s, Nat.le_refl _, by omega, fun _ _ _ => rfl, .inl ⟨rfl, rfl⟩, rfl⟩
    have hb : Nat.ble ((2 * (vLen v + 0) + 256) * A'.bytes) 281474976710656 = true := Nat.ble_eq_true_of_le (by
      have : (2 * (vLen v + 0) + 256) * A'.bytes ≤ 7000000 * 100 := Nat.mul_le_mul (by omega) h3
      omega)
    subst h2
    cases s <;> simp only [aAppend, h1, hl, hx, hb, cond_true, hk]
  | false =>
    have hk0 : 0 < k := by
      cases k with
      | zero => cases hk
      | succ k => omega
    have hBne : B ≠ [] := fun e => by
      rw [e] at hB
      have := Nat.mul_pos hk0 hsz
      simp at hB; omega
    cases s with
    | nil =>
      refine ⟨.slice (some ⟨h.next, 0, none⟩) k 0, h.new (.cells B sz), fun ats A' h1 h2 h3 => ?_, .some (by simpa using hB) hlo (by simp) (Gq) (by simpa using hBne), by simp, by simp, fun z hz _ => Gn (by omega), .inr rfl, by simp [vLen]⟩
      subst h2
      exact ap_0 h1 hl hx (by have : (2 * (0 + k) + 256) * A'.bytes ≤ 7000000 * 100 := Nat.mul_le_mul (by simp only [vLen] at hlen; omega) h3
                              omega) hk
    | @some y n _ h1 h2 h3 h4 =>
      have hc : cellsOf A 0 (n * sz) = .some A := cellsOf_all h1
      refine ⟨.slice (.some ⟨h.next, 0, .none⟩) (n + k) 0, (h.kill y).new (.cells (A ++ B) sz), fun ats A' g1 g2 g3 => ?_, .some (by rw [List.length_append, h1, hB, Nat.add_mul]) hlo (by simp only [nx]; omega) (AHeap.get_new_at (by simp only [nx]; omega)) (fun e => hBne (List.append_eq_nil_iff.1 e).2), by simp only [nx]; omega, by simp only [nx]; omega, fun z hz hne => ?_, .inr rfl, rfl⟩
      · subst g2
        exact ap_u g1 hl hx (by have : (2 * (n + k) + 256) * A'.bytes ≤ 7000000 * 100 := Nat.mul_le_mul (by simp only [vLen] at hlen; omega) g3
                                omega) hk h4 hone hc
      · have hzy : ¬ y = z := fun e => hne (by rw [← e]; rfl)
        simp (disch := first | omega | simp only [nx]; omega) only [hpl]
theorem SV.row {h : AHeap} {sz lo : Nat} {vs : List Value} {v : Value} {y : Nat} (s : SV h sz lo vs v) (hy : svRow v = Option.some y) : lo ≤ y ∧ y < h.next ∧ h.get y = Option.some (.cells vs sz) ∧ v = .slice (Option.some ⟨y, 0, Option.none⟩) (vLen v) 0 ∧ vs.length = vLen v * sz := by
  cases s with
  | nil => cases hy
  | some h1 h2 h3 h4 => cases hy; exact ⟨h2, h3, h4, rfl, h1⟩
theorem SV.form {h : AHeap} {sz lo : Nat} {vs : List Value} {v : Value} (s : SV h sz lo vs v) : ∃ b, v = .slice b (vLen v) 0 ∧ vs.length = vLen v * sz ∧ (vs ≠ [] → ∃ y, b = Option.some ⟨y, 0, Option.none⟩ ∧ svRow v = Option.some y ∧ lo ≤ y ∧ y < h.next ∧ h.get y = Option.some (.cells vs sz)) := by
  cases s with
  | nil => exact ⟨Option.none, rfl, by simp [vLen], fun h => (h rfl).elim⟩
  | some h1 h2 h3 h4 => exact ⟨_, rfl, h1, fun _ => ⟨_, rfl, rfl, h2, h3, h4⟩⟩
theorem SV.empty {h : AHeap} {sz lo : Nat} {vs : List Value} {v : Value} (s : SV h sz lo vs v) (e : vs = []) : v = .slice Option.none 0 0 := by
  cases s with
  | nil => rfl
  | some _ _ _ _ h5 => exact (h5 e).elim
theorem sv_rg {h : AHeap} {sz lo n : Nat} {vs : List Value} {v : Value} (s : SV h sz lo vs v) (hn : vs.length = n * sz) (h0 : 0 < sz) : RG h sz n vs v := by
  cases s with
  | nil =>
    have : n = 0 := by
      rcases Nat.mul_eq_zero.1 hn.symm with h | h
      · exact h
      · omega
    subst this
    exact ⟨_, _, rfl, .inl ⟨rfl, rfl, rfl⟩⟩
  | @some y m vs h1 h2 h3 h4 h5 =>
    have : m = n := Nat.eq_of_mul_eq_mul_right h0 (by rw [← h1, hn])
    subst this
    exact ⟨_, _, rfl, .inr ⟨_, _, rfl, fun _ => ⟨h3, _, by simp only [rowOf, h4], cellsOf_all hn⟩⟩⟩
theorem sv_rs {h : AHeap} {lo : Nat} {l : List Rec} {v : Value} (s : SV h 4 lo (fl l) v) : RS h l v := sv_rg s (fl_length l) (by omega)
theorem sv_ks {h : AHeap} {lo : Nat} {ks : List (List UInt8)} {v : Value} (s : SV h 1 lo (ks.map encS) v) : RG h 1 ks.length (ks.map encS) v := sv_rg s (by simp) (by omega)
theorem sv_hi {h : AHeap} {lo : Nat} {ks : List (List UInt8)} {v : Value} (s : SV h 1 lo (ks.map encS) v) {i : Nat} (hi : i ≤ ks.length) :
    ∃ x, (∀ t elem ti ei, T.get t = some ti → ti.und = .slice elem → T.get elem = some ei → ei.size = 1 → aSlice T t v none (some (I64 i)) none h = some x) ∧ aLen x = some i ∧ ∀ g : AHeap, (∀ z, svRow v = some z → g.get z = h.get z) → aCells g 1 i x = some ((ks.take i).map encS) := by
  generalize hvs : ks.map encS = vs at s
  cases s with
  | nil =>
    have : ks = [] := List.map_eq_nil_iff.1 hvs
    subst this
    have : i = 0 := by simpa using hi
    subst this
    exact ⟨_, fun t elem ti ei h1 h2 h3 _ => sl_0 (x := (0, 0, 0)) h1 h2 h3 rfl, rfl, fun _ _ => rfl⟩
  | @some y n vs h1 h2 h3 h4 h5 =>
    subst hvs
    have hn : n = ks.length := by simpa using h1.symm
    subst hn
    refine ⟨.slice (.some ⟨y, 0 + 0 * 1, none⟩) (i - 0) 0, fun t elem ti ei g1 g2 g3 g4 => by rw [← g4]; exact sl_u g1 g2 g3 (bounds_hi hi) (by rw [g4]; exact h4), rfl, fun g hg => ?_⟩
    have e : rowOf g y = .some (ks.map encS) := by simp only [rowOf, hg y rfl, h4]
    refine aCells_part e (by omega) ?_
    rw [cellsOf_mk (by simp; omega)]
    simp
theorem sv_lo {h : AHeap} {lo : Nat} {ks : List (List UInt8)} {v : Value} (s : SV h 1 lo (ks.map encS) v) {i : Nat} (hi : i ≤ ks.length) :
    ∃ x, (∀ t elem ti ei, T.get t = some ti → ti.und = .slice elem → T.get elem = some ei → ei.size = 1 → aSlice T t v (some (I64 i)) none none h = some x) ∧ aLen x = some (ks.length - i) ∧ ∀ g : AHeap, (∀ z, svRow v = some z → g.get z = h.get z) → aCells g 1 (ks.length - i) x = some ((ks.drop i).map encS) := by
  generalize hvs : ks.map encS = vs at s
  cases s with
  | nil =>
    have : ks = [] := List.map_eq_nil_iff.1 hvs
    subst this
    have : i = 0 := by simpa using hi
    subst this
    exact ⟨_, fun t elem ti ei h1 h2 h3 _ => sl_0 (x := (0, 0, 0)) h1 h2 h3 rfl, rfl, fun _ _ => rfl⟩
  | @some y n vs h1 h2 h3 h4 h5 =>
    subst hvs
    have hn : n = ks.length := by simpa using h1.symm
    subst hn
    refine ⟨.slice (.some ⟨y, 0 + i * 1, none⟩) (ks.length - i) 0, fun t elem ti ei g1 g2 g3 g4 => by rw [← g4]; exact sl_u g1 g2 g3 (bounds_lo hi) (by rw [g4]; exact h4), rfl, fun g hg => ?_⟩
    have e : rowOf g y = .some (ks.map encS) := by simp only [rowOf, hg y rfl, h4]
    refine aCells_part e (by omega) ?_
    rw [cellsOf_mk (by simp; omega)]
    simp [List.map_drop, List.take_of_length_le]
theorem insK_at {k : List UInt8} : ∀ {ks : List (List UInt8)} {i : Nat}, (∀ j x, j < i → ks[j]? = some x → ltStr x k = true) → i ≤ ks.length → (∀ x, ks[i]? = some x → ltStr x k = false ∧ x ≠ k) → insK k ks = ks.take i ++ k :: ks.drop i
  | [], i, _, hi, _ => by
    have : i = 0 := by simpa using hi
    subst this; rfl
  | a :: l, 0, _, _, h2 => by
    obtain ⟨h3, h4⟩ := h2 a rfl
    simp only [insK, h3, if_neg h4, Bool.false_eq_true, if_false]; rfl
  | a :: l, i + 1, h1, hi, h2 => by
    have h3 := h1 0 a (by omega) rfl
    have ih := insK_at (k := k) (ks := l) (i := i) (fun j x hj hx => h1 (j + 1) x (by omega) (by simpa using hx)) (by simpa using hi) (fun x hx => h2 x (by simpa using hx))
    simp only [insK, h3, if_true, ih]; rfl
theorem insK_same {k : List UInt8} : ∀ {ks : List (List UInt8)} {i : Nat}, (∀ j x, j < i → ks[j]? = some x → ltStr x k = true) → ks[i]? = some k → insK k ks = ks
  | [], i, _, h => by simp at h
  | a :: l, 0, _, h => by
    have : a = k := by simpa using h
    subst this
    simp only [insK, swo_ltStr.irrefl, Bool.false_eq_true, if_false, if_true]
  | a :: l, i + 1, h1, h => by
    have h3 := h1 0 a (by omega) rfl
    have ih := insK_same (k := k) (ks := l) (i := i) (fun j x hj hx => h1 (j + 1) x (by omega) (by simpa using hx)) (by simpa using h)
    simp only [insK, h3, if_true, ih]
theorem keysL_take {l : List Rec} {i : Nat} {x : Rec} (hx : l[i]? = some x) : keysL (l.take (i + 1)) = insK x.key (keysL (l.take i)) := by
  rw [List.take_add_one, hx]
  simp [keysL, List.foldl_append]
theorem insK_length (k : List UInt8) : ∀ ks : List (List UInt8), (insK k ks).length ≤ ks.length + 1
  | [] => by simp [insK]
  | a :: l => by
    have := insK_length k l
    simp only [insK]
    split
    · simp only [List.length_cons]; omega
    · split <;> simp
theorem keysL_length (l : List Rec) : ∀ i, (keysL (l.take i)).length ≤ i
  | 0 => by simp [keysL]
  | i + 1 => by
    have ih := keysL_length l i
    cases hx : l[i]? with
    | none => rw [List.take_add_one, hx]; simp only [Option.toList, List.append_nil]; omega
    | some x => rw [keysL_take hx]; have := insK_length x.key (keysL (l.take i)); omega
def rval (h : AHeap) (l : List Rec) : Value := if l = [] then .slice none 0 0 else .slice (some ⟨h.next, 0, none⟩) l.length 0
def rheap (h : AHeap) (l : List Rec) : AHeap := if l = [] then h else h.new (.cells (fl l) 4)
theorem rheap_next (h : AHeap) (l : List Rec) : h.next ≤ (rheap h l).next ∧ (rheap h l).next ≤ h.next + 1 := by
  simp only [rheap]; split <;> simp
theorem rheap_old (h : AHeap) (l : List Rec) (z : Nat) (hz : z < h.next) : (rheap h l).get z = h.get z := by
  simp only [rheap]; split
  · rfl
  · exact Gn (by omega)
theorem fl_nil {l : List Rec} : fl l = [] ↔ l = [] := by
  cases l with
  | nil => simp [fl]
  | cons x l => simp [fl, Rec.cs]
theorem rval_sv (h : AHeap) (l : List Rec) : SV (rheap h l) 4 h.next (fl l) (rval h l) := by
  simp only [rheap, rval]
  by_cases e : l = []
  · rw [if_pos e, if_pos e, e]; exact .nil
  · rw [if_neg e, if_neg e]
    exact .some (fl_length l) (Nat.le_refl _) (by simp) (Gq) (fun h => e (fl_nil.1 h))
theorem recs0_c (h : AHeap) (l : List Rec) (v : Value) (hs : RS h l v) (hl : l.length ≤ 1000000) : FWp Tryz.prog 44 [v] h fun u h' => u = rval h l ∧ h' = rheap h l := by
  obtain ⟨b, c, rfl⟩ := hs.form
  have hx := hs.cells (g := h) fun _ _ => rfl
  refine W.enter tyOK Tryz.func44 rfl rfl ?_
  simp only [entry, rval, rheap]
  by_cases e : l = []
  · rw [if_pos e, if_pos e]
    subst e
    refine Wr <| Oa rfl za rfl <| On ?_
    refine Wr <| Oa rfl za rfl <| On ?_
    refine Wr <| Oa rfl sm rfl <| Oa rfl sm rfl <| Oa rfl (so_append (by simp only [aopnds, lk] <;> rfl) (ap_none (by simp only [appT, ty23, ty27] <;> rfl) rfl hx (.inl rfl) (by decide))) rfl <| Oa rfl za rfl <| On ?_
    refine CWp.ret <| FQ.ret (by simp only [aRet, Tryz.f44, aResults, aResult, lk, Nat.reduceEqDiff, reduceIte] <;> rfl) ?_
    exact ⟨rfl, rfl⟩
  · rw [if_neg e, if_neg e]
    have nb : Nat.beq l.length 0 = false := by
      cases l with
      | nil => exact (e rfl).elim
      | cons _ _ => rfl
    refine Wr <| Oa rfl za rfl <| On ?_
    refine Wr <| Oa rfl za rfl <| On ?_
    refine Wr <| Oa rfl sm rfl <| Oa rfl sm rfl <| Oa rfl (so_append (by simp only [aopnds, lk] <;> rfl) (ap_0 (by simp only [appT, ty23, ty27] <;> rfl) rfl hx (by show (2 * (0 + l.length) + 256) * 48 ≤ _; omega) nb)) rfl <| Oa rfl za rfl <| On ?_
    refine CWp.ret <| FQ.ret (by simp only [aRet, Tryz.f44, aResults, aResult, lk, Nat.reduceEqDiff, reduceIte] <;> rfl) ?_
    exact ⟨rfl, rfl⟩
end Go.Proofs.YtebheelmgcggmaaGreat
namespace Go.Proofs.YtebheelmgcggmaaGreat
open Go.Ab Go.Sort
theorem ones_s : ∀ ks : List (List UInt8), oneCells (ks.map encS) = true
  | [] => rfl
  | _ :: l => by
    have := ones_s l
    simp only [oneCells, List.map_cons, List.all_cons, Bool.and_eq_true] at this ⊢
    exact ⟨rfl, this⟩
theorem keys0_c (h : AHeap) (p : Lf) (bv dv : Value) (hb : RS h p.base bv) (hd : RS h p.deltas dv) (hlb : p.base.length ≤ 1000000) (hld : p.deltas.length ≤ 1000000) (lb : LB p) :
    FWp Tryz.prog 18 [LV p bv dv] h fun u g => u = kval h (keysM p) ∧ g = kheap h (keysM p) := by
  have tb18 := And.intro ty23 (And.intro ty25 (And.intro ty27 (And.intro ty37 (ty9))))
  obtain ⟨b1, c1, rfl⟩ := hb.form
  obtain ⟨b2, c2, rfl⟩ := hd.form
  refine gcK _ ?_
  obtain ⟨H1, hH1⟩ : ∃ H1, H1 = h.new (.cells (lcs p (.slice b1 p.base.length c1) (.slice b2 p.deltas.length c2)) 1) := ⟨_, rfl⟩
  have n1 : H1.next = h.next + 1 := by rw [hH1]; rfl
  have k1 : ∀ z, z < h.next → H1.get z = h.get z := fun z hz => by rw [hH1]; exact Gn (by omega)
  have g1 : H1.get h.next = some (.cells (lcs p (.slice b1 p.base.length c1) (.slice b2 p.deltas.length c2)) 1) := by rw [hH1]; exact Gq
  have hck := check0_c H1 p _ _ (hb.mono (by omega) k1) (hd.mono (by omega) k1) hlb hld lb
  cases f1 : chk p with
  | false =>
    rw [if_neg (by rw [f1]; decide)] at hck
    refine W.enter tyOK Tryz.func18 rfl rfl ?_
    simp only [entry]
    refine Wr <| Oa rfl Zx rfl <| Oa rfl za rfl <| On ?_
    refine Wr <| Oa rfl za rfl <| On ?_
    refine W.seq <| Wr <| Oa rfl (zl (hv := by simp (disch := first | omega | simp only [nx]; omega) only [aLoad, ty25, rowOf, hpl, Value.cells] <;> rfl)) rfl <| OSuf.callD rfl (by simp only [aopnds, lk] <;> rfl) en14 ((by rw [hH1] at hck; exact hck)) rfl <| Ot rfl (zb (hv := bi_neq)) rfl (rfl) <| On ?_
    refine Wy <| Wr <| Oa rfl sm rfl <| Oa rfl za rfl <| On ?_
    refine CWp.ret <| SQ.ret <| FQ.ret (by simp only [aRet, Tryz.f18, aResults, aResult, lk, Nat.reduceEqDiff, reduceIte] <;> rfl) ?_
    exact ⟨fun z hz => by simp (disch := first | omega | simp only [nx]; omega) only [hpl], .inl ⟨by simp [keysM, f1], rfl⟩⟩
  | true =>
    rw [if_pos f1] at hck
    have ek : keysM p = keysL p.all := by simp [keysM, f1]
    have hr := recs0_c H1 p.base _ (hb.mono (by omega) k1) hlb
    obtain ⟨H2, hH2⟩ : ∃ H2, H2 = rheap H1 p.base := ⟨_, rfl⟩
    have n2 := rheap_next H1 p.base
    have k2 : ∀ z, z < H1.next → H2.get z = H1.get z := fun z hz => by rw [hH2]; exact rheap_old _ _ z hz
    have sv1 := rval_sv H1 p.base
    rw [← hH2] at hr n2 sv1
    have hx : aCells H2 4 p.deltas.length (.slice b2 p.deltas.length c2) = some (fl p.deltas) := hd.cells fun z hz => by rw [k2 z (by omega), k1 z hz]
    have hvl : vLen (rval H1 p.base) = p.base.length := by
      simp only [rval]; split
      · rename_i e; rw [e]; rfl
      · rfl
    obtain ⟨va, H3, ap1, sv2, n3, n3', k3, hrow, hvl2⟩ := ap_any sv1 (x := .slice b2 p.deltas.length c2) rfl hx (fl_length _) (fl_ones _) (by rw [hvl]; omega) (by omega)
    have hall : fl p.base ++ fl p.deltas = fl p.all := by rw [Lf.all, fl_app]
    rw [hall] at sv2
    have hlen : p.all.length = p.base.length + p.deltas.length := by rw [Lf.all, List.length_append]
    obtain ⟨ba, eva, _, _⟩ := sv2.form
    have hvn : vLen va = p.all.length := by rw [hvl2, hvl, hlen]
    rw [hvn] at eva
    subst eva
    have g2 : H2.get h.next = some (.cells (lcs p (.slice b1 p.base.length c1) (.slice b2 p.deltas.length c2)) 1) := by rw [k2 _ (by omega)]; exact g1
    have old3 : ∀ z, z < h.next → H3.get z = h.get z := fun z hz => by
      rw [k3 z (by omega) (fun e => by have := sv1.row e; omega), k2 z (by omega), k1 z hz]
    rw [hH1] at hck hr ap1
    refine W.enter tyOK Tryz.func18 rfl rfl ?_
    simp only [entry]
    refine Wr <| Oa rfl Zx rfl <| Oa rfl za rfl <| On ?_
    refine Wr <| Oa rfl za rfl <| On ?_
    refine W.seq <| Wr <| Oa rfl (zl (hv := by simp (disch := first | omega | simp only [nx]; omega) only [aLoad, ty25, rowOf, hpl, g2, Value.cells] <;> rfl)) rfl <| OSuf.callD rfl (by simp only [aopnds, lk] <;> rfl) en14 (hck) rfl <| Of rfl (zb (hv := bi_neq)) rfl (rfl) <| On ?_
    refine Wn <| CWp.skip <| SQ.normal ?_
    refine W.seq <| CWp.sqd tyOK mixed (ms := [0, 1, 3, 0, 8, 31, 63]) (by kernel_rfl) (
        .free rfl rfl (zf (hv := fa_ok (k := 3) ty25 rfl rfl ty23 rfl rfl)) rfl <| .read rfl rfl (zl (hv := by simp (disch := first | omega | simp only [nx]; omega) only [aLoad, ty23, rowOf, hpl, g2, Value.cells] <;> rfl)) (by first | rfl | (simp [veq, veq1, veqs]; done) | (simp [veq, veq1, veqs, splice]; done)) trivial rfl <| .call rfl rfl (fcallO (by simp only [aopnds, lk] <;> rfl) en44 (hr)) rfl ⟨.inl rfl, trivial⟩ rfl <| .free rfl rfl (zf (hv := fa_ok (k := 4) ty25 rfl rfl ty23 rfl rfl)) rfl <| .read rfl rfl (zl (hv := by simp (disch := first | omega | simp only [nx]; omega) only [aLoad, ty23, rowOf, hpl, g2, Value.cells] <;> rfl)) (by first | rfl | (simp [veq, veq1, veqs]; done) | (simp [veq, veq1, veqs, splice]; done)) ⟨.inr (zl (hv := by simp (disch := first | omega | simp only [nx]; omega) only [aLoad, ty23, rowOf, hpl, g2, Value.cells] <;> rfl)), trivial⟩ rfl <| .change rfl rfl (so_append (by simp only [aopnds, lk] <;> rfl) (ap1 _ _ (by simp only [appT, ty23, ty27] <;> rfl) rfl (by decide))) rfl ⟨.inl rfl, .inl rfl, trivial⟩ rfl <| .free rfl rfl za rfl <| .nil) <| SQ.normal ?_
    refine W.seq <| Wr <| Oa rfl za rfl <| On ?_
    refine W.cut (fun L g => (∀ z, z < h.next → g.get z = h.get z) ∧ ∃ vo, SV g 1 H3.next ((keysL p.all).map encS) vo ∧ L = [(3, vo)]) (W.block (W.loop (fun m L g => ∃ (i : Nat) (vo : Value), m + i = p.all.length ∧ H3.next ≤ g.next ∧ (∀ z, z < H3.next → g.get z = H3.get z) ∧ SV g 1 H3.next ((keysL (p.all.take i)).map encS) vo ∧ L = [(3, vo), (4, .slice ba p.all.length 0), (5, I64 i)]) (n := p.all.length) ⟨0, .slice none 0 0, rfl, Nat.le_refl _, fun _ _ => rfl, .nil, rfl⟩ ?_ ?_)) ?_
    · simp [HasA, Tr.get_put]
    · rintro m L g ⟨i, vo, hm, gn, gk, svo, rfl⟩
      simp only [mkA]
      have w2 : IntKind.i64.wrap ((i : Int) + 1) = ((i + 1 : Nat) : Int) := by rw [wrap_i64 (by omega) (by omega)]; omega
      by_cases hk : (i : Int) < (p.all.length : Int)
      · obtain ⟨x, hx⟩ : ∃ x, p.all[i]? = some x := ⟨p.all[i]'(by omega), by simp⟩
        have hkx := (lb.ky x (List.mem_of_getElem? hx)).1
        have sva := sv_rs sv2
        obtain ⟨_, r, off, rfl, hr1, hr2⟩ := RS.at_ sva hx
        have hc1 : (0 ≤ (i : Int) ∧ (i : Int) < (p.all.length : Int)) := by omega
        obtain ⟨ks, hks⟩ : ∃ ks, ks = keysL (p.all.take i) := ⟨_, rfl⟩
        have hkl : ks.length ≤ i := by rw [hks]; exact keysL_length _ _
        rw [← hks] at svo
        have hkk : ∀ k ∈ ks, SL k := fun k hk' => by
          rw [hks] at hk'
          obtain ⟨y, hy, rfl⟩ := mem_keysL.1 hk'
          exact (lb.ky y (List.mem_of_mem_take hy)).1
        obtain ⟨bo, evo, hvo, hrow2⟩ := svo.form
        have hvo2 : vLen vo = ks.length := by simpa using hvo.symm
        rw [hvo2] at evo
        have rgo := sv_ks svo
        subst evo
        refine W.seq <| Wr <| Oa rfl sm rfl <| Oa rfl sm rfl <| Oa rfl (Zn (hv := by simp (disch := first | omega | simp only [nx]; omega) only [aLenOf, ty23, hpl] <;> rfl)) rfl <| Otb rfl (zb (hv := bi_lss)) rfl <| On ?_
        refine Wy <| CWp.skip <| SQ.normal ?_
        refine W.seq <| W.block <| Wr <| Oa rfl za rfl <| On ?_
        refine W.seq <| ?_
        obtain ⟨y0, ey0⟩ : ∃ key, key = x.key := ⟨_, rfl⟩
        have svh := fun (j : Nat) (hj : j < ks.length) => hrow2 (fun e => by rw [List.map_eq_nil_iff.1 e] at hj; simp at hj)
        have ldk : ∀ G : AHeap, G.get r = g.get r → ∀ t ti, T.get t = some ti → ti.agg = false → aLoad T t (PA r (off + i * 4)) G = some (encS x.key) := fun G hG t ti ht ha => by
          have := (hr2 G (by rw [hG, gk r hr1])).2 0 t ti (encS x.key) ht ha rfl
          simpa using this
        refine W.cut (fun L g' => ∃ j : Nat, j ≤ ks.length ∧ (∀ q z, q < j → ks[q]? = some z → ltStr z x.key = true) ∧ (∀ z, ks[j]? = some z → ltStr z x.key = false) ∧ g = g' ∧ L = [(3, .slice bo ks.length 0), (4, .slice (some ⟨r, off, none⟩) p.all.length 0), (5, I64 i), (6, I64 j)]) (W.block (W.loop (fun m L g' => ∃ j : Nat, m + j = ks.length ∧ (∀ q z, q < j → ks[q]? = some z → ltStr z x.key = true) ∧ g = g' ∧ L = [(3, .slice bo ks.length 0), (4, .slice (some ⟨r, off, none⟩) p.all.length 0), (5, I64 i), (6, I64 j)]) (n := ks.length) ⟨0, rfl, by omega, rfl, rfl⟩ ?_ ?_)) ?_
        · simp [HasA, Tr.get_put]
        · rintro m2 L2 g' ⟨j, hm2, hlt, rfl, rfl⟩
          simp only [mkA]
          have w3 : IntKind.i64.wrap ((j : Int) + 1) = ((j + 1 : Nat) : Int) := by rw [wrap_i64 (by omega) (by omega)]; omega
          by_cases hj : (j : Int) < (ks.length : Int)
          · obtain ⟨z, hz⟩ : ∃ z, ks[j]? = some z := ⟨ks[j]'(by omega), by simp⟩
            have hc2 : (0 ≤ (j : Int) ∧ (j : Int) < (ks.length : Int)) := by omega
            obtain ⟨_, ro, oo, rfl, ho1, ho2⟩ := RG.at_ rgo (i := j) (by omega)
            have ldo : ∀ G : AHeap, G.get ro = g.get ro → ∀ t ti, T.get t = some ti → ti.agg = false → aLoad T t (PA ro (oo + j)) G = some (encS z) := fun G hG t ti ht ha => by
              have := (ho2 G hG).2 0 t ti (encS z) ht ha (by simp [hz])
              simpa using this
            have hl := fun G : AHeap => less_c G z x.key (hkk z (List.mem_of_getElem? hz)) hkx
            cases cl : ltStr z x.key with
            | true =>
              rw [cl] at hl
              refine W.seq <| Wd <| Sa rfl sm rfl <| Sa rfl sm rfl <| Sa rfl (Zn (hv := by simp (disch := first | omega | simp only [nx]; omega) only [aLenOf, ty37, hpl, hc1, hc2, sb, Value.cells, places, tb18] <;> rfl)) rfl <| St rfl (zb (hv := bi_lss)) rfl (by first | rfl | assumption | ((simp only [bl, hc1, hc2, sb, Value.cells, places, tb18]) <;> first | done | assumption | omega) | (simp; done) | (simp; omega)) <| St rfl sm rfl rfl <| Sa ag sm rfl <| Sa ag sm rfl <| Sa ag (zi (hv := by simp (disch := first | omega | simp only [nx]; omega) only [aIndexAddr, ty37, ty9, hpl, hc1, hc2, sb, Value.cells, places, tb18] <;> rfl)) rfl <| Sa ag (zl (hv := ldo _ rfl _ _ ty9 rfl)) rfl <| Sa ag sm rfl <| Sa ag sm rfl <| Sa ag (zi (hv := by simp (disch := first | omega | simp only [nx]; omega) only [aIndexAddr, ty23, ty27, hpl, hc1, hc2, sb, Value.cells, places, tb18] <;> rfl)) rfl <| Sa ag (zf (hv := fa_ok (k := 0) ty27 rfl rfl ty9 rfl rfl)) rfl <| Sa ag (zl (hv := ldk _ rfl _ _ ty9 rfl)) rfl <| SqW.callD ag (by simp only [aopnds, lk] <;> rfl) en49 (hl _) rfl <| St rfl Zp rfl rfl <| Sn ?_
              refine Wy <| CWp.skip <| SQ.normal ?_
              refine W.block <| W.reg <| Oa rfl sm rfl <| Oa rfl (zb (hv := bi_w bi_add (by first | (simp only [w3] <;> rfl) | rfl))) rfl <| Oa rfl za rfl <| OSuf.nil <| BQ.normal <| ?_
              refine LQ.normal (m := m2 - 1) (L := [(3, .slice (some ⟨ro, oo, none⟩) ks.length 0), (4, .slice (some ⟨r, off, none⟩) p.all.length 0), (5, I64 i), (6, I64 ((j + 1 : Nat) : Int))]) (by omega) ?_ ⟨j + 1, by omega, fun q u hq hu => ?_, rfl, rfl⟩
              · simp only [HasA, Tr.get_put, Nat.reduceEqDiff, reduceIte, w3, and_self]
              · by_cases e : q = j
                · subst e; rw [hz] at hu; cases hu; exact cl
                · exact hlt q u (by omega) hu
            | false =>
              rw [cl] at hl
              refine W.seq <| Wd <| Sa rfl sm rfl <| Sa rfl sm rfl <| Sa rfl (Zn (hv := by simp (disch := first | omega | simp only [nx]; omega) only [aLenOf, ty37, hpl, hc1, hc2, sb, Value.cells, places, tb18] <;> rfl)) rfl <| St rfl (zb (hv := bi_lss)) rfl (by first | rfl | assumption | ((simp only [bl, hc1, hc2, sb, Value.cells, places, tb18]) <;> first | done | assumption | omega) | (simp; done) | (simp; omega)) <| St rfl sm rfl rfl <| Sa ag sm rfl <| Sa ag sm rfl <| Sa ag (zi (hv := by simp (disch := first | omega | simp only [nx]; omega) only [aIndexAddr, ty37, ty9, hpl, hc1, hc2, sb, Value.cells, places, tb18] <;> rfl)) rfl <| Sa ag (zl (hv := ldo _ rfl _ _ ty9 rfl)) rfl <| Sa ag sm rfl <| Sa ag sm rfl <| Sa ag (zi (hv := by simp (disch := first | omega | simp only [nx]; omega) only [aIndexAddr, ty23, ty27, hpl, hc1, hc2, sb, Value.cells, places, tb18] <;> rfl)) rfl <| Sa ag (zf (hv := fa_ok (k := 0) ty27 rfl rfl ty9 rfl rfl)) rfl <| Sa ag (zl (hv := ldk _ rfl _ _ ty9 rfl)) rfl <| SqW.callD ag (by simp only [aopnds, lk] <;> rfl) en49 (hl _) rfl <| Sf rfl Zp rfl rfl <| Sn ?_
              refine Wn <| CWp.exit <| SQ.exit <| LQ.exit <| BQ.exit <| ?_
              refine NQ.normal (L := [(3, .slice (some ⟨ro, oo, none⟩) ks.length 0), (4, .slice (some ⟨r, off, none⟩) p.all.length 0), (5, I64 i), (6, I64 j)]) ?_ ⟨j, by omega, hlt, fun u hu => by rw [hz] at hu; cases hu; exact cl, rfl, rfl⟩
              simp only [HasA, Tr.get_put, Nat.reduceEqDiff, reduceIte, and_self]
          · refine W.seq <| Wd <| Sa rfl sm rfl <| Sa rfl sm rfl <| Sa rfl (Zn (hv := by simp (disch := first | omega | simp only [nx]; omega) only [aLenOf, ty37, hpl] <;> rfl)) rfl <| Sf rfl (zb (hv := bi_lss)) rfl (by first | rfl | assumption | ((simp only [bl]) <;> first | done | assumption | omega) | (simp; done) | (simp; omega)) <| Sf rfl sm rfl rfl <| Pb ag rfl <| Pb ag rfl <| Pb ag rfl <| Pb ag rfl <| Pb ag rfl <| Pb ag rfl <| Pb ag rfl <| Pb ag rfl <| Pb ag rfl <| Pb ag rfl <| Sf rfl Zp rfl rfl <| Sn ?_
            refine Wn <| CWp.exit <| SQ.exit <| LQ.exit <| BQ.exit <| ?_
            refine NQ.normal (L := [(3, .slice bo ks.length 0), (4, .slice (some ⟨r, off, none⟩) p.all.length 0), (5, I64 i), (6, I64 j)]) ?_ ⟨j, by omega, hlt, fun u hu => by have := (List.getElem?_eq_some_iff.1 hu).1; omega, rfl, rfl⟩
            simp only [HasA, Tr.get_put, Nat.reduceEqDiff, reduceIte, and_self]
        rintro L2 a2 g' ha ⟨j, hj, hlt, hge, rfl, rfl⟩
        have hks' : keysL (p.all.take (i + 1)) = insK x.key ks := by rw [keysL_take hx, ← hks]
        have again : ks[j]? = some x.key → keysL (p.all.take (i + 1)) = ks := fun h9 => by rw [hks', insK_same hlt h9]
        have more : ks[j]? ≠ some x.key → keysL (p.all.take (i + 1)) = ks.take j ++ x.key :: ks.drop j := fun h9 => by
          rw [hks', insK_at hlt hj (fun z hz => ⟨hge z hz, fun e => h9 (by rw [hz, e])⟩)]
        by_cases hjn : (j : Int) < (ks.length : Int)
        · obtain ⟨z0, hz0⟩ : ∃ z, ks[j]? = some z := ⟨ks[j]'(by omega), by simp⟩
          have hc2 : (0 ≤ (j : Int) ∧ (j : Int) < (ks.length : Int)) := by omega
          obtain ⟨_, ro, oo, rfl, ho1, ho2⟩ := RG.at_ rgo (i := j) (by omega)
          have ldo : ∀ G : AHeap, G.get ro = g.get ro → ∀ t ti, T.get t = some ti → ti.agg = false → aLoad T t (PA ro (oo + j)) G = some (encS z0) := fun G hG t ti ht ha => by
            have := (ho2 G hG).2 0 t ti (encS z0) ht ha (by simp [hz0])
            simpa using this
          by_cases hzk : z0 = x.key
          · subst hzk
            refine SQ.normal <| CWp.known ha ?_
            simp only [mkA]
            refine W.seq <| Wd <| Sa rfl sm rfl <| Sa rfl sm rfl <| Sa rfl (Zn (hv := by simp (disch := first | omega | simp only [nx]; omega) only [aLenOf, ty37, hpl, hc1, hc2, sb, Value.cells, places, tb18] <;> rfl)) rfl <| St rfl (zb (hv := bi_lss)) rfl (by first | rfl | assumption | ((simp only [bl, hc1, hc2, sb, Value.cells, places, tb18]) <;> first | done | assumption | omega) | (simp; done) | (simp; omega)) <| St rfl sm rfl rfl <| Sa ag sm rfl <| Sa ag sm rfl <| Sa ag (zi (hv := by simp (disch := first | omega | simp only [nx]; omega) only [aIndexAddr, ty37, ty9, hpl, hc1, hc2, sb, Value.cells, places, tb18] <;> rfl)) rfl <| Sa ag (zl (hv := ldo _ rfl _ _ ty9 rfl)) rfl <| Sa ag sm rfl <| Sa ag sm rfl <| Sa ag (zi (hv := by simp (disch := first | omega | simp only [nx]; omega) only [aIndexAddr, ty23, ty27, hpl, hc1, hc2, sb, Value.cells, places, tb18] <;> rfl)) rfl <| Sa ag (zf (hv := fa_ok (k := 0) ty27 rfl rfl ty9 rfl rfl)) rfl <| Sa ag (zl (hv := ldk _ rfl _ _ ty9 rfl)) rfl <| St ag (zb (hv := bs_eql)) rfl (by simp [sst]) <| St rfl Zp rfl rfl <| Sn ?_
            refine Wy <| CWp.exit <| SQ.exit <| BQ.exit <| SQ.normal ?_
            refine W.reg <| Oa rfl sm rfl <| Oa rfl (zb (hv := bi_w bi_add (by first | (simp only [w2] <;> rfl) | rfl))) rfl <| Oa rfl za rfl <| OSuf.nil <| ?_
            refine LQ.normal (m := m - 1) (L := [(3, .slice (some ⟨ro, oo, none⟩) ks.length 0), (4, .slice (some ⟨r, off, none⟩) p.all.length 0), (5, I64 ((i + 1 : Nat) : Int))]) (by omega) ?_ ⟨i + 1, _, by omega, gn, gk, by rw [again hz0]; exact svo, rfl⟩
            simp only [HasA, Tr.get_put, Nat.reduceEqDiff, reduceIte, w2, and_self]
          · have h9 : ks[j]? ≠ some x.key := fun e => by rw [hz0] at e; cases e; exact hzk rfl
            obtain ⟨x1, s1, e1l, e1⟩ := sv_hi svo hj
            obtain ⟨v1, G1, ap1, sw1, m1, m1', kk1, rw1, vl1⟩ := ap_any (h := g) (sz := 1) (lo := H3.next) (A := []) .nil e1l (e1 g (fun _ _ => rfl)) (by simp; omega) (ones_s _) (by simp only [vLen]; omega) gn
            have z1 : ∀ z, z < g.next → G1.get z = g.get z := fun z hz => kk1 z hz (by simp [svRow])
            have nv1 : ∀ z, z < g.next → ¬ svRow v1 = some z := fun z hz e => by
              rcases rw1 with ⟨h8, _⟩ | h8
              · rw [h8] at e; cases e
              · rw [h8] at e; cases e; omega
            obtain ⟨v2, G2, ap2, sw2, m2, m2', kk2, rw2, vl2⟩ := ap_any (h := G1.new (.cells [encS x.key] 1)) (sz := 1) (lo := H3.next) (k := 1) (x := .slice (some ⟨G1.next, 0, none⟩) 1 2) (B := [encS x.key]) (sw1.mono (by simp) (fun z hz _ => Gn (by omega))) rfl (aCells_part (vs := [encS x.key]) (by simp only [rowOf, AHeap.get_new_same]) (Nat.le_refl _) rfl) rfl rfl (by rw [vl1]; simp only [vLen]; omega) (by simp only [nx]; omega)
            simp only [nx] at m2 m2'
            have z2 : ∀ z, z < g.next → G2.get z = g.get z := fun z hz => by rw [kk2 z (by simp only [nx]; omega) (nv1 z hz), Gn (by omega), z1 z hz]
            have nv2 : ∀ z, z < g.next → ¬ svRow v2 = some z := fun z hz e => by
              rcases rw2 with ⟨h8, h9⟩ | h8
              · omega
              · rw [h8] at e; simp only [nx] at e; cases e; omega
            obtain ⟨x3, s3, e3l, e3⟩ := sv_lo (svo.mono (h' := G2) (by omega) (fun z hz _ => z2 z hz)) hj
            obtain ⟨v3, G3, ap3, sw3, m3, m3', kk3, rw3, vl3⟩ := ap_any sw2 e3l (e3 G2 (fun _ _ => rfl)) (by simp) (ones_s _) (by rw [vl2, vl1]; simp only [vLen]; omega) (by omega)
            have z3 : ∀ z, z < g.next → G3.get z = g.get z := fun z hz => by rw [kk3 z (by omega) (nv2 z hz), z2 z hz]
            have hfin : ([] ++ (ks.take j).map encS ++ [encS x.key] ++ (ks.drop j).map encS) = (keysL (p.all.take (i + 1))).map encS := by rw [more h9]; simp
            rw [hfin] at sw3
            refine SQ.normal <| CWp.known ha ?_
            simp only [mkA]
            refine W.seq <| Wd <| Sa rfl sm rfl <| Sa rfl sm rfl <| Sa rfl (Zn (hv := by simp (disch := first | omega | simp only [nx]; omega) only [aLenOf, ty37, hpl, hc1, hc2, sb, Value.cells, places, tb18] <;> rfl)) rfl <| St rfl (zb (hv := bi_lss)) rfl (by first | rfl | assumption | ((simp only [bl, hc1, hc2, sb, Value.cells, places, tb18]) <;> first | done | assumption | omega) | (simp; done) | (simp; omega)) <| St rfl sm rfl rfl <| Sa ag sm rfl <| Sa ag sm rfl <| Sa ag (zi (hv := by simp (disch := first | omega | simp only [nx]; omega) only [aIndexAddr, ty37, ty9, hpl, hc1, hc2, sb, Value.cells, places, tb18] <;> rfl)) rfl <| Sa ag (zl (hv := ldo _ rfl _ _ ty9 rfl)) rfl <| Sa ag sm rfl <| Sa ag sm rfl <| Sa ag (zi (hv := by simp (disch := first | omega | simp only [nx]; omega) only [aIndexAddr, ty23, ty27, hpl, hc1, hc2, sb, Value.cells, places, tb18] <;> rfl)) rfl <| Sa ag (zf (hv := fa_ok (k := 0) ty27 rfl rfl ty9 rfl rfl)) rfl <| Sa ag (zl (hv := ldk _ rfl _ _ ty9 rfl)) rfl <| Sf ag (zb (hv := bs_eql)) rfl (by simp [sst, hzk]) <| Sf rfl Zp rfl rfl <| Sn ?_
            refine Wn <| CWp.skip <| SQ.normal ?_
            refine Wr <| Oa rfl za rfl <| On ?_
            refine Wr <| Oa rfl sm rfl <| Oa rfl sm rfl <| Oa rfl sm rfl <| Oa rfl (so_slice (by simp only [lk] <;> rfl) (by simp only [oopnd, lk] <;> rfl) (by simp only [oopnd, lk] <;> rfl) (by simp only [oopnd, lk] <;> rfl) (s1 _ _ _ _ ty37 rfl ty9 rfl)) rfl <| Oa rfl (so_append (by simp only [aopnds, lk] <;> rfl) (ap1 _ _ (by simp only [appT, ty37, ty9] <;> rfl) rfl (by decide))) rfl <| Oa rfl za rfl <| On ?_
            refine Wr <| Oa rfl sm rfl <| Oa rfl sm rfl <| Oa rfl sm rfl <| Oa rfl (zi (hv := by simp (disch := first | omega | simp only [nx]; omega) only [aIndexAddr, ty23, ty27, hpl, hc1, hc2, sb, Value.cells, places, tb18] <;> rfl)) rfl <| Oa rfl (zf (hv := fa_ok (k := 0) ty27 rfl rfl ty9 rfl rfl)) rfl <| Oa rfl (zl (hv := ldk _ (z1 r (by omega)) _ _ ty9 rfl)) rfl <| Oa rfl (so_buildSlice (by simp only [aparts, lk] <;> rfl) (by simp only [aBuildSlice, ty37, ty9, hc1, hc2, sb, Value.cells, places, tb18] <;> rfl)) rfl <| Oa rfl (so_append (by simp only [aopnds, lk] <;> rfl) (ap2 _ _ (by simp only [appT, ty37, ty9] <;> rfl) rfl (by decide))) rfl <| Oa rfl za rfl <| On ?_
            refine W.reg <| Oa rfl sm rfl <| Oa rfl sm rfl <| Oa rfl sm rfl <| Oa rfl (so_slice (by simp only [lk] <;> rfl) (by simp only [oopnd, lk] <;> rfl) (by simp only [oopnd, lk] <;> rfl) (by simp only [oopnd, lk] <;> rfl) (s3 _ _ _ _ ty37 rfl ty9 rfl)) rfl <| Oa rfl (so_append (by simp only [aopnds, lk] <;> rfl) (ap3 _ _ (by simp only [appT, ty37, ty9] <;> rfl) rfl (by decide))) rfl <| Oa rfl za rfl <| OSuf.nil <| BQ.normal <| SQ.normal ?_
            refine W.reg <| Oa rfl sm rfl <| Oa rfl (zb (hv := bi_w bi_add (by first | (simp only [w2] <;> rfl) | rfl))) rfl <| Oa rfl za rfl <| OSuf.nil <| ?_
            refine LQ.normal (m := m - 1) (L := [(3, v3), (4, .slice (some ⟨r, off, none⟩) p.all.length 0), (5, I64 ((i + 1 : Nat) : Int))]) (by omega) ?_ ⟨i + 1, v3, by omega, by omega, fun z hz => by rw [z3 z (by omega)]; exact gk z hz, sw3, rfl⟩
            simp only [HasA, Tr.get_put, Nat.reduceEqDiff, reduceIte, w2, and_self]
        · have h9 : ks[j]? ≠ some x.key := fun e => by have := (List.getElem?_eq_some_iff.1 e).1; omega
          obtain ⟨x1, s1, e1l, e1⟩ := sv_hi svo hj
          obtain ⟨v1, G1, ap1, sw1, m1, m1', kk1, rw1, vl1⟩ := ap_any (h := g) (sz := 1) (lo := H3.next) (A := []) .nil e1l (e1 g (fun _ _ => rfl)) (by simp; omega) (ones_s _) (by simp only [vLen]; omega) gn
          have z1 : ∀ z, z < g.next → G1.get z = g.get z := fun z hz => kk1 z hz (by simp [svRow])
          have nv1 : ∀ z, z < g.next → ¬ svRow v1 = some z := fun z hz e => by
            rcases rw1 with ⟨h8, _⟩ | h8
            · rw [h8] at e; cases e
            · rw [h8] at e; cases e; omega
          obtain ⟨v2, G2, ap2, sw2, m2, m2', kk2, rw2, vl2⟩ := ap_any (h := G1.new (.cells [encS x.key] 1)) (sz := 1) (lo := H3.next) (k := 1) (x := .slice (some ⟨G1.next, 0, none⟩) 1 2) (B := [encS x.key]) (sw1.mono (by simp) (fun z hz _ => Gn (by omega))) rfl (aCells_part (vs := [encS x.key]) (by simp only [rowOf, AHeap.get_new_same]) (Nat.le_refl _) rfl) rfl rfl (by rw [vl1]; simp only [vLen]; omega) (by simp only [nx]; omega)
          simp only [nx] at m2 m2'
          have z2 : ∀ z, z < g.next → G2.get z = g.get z := fun z hz => by rw [kk2 z (by simp only [nx]; omega) (nv1 z hz), Gn (by omega), z1 z hz]
          have nv2 : ∀ z, z < g.next → ¬ svRow v2 = some z := fun z hz e => by
            rcases rw2 with ⟨h8, h9⟩ | h8
            · omega
            · rw [h8] at e; simp only [nx] at e; cases e; omega
          obtain ⟨x3, s3, e3l, e3⟩ := sv_lo (svo.mono (h' := G2) (by omega) (fun z hz _ => z2 z hz)) hj
          obtain ⟨v3, G3, ap3, sw3, m3, m3', kk3, rw3, vl3⟩ := ap_any sw2 e3l (e3 G2 (fun _ _ => rfl)) (by simp) (ones_s _) (by rw [vl2, vl1]; simp only [vLen]; omega) (by omega)
          have z3 : ∀ z, z < g.next → G3.get z = g.get z := fun z hz => by rw [kk3 z (by omega) (nv2 z hz), z2 z hz]
          have hfin : ([] ++ (ks.take j).map encS ++ [encS x.key] ++ (ks.drop j).map encS) = (keysL (p.all.take (i + 1))).map encS := by rw [more h9]; simp
          rw [hfin] at sw3
          refine SQ.normal <| CWp.known ha ?_
          simp only [mkA]
          refine W.seq <| Wd <| Sa rfl sm rfl <| Sa rfl sm rfl <| Sa rfl (Zn (hv := by simp (disch := first | omega | simp only [nx]; omega) only [aLenOf, ty37, hpl, hc1, sb, Value.cells, places, tb18] <;> rfl)) rfl <| Sf rfl (zb (hv := bi_lss)) rfl (by first | rfl | assumption | ((simp only [bl, hc1, sb, Value.cells, places, tb18]) <;> first | done | assumption | omega) | (simp; done) | (simp; omega)) <| Sf rfl sm rfl rfl <| Pb ag rfl <| Pb ag rfl <| Pb ag rfl <| Pb ag rfl <| Pb ag rfl <| Pb ag rfl <| Pb ag rfl <| Pb ag rfl <| Pb ag rfl <| Pb ag rfl <| Sf rfl Zp rfl rfl <| Sn ?_
          refine Wn <| CWp.skip <| SQ.normal ?_
          refine Wr <| Oa rfl za rfl <| On ?_
          refine Wr <| Oa rfl sm rfl <| Oa rfl sm rfl <| Oa rfl sm rfl <| Oa rfl (so_slice (by simp only [lk] <;> rfl) (by simp only [oopnd, lk] <;> rfl) (by simp only [oopnd, lk] <;> rfl) (by simp only [oopnd, lk] <;> rfl) (s1 _ _ _ _ ty37 rfl ty9 rfl)) rfl <| Oa rfl (so_append (by simp only [aopnds, lk] <;> rfl) (ap1 _ _ (by simp only [appT, ty37, ty9] <;> rfl) rfl (by decide))) rfl <| Oa rfl za rfl <| On ?_
          refine Wr <| Oa rfl sm rfl <| Oa rfl sm rfl <| Oa rfl sm rfl <| Oa rfl (zi (hv := by simp (disch := first | omega | simp only [nx]; omega) only [aIndexAddr, ty23, ty27, hpl, hc1, sb, Value.cells, places, tb18] <;> rfl)) rfl <| Oa rfl (zf (hv := fa_ok (k := 0) ty27 rfl rfl ty9 rfl rfl)) rfl <| Oa rfl (zl (hv := ldk _ (z1 r (by omega)) _ _ ty9 rfl)) rfl <| Oa rfl (so_buildSlice (by simp only [aparts, lk] <;> rfl) (by simp only [aBuildSlice, ty37, ty9, hc1, sb, Value.cells, places, tb18] <;> rfl)) rfl <| Oa rfl (so_append (by simp only [aopnds, lk] <;> rfl) (ap2 _ _ (by simp only [appT, ty37, ty9] <;> rfl) rfl (by decide))) rfl <| Oa rfl za rfl <| On ?_
          refine W.reg <| Oa rfl sm rfl <| Oa rfl sm rfl <| Oa rfl sm rfl <| Oa rfl (so_slice (by simp only [lk] <;> rfl) (by simp only [oopnd, lk] <;> rfl) (by simp only [oopnd, lk] <;> rfl) (by simp only [oopnd, lk] <;> rfl) (s3 _ _ _ _ ty37 rfl ty9 rfl)) rfl <| Oa rfl (so_append (by simp only [aopnds, lk] <;> rfl) (ap3 _ _ (by simp only [appT, ty37, ty9] <;> rfl) rfl (by decide))) rfl <| Oa rfl za rfl <| OSuf.nil <| BQ.normal <| SQ.normal ?_
          refine W.reg <| Oa rfl sm rfl <| Oa rfl (zb (hv := bi_w bi_add (by first | (simp only [w2] <;> rfl) | rfl))) rfl <| Oa rfl za rfl <| OSuf.nil <| ?_
          refine LQ.normal (m := m - 1) (L := [(3, v3), (4, .slice (some ⟨r, off, none⟩) p.all.length 0), (5, I64 ((i + 1 : Nat) : Int))]) (by omega) ?_ ⟨i + 1, v3, by omega, by omega, fun z hz => by rw [z3 z (by omega)]; exact gk z hz, sw3, rfl⟩
          simp only [HasA, Tr.get_put, Nat.reduceEqDiff, reduceIte, w2, and_self]
      · refine W.seq <| Wr <| Oa rfl sm rfl <| Oa rfl sm rfl <| Oa rfl (Zn (hv := by simp (disch := first | omega | simp only [nx]; omega) only [aLenOf, ty23, hpl] <;> rfl)) rfl <| Ofb rfl (zb (hv := bi_lss)) rfl <| On ?_
        refine Wn <| CWp.exit <| SQ.exit <| LQ.exit <| BQ.exit <| ?_
        have : i = p.all.length := by omega
        subst this
        rw [List.take_length] at svo
        refine NQ.normal (L := [(3, vo)]) ?_ ⟨fun z hz => by rw [gk z (by omega)]; exact old3 z hz, vo, svo, rfl⟩
        simp only [HasA, Tr.get_put, Nat.reduceEqDiff, reduceIte, and_self]
    rintro L a' g ha ⟨ho, vo, svo, rfl⟩
    refine SQ.normal <| CWp.known ha ?_
    simp only [mkA]
    refine Wr <| Oa rfl sm rfl <| Oa rfl za rfl <| On ?_
    refine CWp.ret <| FQ.ret (by simp only [aRet, Tryz.f18, aResults, aResult, lk, Nat.reduceEqDiff, reduceIte] <;> rfl) ?_
    refine ⟨ho, ?_⟩
    rw [ek]
    generalize hvs : (keysL p.all).map encS = vs at svo
    cases svo with
    | nil => exact .inl ⟨List.map_eq_nil_iff.1 hvs, rfl⟩
    | @some y n vs q1 q2 q3 q4 q5 =>
      subst hvs
      have : n = (keysL p.all).length := by simpa using q1.symm
      subst this
      exact .inr ⟨fun e => q5 (by rw [e]; rfl), y, rfl, by omega, q4⟩
end Go.Proofs.YtebheelmgcggmaaGreat
namespace Go.Proofs.YtebheelmgcggmaaGreat
open Go.Ab Go.Sort
theorem sv_rsl {h : AHeap} {lo : Nat} {l : List Rec} {v : Value} (s : SV h 4 lo (fl l) v) : RSl h lo l v := ⟨sv_rs s, fun a n c e => by
  generalize fl l = vs at s
  cases s with
  | nil => cases e
  | some _ h2 _ _ _ => cases e; exact h2⟩
theorem sv_len {h : AHeap} {lo : Nat} {l : List Rec} {v : Value} (s : SV h 4 lo (fl l) v) : vLen v = l.length := by
  obtain ⟨_, _, h2, _⟩ := s.form
  rw [fl_length] at h2
  omega
theorem sv_form {h : AHeap} {lo : Nat} {l : List Rec} {v : Value} (s : SV h 4 lo (fl l) v) : ∃ b, v = .slice b l.length 0 := by
  obtain ⟨b, h1, _, _⟩ := s.form
  rw [sv_len s] at h1
  exact ⟨b, h1⟩
theorem sv_one {g : AHeap} {lo : Nat} {l : List Rec} {v : Value} (s : SV g 4 lo (fl l) v) (x : Rec) (hl : l.length ≤ 2000000) (hlo : lo ≤ g.next) :
    ∃ v' G, (∀ ats A', appT T ats = some A' → A'.size = 4 → A'.bytes ≤ 100 → aAppend T ats v (.slice (some ⟨g.next, 0, none⟩) 1 2) (g.new (.cells x.cs 4)) = some (v', G)) ∧ SV G 4 lo (fl (l ++ [x])) v' ∧ g.next ≤ G.next ∧ (∀ z, z < g.next → ¬ svRow v = some z → G.get z = g.get z) := by
  obtain ⟨v', G, a1, a2, a3, a4, a5, a6, a7⟩ := ap_any (h := g.new (.cells x.cs 4)) (k := 1) (x := .slice (some ⟨g.next, 0, none⟩) 1 2) (B := x.cs) (s.mono (by simp) (fun z hz _ => Gn (by omega))) rfl (aCells_part (vs := x.cs) (by simp only [rowOf, AHeap.get_new_same]) (Nat.le_refl _) rfl) rfl rfl (by rw [sv_len s]; omega) (by simp; omega)
  refine ⟨v', G, a1, ?_, by simp only [nx] at a3; omega, fun z hz hv => by rw [a5 z (by simp; omega) hv, Gn (by omega)]⟩
  rw [fl_app]
  have : fl [x] = x.cs := by simp [fl]
  rw [this]; exact a2
theorem part0_c (h : AHeap) (l : List Rec) (v : Value) (p : Lf) (bv dv : Value) (hs : RS h l v) (hl : l.length ≤ 1000000) (h1 : SL p.low) (h2 : SL p.high) (hk : ∀ r ∈ l, SL r.key) :
    FWp Tryz.prog 71 [v, LV p bv dv] h fun u g => SV g 4 h.next (fl (l.filter fun r => insR p.low p.high r.key)) u ∧ h.next ≤ g.next ∧ ∀ z, z < h.next → g.get z = h.get z := by
  have tb71 := And.intro ty23 (And.intro ty25 (And.intro ty27 (ty9)))
  obtain ⟨b, c, rfl⟩ := hs.form
  refine W.enter tyOK Tryz.func71 rfl rfl ?_
  simp only [entry]
  refine Wr <| Oa rfl Zx rfl <| Oa rfl za rfl <| On ?_
  refine Wr <| Oa rfl za rfl <| On ?_
  refine W.seq <| Wr <| Oa rfl za rfl <| On ?_
  refine W.cut (fun L g => ∃ vo, SV g 4 h.next (fl (l.filter fun r => insR p.low p.high r.key)) vo ∧ h.next ≤ g.next ∧ (∀ z, z < h.next → g.get z = h.get z) ∧ L = [(5, vo)]) (W.block (W.loop (fun m L g => ∃ (i : Nat) (vo : Value), m + i = l.length ∧ SV g 4 (h.next + 1) (fl ((l.take i).filter fun r => insR p.low p.high r.key)) vo ∧ h.next + 1 ≤ g.next ∧ (∀ z, z < h.next → g.get z = h.get z) ∧ g.get h.next = some (.cells (lcs p bv dv) 1) ∧ L = [(0, .slice b l.length c), (3, P0 h.next), (5, vo), (6, I64 i)]) (n := l.length) ⟨0, .slice none 0 0, rfl, .nil, by simp, fun z hz => Gn (by omega), Gq, rfl⟩ ?_ ?_)) ?_
  · simp [HasA, Tr.get_put]
  · rintro m L g ⟨i, vo, hm, sv, gn, gk, g0, rfl⟩
    simp only [mkA]
    have w2 : IntKind.i64.wrap ((i : Int) + 1) = ((i + 1 : Nat) : Int) := by rw [wrap_i64 (by omega) (by omega)]; omega
    by_cases hi : (i : Int) < (l.length : Int)
    · obtain ⟨x, hx⟩ : ∃ x, l[i]? = some x := ⟨l[i]'(by omega), by simp⟩
      obtain ⟨_, r, off, rfl, hr1, hr2⟩ := RS.at_ hs hx
      have hc1 : (0 ≤ (i : Int) ∧ (i : Int) < (l.length : Int)) := by omega
      have hin := fun G : AHeap => inside0_c G p bv dv x.key h1 h2 (hk x (List.mem_of_getElem? hx))
      have htk : l.take (i + 1) = l.take i ++ [x] := by rw [List.take_add_one, hx]; rfl
      cases ci : insR p.low p.high x.key with
      | true =>
        rw [ci] at hin
        obtain ⟨v', G, a1, a2, a3, a4⟩ := sv_one sv x (Nat.le_trans (List.length_filter_le _ _) (by rw [List.length_take]; omega)) gn
        have nv : ∀ z, z < h.next + 1 → ¬ svRow vo = some z := fun z hz e => by have := sv.row e; omega
        refine W.seq <| Wr <| Oa rfl sm rfl <| Oa rfl sm rfl <| Oa rfl (Zn (hv := by simp (disch := first | omega | simp only [nx]; omega) only [aLenOf, ty23, hpl, g0, hc1, rcl, sb, Value.cells, places, tb71] <;> rfl)) rfl <| Ot rfl (zb (hv := bi_lss)) rfl (by first | rfl | assumption | ((simp only [bl, g0, hc1, rcl, sb, Value.cells, places, tb71]) <;> first | done | assumption | omega) | (simp; done) | (simp; omega)) <| On ?_
        refine Wy <| CWp.skip <| SQ.normal ?_
        refine W.seq <| W.block <| Wd <| Sa rfl (zl (hv := by simp (disch := first | omega | simp only [nx]; omega) only [aLoad, ty25, rowOf, hpl, g0, hc1, rcl, sb, Value.cells] <;> rfl)) rfl <| Sa rfl sm rfl <| Sa rfl sm rfl <| Sa rfl (zi (hv := by simp (disch := first | omega | simp only [nx]; omega) only [aIndexAddr, ty23, ty27, hpl, g0, hc1, rcl, sb, Value.cells, places, tb71] <;> rfl)) rfl <| Sa rfl (zf (hv := fa_ok (k := 0) ty27 rfl rfl ty9 rfl rfl)) rfl <| Sa rfl (zl (hv := (hr2 _ (gk r hr1)).2 0 _ _ _ ty9 rfl rfl)) rfl <| SqW.callD rfl (by simp only [aopnds, lk] <;> rfl) en85 (hin _) rfl <| Sn ?_
        refine Wy <| W.reg <| Oa rfl sm rfl <| Oa rfl sm rfl <| Oa rfl sm rfl <| Oa rfl (zi (hv := by simp (disch := first | omega | simp only [nx]; omega) only [aIndexAddr, ty23, ty27, hpl, g0, hc1, rcl, sb, Value.cells, places, tb71] <;> rfl)) rfl <| Oa rfl (zl (hv := (hr2 _ (gk r hr1)).1 _ _ ty27 rfl rfl)) rfl <| Oa rfl (so_buildSlice (by simp only [aparts, lk] <;> rfl) (by simp only [aBuildSlice, ty23, ty27, g0, hc1, rcl, sb, Value.cells, places, tb71] <;> rfl)) rfl <| Oa rfl (so_append (by simp only [aopnds, lk] <;> rfl) (a1 _ _ (by simp only [appT, ty23, ty27] <;> rfl) rfl (by decide))) rfl <| Oa rfl za rfl <| OSuf.nil <| BQ.normal <| SQ.normal ?_
        refine W.reg <| Oa rfl sm rfl <| Oa rfl (zb (hv := bi_w bi_add (by first | (simp only [w2] <;> rfl) | rfl))) rfl <| Oa rfl za rfl <| OSuf.nil <| ?_
        refine LQ.normal (m := m - 1) (L := [(0, .slice (some ⟨r, off, none⟩) l.length c), (3, P0 h.next), (5, v'), (6, I64 ((i + 1 : Nat) : Int))]) (by omega) ?_ ⟨i + 1, v', by omega, ?_, by omega, fun z hz => by rw [a4 z (by omega) (nv z (by omega))]; exact gk z hz, by rw [a4 _ (by omega) (nv _ (by omega))]; exact g0, rfl⟩
        · simp only [HasA, Tr.get_put, Nat.reduceEqDiff, reduceIte, w2, and_self]
        · rw [htk, List.filter_append]
          simpa [ci] using a2
      | false =>
        rw [ci] at hin
        refine W.seq <| Wr <| Oa rfl sm rfl <| Oa rfl sm rfl <| Oa rfl (Zn (hv := by simp (disch := first | omega | simp only [nx]; omega) only [aLenOf, ty23, hpl, g0, hc1, rcl, sb, Value.cells, places, tb71] <;> rfl)) rfl <| Ot rfl (zb (hv := bi_lss)) rfl (by first | rfl | assumption | ((simp only [bl, g0, hc1, rcl, sb, Value.cells, places, tb71]) <;> first | done | assumption | omega) | (simp; done) | (simp; omega)) <| On ?_
        refine Wy <| CWp.skip <| SQ.normal ?_
        refine W.seq <| W.block <| Wd <| Sa rfl (zl (hv := by simp (disch := first | omega | simp only [nx]; omega) only [aLoad, ty25, rowOf, hpl, g0, hc1, rcl, sb, Value.cells] <;> rfl)) rfl <| Sa rfl sm rfl <| Sa rfl sm rfl <| Sa rfl (zi (hv := by simp (disch := first | omega | simp only [nx]; omega) only [aIndexAddr, ty23, ty27, hpl, g0, hc1, rcl, sb, Value.cells, places, tb71] <;> rfl)) rfl <| Sa rfl (zf (hv := fa_ok (k := 0) ty27 rfl rfl ty9 rfl rfl)) rfl <| Sa rfl (zl (hv := (hr2 _ (gk r hr1)).2 0 _ _ _ ty9 rfl rfl)) rfl <| SqW.callD rfl (by simp only [aopnds, lk] <;> rfl) en85 (hin _) rfl <| Sn ?_
        refine Wn <| CWp.skip <| BQ.normal <| SQ.normal ?_
        refine W.reg <| Oa rfl sm rfl <| Oa rfl (zb (hv := bi_w bi_add (by first | (simp only [w2] <;> rfl) | rfl))) rfl <| Oa rfl za rfl <| OSuf.nil <| ?_
        refine LQ.normal (m := m - 1) (L := [(0, .slice (some ⟨r, off, none⟩) l.length c), (3, P0 h.next), (5, vo), (6, I64 ((i + 1 : Nat) : Int))]) (by omega) ?_ ⟨i + 1, vo, by omega, ?_, gn, gk, g0, rfl⟩
        · simp only [HasA, Tr.get_put, Nat.reduceEqDiff, reduceIte, w2, and_self]
        · rw [htk, List.filter_append]
          simpa [ci] using sv
    · refine W.seq <| Wr <| Oa rfl sm rfl <| Oa rfl sm rfl <| Oa rfl (Zn (hv := by simp (disch := first | omega | simp only [nx]; omega) only [aLenOf, ty23, hpl] <;> rfl)) rfl <| Ofb rfl (zb (hv := bi_lss)) rfl <| On ?_
      refine Wn <| CWp.exit <| SQ.exit <| LQ.exit <| BQ.exit <| ?_
      have : i = l.length := by omega
      subst this
      rw [List.take_length] at sv
      refine NQ.normal (L := [(5, vo)]) ?_ ⟨vo, ?_, by omega, gk, rfl⟩
      · simp only [HasA, Tr.get_put, Nat.reduceEqDiff, reduceIte, and_self]
      · generalize (fl (l.filter fun r => insR p.low p.high r.key)) = vs at sv
        cases sv with
        | nil => exact .nil
        | some q1 q2 q3 q4 q5 => exact .some q1 (by omega) q3 q4 q5
  rintro L a' g ha ⟨vo, sv, gn, gk, rfl⟩
  refine SQ.normal <| CWp.known ha ?_
  simp only [mkA]
  refine Wr <| Oa rfl sm rfl <| Oa rfl za rfl <| On ?_
  refine CWp.ret <| FQ.ret (by simp only [aRet, Tryz.f71, aResults, aResult, lk, Nat.reduceEqDiff, reduceIte] <;> rfl) ?_
  exact ⟨sv, gn, gk⟩
end Go.Proofs.YtebheelmgcggmaaGreat
namespace Go.Proofs.YtebheelmgcggmaaGreat
open Go.Ab Go.Sort
theorem split0_c (h : AHeap) (p : Lf) (bv dv : Value) (hb : RS h p.base bv) (hd : RS h p.deltas dv) (hlb : p.base.length ≤ 1000000) (hld : p.deltas.length ≤ 1000000) (lb : LB p) :
    FWp Tryz.prog 31 [LV p bv dv] h fun u g => h.next ≤ g.next ∧ (∀ z, z < h.next → g.get z = h.get z) ∧
      (((keysM p).length < 2 ∧ u = .tuple #[LV0, LV0, .bool false]) ∨
       ∃ s va vb, 2 ≤ (keysM p).length ∧ (keysM p)[((keysM p).length + 1) / 2]? = some s ∧ u = .tuple #[va, vb, .bool true] ∧ LVs g h.next (partM p p.low s) va ∧ LVs g h.next (partM p s p.high) vb) := by
  have tb31 := And.intro ty22 (And.intro ty23 (And.intro ty25 (And.intro ty37 (ty9))))
  obtain ⟨b1, c1, rfl⟩ := hb.form
  obtain ⟨b2, c2, rfl⟩ := hd.form
  obtain ⟨h3, hh3⟩ : ∃ h3, h3 = ((h.new (LR p (.slice b1 p.base.length c1) (.slice b2 p.deltas.length c2))).new (.cells zlf 1)).new (.cells zlf 1) := ⟨_, rfl⟩
  have e3 : h3.next = h.next + 3 := by rw [hh3]; rfl
  have k3 : ∀ z, z < h.next → h3.get z = h.get z := fun z hz => by rw [hh3]; simp (disch := first | omega | simp only [nx]; omega) only [hpl]
  have hkc := keys0_c h3 p _ _ (hb.mono (by omega) k3) (hd.mono (by omega) k3) hlb hld lb
  by_cases c0 : keysM p = []
  · simp only [kval, kheap, if_pos c0] at hkc
    refine W.enter tyOK Tryz.func31 rfl rfl ?_
    simp only [entry]
    refine Wr <| Oa rfl Zx rfl <| Oa rfl (so_alloc (by simp only [aAlloc, ty25] <;> rfl)) rfl <| Oa rfl (so_alloc (by simp only [aAlloc, ty25] <;> rfl)) rfl <| Of rfl za rfl rfl <| On ?_
    refine Wr <| Oa rfl (zl (hv := by simp (disch := first | omega | simp only [nx]; omega) only [aLoad, ty25, rowOf, hpl, rcl, Value.cells] <;> rfl)) rfl <| OSuf.callD rfl (by simp only [aopnds, lk] <;> rfl) en18 ((by rw [hh3] at hkc; exact hkc)) rfl <| Oa rfl za rfl <| On ?_
    refine W.seq <| Wr <| Oa rfl sm rfl <| Oa rfl (Zn (hv := by simp (disch := first | omega | simp only [nx]; omega) only [aLenOf, ty37, hpl, rcl, Value.cells, places, tb31] <;> rfl)) rfl <| Ot rfl (zb (hv := bi_lss)) rfl (by first | rfl | assumption | ((simp only [bl, rcl, Value.cells, places, tb31]) <;> first | done | assumption | omega) | (simp; done) | (simp; omega)) <| On ?_
    refine Wy <| Wr <| Oa rfl (so_build (by simp only [aparts, lk] <;> rfl) (by simp only [aBuild, ty25, rcl, Value.cells, places, tb31] <;> rfl)) rfl <| Oa rfl (so_build (by simp only [aparts, lk] <;> rfl) (by simp only [aBuild, ty25, rcl, Value.cells, places, tb31] <;> rfl)) rfl <| Oa rfl (zs (hv := by simp (disch := first | omega | simp only [nx]; omega) only [aStore, ty25, writeRow, hpl, rcl, Value.cells] <;> rfl)) rfl <| Oa rfl (zs (hv := by simp (disch := first | omega | simp only [nx]; omega) only [aStore, ty25, writeRow, hpl, rcl, Value.cells] <;> rfl)) rfl <| Of rfl za rfl rfl <| On ?_
    refine CWp.ret <| SQ.ret <| FQ.ret (by simp (disch := first | omega | simp only [nx]; omega) only [aRet, Tryz.f31, aResults, aResult, lk, Nat.reduceEqDiff, reduceIte, aLoad, rowOf, hpl, rcl, Value.cells, places, tb31] <;> rfl) ?_
    exact ⟨by simp only [nx]; omega, fun z hz => by simp (disch := first | omega | simp only [nx]; omega) only [hpl], .inl ⟨by rw [c0]; simp, rfl⟩⟩
  simp only [kval, kheap, if_neg c0] at hkc
  by_cases kc1 : (keysM p).length < 2
  · refine W.enter tyOK Tryz.func31 rfl rfl ?_
    simp only [entry]
    refine Wr <| Oa rfl Zx rfl <| Oa rfl (so_alloc (by simp only [aAlloc, ty25] <;> rfl)) rfl <| Oa rfl (so_alloc (by simp only [aAlloc, ty25] <;> rfl)) rfl <| Of rfl za rfl rfl <| On ?_
    refine Wr <| Oa rfl (zl (hv := by simp (disch := first | omega | simp only [nx]; omega) only [aLoad, ty25, rowOf, hpl, rcl, Value.cells] <;> rfl)) rfl <| OSuf.callD rfl (by simp only [aopnds, lk] <;> rfl) en18 ((by rw [hh3] at hkc; exact hkc)) rfl <| Oa rfl za rfl <| On ?_
    refine W.seq <| Wr <| Oa rfl sm rfl <| Oa rfl (Zn (hv := by simp (disch := first | omega | simp only [nx]; omega) only [aLenOf, ty37, hpl, rcl, Value.cells, places, tb31] <;> rfl)) rfl <| Ot rfl (zb (hv := bi_lss)) rfl (by first | rfl | assumption | ((simp only [bl, rcl, Value.cells, places, tb31]) <;> first | done | assumption | omega) | (simp; done) | (simp; omega)) <| On ?_
    refine Wy <| Wr <| Oa rfl (so_build (by simp only [aparts, lk] <;> rfl) (by simp only [aBuild, ty25, rcl, Value.cells, places, tb31] <;> rfl)) rfl <| Oa rfl (so_build (by simp only [aparts, lk] <;> rfl) (by simp only [aBuild, ty25, rcl, Value.cells, places, tb31] <;> rfl)) rfl <| Oa rfl (zs (hv := by simp (disch := first | omega | simp only [nx]; omega) only [aStore, ty25, writeRow, hpl, rcl, Value.cells] <;> rfl)) rfl <| Oa rfl (zs (hv := by simp (disch := first | omega | simp only [nx]; omega) only [aStore, ty25, writeRow, hpl, rcl, Value.cells] <;> rfl)) rfl <| Of rfl za rfl rfl <| On ?_
    refine CWp.ret <| SQ.ret <| FQ.ret (by simp (disch := first | omega | simp only [nx]; omega) only [aRet, Tryz.f31, aResults, aResult, lk, Nat.reduceEqDiff, reduceIte, aLoad, rowOf, hpl, rcl, Value.cells, places, tb31] <;> rfl) ?_
    exact ⟨by simp only [nx]; omega, fun z hz => by simp (disch := first | omega | simp only [nx]; omega) only [hpl], .inl ⟨kc1, rfl⟩⟩
  obtain ⟨s, hs⟩ : ∃ s, (keysM p)[((keysM p).length + 1) / 2]? = some s := ⟨(keysM p)[((keysM p).length + 1) / 2]'(by omega), by simp⟩
  obtain ⟨i, hi⟩ : ∃ i, i = ((keysM p).length + 1) / 2 := ⟨_, rfl⟩
  have hcp : chk p = true := by
    cases f : chk p with
    | true => rfl
    | false => exact (c0 (by simp [keysM, f])).elim
  have hss : SL s := by
    have h1 := List.mem_of_getElem? hs
    rw [keysM, if_pos hcp] at h1
    obtain ⟨r, hr, rfl⟩ := mem_keysL.1 h1
    exact (lb.ky r hr).1
  have lkb : ∀ r ∈ p.base, SL r.key := fun r hr => (lb.ky r (List.mem_append.2 (.inl hr))).1
  have lkd : ∀ r ∈ p.deltas, SL r.key := fun r hr => (lb.ky r (List.mem_append.2 (.inr hr))).1
  have hkl : (keysM p).length ≤ 2000000 := by
    rw [keysM, if_pos hcp]
    have := keysL_length p.all p.all.length
    rw [List.take_length] at this
    rw [Lf.all, List.length_append] at this
    simp only [Lf.all] at this ⊢
    omega
  obtain ⟨g1, hg1⟩ : ∃ g1, g1 = h3.new (.cells ((keysM p).map encS) 1) := ⟨_, rfl⟩
  have n1 : g1.next = h.next + 4 := by rw [hg1]; simp; omega
  have kg1 : ∀ z, z < h3.next → g1.get z = h3.get z := fun z hz => by rw [hg1]; exact Gn (by omega)
  have r1 : g1.get h.next = some (LR p (.slice b1 p.base.length c1) (.slice b2 p.deltas.length c2)) := by rw [kg1 _ (by omega), hh3]; simp (disch := first | omega | simp only [nx]; omega) only [hpl]
  have r2 : g1.get (h.next + 1) = some (.cells zlf 1) := by rw [kg1 _ (by omega), hh3]; simp (disch := first | omega | simp only [nx]; omega) only [hpl]
  have r3 : g1.get (h.next + 2) = some (.cells zlf 1) := by rw [kg1 _ (by omega), hh3]; simp (disch := first | omega | simp only [nx]; omega) only [hpl]
  have old1 : ∀ z, z < h.next → g1.get z = h.get z := fun z hz => by rw [kg1 _ (by omega)]; exact k3 z hz
  have l1 : ∀ t ti, T.get t = some ti → ti.agg = false → aLoad T t (PA h3.next i) g1 = some (encS s) := fun t ti ht ha => by
    have e4 : rowOf g1 h3.next = some ((keysM p).map encS) := by simp only [rowOf, hg1, AHeap.get_new_same]
    have e5 : ((keysM p).map encS)[i]? = some (encS s) := by rw [List.getElem?_map, hi, hs]; rfl
    simp only [aLoad, ht, e4, ha, cond_false, e5]
  have kc2 : ¬ (((keysM p).length : Nat) : Int) < 2 := by omega
  have w1 : IntKind.i64.wrap ((((keysM p).length : Nat) : Int) + 1) = (((keysM p).length + 1 : Nat) : Int) := by rw [wrap_i64 (by omega) (by omega)]; omega
  have w2 : IntKind.i64.wrap ((((keysM p).length + 1 : Nat) : Int).tdiv 2) = (i : Int) := by
    rw [Int.tdiv_eq_ediv_of_nonneg (by omega), wrap_i64 (by omega) (by omega)]; omega
  have hidx : (0 ≤ (i : Int) ∧ (i : Int) < (((keysM p).length : Nat) : Int)) := by omega
  rw [hh3] at hkc
  refine W.enter tyOK Tryz.func31 rfl rfl ?_
  simp only [entry]
  refine Wr <| Oa rfl Zx rfl <| Oa rfl (so_alloc (by simp only [aAlloc, ty25] <;> rfl)) rfl <| Oa rfl (so_alloc (by simp only [aAlloc, ty25] <;> rfl)) rfl <| Of rfl za rfl rfl <| On ?_
  refine Wr <| Oa rfl (zl (hv := by simp (disch := first | omega | simp only [nx]; omega) only [aLoad, ty25, rowOf, hpl, hidx, sb, rcl, Value.cells] <;> rfl)) rfl <| OSuf.callD rfl (by simp only [aopnds, lk] <;> rfl) en18 (hkc) rfl <| Oa rfl za rfl <| On ?_
  refine W.seq <| Wr <| Oa rfl sm rfl <| Oa rfl (Zn (hv := by simp (disch := first | omega | simp only [nx]; omega) only [aLenOf, ty37, hpl, hidx, sb, rcl, Value.cells, places, tb31] <;> rfl)) rfl <| Of rfl (zb (hv := bi_lss)) rfl (by first | rfl | assumption | ((simp only [bl, hidx, sb, rcl, Value.cells, places, tb31]) <;> first | done | assumption | omega) | (simp; done) | (simp; omega)) <| On ?_
  refine Wn <| CWp.skip <| SQ.normal ?_
  refine Wr <| Oa rfl sm rfl <| Oa rfl sm rfl <| Oa rfl (Zn (hv := by simp (disch := first | omega | simp only [nx]; omega) only [aLenOf, ty37, hpl, hidx, sb, rcl, Value.cells, places, tb31] <;> rfl)) rfl <| Oa rfl (zb (hv := bi_w bi_add (by first | (simp only [w1, w2] <;> rfl) | rfl))) rfl <| Oa rfl (zb (hv := bi_w (bi_quo (by decide)) (by first | (simp only [w1, w2] <;> rfl) | rfl))) rfl <| Oa rfl (zi (hv := by simp (disch := first | omega | simp only [nx]; omega) only [aIndexAddr, ty37, ty9, hpl, hidx, sb, rcl, Value.cells, places, tb31] <;> rfl)) rfl <| Oa rfl (zl (hv := (by rw [hg1, hh3] at l1; exact l1 _ _ ty9 rfl))) rfl <| Oa rfl za rfl <| On ?_
  refine Wr <| Oa rfl (zf (hv := fa_ok (k := 0) ty25 rfl rfl ty9 rfl rfl)) rfl <| Oa rfl (zl (hv := by simp (disch := first | omega | simp only [nx]; omega) only [aLoad, ty9, rowOf, hpl, hidx, sb, rcl, Value.cells] <;> rfl)) rfl <| Oa rfl sm rfl <| Oa rfl (zf (hv := fa_ok (k := 2) ty25 rfl rfl ty22 rfl rfl)) rfl <| Oa rfl (zl (hv := by simp (disch := first | omega | simp only [nx]; omega) only [aLoad, ty22, rowOf, hpl, hidx, sb, rcl, Value.cells] <;> rfl)) rfl <| Oa rfl (so_build (by simp only [aparts, lk] <;> rfl) (by simp only [aBuild, ty25, hidx, sb, rcl, Value.cells, places, tb31] <;> rfl)) rfl <| Oa rfl (so_alloc (by simp only [aAlloc, ty25] <;> rfl)) rfl <| Oa rfl (zs (hv := by simp (disch := first | omega | simp only [nx]; omega) only [aStore, ty25, writeRow, hpl, hidx, sb, rcl, Value.cells] <;> rfl)) rfl <| On ?_
  refine Wr <| Oa rfl sm rfl <| Oa rfl (zf (hv := fa_ok (k := 1) ty25 rfl rfl ty9 rfl rfl)) rfl <| Oa rfl (zl (hv := by simp (disch := first | omega | simp only [nx]; omega) only [aLoad, ty9, rowOf, hpl, hidx, sb, rcl, Value.cells] <;> rfl)) rfl <| Oa rfl (zf (hv := fa_ok (k := 2) ty25 rfl rfl ty22 rfl rfl)) rfl <| Oa rfl (zl (hv := by simp (disch := first | omega | simp only [nx]; omega) only [aLoad, ty22, rowOf, hpl, hidx, sb, rcl, Value.cells] <;> rfl)) rfl <| Oa rfl (so_build (by simp only [aparts, lk] <;> rfl) (by simp only [aBuild, ty25, hidx, sb, rcl, Value.cells, places, tb31] <;> rfl)) rfl <| Oa rfl (so_alloc (by simp only [aAlloc, ty25] <;> rfl)) rfl <| Oa rfl (zs (hv := by simp (disch := first | omega | simp only [nx]; omega) only [aStore, ty25, writeRow, hpl, hidx, sb, rcl, Value.cells] <;> rfl)) rfl <| On ?_
  obtain ⟨A, hA⟩ : ∃ A, A = partM p p.low s := ⟨_, rfl⟩
  obtain ⟨B, hB⟩ : ∃ B, B = partM p s p.high := ⟨_, rfl⟩
  have eA1 : A.low = p.low := by rw [hA]; rfl
  have eA2 : A.high = s := by rw [hA]; rfl
  have eA3 : A.full = p.full := by rw [hA]; rfl
  have eB1 : B.low = s := by rw [hB]; rfl
  have eB2 : B.high = p.high := by rw [hB]; rfl
  have eB3 : B.full = p.full := by rw [hB]; rfl
  have bA : p.base.filter (fun r => insR A.low A.high r.key) = A.base := by rw [hA]; rfl
  have dA : p.deltas.filter (fun r => insR A.low A.high r.key) = A.deltas := by rw [hA]; rfl
  have bB : p.base.filter (fun r => insR B.low B.high r.key) = B.base := by rw [hB]; rfl
  have dB : p.deltas.filter (fun r => insR B.low B.high r.key) = B.deltas := by rw [hB]; rfl
  have lA : LR A (.slice none 0 0) (.slice none 0 0) = .cells [encS p.low, encS s, U64 p.full, .slice none 0 0, .slice none 0 0] 1 := by simp only [LR, lcs, eA1, eA2, eA3]
  have lB : LR B (.slice none 0 0) (.slice none 0 0) = .cells [encS s, encS p.high, U64 p.full, .slice none 0 0, .slice none 0 0] 1 := by simp only [LR, lcs, eB1, eB2, eB3]
  obtain ⟨G4, hG4⟩ : ∃ G4, G4 = (((g1.new (.cells zlf 1)).set (h.next + 4) (LR A (.slice none 0 0) (.slice none 0 0))).new (.cells zlf 1)).set (h.next + 5) (LR B (.slice none 0 0) (.slice none 0 0)) := ⟨_, rfl⟩
  have n4 : G4.next = h.next + 6 := by rw [hG4]; simp only [nx]; omega
  have q4p : G4.get h.next = some (LR p (.slice b1 p.base.length c1) (.slice b2 p.deltas.length c2)) := by rw [hG4]; simp (disch := first | omega | simp only [nx]; omega) only [hpl]; exact r1
  have q4x : G4.get (h.next + 1) = some (.cells zlf 1) := by rw [hG4]; simp (disch := first | omega | simp only [nx]; omega) only [hpl]; exact r2
  have q4y : G4.get (h.next + 2) = some (.cells zlf 1) := by rw [hG4]; simp (disch := first | omega | simp only [nx]; omega) only [hpl]; exact r3
  have q4a : G4.get (h.next + 4) = some (LR A (.slice none 0 0) (.slice none 0 0)) := by rw [hG4]; simp (disch := first | omega | simp only [nx]; omega) only [hpl]
  have q4b : G4.get (h.next + 5) = some (LR B (.slice none 0 0) (.slice none 0 0)) := by rw [hG4]; simp (disch := first | omega | simp only [nx]; omega) only [hpl]
  have old4 : ∀ z, z < h.next → G4.get z = h.get z := fun z hz => by rw [hG4]; simp (disch := first | omega | simp only [nx]; omega) only [hpl]; exact old1 z hz
  rw [lA, lB, hg1, hh3] at hG4
  show CWp _ _ _ _ ((((((((h.new (LR p (.slice b1 p.base.length c1) (.slice b2 p.deltas.length c2))).new (.cells zlf 1)).new (.cells zlf 1)).new (.cells ((keysM p).map encS) 1)).new (.cells zlf 1)).set (h.next + 4) (.cells [encS p.low, encS s, U64 p.full, .slice none 0 0, .slice none 0 0] 1)).new (.cells zlf 1)).set (h.next + 5) (.cells [encS s, encS p.high, U64 p.full, .slice none 0 0, .slice none 0 0] 1)) _
  rw [← hG4]
  refine CWp.known (L := [(1, P0 h.next), (2, P0 (h.next + 1)), (3, P0 (h.next + 2)), (7, P0 (h.next + 4)), (8, P0 (h.next + 5))]) ⟨(by simp only [lk] <;> rfl), (by simp only [lk] <;> rfl), (by simp only [lk] <;> rfl), (by simp only [lk] <;> rfl), (by simp only [lk] <;> rfl), trivial⟩ ?_
  simp only [mkA]
  have oldG4 := old4
  have qpG4 := q4p
  have qAG4 := q4a
  have qBG4 := q4b
  have qxG4 := q4x
  have qyG4 := q4y
  have wp1 := part0_c G4 p.base (.slice b1 p.base.length c1) A (.slice none 0 0) (.slice none 0 0) (hb.mono (by omega) oldG4) hlb (by rw [eA1]; exact lb.low) (by rw [eA2]; exact hss) lkb
  rw [bA] at wp1
  refine Wr <| Oa rfl (zf (hv := fa_ok (k := 3) ty25 rfl rfl ty23 rfl rfl)) rfl <| Oa rfl (zl (hv := by simp (disch := first | omega | simp only [nx]; omega) only [aLoad, ty23, rowOf, hpl, qpG4, qAG4, Value.cells] <;> rfl)) rfl <| Oa rfl (zl (hv := by simp (disch := first | omega | simp only [nx]; omega) only [aLoad, ty25, rowOf, hpl, qpG4, qAG4, Value.cells] <;> rfl)) rfl <| OSuf.call rfl (by simp only [aopnds, lk] <;> rfl) en71 (wp1) ?_
  rintro v1 B1 ⟨sv1, nB1, kB1⟩
  obtain ⟨x1, ev1⟩ := sv_form sv1
  subst ev1
  have qr1 : B1.get (h.next + 4) = some (LR A (.slice none 0 0) (.slice none 0 0)) := (by rw [kB1 _ (by omega)]; exact qAG4)
  refine ⟨_, rfl, ?_⟩
  refine Oa rfl (zf (hv := fa_ok (k := 3) ty25 rfl rfl ty23 rfl rfl)) rfl <| Oa rfl (zs (hv := by simp (disch := first | omega | simp only [nx]; omega) only [aStore, ty23, writeRow, hpl, qpG4, qAG4, Value.cells, qr1] <;> rfl)) rfl <| On ?_
  obtain ⟨A1, hA1⟩ : ∃ A1, A1 = B1.set (h.next + 4) (LR A (.slice x1 A.base.length 0) (.slice none 0 0)) := ⟨_, rfl⟩
  show CWp _ _ _ _ (B1.set (h.next + 4) (LR A (.slice x1 A.base.length 0) (.slice none 0 0))) _
  rw [← hA1]
  refine CWp.known (L := [(1, P0 h.next), (2, P0 (h.next + 1)), (3, P0 (h.next + 2)), (7, P0 (h.next + 4)), (8, P0 (h.next + 5))]) ⟨(by simp only [lk] <;> rfl), (by simp only [lk] <;> rfl), (by simp only [lk] <;> rfl), (by simp only [lk] <;> rfl), (by simp only [lk] <;> rfl), trivial⟩ ?_
  simp only [mkA]
  have nA1 : A1.next = B1.next := by rw [hA1]; rfl
  have kA1 : ∀ z, z < h.next + 6 → ¬ z = h.next + 4 → A1.get z = B1.get z := fun z hz h9 => by rw [hA1]; exact Gs (by omega)
  have qAA1 : A1.get (h.next + 4) = some (LR A (.slice x1 A.base.length 0) (.slice none 0 0)) := by rw [hA1]; exact Gp
  have qBA1 : A1.get (h.next + 5) = some (LR B (.slice none 0 0) (.slice none 0 0)) := by rw [kA1 _ (by omega) (by omega), kB1 _ (by omega)]; exact qBG4
  have qpA1 : A1.get h.next = some (LR p (.slice b1 p.base.length c1) (.slice b2 p.deltas.length c2)) := by rw [kA1 _ (by omega) (by omega), kB1 _ (by omega)]; exact qpG4
  have oldA1 : ∀ z, z < h.next → A1.get z = h.get z := fun z hz => by rw [kA1 _ (by omega) (by omega), kB1 _ (by omega)]; exact oldG4 z hz
  have qxA1 : A1.get (h.next + 1) = some (.cells zlf 1) := by rw [kA1 _ (by omega) (by omega), kB1 _ (by omega)]; exact qxG4
  have qyA1 : A1.get (h.next + 2) = some (.cells zlf 1) := by rw [kA1 _ (by omega) (by omega), kB1 _ (by omega)]; exact qyG4
  have wp2 := part0_c A1 p.deltas (.slice b2 p.deltas.length c2) A (.slice x1 A.base.length 0) (.slice none 0 0) (hd.mono (by omega) oldA1) hld (by rw [eA1]; exact lb.low) (by rw [eA2]; exact hss) lkd
  rw [dA] at wp2
  refine Wr <| Oa rfl (zf (hv := fa_ok (k := 4) ty25 rfl rfl ty23 rfl rfl)) rfl <| Oa rfl (zl (hv := by simp (disch := first | omega | simp only [nx]; omega) only [aLoad, ty23, rowOf, hpl, qpA1, qAA1, Value.cells] <;> rfl)) rfl <| Oa rfl (zl (hv := by simp (disch := first | omega | simp only [nx]; omega) only [aLoad, ty25, rowOf, hpl, qpA1, qAA1, Value.cells] <;> rfl)) rfl <| OSuf.call rfl (by simp only [aopnds, lk] <;> rfl) en71 (wp2) ?_
  rintro v2 B2 ⟨sv2, nB2, kB2⟩
  obtain ⟨x2, ev2⟩ := sv_form sv2
  subst ev2
  have qr2 : B2.get (h.next + 4) = some (LR A (.slice x1 A.base.length 0) (.slice none 0 0)) := (by rw [kB2 _ (by omega)]; exact qAA1)
  refine ⟨_, rfl, ?_⟩
  refine Oa rfl (zf (hv := fa_ok (k := 4) ty25 rfl rfl ty23 rfl rfl)) rfl <| Oa rfl (zs (hv := by simp (disch := first | omega | simp only [nx]; omega) only [aStore, ty23, writeRow, hpl, qpA1, qAA1, Value.cells, qr2] <;> rfl)) rfl <| On ?_
  obtain ⟨A2, hA2⟩ : ∃ A2, A2 = B2.set (h.next + 4) (LR A (.slice x1 A.base.length 0) (.slice x2 A.deltas.length 0)) := ⟨_, rfl⟩
  show CWp _ _ _ _ (B2.set (h.next + 4) (LR A (.slice x1 A.base.length 0) (.slice x2 A.deltas.length 0))) _
  rw [← hA2]
  refine CWp.known (L := [(1, P0 h.next), (2, P0 (h.next + 1)), (3, P0 (h.next + 2)), (7, P0 (h.next + 4)), (8, P0 (h.next + 5))]) ⟨(by simp only [lk] <;> rfl), (by simp only [lk] <;> rfl), (by simp only [lk] <;> rfl), (by simp only [lk] <;> rfl), (by simp only [lk] <;> rfl), trivial⟩ ?_
  simp only [mkA]
  have nA2 : A2.next = B2.next := by rw [hA2]; rfl
  have kA2 : ∀ z, z < h.next + 6 → ¬ z = h.next + 4 → A2.get z = B2.get z := fun z hz h9 => by rw [hA2]; exact Gs (by omega)
  have qAA2 : A2.get (h.next + 4) = some (LR A (.slice x1 A.base.length 0) (.slice x2 A.deltas.length 0)) := by rw [hA2]; exact Gp
  have qBA2 : A2.get (h.next + 5) = some (LR B (.slice none 0 0) (.slice none 0 0)) := by rw [kA2 _ (by omega) (by omega), kB2 _ (by omega)]; exact qBA1
  have qpA2 : A2.get h.next = some (LR p (.slice b1 p.base.length c1) (.slice b2 p.deltas.length c2)) := by rw [kA2 _ (by omega) (by omega), kB2 _ (by omega)]; exact qpA1
  have oldA2 : ∀ z, z < h.next → A2.get z = h.get z := fun z hz => by rw [kA2 _ (by omega) (by omega), kB2 _ (by omega)]; exact oldA1 z hz
  have qxA2 : A2.get (h.next + 1) = some (.cells zlf 1) := by rw [kA2 _ (by omega) (by omega), kB2 _ (by omega)]; exact qxA1
  have qyA2 : A2.get (h.next + 2) = some (.cells zlf 1) := by rw [kA2 _ (by omega) (by omega), kB2 _ (by omega)]; exact qyA1
  have wp3 := part0_c A2 p.base (.slice b1 p.base.length c1) B (.slice none 0 0) (.slice none 0 0) (hb.mono (by omega) oldA2) hlb (by rw [eB1]; exact hss) (by rw [eB2]; exact lb.high) lkb
  rw [bB] at wp3
  refine Wr <| Oa rfl (zf (hv := fa_ok (k := 3) ty25 rfl rfl ty23 rfl rfl)) rfl <| Oa rfl (zl (hv := by simp (disch := first | omega | simp only [nx]; omega) only [aLoad, ty23, rowOf, hpl, qpA2, qBA2, Value.cells] <;> rfl)) rfl <| Oa rfl (zl (hv := by simp (disch := first | omega | simp only [nx]; omega) only [aLoad, ty25, rowOf, hpl, qpA2, qBA2, Value.cells] <;> rfl)) rfl <| OSuf.call rfl (by simp only [aopnds, lk] <;> rfl) en71 (wp3) ?_
  rintro v3 B3 ⟨sv3, nB3, kB3⟩
  obtain ⟨x3, ev3⟩ := sv_form sv3
  subst ev3
  have qr3 : B3.get (h.next + 5) = some (LR B (.slice none 0 0) (.slice none 0 0)) := (by rw [kB3 _ (by omega)]; exact qBA2)
  refine ⟨_, rfl, ?_⟩
  refine Oa rfl (zf (hv := fa_ok (k := 3) ty25 rfl rfl ty23 rfl rfl)) rfl <| Oa rfl (zs (hv := by simp (disch := first | omega | simp only [nx]; omega) only [aStore, ty23, writeRow, hpl, qpA2, qBA2, Value.cells, qr3] <;> rfl)) rfl <| On ?_
  obtain ⟨A3, hA3⟩ : ∃ A3, A3 = B3.set (h.next + 5) (LR B (.slice x3 B.base.length 0) (.slice none 0 0)) := ⟨_, rfl⟩
  show CWp _ _ _ _ (B3.set (h.next + 5) (LR B (.slice x3 B.base.length 0) (.slice none 0 0))) _
  rw [← hA3]
  refine CWp.known (L := [(1, P0 h.next), (2, P0 (h.next + 1)), (3, P0 (h.next + 2)), (7, P0 (h.next + 4)), (8, P0 (h.next + 5))]) ⟨(by simp only [lk] <;> rfl), (by simp only [lk] <;> rfl), (by simp only [lk] <;> rfl), (by simp only [lk] <;> rfl), (by simp only [lk] <;> rfl), trivial⟩ ?_
  simp only [mkA]
  have nA3 : A3.next = B3.next := by rw [hA3]; rfl
  have kA3 : ∀ z, z < h.next + 6 → ¬ z = h.next + 5 → A3.get z = B3.get z := fun z hz h9 => by rw [hA3]; exact Gs (by omega)
  have qBA3 : A3.get (h.next + 5) = some (LR B (.slice x3 B.base.length 0) (.slice none 0 0)) := by rw [hA3]; exact Gp
  have qAA3 : A3.get (h.next + 4) = some (LR A (.slice x1 A.base.length 0) (.slice x2 A.deltas.length 0)) := by rw [kA3 _ (by omega) (by omega), kB3 _ (by omega)]; exact qAA2
  have qpA3 : A3.get h.next = some (LR p (.slice b1 p.base.length c1) (.slice b2 p.deltas.length c2)) := by rw [kA3 _ (by omega) (by omega), kB3 _ (by omega)]; exact qpA2
  have oldA3 : ∀ z, z < h.next → A3.get z = h.get z := fun z hz => by rw [kA3 _ (by omega) (by omega), kB3 _ (by omega)]; exact oldA2 z hz
  have qxA3 : A3.get (h.next + 1) = some (.cells zlf 1) := by rw [kA3 _ (by omega) (by omega), kB3 _ (by omega)]; exact qxA2
  have qyA3 : A3.get (h.next + 2) = some (.cells zlf 1) := by rw [kA3 _ (by omega) (by omega), kB3 _ (by omega)]; exact qyA2
  have wp4 := part0_c A3 p.deltas (.slice b2 p.deltas.length c2) B (.slice x3 B.base.length 0) (.slice none 0 0) (hd.mono (by omega) oldA3) hld (by rw [eB1]; exact hss) (by rw [eB2]; exact lb.high) lkd
  rw [dB] at wp4
  refine Wr <| Oa rfl (zf (hv := fa_ok (k := 4) ty25 rfl rfl ty23 rfl rfl)) rfl <| Oa rfl (zl (hv := by simp (disch := first | omega | simp only [nx]; omega) only [aLoad, ty23, rowOf, hpl, qpA3, qBA3, Value.cells] <;> rfl)) rfl <| Oa rfl (zl (hv := by simp (disch := first | omega | simp only [nx]; omega) only [aLoad, ty25, rowOf, hpl, qpA3, qBA3, Value.cells] <;> rfl)) rfl <| OSuf.call rfl (by simp only [aopnds, lk] <;> rfl) en71 (wp4) ?_
  rintro v4 B4 ⟨sv4, nB4, kB4⟩
  obtain ⟨x4, ev4⟩ := sv_form sv4
  subst ev4
  have qr4 : B4.get (h.next + 5) = some (LR B (.slice x3 B.base.length 0) (.slice none 0 0)) := (by rw [kB4 _ (by omega)]; exact qBA3)
  refine ⟨_, rfl, ?_⟩
  refine Oa rfl (zf (hv := fa_ok (k := 4) ty25 rfl rfl ty23 rfl rfl)) rfl <| Oa rfl (zs (hv := by simp (disch := first | omega | simp only [nx]; omega) only [aStore, ty23, writeRow, hpl, qpA3, qBA3, Value.cells, qr4] <;> rfl)) rfl <| On ?_
  obtain ⟨A4, hA4⟩ : ∃ A4, A4 = B4.set (h.next + 5) (LR B (.slice x3 B.base.length 0) (.slice x4 B.deltas.length 0)) := ⟨_, rfl⟩
  show CWp _ _ _ _ (B4.set (h.next + 5) (LR B (.slice x3 B.base.length 0) (.slice x4 B.deltas.length 0))) _
  rw [← hA4]
  refine CWp.known (L := [(1, P0 h.next), (2, P0 (h.next + 1)), (3, P0 (h.next + 2)), (7, P0 (h.next + 4)), (8, P0 (h.next + 5))]) ⟨(by simp only [lk] <;> rfl), (by simp only [lk] <;> rfl), (by simp only [lk] <;> rfl), (by simp only [lk] <;> rfl), (by simp only [lk] <;> rfl), trivial⟩ ?_
  simp only [mkA]
  have nA4 : A4.next = B4.next := by rw [hA4]; rfl
  have kA4 : ∀ z, z < h.next + 6 → ¬ z = h.next + 5 → A4.get z = B4.get z := fun z hz h9 => by rw [hA4]; exact Gs (by omega)
  have qBA4 : A4.get (h.next + 5) = some (LR B (.slice x3 B.base.length 0) (.slice x4 B.deltas.length 0)) := by rw [hA4]; exact Gp
  have qAA4 : A4.get (h.next + 4) = some (LR A (.slice x1 A.base.length 0) (.slice x2 A.deltas.length 0)) := by rw [kA4 _ (by omega) (by omega), kB4 _ (by omega)]; exact qAA3
  have qpA4 : A4.get h.next = some (LR p (.slice b1 p.base.length c1) (.slice b2 p.deltas.length c2)) := by rw [kA4 _ (by omega) (by omega), kB4 _ (by omega)]; exact qpA3
  have oldA4 : ∀ z, z < h.next → A4.get z = h.get z := fun z hz => by rw [kA4 _ (by omega) (by omega), kB4 _ (by omega)]; exact oldA3 z hz
  have qxA4 : A4.get (h.next + 1) = some (.cells zlf 1) := by rw [kA4 _ (by omega) (by omega), kB4 _ (by omega)]; exact qxA3
  have qyA4 : A4.get (h.next + 2) = some (.cells zlf 1) := by rw [kA4 _ (by omega) (by omega), kB4 _ (by omega)]; exact qyA3
  refine W.seq <| CWp.sqd tyOK mixed (ms := [0, 0, 1, 7, 15]) (by kernel_rfl) (
      .read rfl rfl (zl (hv := by simp (disch := first | omega | simp only [nx]; omega) only [aLoad, ty25, rowOf, hpl, qxA4, qyA4, qAA4, qBA4, Value.cells] <;> rfl)) (by first | rfl | (simp [veq, veq1, veqs]; done) | (simp [veq, veq1, veqs, splice]; done)) trivial rfl <| .read rfl rfl (zl (hv := by simp (disch := first | omega | simp only [nx]; omega) only [aLoad, ty25, rowOf, hpl, qxA4, qyA4, qAA4, qBA4, Value.cells] <;> rfl)) (by first | rfl | (simp [veq, veq1, veqs]; done) | (simp [veq, veq1, veqs, splice]; done)) trivial rfl <| .change rfl rfl (zs (hv := by simp (disch := first | omega | simp only [nx]; omega) only [aStore, ty25, writeRow, hpl, qxA4, qyA4, qAA4, qBA4, Value.cells] <;> rfl)) rfl ⟨.inr (zl (hv := by simp (disch := first | omega | simp only [nx]; omega) only [aLoad, ty25, rowOf, hpl, qxA4, qyA4, qAA4, qBA4, Value.cells] <;> rfl)), .inl rfl, trivial⟩ rfl <| .change rfl rfl (zs (hv := by simp (disch := first | omega | simp only [nx]; omega) only [aStore, ty25, writeRow, hpl, qxA4, qyA4, qAA4, qBA4, Value.cells] <;> rfl)) rfl ⟨.inl rfl, .inl rfl, trivial⟩ rfl <| .free rfl rfl za rfl <| .nil) <| SQ.normal ?_
  refine CWp.ret <| FQ.ret (by simp (disch := first | omega | simp only [nx]; omega) only [aRet, Tryz.f31, aResults, aResult, lk, Nat.reduceEqDiff, reduceIte, aLoad, rowOf, hpl, qxA4, qyA4, qAA4, qBA4, Value.cells, places, tb31] <;> rfl) ?_
  have t1 : ∀ z, h.next + 6 ≤ z → z < B1.next → A4.get z = B1.get z := fun z h8 h9 => by rw [hA4, Gs (by omega), kB4 z (by omega), hA3, Gs (by omega), kB3 z (by omega), hA2, Gs (by omega), kB2 z (by omega), hA1, Gs (by omega)]
  have t2 : ∀ z, h.next + 6 ≤ z → z < B2.next → A4.get z = B2.get z := fun z h8 h9 => by rw [hA4, Gs (by omega), kB4 z (by omega), hA3, Gs (by omega), kB3 z (by omega), hA2, Gs (by omega)]
  have t3 : ∀ z, h.next + 6 ≤ z → z < B3.next → A4.get z = B3.get z := fun z h8 h9 => by rw [hA4, Gs (by omega), kB4 z (by omega), hA3, Gs (by omega)]
  have t4 : ∀ z, h.next + 6 ≤ z → z < B4.next → A4.get z = B4.get z := fun z h8 h9 => by rw [hA4, Gs (by omega)]
  refine ⟨by simp only [nx]; omega, fun z hz => by simp (disch := first | omega | simp only [nx]; omega) only [hpl]; exact oldA4 z hz, .inr ⟨s, _, _, by omega, hs, rfl, ?_, ?_⟩⟩
  · rw [← hA]
    refine ⟨_, _, _, _, rfl, ?_, ?_⟩
    · exact (sv_rsl sv1).mono (by omega) (by simp only [nx]; omega) (fun z h8 h9 => by simp (disch := first | omega | simp only [nx]; omega) only [hpl]; exact t1 z (by omega) h9)
    · exact (sv_rsl sv2).mono (by omega) (by simp only [nx]; omega) (fun z h8 h9 => by simp (disch := first | omega | simp only [nx]; omega) only [hpl]; exact t2 z (by omega) h9)
  · rw [← hB]
    refine ⟨_, _, _, _, rfl, ?_, ?_⟩
    · exact (sv_rsl sv3).mono (by omega) (by simp only [nx]; omega) (fun z h8 h9 => by simp (disch := first | omega | simp only [nx]; omega) only [hpl]; exact t3 z (by omega) h9)
    · exact (sv_rsl sv4).mono (by omega) (by simp only [nx]; omega) (fun z h8 h9 => by simp (disch := first | omega | simp only [nx]; omega) only [hpl]; exact t4 z (by omega) h9)
end Go.Proofs.YtebheelmgcggmaaGreat
