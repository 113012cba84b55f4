/-
  Merged: QgA, QgB, QgC, QgD, QgE, QgL, QgI, QgJ.
-/
import Derived.Test.YtebheelmgcggmaaGreatMe
import Derived.Test.YtebheelmgcggmaaGreatMf
import Derived.Test.YtebheelmgcggmaaGreatMj
import Derived.Test.YtebheelmgcggmaaGreatAb39
set_option linter.unusedSimpArgs false
set_option linter.unusedVariables false
set_option maxRecDepth 10000
set_option maxHeartbeats 8000000
namespace Go.Proofs.YtebheelmgcggmaaGreat
open Go.Ab Go.Sort
theorem lt_cons (x y : UInt8) (a b : List UInt8) : ltStr (x :: a) (y :: b) = (decide (x < y) || (decide (x = y) && ltStr a b)) := by
  simp only [ltStr]
  rw [Bool.eq_iff_iff]
  simp [List.cons_lt_cons_iff]
theorem lt_split (x y : UInt8) (hxy : ¬ x = y) (a b : List UInt8) : ∀ p : List UInt8, ltStr (p ++ x :: a) (p ++ y :: b) = decide (x < y)
  | [] => by rw [List.nil_append, List.nil_append, lt_cons]; simp [hxy]
  | z :: p => by
    rw [List.cons_append, List.cons_append, lt_cons, lt_split x y hxy a b p]
    simp [UInt8.lt_irrefl]
theorem lt_ext : ∀ (a t : List UInt8), ltStr a (a ++ t) = decide (0 < t.length)
  | [], [] => by simp [ltStr]
  | [], x :: t => by simp [ltStr]
  | z :: a, t => by rw [List.cons_append, lt_cons, lt_ext a t]; simp [UInt8.lt_irrefl]
theorem lt_ext' : ∀ (a t : List UInt8), ltStr (a ++ t) a = false
  | [], [] => by simp [ltStr]
  | [], x :: t => by simp [ltStr]
  | z :: a, t => by rw [List.cons_append, lt_cons, lt_ext' a t]; simp [UInt8.lt_irrefl]
theorem lt_pre {a b : List UInt8} {n : Nat} (h : a.take n = b.take n) (hn : a.length ≤ n ∨ b.length ≤ n) : ltStr a b = decide (a.length < b.length) := by
  rcases Nat.le_total a.length b.length with hl | hl
  · have hn : a.length ≤ n := by omega
    rw [List.take_of_length_le hn] at h
    have hb : b = a ++ b.drop a.length := by
      have h2 : b.take a.length = a := by
        have := congrArg (fun l : List UInt8 => l.take a.length) h
        simp only [List.take_take, List.take_length] at this
        rw [Nat.min_eq_left hn] at this; exact this.symm
      rw [← h2, List.length_take, Nat.min_eq_left hl]
      simp
    have h3 := lt_ext a (b.drop a.length)
    rw [← hb] at h3
    rw [h3, decide_eq_decide]
    simp; omega
  · have hn : b.length ≤ n := by omega
    rw [List.take_of_length_le hn] at h
    have hb : a = b ++ a.drop b.length := by
      have h2 : a.take b.length = b := by
        have := congrArg (fun l : List UInt8 => l.take b.length) h
        simp only [List.take_take, List.take_length] at this
        rw [Nat.min_eq_left hn] at this; exact this
      rw [← h2, List.length_take, Nat.min_eq_left hl]
      simp
    have h3 := lt_ext' b (a.drop b.length)
    rw [← hb] at h3
    rw [h3]; symm
    simp; omega
theorem less_c (h : AHeap) (a b : List UInt8) (ha : a.length < 9223372036854775808) (hb : b.length < 9223372036854775808) : FWp Tryz.prog 49 [encS a, encS b] h fun u h' => u = .bool (ltStr a b) ∧ h' = h := by
  have e0 : (ByteArray.mk ⟨a⟩).size = a.length := rfl
  have e1 : (ByteArray.mk ⟨b⟩).size = b.length := rfl
  refine W.enter tyOK Tryz.func49 rfl rfl ?_
  simp only [entry]
  refine Wr <| jF za rfl <| On ?_
  refine W.seq <| Wr <| ja za <| On ?_
  refine W.cut (fun L h' => h' = h ∧ ltStr a b = decide (a.length < b.length) ∧ L = [(0, encS a), (1, encS b)]) (W.block (W.loop (fun n L h' => ∃ i : Nat, n + i = a.length + 1 ∧ h' = h ∧ a.take i = b.take i ∧ i ≤ a.length ∧ i ≤ b.length ∧ L = [(0, encS a), (1, encS b), (5, I64 i)]) (n := a.length + 1) ⟨0, by omega, rfl, rfl, by omega, by omega, rfl⟩ ?_ ?_)) ?_
  · simp [HasA, Tr.get_put]
  · rintro n L h' ⟨i, hn, rfl, ht, hia, hib, rfl⟩
    simp only [mkA]
    by_cases h1 : (i : Int) < (a.length : Int)
    · have w2 : IntKind.i64.wrap ((i : Int) + 1) = ((i + 1 : Nat) : Int) := by rw [wrap_i64 xA xA]; omega
      by_cases h2 : (i : Int) < (b.length : Int)
      · obtain ⟨x, hx⟩ : ∃ x, a[i]? = some x := ⟨a[i]'xA, by simp⟩
        obtain ⟨y, hy⟩ : ∃ y, b[i]? = some y := ⟨b[i]'xA, by simp⟩
        have hx' : (ByteArray.mk ⟨a⟩).data.toList[i]? = some x := hx
        have hy' : (ByteArray.mk ⟨b⟩).data.toList[i]? = some y := hy
        by_cases hxy : x = y
        · have b1 : ((x.toNat : Int) != (y.toNat : Int)) = false := by simp [hxy]
          have jY := An @e0 <| An @e1 <| ty9
          refine W.seq <| Wr <| ja sm <| ja sm <| ja Jn <| je Jt <| jE sm rfl <| ja sm <| ja sm <| ja Jn <| je Jt <| jE Zp rfl <| On ?_
          refine Wy <| CWp.skip <| SQ.normal ?_
          refine W.seq <| W.block <| Wd <| jb sm <| jb sm <| jb (so_index xB xB (ix_str ty9 rfl hx')) <| jb sm <| jb sm <| jb (so_index xB xB (ix_str ty9 rfl hy')) <| jH Jz (b1) <| Sn ?_
          refine Wn <| CWp.skip <| BQ.normal <| SQ.normal ?_
          have jW := @w2
          refine W.reg <| ja sm <| ja Ja <| ja za <| OSuf.nil <| ?_
          refine LQ.normal (m := n - 1) (L := [(0, encS a), (1, encS b), (5, I64 ((i + 1 : Nat) : Int))]) xA ?_ ⟨i + 1, by omega, rfl, ?_, by omega, by omega, rfl⟩
          · simp only [HasA, Tr.get_put, Nat.reduceEqDiff, reduceIte, w2, and_self]
          · rw [List.take_add_one, List.take_add_one, ht, hx, hy, hxy]
        · have hne : ¬ x.toNat = y.toNat := fun e => hxy (UInt8.toNat_inj.1 e)
          have b1 : ((x.toNat : Int) != (y.toNat : Int)) = true := by simp; omega
          have hlt : decide ((x.toNat : Int) < (y.toNat : Int)) = ltStr a b := by
            have ea : a = a.take i ++ x :: a.drop (i + 1) := by
              conv => lhs; rw [← List.take_append_drop i a, List.drop_eq_getElem_cons xA]
              rw [(List.getElem?_eq_some_iff.1 hx).2]
            have eb : b = a.take i ++ y :: b.drop (i + 1) := by
              conv => lhs; rw [← List.take_append_drop i b, List.drop_eq_getElem_cons xA, ← ht]
              rw [(List.getElem?_eq_some_iff.1 hy).2]
            have := lt_split x y hxy (a.drop (i + 1)) (b.drop (i + 1)) (a.take i)
            rw [← ea, ← eb] at this
            rw [this, decide_eq_decide, UInt8.lt_iff_toNat_lt]; omega
          have jY := An @e0 <| An @e1 <| ty9
          refine W.seq <| Wr <| ja sm <| ja sm <| ja Jn <| je Jt <| jE sm rfl <| ja sm <| ja sm <| ja Jn <| je Jt <| jE Zp rfl <| On ?_
          refine Wy <| CWp.skip <| SQ.normal ?_
          refine W.seq <| W.block <| Wd <| jb sm <| jb sm <| jb (so_index xB xB (ix_str ty9 rfl hx')) <| jb sm <| jb sm <| jb (so_index xB xB (ix_str ty9 rfl hy')) <| jG Jz (b1) <| Sn ?_
          refine Wy <| Wd <| jb sm <| jb sm <| jb (so_index xB xB (ix_str ty9 rfl hx')) <| jb sm <| jb sm <| jb (so_index xB xB (ix_str ty9 rfl hy')) <| jb Jt <| jb za <| Sn ?_
          refine CWp.ret <| BQ.ret <| SQ.ret <| LQ.ret <| BQ.ret <| NQ.ret <| SQ.ret <| Jr ?_
          exact ⟨by rw [hlt], rfl⟩
      · have jY := An @e0 <| An @e1 <| ty9
        refine W.seq <| Wr <| ja sm <| ja sm <| ja Jn <| je Jt <| jE sm rfl <| ja sm <| ja sm <| ja Jn <| jf Jt <| jF Zp rfl <| On ?_
        refine Wn <| CWp.exit <| SQ.exit <| LQ.exit <| BQ.exit <| ?_
        refine NQ.normal (L := [(0, encS a), (1, encS b)]) ?_ ⟨rfl, lt_pre ht xA, rfl⟩
        simp only [HasA, Tr.get_put, Nat.reduceEqDiff, reduceIte, and_self]
    · have jY := An @e0 <| An @e1 <| ty9
      refine W.seq <| Wr <| ja sm <| ja sm <| ja Jn <| jf Jt <| jF sm rfl <| jp rfl <| jp rfl <| jp rfl <| jp rfl <| jF Zp rfl <| On ?_
      refine Wn <| CWp.exit <| SQ.exit <| LQ.exit <| BQ.exit <| ?_
      refine NQ.normal (L := [(0, encS a), (1, encS b)]) ?_ ⟨rfl, lt_pre ht xA, rfl⟩
      simp only [HasA, Tr.get_put, Nat.reduceEqDiff, reduceIte, and_self]
  rintro L a' h' ha ⟨rfl, hlt, rfl⟩
  refine SQ.normal <| CWp.known ha ?_
  simp only [mkA]
  have jY := An @e0 <| An @e1 <| ty9
  refine Wr <| ja sm <| ja Jn <| ja sm <| ja Jn <| ja Jt <| ja za <| On ?_
  refine CWp.ret <| Jr ?_
  refine ⟨?_, rfl⟩
  rw [hlt]
  congr 1
  rw [decide_eq_decide]; omega
abbrev SL (s : List UInt8) : Prop := s.length < 9223372036854775808
structure LB (p : Lf) : Prop where
  low : SL p.low
  high : SL p.high
  ky : ∀ r ∈ p.all, SL r.key ∧ SL r.val
theorem inside0_c (h : AHeap) (p : Lf) (bv dv : Value) (k : List UInt8) (h1 : SL p.low) (h2 : SL p.high) (hk : SL k) : FWp Tryz.prog 85 [LV p bv dv, encS k] h fun u h' => u = .bool (insR p.low p.high k) ∧ h' = h := by
  refine FWp.gcs (.flat rfl) ?_
  have l1 := fun G : AHeap => less_c G k p.low hk h1
  have l2 := fun G : AHeap => less_c G k p.high hk h2
  refine W.enter tyOK Tryz.func85 rfl rfl ?_
  simp only [entry]
  cases c1 : ltStr k p.low with
  | true =>
    rw [c1] at l1
    refine Wr <| ja Zx <| jF za rfl <| On ?_
    have jY := An ty9 <| ty25
    refine Wr <| ja sm <| ja J25f0 <| ja Jl <| jk (Jc en49 (l1 _)) rfl <| jF Zt rfl <| jF sm rfl <| jp rfl <| jp rfl <| jp rfl <| jp rfl <| jp rfl <| jp rfl <| jp rfl <| jp rfl <| jp rfl <| jF Zp rfl <| jF za rfl <| On ?_
    refine CWp.ret <| Jr ?_
    exact ⟨by simp [insR, c1], fun r o hr ho => by simp (disch := first | omega | simp only [nx]; omega) only [hpl]; exact ho⟩
  | false =>
    rw [c1] at l1
    by_cases c2 : p.high = []
    · refine Wr <| ja Zx <| jF za rfl <| On ?_
      have jY := An ty9 <| ty25
      refine Wr <| ja sm <| ja J25f0 <| ja Jl <| jk (Jc en49 (l1 _)) rfl <| jE Zt rfl <| jE sm rfl <| ja J25f1 <| ja Jl <| jE (zb (hv := bs_eql)) (by simp [sst, c2]) <| jE sm rfl <| jp rfl <| jp rfl <| jp rfl <| jp rfl <| jE Zp rfl <| jE Zp rfl <| jE za rfl <| On ?_
      refine CWp.ret <| Jr ?_
      exact ⟨by simp [insR, c1, c2], fun r o hr ho => by simp (disch := first | omega | simp only [nx]; omega) only [hpl]; exact ho⟩
    · refine Wr <| ja Zx <| jF za rfl <| On ?_
      have jY := An ty9 <| ty25
      refine Wr <| ja sm <| ja J25f0 <| ja Jl <| jk (Jc en49 (l1 _)) rfl <| jE Zt rfl <| jE sm rfl <| ja J25f1 <| ja Jl <| jF (zb (hv := bs_eql)) (by simp [sst, c2]) <| jF sm rfl <| ja sm <| ja J25f1 <| ja Jl <| jk (Jc en49 (l2 _)) rfl <| ja Zp <| ja Zp <| ja za <| On ?_
      refine CWp.ret <| Jr ?_
      exact ⟨by simp [insR, c1, c2], fun r o hr ho => by simp (disch := first | omega | simp only [nx]; omega) only [hpl]; exact ho⟩
theorem may0_c (h : AHeap) (x : Rec) : FWp Tryz.prog 84 [x.V] h fun u h' => u = I64 (mayE x) ∧ h' = h := by
  have tb84 := And.intro ty27 (And.intro ty4 (ty9))
  refine FWp.gcs (.flat rfl) ?_
  have e0 : (ByteArray.mk ⟨x.key⟩).size = x.key.length := rfl
  have e1 : (ByteArray.mk ⟨x.val⟩).size = x.val.length := rfl
  refine W.enter tyOK Tryz.func84 rfl rfl ?_
  simp only [entry]
  by_cases a1 : 16 < x.key.length
  · refine Wr <| ja Zx <| ja za <| On ?_
    have jY := An @Rec.csE <| An @e0 <| An @e1 <| An ty9 <| tb84
    refine W.seq <| Wr <| ja J27f0 <| ja Jl <| ja Jn <| jE Jv xG <| jE sm rfl <| jp rfl <| jp rfl <| jp rfl <| jp rfl <| jE Zp rfl <| On ?_
    refine Wy <| Wr <| ja za <| On ?_
    refine CWp.ret <| SQ.ret <| Jr ?_
    exact ⟨by rw [mayE, if_neg xA], fun r o hr ho => by simp (disch := first | omega | simp only [nx]; omega) only [hpl]; exact ho⟩
  by_cases a2 : 24 < x.val.length
  · refine Wr <| ja Zx <| ja za <| On ?_
    have jY := An @Rec.csE <| An @e0 <| An @e1 <| An ty9 <| tb84
    refine W.seq <| Wr <| ja J27f0 <| ja Jl <| ja Jn <| jF Jv xG <| jF sm rfl <| ja J27f3 <| ja Jl <| ja Jn <| jE Jv xG <| jE Zp rfl <| On ?_
    refine Wy <| Wr <| ja za <| On ?_
    refine CWp.ret <| SQ.ret <| Jr ?_
    exact ⟨by rw [mayE, if_neg xA], fun r o hr ho => by simp (disch := first | omega | simp only [nx]; omega) only [hpl]; exact ho⟩
  by_cases a3 : x.key = []
  · refine Wr <| ja Zx <| ja za <| On ?_
    have jY := An @Rec.csE <| An @e0 <| An @e1 <| An ty9 <| tb84
    refine W.seq <| Wr <| ja J27f0 <| ja Jl <| ja Jn <| jF Jv xG <| jF sm rfl <| ja J27f3 <| ja Jl <| ja Jn <| jF Jv xG <| jF Zp rfl <| On ?_
    refine Wn <| CWp.skip <| SQ.normal ?_
    refine W.seq <| Wr <| ja J27f0 <| ja Jl <| jE (zb (hv := bs_eql)) (by simp [sst, a3]) <| jE sm rfl <| jp rfl <| jp rfl <| jp rfl <| jp rfl <| jp rfl <| jp rfl <| jp rfl <| jE Zp rfl <| On ?_
    refine Wy <| Wr <| ja za <| On ?_
    refine CWp.ret <| SQ.ret <| Jr ?_
    exact ⟨by rw [mayE, if_pos xA, if_neg (fun h => h.1 a3)], fun r o hr ho => by simp (disch := first | omega | simp only [nx]; omega) only [hpl]; exact ho⟩
  cases a4 : x.del with
  | false =>
    refine Wr <| ja Zx <| ja za <| On ?_
    have jY := An @Rec.csE <| An @e0 <| An @e1 <| An ty9 <| An tb84 <| ty4
    refine W.seq <| Wr <| ja J27f0 <| ja Jl <| ja Jn <| jF Jv xG <| jF sm rfl <| ja J27f3 <| ja Jl <| ja Jn <| jF Jv xG <| jF Zp rfl <| On ?_
    refine Wn <| CWp.skip <| SQ.normal ?_
    refine W.seq <| Wr <| ja J27f0 <| ja Jl <| jF (zb (hv := bs_eql)) (by simp [sst, a3]) <| jF sm rfl <| ja J27f2 <| jF Jl (a4) <| jF sm rfl <| jp rfl <| jp rfl <| jp rfl <| jF Zp rfl <| jF Zp rfl <| On ?_
    refine Wn <| CWp.skip <| SQ.normal ?_
    refine Wr <| ja za <| On ?_
    refine CWp.ret <| Jr ?_
    exact ⟨by rw [mayE, if_pos xA, if_pos ⟨a3, fun h => by rw [a4] at h; cases h⟩], fun r o hr ho => by simp (disch := first | omega | simp only [nx]; omega) only [hpl]; exact ho⟩
  | true =>
    by_cases a5 : x.val = []
    · refine Wr <| ja Zx <| ja za <| On ?_
      have jY := An @Rec.csE <| An @e0 <| An @e1 <| An ty9 <| An tb84 <| ty4
      refine W.seq <| Wr <| ja J27f0 <| ja Jl <| ja Jn <| jF Jv xG <| jF sm rfl <| ja J27f3 <| ja Jl <| ja Jn <| jF Jv xG <| jF Zp rfl <| On ?_
      refine Wn <| CWp.skip <| SQ.normal ?_
      refine W.seq <| Wr <| ja J27f0 <| ja Jl <| jF (zb (hv := bs_eql)) (by simp [sst, a3]) <| jF sm rfl <| ja J27f2 <| jE Jl (a4) <| jE sm rfl <| ja J27f3 <| ja Jl <| jF (zb (hv := bs_neq)) (by simp [sst, a5]) <| jF Zp rfl <| jF Zp rfl <| On ?_
      refine Wn <| CWp.skip <| SQ.normal ?_
      refine Wr <| ja za <| On ?_
      refine CWp.ret <| Jr ?_
      exact ⟨by rw [mayE, if_pos xA, if_pos ⟨a3, fun _ => a5⟩], fun r o hr ho => by simp (disch := first | omega | simp only [nx]; omega) only [hpl]; exact ho⟩
    · refine Wr <| ja Zx <| ja za <| On ?_
      have jY := An @Rec.csE <| An @e0 <| An @e1 <| An ty9 <| An tb84 <| ty4
      refine W.seq <| Wr <| ja J27f0 <| ja Jl <| ja Jn <| jF Jv xG <| jF sm rfl <| ja J27f3 <| ja Jl <| ja Jn <| jF Jv xG <| jF Zp rfl <| On ?_
      refine Wn <| CWp.skip <| SQ.normal ?_
      refine W.seq <| Wr <| ja J27f0 <| ja Jl <| jF (zb (hv := bs_eql)) (by simp [sst, a3]) <| jF sm rfl <| ja J27f2 <| jE Jl (a4) <| jE sm rfl <| ja J27f3 <| ja Jl <| jE (zb (hv := bs_neq)) (by simp [sst, a5]) <| jE Zp rfl <| jE Zp rfl <| On ?_
      refine Wy <| Wr <| ja za <| On ?_
      refine CWp.ret <| SQ.ret <| Jr ?_
      exact ⟨by rw [mayE, if_pos xA, if_neg (fun h => a5 (h.2 a4))], fun r o hr ho => by simp (disch := first | omega | simp only [nx]; omega) only [hpl]; exact ho⟩
theorem rec0_c (h : AHeap) (p : Lf) (bv dv : Value) (x : Rec) (h1 : SL p.low) (h2 : SL p.high) (hk : SL x.key) : FWp Tryz.prog 42 [LV p bv dv, x.V] h fun u h' => u = .bool (fit p.low p.high x) ∧ h' = h := by
  have tb42 := And.intro ty22 (And.intro ty25 (And.intro ty27 (ty9)))
  refine FWp.gcs (.flat rfl) ?_
  refine W.enter tyOK Tryz.func42 rfl rfl ?_
  simp only [entry]
  cases m : mayR x with
  | false =>
    refine Wr <| ja Zx <| ja Zx <| jF za rfl <| On ?_
    have jY := An @rcl <| ty27
    refine Wr <| ja Jl <| jk (Jc en84 (may0_c _ x)) rfl <| jF Jy (by rw [mayE_ok]; exact m) <| jF sm rfl <| jp rfl <| jp rfl <| jp rfl <| jF Zp rfl <| jF sm rfl <| jp rfl <| jp rfl <| jp rfl <| jF Zp rfl <| jF sm rfl <| jp rfl <| jp rfl <| jp rfl <| jp rfl <| jF Zp rfl <| jF za rfl <| On ?_
    refine CWp.ret <| Jr ?_
    exact ⟨by simp [fit, m], fun r o hr ho => by simp (disch := first | omega | simp only [nx]; omega) only [hpl]; exact ho⟩
  | true =>
    by_cases c1 : x.lsn ≥ 1
    · by_cases c2 : x.lsn ≤ 1099511627776
      · refine Wr <| ja Zx <| ja Zx <| jF za rfl <| On ?_
        have jY := An @rcl <| An @Rec.csE <| An ty27 <| An ty22 <| An ty25 <| ty9
        refine Wr <| ja Jl <| jk (Jc en84 (may0_c _ x)) rfl <| jE Jy (by rw [mayE_ok]; exact m) <| jE sm rfl <| ja J27f1 <| ja Jl <| jE Jx (by simp [c1]) <| jE Zp rfl <| jE sm rfl <| ja J27f1 <| ja Jl <| jE Ju (by simp [c2]) <| jE Zp rfl <| jE sm rfl <| ja Jl <| ja J27f0 <| ja Jl <| jk (Jc en85 (inside0_c _ p bv dv x.key h1 h2 hk)) rfl <| ja Zp <| ja za <| On ?_
        refine CWp.ret <| Jr ?_
        exact ⟨by simp [fit, m, c1, c2], fun r o hr ho => by simp (disch := first | omega | simp only [nx]; omega) only [hpl]; exact ho⟩
      · refine Wr <| ja Zx <| ja Zx <| jF za rfl <| On ?_
        have jY := An @rcl <| An @Rec.csE <| An ty27 <| ty22
        refine Wr <| ja Jl <| jk (Jc en84 (may0_c _ x)) rfl <| jE Jy (by rw [mayE_ok]; exact m) <| jE sm rfl <| ja J27f1 <| ja Jl <| jE Jx (by simp [c1]) <| jE Zp rfl <| jE sm rfl <| ja J27f1 <| ja Jl <| jF Ju (by simp [c2]) <| jF Zp rfl <| jF sm rfl <| jp rfl <| jp rfl <| jp rfl <| jp rfl <| jF Zp rfl <| jF za rfl <| On ?_
        refine CWp.ret <| Jr ?_
        exact ⟨by simp [fit, m, c2], fun r o hr ho => by simp (disch := first | omega | simp only [nx]; omega) only [hpl]; exact ho⟩
    · refine Wr <| ja Zx <| ja Zx <| jF za rfl <| On ?_
      have jY := An @rcl <| An @Rec.csE <| An ty27 <| ty22
      refine Wr <| ja Jl <| jk (Jc en84 (may0_c _ x)) rfl <| jE Jy (by rw [mayE_ok]; exact m) <| jE sm rfl <| ja J27f1 <| ja Jl <| jF Jx (by simp [c1]) <| jF Zp rfl <| jF sm rfl <| jp rfl <| jp rfl <| jp rfl <| jF Zp rfl <| jF sm rfl <| jp rfl <| jp rfl <| jp rfl <| jp rfl <| jF Zp rfl <| jF za rfl <| On ?_
      refine CWp.ret <| Jr ?_
      exact ⟨by simp [fit, m, c1], fun r o hr ho => by simp (disch := first | omega | simp only [nx]; omega) only [hpl]; exact ho⟩
end Go.Proofs.YtebheelmgcggmaaGreat
namespace Go.Proofs.YtebheelmgcggmaaGreat
open Go.Ab Go.Sort
theorem chk_all {p : Lf} {x : Rec} (hx : x ∈ p.all) (h : fit p.low p.high x = false) : chk p = false := by
  cases c : chk p with
  | false => rfl
  | true =>
    simp only [chk, Bool.and_eq_true, List.all_eq_true] at c
    rw [c.2.1 x hx] at h; cases h
theorem chk_b {p : Lf} {j : Nat} {a b : Rec} (ha : p.base[j]? = some a) (hb : p.base[j + 1]? = some b) (h : ltK a b = false) : chk p = false := by
  cases c : chk p with
  | false => rfl
  | true =>
    simp only [chk, Bool.and_eq_true] at c
    rw [risB_not ha hb h] at c; cases c.2.2.1
theorem chk_d {p : Lf} {j : Nat} {a b : Rec} (ha : p.deltas[j]? = some a) (hb : p.deltas[j + 1]? = some b) (h : ltL a b = false) : chk p = false := by
  cases c : chk p with
  | false => rfl
  | true =>
    simp only [chk, Bool.and_eq_true] at c
    rw [risB_not ha hb h] at c; cases c.2.2.2
theorem check0_c (h : AHeap) (p : Lf) (bv dv : Value) (hb : RS h p.base bv) (hd : RS h p.deltas dv) (hlb : p.base.length ≤ 1000000) (hld : p.deltas.length ≤ 1000000) (lb : LB p) :
    FWp Tryz.prog 14 [LV p bv dv] h fun u h' => u = I64 (if chk p = true then 0 else 2) ∧ h' = h := by
  have tb14 := And.intro ty22 (And.intro ty23 (And.intro ty25 (And.intro ty27 (ty9))))
  obtain ⟨b1, c1, rfl⟩ := hb.form
  obtain ⟨b2, c2, rfl⟩ := hd.form
  refine FWp.gcs (.flat rfl) ?_
  refine W.enter tyOK Tryz.func14 rfl rfl ?_
  simp only [entry]
  have hsz1 := sz_str p.low
  have hsz2 := sz_str p.high
  have bad : ∀ e : Int, chk p = false → e = 2 → I64 e = I64 (if chk p = true then 0 else 2) := fun e h1 h2 => by rw [h1, h2]; rfl
  have bad' : ¬ (p.low.length ≤ 16 ∧ p.high.length ≤ 16 ∧ (p.high = [] ∨ ltStr p.low p.high = true) ∧ p.full ≤ 1099511627776 ∧ p.base.length ≤ 64 ∧ p.deltas.length ≤ 64) → chk p = false := fun hn => by simp only [chk]; rw [decide_eq_false hn]; rfl
  apply W.join (fun L h' => (p.low.length ≤ 16 ∧ p.high.length ≤ 16 ∧ (p.high = [] ∨ ltStr p.low p.high = true) ∧ p.full ≤ 1099511627776 ∧ p.base.length ≤ 64 ∧ p.deltas.length ≤ 64) ∧ h' = h.new (.cells (lcs p (.slice b1 p.base.length c1) (.slice b2 p.deltas.length c2)) 1) ∧ L = [(1, P0 h.next)])
  · intro rest
    refine Wr <| ja Zx <| ja za <| On ?_
    have jY := An @hsz1 <| An @hsz2 <| An ty9 <| An tb14 <| An ty22 <| ty23
    refine W.seq <| Wr <| ja J25f0 <| ja Jl <| ja Jn <| OSuf.aopB tyOK rfl Jv (fun _ => rfl) (fun h1 => ?_) (fun h1 => ?_)
    · try simp only [bl] at h1
      refine jE sm rfl <| jp rfl <| jp rfl <| jp rfl <| jp rfl <| jE Zp rfl <| jE sm rfl <| jp rfl <| jp rfl <| jp rfl <| jp rfl <| jp rfl <| jp rfl <| jp rfl <| jp rfl <| jp rfl <| jp rfl <| jp rfl <| jE Zp rfl <| jE sm rfl <| jp rfl <| jp rfl <| jp rfl <| jE Zp rfl <| jE sm rfl <| jp rfl <| jp rfl <| jp rfl <| jp rfl <| jE Zp rfl <| jE sm rfl <| jp rfl <| jp rfl <| jp rfl <| jp rfl <| jE Zp rfl <| On ?_
      refine Wy <| Wr <| ja za <| On ?_
      refine CWp.ret <| SQ.ret <| Jr ?_
      exact ⟨bad _ (bad' xA) rfl, fun r o hr ho => by simp (disch := first | omega | simp only [nx]; omega) only [hpl]; exact ho⟩
    · try simp only [bl] at h1
      refine jF sm rfl <| ja J25f1 <| ja Jl <| ja Jn <| OSuf.aopB tyOK ag Jv (fun _ => rfl) (fun h2 => ?_) (fun h2 => ?_)
      · try simp only [bl] at h2
        refine jE Zp rfl <| jE sm rfl <| jp rfl <| jp rfl <| jp rfl <| jp rfl <| jp rfl <| jp rfl <| jp rfl <| jp rfl <| jp rfl <| jp rfl <| jp rfl <| jE Zp rfl <| jE sm rfl <| jp rfl <| jp rfl <| jp rfl <| jE Zp rfl <| jE sm rfl <| jp rfl <| jp rfl <| jp rfl <| jp rfl <| jE Zp rfl <| jE sm rfl <| jp rfl <| jp rfl <| jp rfl <| jp rfl <| jE Zp rfl <| On ?_
        refine Wy <| Wr <| ja za <| On ?_
        refine CWp.ret <| SQ.ret <| Jr ?_
        exact ⟨bad _ (bad' xA) rfl, fun r o hr ho => by simp (disch := first | omega | simp only [nx]; omega) only [hpl]; exact ho⟩
      · try simp only [bl] at h2
        refine jF Zp rfl <| jF sm rfl <| ja J25f1 <| ja Jl <| OSuf.aopB tyOK ag (zb (hv := bs_neq)) (fun _ => rfl) (fun h3 => ?_) (fun h3 => ?_)
        · try simp only [bl] at h3
          refine jE sm rfl <| ja J25f0 <| ja Jl <| ja J25f1 <| ja Jl <| jk (Jc en49 (less_c _ _ _ lb.low lb.high)) rfl <| OSuf.aopB tyOK ag Zt (fun _ => rfl) (fun h4 => ?_) (fun h4 => ?_)
          · try simp only [bl] at h4
            refine jE Zp rfl <| jE Zp rfl <| jE sm rfl <| jp rfl <| jp rfl <| jp rfl <| jE Zp rfl <| jE sm rfl <| jp rfl <| jp rfl <| jp rfl <| jp rfl <| jE Zp rfl <| jE sm rfl <| jp rfl <| jp rfl <| jp rfl <| jp rfl <| jE Zp rfl <| On ?_
            refine Wy <| Wr <| ja za <| On ?_
            refine CWp.ret <| SQ.ret <| Jr ?_
            exact ⟨bad _ (bad' (by simp [sst] at h3 h4; simp [h3, h4])) rfl, fun r o hr ho => by simp (disch := first | omega | simp only [nx]; omega) only [hpl]; exact ho⟩
          · try simp only [bl] at h4
            refine jF Zp rfl <| jF Zp rfl <| jF sm rfl <| ja J25f2 <| ja Jl <| OSuf.aopB tyOK ag Jv (fun _ => rfl) (fun h5 => ?_) (fun h5 => ?_)
            · try simp only [bl] at h5
              refine jE Zp rfl <| jE sm rfl <| jp rfl <| jp rfl <| jp rfl <| jp rfl <| jE Zp rfl <| jE sm rfl <| jp rfl <| jp rfl <| jp rfl <| jp rfl <| jE Zp rfl <| On ?_
              refine Wy <| Wr <| ja za <| On ?_
              refine CWp.ret <| SQ.ret <| Jr ?_
              exact ⟨bad _ (bad' xA) rfl, fun r o hr ho => by simp (disch := first | omega | simp only [nx]; omega) only [hpl]; exact ho⟩
            · try simp only [bl] at h5
              refine jF Zp rfl <| jF sm rfl <| ja J25f3 <| ja Jl <| ja Jn <| OSuf.aopB tyOK ag Jv (fun _ => rfl) (fun h6 => ?_) (fun h6 => ?_)
              · try simp only [bl] at h6
                refine jE Zp rfl <| jE sm rfl <| jp rfl <| jp rfl <| jp rfl <| jp rfl <| jE Zp rfl <| On ?_
                refine Wy <| Wr <| ja za <| On ?_
                refine CWp.ret <| SQ.ret <| Jr ?_
                exact ⟨bad _ (bad' xA) rfl, fun r o hr ho => by simp (disch := first | omega | simp only [nx]; omega) only [hpl]; exact ho⟩
              · try simp only [bl] at h6
                refine jF Zp rfl <| jF sm rfl <| ja J25f4 <| ja Jl <| ja Jn <| OSuf.aopB tyOK ag Jv (fun _ => rfl) (fun h7 => ?_) (fun h7 => ?_)
                · try simp only [bl] at h7
                  refine jE Zp rfl <| On ?_
                  refine Wy <| Wr <| ja za <| On ?_
                  refine CWp.ret <| SQ.ret <| Jr ?_
                  exact ⟨bad _ (bad' xA) rfl, fun r o hr ho => by simp (disch := first | omega | simp only [nx]; omega) only [hpl]; exact ho⟩
                · try simp only [bl] at h7
                  refine jF Zp rfl <| On ?_
                  refine Wn <| CWp.skip <| SQ.normal ?_
                  refine W.seq <| ?_
                  refine rest _ _ _ ?_ ⟨⟨by omega, by omega, by simp [sst] at h3 h4; exact .inr h4, by omega, by omega, by omega⟩, rfl, rfl⟩
                  simp [HasA, Tr.get_put]
        · try simp only [bl] at h3
          refine jF sm rfl <| jp rfl <| jp rfl <| jp rfl <| jp rfl <| jp rfl <| jp rfl <| jF Zp rfl <| jF Zp rfl <| jF sm rfl <| ja J25f2 <| ja Jl <| OSuf.aopB tyOK ag Jv (fun _ => rfl) (fun h5 => ?_) (fun h5 => ?_)
          · try simp only [bl] at h5
            refine jE Zp rfl <| jE sm rfl <| jp rfl <| jp rfl <| jp rfl <| jp rfl <| jE Zp rfl <| jE sm rfl <| jp rfl <| jp rfl <| jp rfl <| jp rfl <| jE Zp rfl <| On ?_
            refine Wy <| Wr <| ja za <| On ?_
            refine CWp.ret <| SQ.ret <| Jr ?_
            exact ⟨bad _ (bad' xA) rfl, fun r o hr ho => by simp (disch := first | omega | simp only [nx]; omega) only [hpl]; exact ho⟩
          · try simp only [bl] at h5
            refine jF Zp rfl <| jF sm rfl <| ja J25f3 <| ja Jl <| ja Jn <| OSuf.aopB tyOK ag Jv (fun _ => rfl) (fun h6 => ?_) (fun h6 => ?_)
            · try simp only [bl] at h6
              refine jE Zp rfl <| jE sm rfl <| jp rfl <| jp rfl <| jp rfl <| jp rfl <| jE Zp rfl <| On ?_
              refine Wy <| Wr <| ja za <| On ?_
              refine CWp.ret <| SQ.ret <| Jr ?_
              exact ⟨bad _ (bad' xA) rfl, fun r o hr ho => by simp (disch := first | omega | simp only [nx]; omega) only [hpl]; exact ho⟩
            · try simp only [bl] at h6
              refine jF Zp rfl <| jF sm rfl <| ja J25f4 <| ja Jl <| ja Jn <| OSuf.aopB tyOK ag Jv (fun _ => rfl) (fun h7 => ?_) (fun h7 => ?_)
              · try simp only [bl] at h7
                refine jE Zp rfl <| On ?_
                refine Wy <| Wr <| ja za <| On ?_
                refine CWp.ret <| SQ.ret <| Jr ?_
                exact ⟨bad _ (bad' xA) rfl, fun r o hr ho => by simp (disch := first | omega | simp only [nx]; omega) only [hpl]; exact ho⟩
              · try simp only [bl] at h7
                refine jF Zp rfl <| On ?_
                refine Wn <| CWp.skip <| SQ.normal ?_
                refine W.seq <| ?_
                refine rest _ _ _ ?_ ⟨⟨by omega, by omega, by simp [sst] at h3; exact .inl h3, by omega, by omega, by omega⟩, rfl, rfl⟩
                simp [HasA, Tr.get_put]
  rintro L h' ⟨⟨f1, f2, f3, f4, f5, f6⟩, rfl, rfl⟩
  simp only [mkA]
  obtain ⟨g, hg⟩ : ∃ g, g = h.new (.cells (lcs p (.slice b1 p.base.length c1) (.slice b2 p.deltas.length c2)) 1) := ⟨_, rfl⟩
  rw [← hg]
  have gn : g.next = h.next + 1 := by rw [hg]; rfl
  have gk : ∀ z, z < h.next → g.get z = h.get z := fun z hz => by rw [hg]; exact zN xA
  have g0 : g.get h.next = some (.cells (lcs p (.slice b1 p.base.length c1) (.slice b2 p.deltas.length c2)) 1) := by rw [hg]; exact zQ
  have hb2 := hb.mono (h' := g) xA gk
  have hd2 := hd.mono (h' := g) xA gk
  have old : ∀ r o, r < h.next → h.get r = some o → g.get r = some o := fun r o hr ho => by rw [gk r hr]; exact ho
  have mb : ∀ {i x}, p.base[i]? = some x → x ∈ p.all := fun {i x} hx => List.mem_append.2 (.inl (List.mem_of_getElem? hx))
  have md : ∀ {i x}, p.deltas[i]? = some x → x ∈ p.all := fun {i x} hx => List.mem_append.2 (.inr (List.mem_of_getElem? hx))
  refine Wr <| ja za <| On ?_
  refine W.cut (fun L h' => (∀ x ∈ p.base, fit p.low p.high x = true) ∧ risB ltK p.base = true ∧ g = h' ∧ L = [(1, P0 h.next)]) (W.block (W.loop (fun m L h' => ∃ i : Nat, m + i = p.base.length ∧ (∀ j x, j < i → p.base[j]? = some x → fit p.low p.high x = true) ∧ (∀ j a b, j + 1 < i → p.base[j]? = some a → p.base[j + 1]? = some b → ltK a b = true) ∧ g = h' ∧ L = [(1, P0 h.next), (3, I64 i)]) (n := p.base.length) ⟨0, rfl, by omega, by omega, rfl, rfl⟩ ?_ ?_)) ?_
  · simp [HasA, Tr.get_put]
  · rintro m L h' ⟨i, hm, hf, hr, rfl, rfl⟩
    simp only [mkA]
    have w2 : IntKind.i64.wrap ((i : Int) + 1) = ((i + 1 : Nat) : Int) := by rw [wrap_i64 xA xA]; omega
    by_cases hk : (i : Int) < (p.base.length : Int)
    · obtain ⟨x, hx⟩ : ∃ x, p.base[i]? = some x := ⟨p.base[i]'xA, by simp⟩
      obtain ⟨_, r, off, rfl, hr1, hr2⟩ := RS.at_ hb2 hx
      have hc1 : (0 ≤ (i : Int) ∧ (i : Int) < (p.base.length : Int)) := by omega
      have hrec := fun G : AHeap => rec0_c G p (.slice (some ⟨r, off, none⟩) p.base.length c1) (.slice b2 p.deltas.length c2) x lb.low lb.high (lb.ky x (mb hx)).1
      cases cf : fit p.low p.high x with
      | false =>
        rw [cf] at hrec
        have jY := An @g0 <| An @hc1 <| An @sb <| An ty23 <| An tb14 <| An ty25 <| ty27
        refine W.seq <| Wr <| ja sm <| ja J25f3 <| ja Jl <| ja Jn <| je Jt <| On ?_
        refine Wy <| CWp.skip <| SQ.normal ?_
        refine W.seq <| W.block <| Wd <| jb Jl <| jb J25f3 <| jb Jl <| jb sm <| jb Ji <| jb (zl (hv := (hr2 _ rfl).1 _ _ ty27 rfl rfl)) <| jl (Jc en42 (hrec _)) rfl <| jG Zt rfl <| jG sm rfl <| jq rfl <| jq rfl <| jq rfl <| jq rfl <| jq rfl <| jq rfl <| jq rfl <| jq rfl <| jq rfl <| jq rfl <| jq rfl <| jq rfl <| jq rfl <| jq rfl <| jq rfl <| jq rfl <| jq rfl <| jq rfl <| jq rfl <| jG Zp rfl <| Sn ?_
        refine Wy <| Wr <| ja za <| On ?_
        refine CWp.ret <| BQ.ret <| SQ.ret <| LQ.ret <| BQ.ret <| NQ.ret <| SQ.ret <| Jr ?_
        exact ⟨bad _ (chk_all (mb hx) cf) rfl, old⟩
      | true =>
        rw [cf] at hrec
        have hf' : ∀ j y, j < i + 1 → p.base[j]? = some y → fit p.low p.high y = true := fun j y hj hy => by
          by_cases e : j = i
          · subst e; rw [hx] at hy; cases hy; exact cf
          · exact hf j y xA hy
        by_cases hi0 : i = 0
        · have hz : ¬ (i : Int) > 0 := by omega
          have jY := An @g0 <| An @hc1 <| An @sb <| An ty23 <| An tb14 <| An ty25 <| ty27
          refine W.seq <| Wr <| ja sm <| ja J25f3 <| ja Jl <| ja Jn <| je Jt <| On ?_
          refine Wy <| CWp.skip <| SQ.normal ?_
          refine W.seq <| W.block <| Wd <| jb Jl <| jb J25f3 <| jb Jl <| jb sm <| jb Ji <| jb (zl (hv := (hr2 _ rfl).1 _ _ ty27 rfl rfl)) <| jl (Jc en42 (hrec _)) rfl <| jH Zt rfl <| jH sm rfl <| jb sm <| jh Jv <| jH sm rfl <| jq rfl <| jq rfl <| jq rfl <| jq rfl <| jq rfl <| jq rfl <| jq rfl <| jq rfl <| jq rfl <| jq rfl <| jq rfl <| jq rfl <| jq rfl <| jq rfl <| jq rfl <| jH Zp rfl <| jH Zp rfl <| Sn ?_
          refine Wn <| CWp.skip <| BQ.normal <| SQ.normal ?_
          have jW := @w2
          refine W.reg <| ja sm <| ja Ja <| ja za <| OSuf.nil <| ?_
          refine LQ.normal (m := m - 1) (L := [(1, P0 h.next), (3, I64 ((i + 1 : Nat) : Int))]) xA ?_ ⟨i + 1, by omega, hf', by omega, rfl, rfl⟩
          simp only [HasA, Tr.get_put, Nat.reduceEqDiff, reduceIte, w2, and_self]
        · obtain ⟨k, rfl⟩ : ∃ k, i = k + 1 := ⟨i - 1, by omega⟩
          have hz : ((k + 1 : Nat) : Int) > 0 := by omega
          have w3 : IntKind.i64.wrap (((k + 1 : Nat) : Int) - 1) = (k : Int) := by rw [wrap_i64 xA xA]; omega
          obtain ⟨y, hy⟩ : ∃ y, p.base[k]? = some y := ⟨p.base[k]'xA, by simp⟩
          obtain ⟨_, r', off', e', _, hr3⟩ := RS.at_ hb2 hy
          cases e'
          have hc2 : (0 ≤ (k : Int) ∧ (k : Int) < (p.base.length : Int)) := by omega
          have hl := fun G : AHeap => less_c G y.key x.key (lb.ky y (mb hy)).1 (lb.ky x (mb hx)).1
          cases cl : ltK y x with
          | true =>
            rw [show ltStr y.key x.key = true from cl] at hl
            have jY := An @g0 <| An @hc1 <| An @hc2 <| An @sb <| An ty23 <| An tb14 <| An ty25 <| ty27
            refine W.seq <| Wr <| ja sm <| ja J25f3 <| ja Jl <| ja Jn <| je Jt <| On ?_
            refine Wy <| CWp.skip <| SQ.normal ?_
            have jW := An @w2 <| @w3
            refine W.seq <| W.block <| Wd <| jb Jl <| jb J25f3 <| jb Jl <| jb sm <| jb Ji <| jb (zl (hv := (hr2 _ rfl).1 _ _ ty27 rfl rfl)) <| jl (Jc en42 (hrec _)) rfl <| jH Zt rfl <| jH sm rfl <| jb sm <| jg Jv <| jG sm rfl <| jb J25f3 <| jb Jl <| jb sm <| jb Jb <| jb Ji <| jb J27f0 <| jb (zl (hv := (hr3 _ rfl).2 0 _ _ _ ty9 rfl rfl)) <| jb J25f3 <| jb Jl <| jb sm <| jb Ji <| jb J27f0 <| jb (zl (hv := (hr2 _ rfl).2 0 _ _ _ ty9 rfl rfl)) <| jl (Jc en49 (hl _)) rfl <| jH Zt rfl <| jH Zp rfl <| jH Zp rfl <| Sn ?_
            refine Wn <| CWp.skip <| BQ.normal <| SQ.normal ?_
            refine W.reg <| ja sm <| ja Ja <| ja za <| OSuf.nil <| ?_
            refine LQ.normal (m := m - 1) (L := [(1, P0 h.next), (3, I64 ((k + 1 + 1 : Nat) : Int))]) xA ?_ ⟨k + 1 + 1, by omega, hf', fun j a b hj h1 h2 => ?_, rfl, rfl⟩
            · simp only [HasA, Tr.get_put, Nat.reduceEqDiff, reduceIte, w2, and_self]
            · by_cases e : j = k
              · subst e; rw [hy] at h1; rw [hx] at h2; cases h1; cases h2; exact cl
              · exact hr j a b xA h1 h2
          | false =>
            rw [show ltStr y.key x.key = false from cl] at hl
            have jY := An @g0 <| An @hc1 <| An @hc2 <| An @sb <| An ty23 <| An tb14 <| An ty25 <| ty27
            refine W.seq <| Wr <| ja sm <| ja J25f3 <| ja Jl <| ja Jn <| je Jt <| On ?_
            refine Wy <| CWp.skip <| SQ.normal ?_
            have jW := An @w2 <| @w3
            refine W.seq <| W.block <| Wd <| jb Jl <| jb J25f3 <| jb Jl <| jb sm <| jb Ji <| jb (zl (hv := (hr2 _ rfl).1 _ _ ty27 rfl rfl)) <| jl (Jc en42 (hrec _)) rfl <| jH Zt rfl <| jH sm rfl <| jb sm <| jg Jv <| jG sm rfl <| jb J25f3 <| jb Jl <| jb sm <| jb Jb <| jb Ji <| jb J27f0 <| jb (zl (hv := (hr3 _ rfl).2 0 _ _ _ ty9 rfl rfl)) <| jb J25f3 <| jb Jl <| jb sm <| jb Ji <| jb J27f0 <| jb (zl (hv := (hr2 _ rfl).2 0 _ _ _ ty9 rfl rfl)) <| jl (Jc en49 (hl _)) rfl <| jG Zt rfl <| jG Zp rfl <| jG Zp rfl <| Sn ?_
            refine Wy <| Wr <| ja za <| On ?_
            refine CWp.ret <| BQ.ret <| SQ.ret <| LQ.ret <| BQ.ret <| NQ.ret <| SQ.ret <| Jr ?_
            exact ⟨bad _ (chk_b hy hx cl) rfl, old⟩
    · have jY := An @g0 <| ty23
      refine W.seq <| Wr <| ja sm <| ja J25f3 <| ja Jl <| ja Jn <| jf Jt <| On ?_
      refine Wn <| CWp.exit <| SQ.exit <| LQ.exit <| BQ.exit <| ?_
      have hi : i = p.base.length := by omega
      refine NQ.normal (L := [(1, P0 h.next)]) ?_ ⟨fun x hx => ?_, risB_of fun j a b h1 h2 => hr j a b (by have := (List.getElem?_eq_some_iff.1 h2).1; omega) h1 h2, rfl, rfl⟩
      · simp only [HasA, Tr.get_put, Nat.reduceEqDiff, reduceIte, and_self]
      · obtain ⟨j, hj, rfl⟩ := List.mem_iff_getElem.1 hx
        exact hf j _ xA (by simp [hj])
  rintro L a' h' ha ⟨kb, rb, rfl, rfl⟩
  refine SQ.normal <| CWp.known ha ?_
  simp only [mkA]
  refine W.seq <| Wr <| ja za <| On ?_
  refine W.cut (fun L h' => (∀ x ∈ p.deltas, fit p.low p.high x = true) ∧ risB ltL p.deltas = true ∧ g = h' ∧ L = [(1, P0 h.next)]) (W.block (W.loop (fun m L h' => ∃ i : Nat, m + i = p.deltas.length ∧ (∀ j x, j < i → p.deltas[j]? = some x → fit p.low p.high x = true) ∧ (∀ j a b, j + 1 < i → p.deltas[j]? = some a → p.deltas[j + 1]? = some b → ltL a b = true) ∧ g = h' ∧ L = [(1, P0 h.next), (4, I64 i)]) (n := p.deltas.length) ⟨0, rfl, by omega, by omega, rfl, rfl⟩ ?_ ?_)) ?_
  · simp [HasA, Tr.get_put]
  · rintro m L h' ⟨i, hm, hf, hr, rfl, rfl⟩
    simp only [mkA]
    have w2 : IntKind.i64.wrap ((i : Int) + 1) = ((i + 1 : Nat) : Int) := by rw [wrap_i64 xA xA]; omega
    by_cases hk : (i : Int) < (p.deltas.length : Int)
    · obtain ⟨x, hx⟩ : ∃ x, p.deltas[i]? = some x := ⟨p.deltas[i]'xA, by simp⟩
      obtain ⟨_, r, off, rfl, hr1, hr2⟩ := RS.at_ hd2 hx
      have hc1 : (0 ≤ (i : Int) ∧ (i : Int) < (p.deltas.length : Int)) := by omega
      have hrec := fun G : AHeap => rec0_c G p (.slice b1 p.base.length c1) (.slice (some ⟨r, off, none⟩) p.deltas.length c2) x lb.low lb.high (lb.ky x (md hx)).1
      cases cf : fit p.low p.high x with
      | false =>
        rw [cf] at hrec
        have jY := An @g0 <| An @hc1 <| An @sb <| An ty23 <| An tb14 <| An ty25 <| ty27
        refine W.seq <| Wr <| ja sm <| ja J25f4 <| ja Jl <| ja Jn <| je Jt <| On ?_
        refine Wy <| CWp.skip <| SQ.normal ?_
        refine W.seq <| W.block <| Wd <| jb Jl <| jb J25f4 <| jb Jl <| jb sm <| jb Ji <| jb (zl (hv := (hr2 _ rfl).1 _ _ ty27 rfl rfl)) <| jl (Jc en42 (hrec _)) rfl <| jG Zt rfl <| jG sm rfl <| jq rfl <| jq rfl <| jq rfl <| jq rfl <| jq rfl <| jq rfl <| jq rfl <| jq rfl <| jq rfl <| jq rfl <| jq rfl <| jq rfl <| jq rfl <| jq rfl <| jq rfl <| jq rfl <| jq rfl <| jq rfl <| jG Zp rfl <| Sn ?_
        refine Wy <| Wr <| ja za <| On ?_
        refine CWp.ret <| BQ.ret <| SQ.ret <| LQ.ret <| BQ.ret <| NQ.ret <| SQ.ret <| Jr ?_
        exact ⟨bad _ (chk_all (md hx) cf) rfl, old⟩
      | true =>
        rw [cf] at hrec
        have hf' : ∀ j y, j < i + 1 → p.deltas[j]? = some y → fit p.low p.high y = true := fun j y hj hy => by
          by_cases e : j = i
          · subst e; rw [hx] at hy; cases hy; exact cf
          · exact hf j y xA hy
        by_cases hi0 : i = 0
        · have hz : ¬ (i : Int) > 0 := by omega
          have jY := An @g0 <| An @hc1 <| An @sb <| An ty23 <| An tb14 <| An ty25 <| ty27
          refine W.seq <| Wr <| ja sm <| ja J25f4 <| ja Jl <| ja Jn <| je Jt <| On ?_
          refine Wy <| CWp.skip <| SQ.normal ?_
          refine W.seq <| W.block <| Wd <| jb Jl <| jb J25f4 <| jb Jl <| jb sm <| jb Ji <| jb (zl (hv := (hr2 _ rfl).1 _ _ ty27 rfl rfl)) <| jl (Jc en42 (hrec _)) rfl <| jH Zt rfl <| jH sm rfl <| jb sm <| jh Jv <| jH sm rfl <| jq rfl <| jq rfl <| jq rfl <| jq rfl <| jq rfl <| jq rfl <| jq rfl <| jq rfl <| jq rfl <| jq rfl <| jq rfl <| jq rfl <| jq rfl <| jq rfl <| jH Zp rfl <| jH Zp rfl <| Sn ?_
          refine Wn <| CWp.skip <| BQ.normal <| SQ.normal ?_
          have jW := @w2
          refine W.reg <| ja sm <| ja Ja <| ja za <| OSuf.nil <| ?_
          refine LQ.normal (m := m - 1) (L := [(1, P0 h.next), (4, I64 ((i + 1 : Nat) : Int))]) xA ?_ ⟨i + 1, by omega, hf', by omega, rfl, rfl⟩
          simp only [HasA, Tr.get_put, Nat.reduceEqDiff, reduceIte, w2, and_self]
        · obtain ⟨k, rfl⟩ : ∃ k, i = k + 1 := ⟨i - 1, by omega⟩
          have hz : ((k + 1 : Nat) : Int) > 0 := by omega
          have w3 : IntKind.i64.wrap (((k + 1 : Nat) : Int) - 1) = (k : Int) := by rw [wrap_i64 xA xA]; omega
          obtain ⟨y, hy⟩ : ∃ y, p.deltas[k]? = some y := ⟨p.deltas[k]'xA, by simp⟩
          obtain ⟨_, r', off', e', _, hr3⟩ := RS.at_ hd2 hy
          cases e'
          have hc2 : (0 ≤ (k : Int) ∧ (k : Int) < (p.deltas.length : Int)) := by omega
          by_cases cl : y.lsn ≥ x.lsn
          · have jY := An @g0 <| An @hc1 <| An @hc2 <| An @sb <| An ty23 <| An tb14 <| An ty25 <| ty27
            refine W.seq <| Wr <| ja sm <| ja J25f4 <| ja Jl <| ja Jn <| je Jt <| On ?_
            refine Wy <| CWp.skip <| SQ.normal ?_
            have jW := An @w2 <| @w3
            refine W.seq <| W.block <| Wd <| jb Jl <| jb J25f4 <| jb Jl <| jb sm <| jb Ji <| jb (zl (hv := (hr2 _ rfl).1 _ _ ty27 rfl rfl)) <| jl (Jc en42 (hrec _)) rfl <| jH Zt rfl <| jH sm rfl <| jb sm <| jg Jv <| jG sm rfl <| jb J25f4 <| jb Jl <| jb sm <| jb Jb <| jb Ji <| jb J27f1 <| jb (zl (hv := (hr3 _ rfl).2 1 _ _ _ ty22 rfl rfl)) <| jb J25f4 <| jb Jl <| jb sm <| jb Ji <| jb J27f1 <| jb (zl (hv := (hr2 _ rfl).2 1 _ _ _ ty22 rfl rfl)) <| jG Jx (by simp [cl]) <| jG Zp rfl <| jG Zp rfl <| Sn ?_
            refine Wy <| Wr <| ja za <| On ?_
            refine CWp.ret <| BQ.ret <| SQ.ret <| LQ.ret <| BQ.ret <| NQ.ret <| SQ.ret <| Jr ?_
            exact ⟨bad _ (chk_d hy hx (by simp only [ltL]; exact decide_eq_false xA)) rfl, old⟩
          · have jY := An @g0 <| An @hc1 <| An @hc2 <| An @sb <| An ty23 <| An tb14 <| An ty25 <| ty27
            refine W.seq <| Wr <| ja sm <| ja J25f4 <| ja Jl <| ja Jn <| je Jt <| On ?_
            refine Wy <| CWp.skip <| SQ.normal ?_
            have jW := An @w2 <| @w3
            refine W.seq <| W.block <| Wd <| jb Jl <| jb J25f4 <| jb Jl <| jb sm <| jb Ji <| jb (zl (hv := (hr2 _ rfl).1 _ _ ty27 rfl rfl)) <| jl (Jc en42 (hrec _)) rfl <| jH Zt rfl <| jH sm rfl <| jb sm <| jg Jv <| jG sm rfl <| jb J25f4 <| jb Jl <| jb sm <| jb Jb <| jb Ji <| jb J27f1 <| jb (zl (hv := (hr3 _ rfl).2 1 _ _ _ ty22 rfl rfl)) <| jb J25f4 <| jb Jl <| jb sm <| jb Ji <| jb J27f1 <| jb (zl (hv := (hr2 _ rfl).2 1 _ _ _ ty22 rfl rfl)) <| jH Jx (by simp [cl]) <| jH Zp rfl <| jH Zp rfl <| Sn ?_
            refine Wn <| CWp.skip <| BQ.normal <| SQ.normal ?_
            refine W.reg <| ja sm <| ja Ja <| ja za <| OSuf.nil <| ?_
            refine LQ.normal (m := m - 1) (L := [(1, P0 h.next), (4, I64 ((k + 1 + 1 : Nat) : Int))]) xA ?_ ⟨k + 1 + 1, by omega, hf', fun j a b hj h1 h2 => ?_, rfl, rfl⟩
            · simp only [HasA, Tr.get_put, Nat.reduceEqDiff, reduceIte, w2, and_self]
            · by_cases e : j = k
              · subst e; rw [hy] at h1; rw [hx] at h2; cases h1; cases h2; simp only [ltL]; exact decide_eq_true xA
              · exact hr j a b xA h1 h2
    · have jY := An @g0 <| ty23
      refine W.seq <| Wr <| ja sm <| ja J25f4 <| ja Jl <| ja Jn <| jf Jt <| On ?_
      refine Wn <| CWp.exit <| SQ.exit <| LQ.exit <| BQ.exit <| ?_
      have hi : i = p.deltas.length := by omega
      refine NQ.normal (L := [(1, P0 h.next)]) ?_ ⟨fun x hx => ?_, risB_of fun j a b h1 h2 => hr j a b (by have := (List.getElem?_eq_some_iff.1 h2).1; omega) h1 h2, rfl, rfl⟩
      · simp only [HasA, Tr.get_put, Nat.reduceEqDiff, reduceIte, and_self]
      · obtain ⟨j, hj, rfl⟩ := List.mem_iff_getElem.1 hx
        exact hf j _ xA (by simp [hj])
  rintro L a' h' ha ⟨kd, rd, rfl, rfl⟩
  refine SQ.normal <| CWp.known ha ?_
  simp only [mkA]
  refine Wr <| ja za <| On ?_
  refine CWp.ret <| Jr ?_
  have hc : chk p = true := by
    simp only [chk]
    rw [decide_eq_true ⟨f1, f2, f3, f4, f5, f6⟩, rb, rd, List.all_eq_true.2 (fun x hx => by
      rcases List.mem_append.1 hx with hx | hx
      · exact kb x hx
      · exact kd x hx)]
    rfl
  exact ⟨by rw [if_pos hc], old⟩
end Go.Proofs.YtebheelmgcggmaaGreat
namespace Go.Proofs.YtebheelmgcggmaaGreat
open Go.Ab Go.Sort
def svRow : Value → Option Nat
  | .slice (some a) _ _ => some a.block
  | _ => none
inductive SV (h : AHeap) (sz lo : Nat) : List Value → Value → Prop
  | nil : SV h sz lo [] (.slice none 0 0)
  | some {y n : Nat} {vs : List Value} (hn : vs.length = n * sz) (hlo : lo ≤ y) (hy : y < h.next) (hg : h.get y = .some (.cells vs sz)) (hne : vs ≠ []) : SV h sz lo vs (.slice (.some ⟨y, 0, .none⟩) n 0)
theorem SV.mono {h h' : AHeap} {sz lo : Nat} {vs : List Value} {v : Value} (s : SV h sz lo vs v) (hn : h.next ≤ h'.next) (hk : ∀ z, z < h.next → svRow v = Option.some z → h'.get z = h.get z) : SV h' sz lo vs v := by
  cases s with
  | nil => exact .nil
  | some h1 h2 h3 h4 h5 => exact .some h1 h2 xA (by rw [hk _ h3 rfl]; exact h4) h5
theorem aCells_part {h : AHeap} {r off n len size c : Nat} {vs new : List Value} (hr : rowOf h r = some vs) (hl : n ≤ len) (hc : cellsOf vs off (n * size) = some new) : aCells h size n (.slice (some ⟨r, off, none⟩) len c) = some new := by
  cases e1 : Nat.beq (n * size) 0 with
  | false => simp only [aCells, e1, cond_false, Nat.ble_eq_true_of_le hl, cond_true, hr, hc]
  | true =>
    have e2 := Nat.eq_of_beq_eq_true e1
    rw [e2] at hc
    have := (cellsOf_some hc).2.1
    simp only [List.take_zero] at this
    simp only [aCells, e1, cond_true, this]
theorem ap_any {h : AHeap} {sz lo k : Nat} {A B : List Value} {v x : Value} (s : SV h sz lo A v) (hl : aLen x = some k) (hx : aCells h sz k x = some B) (hB : B.length = k * sz) (hone : oneCells B = true) (hlen : vLen v + k ≤ 3000000) (hlo : lo ≤ h.next) (hsz : 0 < sz := by decide) :
    ∃ v' h', (∀ ats A', appT T ats = some A' → A'.size = sz → A'.bytes ≤ 100 → aAppend T ats v x h = some (v', h')) ∧ SV h' sz lo (A ++ B) v' ∧ h.next ≤ h'.next ∧ h'.next ≤ h.next + 1 ∧ (∀ z, z < h.next → ¬ svRow v = some z → h'.get z = h.get z) ∧ ((svRow v' = svRow v ∧ k = 0) ∨ svRow v' = some h.next) ∧ vLen v' = vLen v + k := by
  cases hk : Nat.beq k 0 with
  | true =>
    have e := Nat.eq_of_beq_eq_true hk
    subst e
    have e2 : B = [] := List.length_eq_zero_iff.1 (by rw [hB]; omega)
    subst e2
    refine ⟨v, h, fun ats A' h1 h2 h3 => ?_, by rw [List.append_nil]; exact s, Nat.le_refl _, by omega, fun _ _ _ => rfl, .inl ⟨rfl, rfl⟩, rfl⟩
    have hb : Nat.ble ((2 * (vLen v + 0) + 256) * A'.bytes) 281474976710656 = true := Nat.ble_eq_true_of_le (by
      have : (2 * (vLen v + 0) + 256) * A'.bytes ≤ 7000000 * 100 := Nat.mul_le_mul xA h3
      omega)
    subst h2
    cases s <;> simp only [aAppend, h1, hl, hx, hb, cond_true, hk]
  | false =>
    have hk0 : 0 < k := by
      cases k with
      | zero => cases hk
      | succ k => omega
    have hBne : B ≠ [] := fun e => by
      rw [e] at hB
      have := Nat.mul_pos hk0 hsz
      simp at hB; omega
    cases s with
    | nil =>
      refine ⟨.slice (some ⟨h.next, 0, none⟩) k 0, h.new (.cells B sz), fun ats A' h1 h2 h3 => ?_, .some (by simpa using hB) hlo xI (zQ) (by simpa using hBne), by simp, by simp, fun z hz _ => zN xA, .inr rfl, by simp [vLen]⟩
      subst h2
      exact ap_0 h1 hl hx (by have : (2 * (0 + k) + 256) * A'.bytes ≤ 7000000 * 100 := Nat.mul_le_mul (by simp only [vLen] at hlen; omega) h3
                              omega) hk
    | @some y n _ h1 h2 h3 h4 =>
      have hc : cellsOf A 0 (n * sz) = .some A := cellsOf_all h1
      refine ⟨.slice (.some ⟨h.next, 0, .none⟩) (n + k) 0, (h.kill y).new (.cells (A ++ B) sz), fun ats A' g1 g2 g3 => ?_, .some (by rw [List.length_append, h1, hB, Nat.add_mul]) hlo xF (AHeap.get_new_at xF) (fun e => hBne (List.append_eq_nil_iff.1 e).2), by simp only [nx]; omega, by simp only [nx]; omega, fun z hz hne => ?_, .inr rfl, rfl⟩
      · subst g2
        exact ap_u g1 hl hx (by have : (2 * (n + k) + 256) * A'.bytes ≤ 7000000 * 100 := Nat.mul_le_mul (by simp only [vLen] at hlen; omega) g3
                                omega) hk h4 hone hc
      · have hzy : ¬ y = z := fun e => hne (by rw [← e]; rfl)
        simp (disch := first | omega | simp only [nx]; omega) only [hpl]
theorem SV.row {h : AHeap} {sz lo : Nat} {vs : List Value} {v : Value} {y : Nat} (s : SV h sz lo vs v) (hy : svRow v = Option.some y) : lo ≤ y ∧ y < h.next ∧ h.get y = Option.some (.cells vs sz) ∧ v = .slice (Option.some ⟨y, 0, Option.none⟩) (vLen v) 0 ∧ vs.length = vLen v * sz := by
  cases s with
  | nil => cases hy
  | some h1 h2 h3 h4 => cases hy; exact ⟨h2, h3, h4, rfl, h1⟩
theorem SV.form {h : AHeap} {sz lo : Nat} {vs : List Value} {v : Value} (s : SV h sz lo vs v) : ∃ b, v = .slice b (vLen v) 0 ∧ vs.length = vLen v * sz ∧ (vs ≠ [] → ∃ y, b = Option.some ⟨y, 0, Option.none⟩ ∧ svRow v = Option.some y ∧ lo ≤ y ∧ y < h.next ∧ h.get y = Option.some (.cells vs sz)) := by
  cases s with
  | nil => exact ⟨Option.none, rfl, by simp [vLen], fun h => (h rfl).elim⟩
  | some h1 h2 h3 h4 => exact ⟨_, rfl, h1, fun _ => ⟨_, rfl, rfl, h2, h3, h4⟩⟩
theorem SV.empty {h : AHeap} {sz lo : Nat} {vs : List Value} {v : Value} (s : SV h sz lo vs v) (e : vs = []) : v = .slice Option.none 0 0 := by
  cases s with
  | nil => rfl
  | some _ _ _ _ h5 => exact (h5 e).elim
theorem sv_rg {h : AHeap} {sz lo n : Nat} {vs : List Value} {v : Value} (s : SV h sz lo vs v) (hn : vs.length = n * sz) (h0 : 0 < sz) : RG h sz n vs v := by
  cases s with
  | nil =>
    have : n = 0 := by
      rcases Nat.mul_eq_zero.1 hn.symm with h | h
      · exact h
      · omega
    subst this
    exact ⟨_, _, rfl, .inl ⟨rfl, rfl, rfl⟩⟩
  | @some y m vs h1 h2 h3 h4 h5 =>
    have : m = n := Nat.eq_of_mul_eq_mul_right h0 (by rw [← h1, hn])
    subst this
    exact ⟨_, _, rfl, .inr ⟨_, _, rfl, fun _ => ⟨h3, _, by simp only [rowOf, h4], cellsOf_all hn⟩⟩⟩
theorem sv_rs {h : AHeap} {lo : Nat} {l : List Rec} {v : Value} (s : SV h 4 lo (fl l) v) : RS h l v := sv_rg s (fl_length l) xA
theorem sv_ks {h : AHeap} {lo : Nat} {ks : List (List UInt8)} {v : Value} (s : SV h 1 lo (ks.map encS) v) : RG h 1 ks.length (ks.map encS) v := sv_rg s xI xA
theorem sv_hi {h : AHeap} {lo : Nat} {ks : List (List UInt8)} {v : Value} (s : SV h 1 lo (ks.map encS) v) {i : Nat} (hi : i ≤ ks.length) :
    ∃ x, (∀ t elem ti ei, T.get t = some ti → ti.und = .slice elem → T.get elem = some ei → ei.size = 1 → aSlice T t v none (some (I64 i)) none h = some x) ∧ aLen x = some i ∧ ∀ g : AHeap, (∀ z, svRow v = some z → g.get z = h.get z) → aCells g 1 i x = some ((ks.take i).map encS) := by
  generalize hvs : ks.map encS = vs at s
  cases s with
  | nil =>
    have : ks = [] := List.map_eq_nil_iff.1 hvs
    subst this
    have : i = 0 := by simpa using hi
    subst this
    exact ⟨_, fun t elem ti ei h1 h2 h3 _ => sl_0 (x := (0, 0, 0)) h1 h2 h3 rfl, rfl, fun _ _ => rfl⟩
  | @some y n vs h1 h2 h3 h4 h5 =>
    subst hvs
    have hn : n = ks.length := by simpa using h1.symm
    subst hn
    refine ⟨.slice (.some ⟨y, 0 + 0 * 1, none⟩) (i - 0) 0, fun t elem ti ei g1 g2 g3 g4 => by rw [← g4]; exact sl_u g1 g2 g3 (bounds_hi hi) (by rw [g4]; exact h4), rfl, fun g hg => ?_⟩
    have e : rowOf g y = .some (ks.map encS) := by simp only [rowOf, hg y rfl, h4]
    refine aCells_part e xA ?_
    rw [cellsOf_mk xG]
    simp
theorem sv_lo {h : AHeap} {lo : Nat} {ks : List (List UInt8)} {v : Value} (s : SV h 1 lo (ks.map encS) v) {i : Nat} (hi : i ≤ ks.length) :
    ∃ x, (∀ t elem ti ei, T.get t = some ti → ti.und = .slice elem → T.get elem = some ei → ei.size = 1 → aSlice T t v (some (I64 i)) none none h = some x) ∧ aLen x = some (ks.length - i) ∧ ∀ g : AHeap, (∀ z, svRow v = some z → g.get z = h.get z) → aCells g 1 (ks.length - i) x = some ((ks.drop i).map encS) := by
  generalize hvs : ks.map encS = vs at s
  cases s with
  | nil =>
    have : ks = [] := List.map_eq_nil_iff.1 hvs
    subst this
    have : i = 0 := by simpa using hi
    subst this
    exact ⟨_, fun t elem ti ei h1 h2 h3 _ => sl_0 (x := (0, 0, 0)) h1 h2 h3 rfl, rfl, fun _ _ => rfl⟩
  | @some y n vs h1 h2 h3 h4 h5 =>
    subst hvs
    have hn : n = ks.length := by simpa using h1.symm
    subst hn
    refine ⟨.slice (.some ⟨y, 0 + i * 1, none⟩) (ks.length - i) 0, fun t elem ti ei g1 g2 g3 g4 => by rw [← g4]; exact sl_u g1 g2 g3 (bounds_lo hi) (by rw [g4]; exact h4), rfl, fun g hg => ?_⟩
    have e : rowOf g y = .some (ks.map encS) := by simp only [rowOf, hg y rfl, h4]
    refine aCells_part e xA ?_
    rw [cellsOf_mk xG]
    simp [List.map_drop, List.take_of_length_le]
theorem insK_at {k : List UInt8} : ∀ {ks : List (List UInt8)} {i : Nat}, (∀ j x, j < i → ks[j]? = some x → ltStr x k = true) → i ≤ ks.length → (∀ x, ks[i]? = some x → ltStr x k = false ∧ x ≠ k) → insK k ks = ks.take i ++ k :: ks.drop i
  | [], i, _, hi, _ => by
    have : i = 0 := by simpa using hi
    subst this; rfl
  | a :: l, 0, _, _, h2 => by
    obtain ⟨h3, h4⟩ := h2 a rfl
    simp only [insK, h3, if_neg h4, Bool.false_eq_true, if_false]; rfl
  | a :: l, i + 1, h1, hi, h2 => by
    have h3 := h1 0 a xA rfl
    have ih := insK_at (k := k) (ks := l) (i := i) (fun j x hj hx => h1 (j + 1) x xA xV) xY (fun x hx => h2 x xV)
    simp only [insK, h3, if_true, ih]; rfl
theorem insK_same {k : List UInt8} : ∀ {ks : List (List UInt8)} {i : Nat}, (∀ j x, j < i → ks[j]? = some x → ltStr x k = true) → ks[i]? = some k → insK k ks = ks
  | [], i, _, h => by simp at h
  | a :: l, 0, _, h => by
    have : a = k := by simpa using h
    subst this
    simp only [insK, swo_ltStr.irrefl, Bool.false_eq_true, if_false, if_true]
  | a :: l, i + 1, h1, h => by
    have h3 := h1 0 a xA rfl
    have ih := insK_same (k := k) (ks := l) (i := i) (fun j x hj hx => h1 (j + 1) x xA xV) (by simpa using h)
    simp only [insK, h3, if_true, ih]
theorem keysL_take {l : List Rec} {i : Nat} {x : Rec} (hx : l[i]? = some x) : keysL (l.take (i + 1)) = insK x.key (keysL (l.take i)) := by
  rw [List.take_add_one, hx]
  simp [keysL, List.foldl_append]
theorem insK_length (k : List UInt8) : ∀ ks : List (List UInt8), (insK k ks).length ≤ ks.length + 1
  | [] => by simp [insK]
  | a :: l => by
    have := insK_length k l
    simp only [insK]
    split
    · simp only [List.length_cons]; omega
    · split <;> simp
theorem keysL_length (l : List Rec) : ∀ i, (keysL (l.take i)).length ≤ i
  | 0 => by simp [keysL]
  | i + 1 => by
    have ih := keysL_length l i
    cases hx : l[i]? with
    | none => rw [List.take_add_one, hx]; simp only [Option.toList, List.append_nil]; omega
    | some x => rw [keysL_take hx]; have := insK_length x.key (keysL (l.take i)); omega
def rval (h : AHeap) (l : List Rec) : Value := if l = [] then .slice none 0 0 else .slice (some ⟨h.next, 0, none⟩) l.length 0
def rheap (h : AHeap) (l : List Rec) : AHeap := if l = [] then h else h.new (.cells (fl l) 4)
theorem rheap_next (h : AHeap) (l : List Rec) : h.next ≤ (rheap h l).next ∧ (rheap h l).next ≤ h.next + 1 := by
  simp only [rheap]; split <;> simp
theorem rheap_old (h : AHeap) (l : List Rec) (z : Nat) (hz : z < h.next) : (rheap h l).get z = h.get z := by
  simp only [rheap]; split
  · rfl
  · exact zN xA
theorem fl_nil {l : List Rec} : fl l = [] ↔ l = [] := by
  cases l with
  | nil => simp [fl]
  | cons x l => simp [fl, Rec.cs]
theorem rval_sv (h : AHeap) (l : List Rec) : SV (rheap h l) 4 h.next (fl l) (rval h l) := by
  simp only [rheap, rval]
  by_cases e : l = []
  · rw [if_pos e, if_pos e, e]; exact .nil
  · rw [if_neg e, if_neg e]
    exact .some (fl_length l) (Nat.le_refl _) xI (zQ) (fun h => e (fl_nil.1 h))
theorem recs0_c (h : AHeap) (l : List Rec) (v : Value) (hs : RS h l v) (hl : l.length ≤ 1000000) : FWp Tryz.prog 44 [v] h fun u h' => u = rval h l ∧ h' = rheap h l := by
  obtain ⟨b, c, rfl⟩ := hs.form
  have hx := hs.cells (g := h) fun _ _ => rfl
  refine W.enter tyOK Tryz.func44 rfl rfl ?_
  simp only [entry, rval, rheap]
  by_cases e : l = []
  · rw [if_pos e, if_pos e]
    subst e
    refine Wr <| ja za <| On ?_
    refine Wr <| ja za <| On ?_
    refine Wr <| ja sm <| ja sm <| ja (so_append xD (ap_none xL rfl hx (.inl rfl) xK)) <| ja za <| On ?_
    refine CWp.ret <| Jr ?_
    exact ⟨rfl, rfl⟩
  · rw [if_neg e, if_neg e]
    have nb : Nat.beq l.length 0 = false := by
      cases l with
      | nil => exact (e rfl).elim
      | cons _ _ => rfl
    refine Wr <| ja za <| On ?_
    refine Wr <| ja za <| On ?_
    refine Wr <| ja sm <| ja sm <| Oa rfl (so_append xD (ap_0 xL rfl hx (by show (2 * (0 + l.length) + 256) * 48 ≤ _; omega) nb)) rfl <| ja za <| On ?_
    refine CWp.ret <| Jr ?_
    exact ⟨rfl, rfl⟩
end Go.Proofs.YtebheelmgcggmaaGreat
namespace Go.Proofs.YtebheelmgcggmaaGreat
open Go.Ab Go.Sort
theorem ones_s : ∀ ks : List (List UInt8), oneCells (ks.map encS) = true
  | [] => rfl
  | _ :: l => by
    have := ones_s l
    simp only [oneCells, List.map_cons, List.all_cons, Bool.and_eq_true] at this ⊢
    exact ⟨rfl, this⟩
theorem keys0_c (h : AHeap) (p : Lf) (bv dv : Value) (hb : RS h p.base bv) (hd : RS h p.deltas dv) (hlb : p.base.length ≤ 1000000) (hld : p.deltas.length ≤ 1000000) (lb : LB p) :
    FWp Tryz.prog 18 [LV p bv dv] h fun u g => u = kval h (keysM p) ∧ g = kheap h (keysM p) := by
  have tb18 := And.intro ty23 (And.intro ty25 (And.intro ty27 (And.intro ty37 (ty9))))
  obtain ⟨b1, c1, rfl⟩ := hb.form
  obtain ⟨b2, c2, rfl⟩ := hd.form
  refine gcK _ ?_
  obtain ⟨H1, hH1⟩ : ∃ H1, H1 = h.new (.cells (lcs p (.slice b1 p.base.length c1) (.slice b2 p.deltas.length c2)) 1) := ⟨_, rfl⟩
  have n1 : H1.next = h.next + 1 := by rw [hH1]; rfl
  have k1 : ∀ z, z < h.next → H1.get z = h.get z := fun z hz => by rw [hH1]; exact zN xA
  have g1 : H1.get h.next = some (.cells (lcs p (.slice b1 p.base.length c1) (.slice b2 p.deltas.length c2)) 1) := by rw [hH1]; exact zQ
  have hck := check0_c H1 p _ _ (hb.mono xA k1) (hd.mono xA k1) hlb hld lb
  cases f1 : chk p with
  | false =>
    rw [if_neg (by rw [f1]; decide)] at hck
    refine W.enter tyOK Tryz.func18 rfl rfl ?_
    simp only [entry]
    refine Wr <| ja Zx <| ja za <| On ?_
    refine Wr <| ja za <| On ?_
    have jY := ty25
    refine W.seq <| Wr <| ja Jl <| jk (Jc en14 ((by rw [hH1] at hck; exact hck))) rfl <| jE Jz (rfl) <| On ?_
    refine Wy <| Wr <| ja sm <| ja za <| On ?_
    refine CWp.ret <| SQ.ret <| Jr ?_
    exact ⟨fun z hz => by simp (disch := first | omega | simp only [nx]; omega) only [hpl], .inl ⟨by simp [keysM, f1], rfl⟩⟩
  | true =>
    rw [if_pos f1] at hck
    have ek : keysM p = keysL p.all := by simp [keysM, f1]
    have hr := recs0_c H1 p.base _ (hb.mono xA k1) hlb
    obtain ⟨H2, hH2⟩ : ∃ H2, H2 = rheap H1 p.base := ⟨_, rfl⟩
    have n2 := rheap_next H1 p.base
    have k2 : ∀ z, z < H1.next → H2.get z = H1.get z := fun z hz => by rw [hH2]; exact rheap_old _ _ z hz
    have sv1 := rval_sv H1 p.base
    rw [← hH2] at hr n2 sv1
    have hx : aCells H2 4 p.deltas.length (.slice b2 p.deltas.length c2) = some (fl p.deltas) := hd.cells fun z hz => by rw [k2 z xA, k1 z hz]
    have hvl : vLen (rval H1 p.base) = p.base.length := by
      simp only [rval]; split
      · rename_i e; rw [e]; rfl
      · rfl
    obtain ⟨va, H3, ap1, sv2, n3, n3', k3, hrow, hvl2⟩ := ap_any sv1 (x := .slice b2 p.deltas.length c2) rfl hx (fl_length _) (fl_ones _) (by rw [hvl]; omega) xA
    have hall : fl p.base ++ fl p.deltas = fl p.all := by rw [Lf.all, fl_app]
    rw [hall] at sv2
    have hlen : p.all.length = p.base.length + p.deltas.length := by rw [Lf.all, List.length_append]
    obtain ⟨ba, eva, _, _⟩ := sv2.form
    have hvn : vLen va = p.all.length := by rw [hvl2, hvl, hlen]
    rw [hvn] at eva
    subst eva
    have g2 : H2.get h.next = some (.cells (lcs p (.slice b1 p.base.length c1) (.slice b2 p.deltas.length c2)) 1) := by rw [k2 _ xA]; exact g1
    have old3 : ∀ z, z < h.next → H3.get z = h.get z := fun z hz => by
      rw [k3 z xA (fun e => by have := sv1.row e; omega), k2 z xA, k1 z hz]
    rw [hH1] at hck hr ap1
    refine W.enter tyOK Tryz.func18 rfl rfl ?_
    simp only [entry]
    refine Wr <| ja Zx <| ja za <| On ?_
    refine Wr <| ja za <| On ?_
    have jY := An @g2 <| An ty25 <| ty23
    refine W.seq <| Wr <| ja Jl <| jk (Jc en14 (hck)) rfl <| jF Jz (rfl) <| On ?_
    refine Wn <| CWp.skip <| SQ.normal ?_
    refine W.seq <| CWp.sqd tyOK mixed (ms := [0, 1, 3, 0, 8, 31, 63]) xJ (
        jR J25f3 <| js Jl <| ju (Jc en44 (hr)) rfl <| jR J25f4 <| .read rfl rfl Jl xC ⟨.inr Jl, trivial⟩ rfl <| jt (so_append xD (ap1 _ _ xL rfl xK)) rfl <| jR za <| .nil) <| SQ.normal ?_
    refine W.seq <| Wr <| ja za <| On ?_
    refine W.cut (fun L g => (∀ z, z < h.next → g.get z = h.get z) ∧ ∃ vo, SV g 1 H3.next ((keysL p.all).map encS) vo ∧ L = [(3, vo)]) (W.block (W.loop (fun m L g => ∃ (i : Nat) (vo : Value), m + i = p.all.length ∧ H3.next ≤ g.next ∧ (∀ z, z < H3.next → g.get z = H3.get z) ∧ SV g 1 H3.next ((keysL (p.all.take i)).map encS) vo ∧ L = [(3, vo), (4, .slice ba p.all.length 0), (5, I64 i)]) (n := p.all.length) ⟨0, .slice none 0 0, rfl, Nat.le_refl _, fun _ _ => rfl, .nil, rfl⟩ ?_ ?_)) ?_
    · simp [HasA, Tr.get_put]
    · rintro m L g ⟨i, vo, hm, gn, gk, svo, rfl⟩
      simp only [mkA]
      have w2 : IntKind.i64.wrap ((i : Int) + 1) = ((i + 1 : Nat) : Int) := by rw [wrap_i64 xA xA]; omega
      by_cases hk : (i : Int) < (p.all.length : Int)
      · obtain ⟨x, hx⟩ : ∃ x, p.all[i]? = some x := ⟨p.all[i]'xA, by simp⟩
        have hkx := (lb.ky x (List.mem_of_getElem? hx)).1
        have sva := sv_rs sv2
        obtain ⟨_, r, off, rfl, hr1, hr2⟩ := RS.at_ sva hx
        have hc1 : (0 ≤ (i : Int) ∧ (i : Int) < (p.all.length : Int)) := by omega
        obtain ⟨ks, hks⟩ : ∃ ks, ks = keysL (p.all.take i) := ⟨_, rfl⟩
        have hkl : ks.length ≤ i := by rw [hks]; exact keysL_length _ _
        rw [← hks] at svo
        have hkk : ∀ k ∈ ks, SL k := fun k hk' => by
          rw [hks] at hk'
          obtain ⟨y, hy, rfl⟩ := mem_keysL.1 hk'
          exact (lb.ky y (List.mem_of_mem_take hy)).1
        obtain ⟨bo, evo, hvo, hrow2⟩ := svo.form
        have hvo2 : vLen vo = ks.length := by simpa using hvo.symm
        rw [hvo2] at evo
        have rgo := sv_ks svo
        subst evo
        have jY := An ty23 <| ty37
        refine W.seq <| Wr <| ja sm <| ja sm <| ja Jn <| jx Jt <| On ?_
        refine Wy <| CWp.skip <| SQ.normal ?_
        refine W.seq <| W.block <| Wr <| ja za <| On ?_
        refine W.seq <| ?_
        obtain ⟨y0, ey0⟩ : ∃ key, key = x.key := ⟨_, rfl⟩
        have svh := fun (j : Nat) (hj : j < ks.length) => hrow2 (fun e => by rw [List.map_eq_nil_iff.1 e] at hj; simp at hj)
        have ldk : ∀ G : AHeap, G.get r = g.get r → ∀ t ti, T.get t = some ti → ti.agg = false → aLoad T t (PA r (off + i * 4)) G = some (encS x.key) := fun G hG t ti ht ha => by
          have := (hr2 G (by rw [hG, gk r hr1])).2 0 t ti (encS x.key) ht ha rfl
          simpa using this
        refine W.cut (fun L g' => ∃ j : Nat, j ≤ ks.length ∧ (∀ q z, q < j → ks[q]? = some z → ltStr z x.key = true) ∧ (∀ z, ks[j]? = some z → ltStr z x.key = false) ∧ g = g' ∧ L = [(3, .slice bo ks.length 0), (4, .slice (some ⟨r, off, none⟩) p.all.length 0), (5, I64 i), (6, I64 j)]) (W.block (W.loop (fun m L g' => ∃ j : Nat, m + j = ks.length ∧ (∀ q z, q < j → ks[q]? = some z → ltStr z x.key = true) ∧ g = g' ∧ L = [(3, .slice bo ks.length 0), (4, .slice (some ⟨r, off, none⟩) p.all.length 0), (5, I64 i), (6, I64 j)]) (n := ks.length) ⟨0, rfl, by omega, rfl, rfl⟩ ?_ ?_)) ?_
        · simp [HasA, Tr.get_put]
        · rintro m2 L2 g' ⟨j, hm2, hlt, rfl, rfl⟩
          simp only [mkA]
          have w3 : IntKind.i64.wrap ((j : Int) + 1) = ((j + 1 : Nat) : Int) := by rw [wrap_i64 xA xA]; omega
          by_cases hj : (j : Int) < (ks.length : Int)
          · obtain ⟨z, hz⟩ : ∃ z, ks[j]? = some z := ⟨ks[j]'xA, by simp⟩
            have hc2 : (0 ≤ (j : Int) ∧ (j : Int) < (ks.length : Int)) := by omega
            obtain ⟨_, ro, oo, rfl, ho1, ho2⟩ := RG.at_ rgo (i := j) xA
            have ldo : ∀ G : AHeap, G.get ro = g.get ro → ∀ t ti, T.get t = some ti → ti.agg = false → aLoad T t (PA ro (oo + j)) G = some (encS z) := fun G hG t ti ht ha => by
              have := (ho2 G hG).2 0 t ti (encS z) ht ha (by simp [hz])
              simpa using this
            have hl := fun G : AHeap => less_c G z x.key (hkk z (List.mem_of_getElem? hz)) hkx
            cases cl : ltStr z x.key with
            | true =>
              rw [cl] at hl
              have jY := An @hc1 <| An @hc2 <| An @sb <| An ty37 <| An ty9 <| An tb18 <| An ty23 <| ty27
              refine W.seq <| Wd <| jb sm <| jb sm <| jb Jn <| jg Jt <| jG sm rfl <| jb sm <| jb sm <| jb Ji <| jb (zl (hv := ldo _ rfl _ _ ty9 rfl)) <| jb sm <| jb sm <| jb Ji <| jb J27f0 <| jb (zl (hv := ldk _ rfl _ _ ty9 rfl)) <| jl (Jc en49 (hl _)) rfl <| jG Zp rfl <| Sn ?_
              refine Wy <| CWp.skip <| SQ.normal ?_
              have jW := @w3
              refine W.block <| W.reg <| ja sm <| ja Ja <| ja za <| OSuf.nil <| BQ.normal <| ?_
              refine LQ.normal (m := m2 - 1) (L := [(3, .slice (some ⟨ro, oo, none⟩) ks.length 0), (4, .slice (some ⟨r, off, none⟩) p.all.length 0), (5, I64 i), (6, I64 ((j + 1 : Nat) : Int))]) xA ?_ ⟨j + 1, by omega, fun q u hq hu => ?_, rfl, rfl⟩
              · simp only [HasA, Tr.get_put, Nat.reduceEqDiff, reduceIte, w3, and_self]
              · by_cases e : q = j
                · subst e; rw [hz] at hu; cases hu; exact cl
                · exact hlt q u xA hu
            | false =>
              rw [cl] at hl
              have jY := An @hc1 <| An @hc2 <| An @sb <| An ty37 <| An ty9 <| An tb18 <| An ty23 <| ty27
              refine W.seq <| Wd <| jb sm <| jb sm <| jb Jn <| jg Jt <| jG sm rfl <| jb sm <| jb sm <| jb Ji <| jb (zl (hv := ldo _ rfl _ _ ty9 rfl)) <| jb sm <| jb sm <| jb Ji <| jb J27f0 <| jb (zl (hv := ldk _ rfl _ _ ty9 rfl)) <| jl (Jc en49 (hl _)) rfl <| jH Zp rfl <| Sn ?_
              refine Wn <| CWp.exit <| SQ.exit <| LQ.exit <| BQ.exit <| ?_
              refine NQ.normal (L := [(3, .slice (some ⟨ro, oo, none⟩) ks.length 0), (4, .slice (some ⟨r, off, none⟩) p.all.length 0), (5, I64 i), (6, I64 j)]) ?_ ⟨j, by omega, hlt, fun u hu => by rw [hz] at hu; cases hu; exact cl, rfl, rfl⟩
              simp only [HasA, Tr.get_put, Nat.reduceEqDiff, reduceIte, and_self]
          · refine W.seq <| Wd <| jb sm <| jb sm <| jb Jn <| jw Jt <| jH sm rfl <| jq rfl <| jq rfl <| jq rfl <| jq rfl <| jq rfl <| jq rfl <| jq rfl <| jq rfl <| jq rfl <| jq rfl <| jH Zp rfl <| Sn ?_
            refine Wn <| CWp.exit <| SQ.exit <| LQ.exit <| BQ.exit <| ?_
            refine NQ.normal (L := [(3, .slice bo ks.length 0), (4, .slice (some ⟨r, off, none⟩) p.all.length 0), (5, I64 i), (6, I64 j)]) ?_ ⟨j, by omega, hlt, fun u hu => by have := (List.getElem?_eq_some_iff.1 hu).1; omega, rfl, rfl⟩
            simp only [HasA, Tr.get_put, Nat.reduceEqDiff, reduceIte, and_self]
        rintro L2 a2 g' ha ⟨j, hj, hlt, hge, rfl, rfl⟩
        have hks' : keysL (p.all.take (i + 1)) = insK x.key ks := by rw [keysL_take hx, ← hks]
        have again : ks[j]? = some x.key → keysL (p.all.take (i + 1)) = ks := fun h9 => by rw [hks', insK_same hlt h9]
        have more : ks[j]? ≠ some x.key → keysL (p.all.take (i + 1)) = ks.take j ++ x.key :: ks.drop j := fun h9 => by
          rw [hks', insK_at hlt hj (fun z hz => ⟨hge z hz, fun e => h9 (by rw [hz, e])⟩)]
        by_cases hjn : (j : Int) < (ks.length : Int)
        · obtain ⟨z0, hz0⟩ : ∃ z, ks[j]? = some z := ⟨ks[j]'xA, by simp⟩
          have hc2 : (0 ≤ (j : Int) ∧ (j : Int) < (ks.length : Int)) := by omega
          obtain ⟨_, ro, oo, rfl, ho1, ho2⟩ := RG.at_ rgo (i := j) xA
          have ldo : ∀ G : AHeap, G.get ro = g.get ro → ∀ t ti, T.get t = some ti → ti.agg = false → aLoad T t (PA ro (oo + j)) G = some (encS z0) := fun G hG t ti ht ha => by
            have := (ho2 G hG).2 0 t ti (encS z0) ht ha (by simp [hz0])
            simpa using this
          by_cases hzk : z0 = x.key
          · subst hzk
            refine SQ.normal <| CWp.known ha ?_
            simp only [mkA]
            have jY := An @hc1 <| An @hc2 <| An @sb <| An ty37 <| An ty9 <| An tb18 <| An ty23 <| ty27
            refine W.seq <| Wd <| jb sm <| jb sm <| jb Jn <| jg Jt <| jG sm rfl <| jb sm <| jb sm <| jb Ji <| jb (zl (hv := ldo _ rfl _ _ ty9 rfl)) <| jb sm <| jb sm <| jb Ji <| jb J27f0 <| jb (zl (hv := ldk _ rfl _ _ ty9 rfl)) <| jG (zb (hv := bs_eql)) (by simp [sst]) <| jG Zp rfl <| Sn ?_
            refine Wy <| CWp.exit <| SQ.exit <| BQ.exit <| SQ.normal ?_
            have jW := @w2
            refine W.reg <| ja sm <| ja Ja <| ja za <| OSuf.nil <| ?_
            refine LQ.normal (m := m - 1) (L := [(3, .slice (some ⟨ro, oo, none⟩) ks.length 0), (4, .slice (some ⟨r, off, none⟩) p.all.length 0), (5, I64 ((i + 1 : Nat) : Int))]) xA ?_ ⟨i + 1, _, by omega, gn, gk, by rw [again hz0]; exact svo, rfl⟩
            simp only [HasA, Tr.get_put, Nat.reduceEqDiff, reduceIte, w2, and_self]
          · have h9 : ks[j]? ≠ some x.key := fun e => by rw [hz0] at e; cases e; exact hzk rfl
            obtain ⟨x1, s1, e1l, e1⟩ := sv_hi svo hj
            obtain ⟨v1, G1, ap1, sw1, m1, m1', kk1, rw1, vl1⟩ := ap_any (h := g) (sz := 1) (lo := H3.next) (A := []) .nil e1l (e1 g (fun _ _ => rfl)) xG (ones_s _) (by simp only [vLen]; omega) gn
            have z1 : ∀ z, z < g.next → G1.get z = g.get z := fun z hz => kk1 z hz (by simp [svRow])
            have nv1 : ∀ z, z < g.next → ¬ svRow v1 = some z := fun z hz e => by
              rcases rw1 with ⟨h8, _⟩ | h8
              · rw [h8] at e; cases e
              · rw [h8] at e; cases e; omega
            obtain ⟨v2, G2, ap2, sw2, m2, m2', kk2, rw2, vl2⟩ := ap_any (h := G1.new (.cells [encS x.key] 1)) (sz := 1) (lo := H3.next) (k := 1) (x := .slice (some ⟨G1.next, 0, none⟩) 1 2) (B := [encS x.key]) (sw1.mono xI (fun z hz _ => zN xA)) rfl (aCells_part (vs := [encS x.key]) xm (Nat.le_refl _) rfl) rfl rfl (by rw [vl1]; simp only [vLen]; omega) xF
            simp only [nx] at m2 m2'
            have z2 : ∀ z, z < g.next → G2.get z = g.get z := fun z hz => by rw [kk2 z xF (nv1 z hz), zN xA, z1 z hz]
            have nv2 : ∀ z, z < g.next → ¬ svRow v2 = some z := fun z hz e => by
              rcases rw2 with ⟨h8, h9⟩ | h8
              · omega
              · rw [h8] at e; simp only [nx] at e; cases e; omega
            obtain ⟨x3, s3, e3l, e3⟩ := sv_lo (svo.mono (h' := G2) xA (fun z hz _ => z2 z hz)) hj
            obtain ⟨v3, G3, ap3, sw3, m3, m3', kk3, rw3, vl3⟩ := ap_any sw2 e3l (e3 G2 (fun _ _ => rfl)) xI (ones_s _) (by rw [vl2, vl1]; simp only [vLen]; omega) xA
            have z3 : ∀ z, z < g.next → G3.get z = g.get z := fun z hz => by rw [kk3 z xA (nv2 z hz), z2 z hz]
            have hfin : ([] ++ (ks.take j).map encS ++ [encS x.key] ++ (ks.drop j).map encS) = (keysL (p.all.take (i + 1))).map encS := by rw [more h9]; simp
            rw [hfin] at sw3
            refine SQ.normal <| CWp.known ha ?_
            simp only [mkA]
            have jY := An @hc1 <| An @hc2 <| An @sb <| An ty37 <| An ty9 <| An tb18 <| An ty23 <| ty27
            refine W.seq <| Wd <| jb sm <| jb sm <| jb Jn <| jg Jt <| jG sm rfl <| jb sm <| jb sm <| jb Ji <| jb (zl (hv := ldo _ rfl _ _ ty9 rfl)) <| jb sm <| jb sm <| jb Ji <| jb J27f0 <| jb (zl (hv := ldk _ rfl _ _ ty9 rfl)) <| jH (zb (hv := bs_eql)) (by simp [sst, hzk]) <| jH Zp rfl <| Sn ?_
            refine Wn <| CWp.skip <| SQ.normal ?_
            refine Wr <| ja za <| On ?_
            refine Wr <| ja sm <| ja sm <| ja sm <| ja (so_slice xB xE xE xE (s1 _ _ _ _ ty37 rfl ty9 rfl)) <| ja (so_append xD (ap1 _ _ xO rfl xK)) <| ja za <| On ?_
            refine Wr <| ja sm <| ja sm <| ja sm <| ja Ji <| ja J27f0 <| ja (zl (hv := ldk _ (z1 r xA) _ _ ty9 rfl)) <| ja Jh <| ja (so_append xD (ap2 _ _ xO rfl xK)) <| ja za <| On ?_
            refine W.reg <| ja sm <| ja sm <| ja sm <| ja (so_slice xB xE xE xE (s3 _ _ _ _ ty37 rfl ty9 rfl)) <| ja (so_append xD (ap3 _ _ xO rfl xK)) <| ja za <| OSuf.nil <| BQ.normal <| SQ.normal ?_
            have jW := @w2
            refine W.reg <| ja sm <| ja Ja <| ja za <| OSuf.nil <| ?_
            refine LQ.normal (m := m - 1) (L := [(3, v3), (4, .slice (some ⟨r, off, none⟩) p.all.length 0), (5, I64 ((i + 1 : Nat) : Int))]) xA ?_ ⟨i + 1, v3, by omega, by omega, fun z hz => by rw [z3 z xA]; exact gk z hz, sw3, rfl⟩
            simp only [HasA, Tr.get_put, Nat.reduceEqDiff, reduceIte, w2, and_self]
        · have h9 : ks[j]? ≠ some x.key := fun e => by have := (List.getElem?_eq_some_iff.1 e).1; omega
          obtain ⟨x1, s1, e1l, e1⟩ := sv_hi svo hj
          obtain ⟨v1, G1, ap1, sw1, m1, m1', kk1, rw1, vl1⟩ := ap_any (h := g) (sz := 1) (lo := H3.next) (A := []) .nil e1l (e1 g (fun _ _ => rfl)) xG (ones_s _) (by simp only [vLen]; omega) gn
          have z1 : ∀ z, z < g.next → G1.get z = g.get z := fun z hz => kk1 z hz (by simp [svRow])
          have nv1 : ∀ z, z < g.next → ¬ svRow v1 = some z := fun z hz e => by
            rcases rw1 with ⟨h8, _⟩ | h8
            · rw [h8] at e; cases e
            · rw [h8] at e; cases e; omega
          obtain ⟨v2, G2, ap2, sw2, m2, m2', kk2, rw2, vl2⟩ := ap_any (h := G1.new (.cells [encS x.key] 1)) (sz := 1) (lo := H3.next) (k := 1) (x := .slice (some ⟨G1.next, 0, none⟩) 1 2) (B := [encS x.key]) (sw1.mono xI (fun z hz _ => zN xA)) rfl (aCells_part (vs := [encS x.key]) xm (Nat.le_refl _) rfl) rfl rfl (by rw [vl1]; simp only [vLen]; omega) xF
          simp only [nx] at m2 m2'
          have z2 : ∀ z, z < g.next → G2.get z = g.get z := fun z hz => by rw [kk2 z xF (nv1 z hz), zN xA, z1 z hz]
          have nv2 : ∀ z, z < g.next → ¬ svRow v2 = some z := fun z hz e => by
            rcases rw2 with ⟨h8, h9⟩ | h8
            · omega
            · rw [h8] at e; simp only [nx] at e; cases e; omega
          obtain ⟨x3, s3, e3l, e3⟩ := sv_lo (svo.mono (h' := G2) xA (fun z hz _ => z2 z hz)) hj
          obtain ⟨v3, G3, ap3, sw3, m3, m3', kk3, rw3, vl3⟩ := ap_any sw2 e3l (e3 G2 (fun _ _ => rfl)) xI (ones_s _) (by rw [vl2, vl1]; simp only [vLen]; omega) xA
          have z3 : ∀ z, z < g.next → G3.get z = g.get z := fun z hz => by rw [kk3 z xA (nv2 z hz), z2 z hz]
          have hfin : ([] ++ (ks.take j).map encS ++ [encS x.key] ++ (ks.drop j).map encS) = (keysL (p.all.take (i + 1))).map encS := by rw [more h9]; simp
          rw [hfin] at sw3
          refine SQ.normal <| CWp.known ha ?_
          simp only [mkA]
          have jY := An @hc1 <| An @sb <| An ty37 <| An tb18 <| An ty23 <| An ty27 <| ty9
          refine W.seq <| Wd <| jb sm <| jb sm <| jb Jn <| jh Jt <| jH sm rfl <| jq rfl <| jq rfl <| jq rfl <| jq rfl <| jq rfl <| jq rfl <| jq rfl <| jq rfl <| jq rfl <| jq rfl <| jH Zp rfl <| Sn ?_
          refine Wn <| CWp.skip <| SQ.normal ?_
          refine Wr <| ja za <| On ?_
          refine Wr <| ja sm <| ja sm <| ja sm <| ja (so_slice xB xE xE xE (s1 _ _ _ _ ty37 rfl ty9 rfl)) <| ja (so_append xD (ap1 _ _ xO rfl xK)) <| ja za <| On ?_
          refine Wr <| ja sm <| ja sm <| ja sm <| ja Ji <| ja J27f0 <| ja (zl (hv := ldk _ (z1 r xA) _ _ ty9 rfl)) <| ja Jh <| ja (so_append xD (ap2 _ _ xO rfl xK)) <| ja za <| On ?_
          refine W.reg <| ja sm <| ja sm <| ja sm <| ja (so_slice xB xE xE xE (s3 _ _ _ _ ty37 rfl ty9 rfl)) <| ja (so_append xD (ap3 _ _ xO rfl xK)) <| ja za <| OSuf.nil <| BQ.normal <| SQ.normal ?_
          have jW := @w2
          refine W.reg <| ja sm <| ja Ja <| ja za <| OSuf.nil <| ?_
          refine LQ.normal (m := m - 1) (L := [(3, v3), (4, .slice (some ⟨r, off, none⟩) p.all.length 0), (5, I64 ((i + 1 : Nat) : Int))]) xA ?_ ⟨i + 1, v3, by omega, by omega, fun z hz => by rw [z3 z xA]; exact gk z hz, sw3, rfl⟩
          simp only [HasA, Tr.get_put, Nat.reduceEqDiff, reduceIte, w2, and_self]
      · have jY := ty23
        refine W.seq <| Wr <| ja sm <| ja sm <| ja Jn <| jy Jt <| On ?_
        refine Wn <| CWp.exit <| SQ.exit <| LQ.exit <| BQ.exit <| ?_
        have : i = p.all.length := by omega
        subst this
        rw [List.take_length] at svo
        refine NQ.normal (L := [(3, vo)]) ?_ ⟨fun z hz => by rw [gk z xA]; exact old3 z hz, vo, svo, rfl⟩
        simp only [HasA, Tr.get_put, Nat.reduceEqDiff, reduceIte, and_self]
    rintro L a' g ha ⟨ho, vo, svo, rfl⟩
    refine SQ.normal <| CWp.known ha ?_
    simp only [mkA]
    refine Wr <| ja sm <| ja za <| On ?_
    refine CWp.ret <| Jr ?_
    refine ⟨ho, ?_⟩
    rw [ek]
    generalize hvs : (keysL p.all).map encS = vs at svo
    cases svo with
    | nil => exact .inl ⟨List.map_eq_nil_iff.1 hvs, rfl⟩
    | @some y n vs q1 q2 q3 q4 q5 =>
      subst hvs
      have : n = (keysL p.all).length := by simpa using q1.symm
      subst this
      exact .inr ⟨fun e => q5 (by rw [e]; rfl), y, rfl, by omega, q4⟩
end Go.Proofs.YtebheelmgcggmaaGreat
namespace Go.Proofs.YtebheelmgcggmaaGreat
open Go.Ab Go.Sort
theorem sv_len {h : AHeap} {lo : Nat} {l : List Rec} {v : Value} (s : SV h 4 lo (fl l) v) : vLen v = l.length := by
  obtain ⟨_, _, h2, _⟩ := s.form
  rw [fl_length] at h2
  omega
theorem sv_form {h : AHeap} {lo : Nat} {l : List Rec} {v : Value} (s : SV h 4 lo (fl l) v) : ∃ b, v = .slice b l.length 0 := by
  obtain ⟨b, h1, _, _⟩ := s.form
  rw [sv_len s] at h1
  exact ⟨b, h1⟩
theorem sv_one {g : AHeap} {lo : Nat} {l : List Rec} {v : Value} (s : SV g 4 lo (fl l) v) (x : Rec) (hl : l.length ≤ 2000000) (hlo : lo ≤ g.next) :
    ∃ v' G, (∀ ats A', appT T ats = some A' → A'.size = 4 → A'.bytes ≤ 100 → aAppend T ats v (.slice (some ⟨g.next, 0, none⟩) 1 2) (g.new (.cells x.cs 4)) = some (v', G)) ∧ SV G 4 lo (fl (l ++ [x])) v' ∧ g.next ≤ G.next ∧ (∀ z, z < g.next → ¬ svRow v = some z → G.get z = g.get z) := by
  obtain ⟨v', G, a1, a2, a3, a4, a5, a6, a7⟩ := ap_any (h := g.new (.cells x.cs 4)) (k := 1) (x := .slice (some ⟨g.next, 0, none⟩) 1 2) (B := x.cs) (s.mono xI (fun z hz _ => zN xA)) rfl (aCells_part (vs := x.cs) xm (Nat.le_refl _) rfl) rfl rfl (by rw [sv_len s]; omega) xG
  refine ⟨v', G, a1, ?_, by simp only [nx] at a3; omega, fun z hz hv => by rw [a5 z xG hv, zN xA]⟩
  rw [fl_app]
  have : fl [x] = x.cs := by simp [fl]
  rw [this]; exact a2
end Go.Proofs.YtebheelmgcggmaaGreat
namespace Go.Proofs.YtebheelmgcggmaaGreat
open Go.Ab Go.Sort
theorem drop_cons' {l : List Rec} {i : Nat} {x : Rec} (hx : l[i]? = some x) : l.drop i = x :: l.drop (i + 1) := by
  obtain ⟨hi, rfl⟩ := List.getElem?_eq_some_iff.1 hx
  exact List.drop_eq_getElem_cons hi
theorem take_snoc {l : List Rec} {i : Nat} {x : Rec} (hx : l[i]? = some x) : l.take (i + 1) = l.take i ++ [x] := by rw [List.take_add_one, hx]; rfl
theorem rise_drop {l : List Rec} {i : Nat} {x : Rec} (h : l.Pairwise fun a b => ltL a b = true) (hx : l[i]? = some x) : ∀ y ∈ l.drop (i + 1), x.lsn ≤ y.lsn := fun y hy => by
  have h1 := h.sublist (List.drop_sublist i l)
  rw [drop_cons' hx] at h1
  have := (List.pairwise_cons.1 h1).1 y hy
  simp only [ltL, decide_eq_true_eq] at this
  omega
end Go.Proofs.YtebheelmgcggmaaGreat
namespace Go.Proofs.YtebheelmgcggmaaGreat
open Go.Ab Go.Sort
def eqRb (x y : Rec) : Bool := (⟨⟨x.key⟩⟩ : ByteArray) == ⟨⟨y.key⟩⟩ && (x.lsn == y.lsn && (x.del == y.del && ((⟨⟨x.val⟩⟩ : ByteArray) == ⟨⟨y.val⟩⟩ && true)))
theorem eqRb_self (x : Rec) : eqRb x x = true := by simp [eqRb, beq_str]
theorem neR {t : TypeId} {p q : Operand} (x y : Rec) (ht : t = 27) : aBin Tryz.prog T .neq t p q x.V y.V = some (.bool (!eqRb x y)) := by
  subst ht
  have hs : pureRun Tryz.prog (Op.equal 27 x.V y.V) = some (eqRb x y) := by
    refine seq_equal Tryz.underlying27 xJ ?_
    refine .cons xK (x := encS x.key) (y := encS y.key) xJ xJ (eq_str Tryz.underlying9) ?_
    refine .cons xK (x := U64 x.lsn) (y := U64 y.lsn) xJ xJ (eq_int Tryz.underlying22) ?_
    refine .cons xK (x := .bool x.del) (y := .bool y.del) xJ xJ (eq_bool Tryz.underlying4) ?_
    refine .cons xK (x := encS x.val) (y := encS y.val) xJ xJ (eq_str Tryz.underlying9) ?_
    exact .nil
  exact bi_sne rfl xJ hs
theorem recs1_c (h : AHeap) (l : List Rec) (v w : Value) (hv : RS h l v) (hw : RS h l w) (hl : l.length ≤ 1000000) : FWp Tryz.prog 50 [v, w] h fun u h' => u = .bool true ∧ h' = h := by
  obtain ⟨b, c, rfl⟩ := hv.form
  obtain ⟨b', c', rfl⟩ := hw.form
  refine W.enter tyOK Tryz.func50 rfl rfl ?_
  simp only [entry]
  have b0 : ((l.length : Int) != (l.length : Int)) = false := by simp
  refine Wr <| jF za rfl <| On ?_
  have jY := ty23
  refine W.seq <| Wr <| ja sm <| ja Jn <| ja sm <| ja Jn <| jF Jz (b0) <| On ?_
  refine Wn <| CWp.skip <| SQ.normal ?_
  refine W.seq <| Wr <| ja za <| On ?_
  refine W.block (W.loop (fun m L h' => ∃ k : Nat, m + k = l.length ∧ h = h' ∧ L = [(0, .slice b l.length c), (1, .slice b' l.length c'), (5, I64 k)]) (n := l.length) ⟨0, rfl, rfl, rfl⟩ ?_ ?_)
  · simp [HasA, Tr.get_put]
  rintro m L h' ⟨k, hm, rfl, rfl⟩
  simp only [mkA]
  have w2 : IntKind.i64.wrap ((k : Int) + 1) = ((k + 1 : Nat) : Int) := by rw [wrap_i64 xA xA]; omega
  by_cases hk : (k : Int) < (l.length : Int)
  · obtain ⟨x, hx⟩ : ∃ x, l[k]? = some x := ⟨l[k]'xA, by simp⟩
    obtain ⟨_, r, off, rfl, hr1, hr2⟩ := RS.at_ hv hx
    obtain ⟨_, r', off', rfl, hr1', hr2'⟩ := RS.at_ hw hx
    have hc1 : (0 ≤ (k : Int) ∧ (k : Int) < (l.length : Int)) := by omega
    have jY := An @hc1 <| An @sb <| An ty23 <| ty27
    refine W.seq <| Wr <| ja sm <| ja sm <| ja Jn <| je Jt <| On ?_
    refine Wy <| CWp.skip <| SQ.normal ?_
    refine W.seq <| W.block <| Wd <| jb sm <| jb sm <| jb Ji <| jb (zl (hv := (hr2 _ rfl).1 _ _ ty27 rfl rfl)) <| jb sm <| jb sm <| jb Ji <| jb (zl (hv := (hr2' _ rfl).1 _ _ ty27 rfl rfl)) <| jH (zb (hv := neR x x rfl)) (by simp [eqRb_self]) <| Sn ?_
    refine Wn <| CWp.skip <| BQ.normal <| SQ.normal ?_
    have jW := @w2
    refine W.reg <| ja sm <| ja Ja <| ja za <| OSuf.nil <| ?_
    refine LQ.normal (m := m - 1) (L := [(0, .slice (some ⟨r, off, none⟩) l.length c), (1, .slice (some ⟨r', off', none⟩) l.length c'), (5, I64 ((k + 1 : Nat) : Int))]) xA ?_ ⟨k + 1, by omega, rfl, rfl⟩
    simp only [HasA, Tr.get_put, Nat.reduceEqDiff, reduceIte, w2, and_self]
  · refine W.seq <| Wr <| ja sm <| ja sm <| ja Jn <| jy Jt <| On ?_
    refine Wn <| CWp.exit <| SQ.exit <| LQ.exit <| BQ.exit <| SQ.normal ?_
    refine Wr <| jE za rfl <| On ?_
    refine CWp.ret <| Jr ?_
    exact ⟨rfl, rfl⟩
theorem same0_c (h : AHeap) (p : Lf) (av aw bv bw : Value) (ha : RS h p.base av) (ha' : RS h p.deltas aw) (hb : RS h p.base bv) (hb' : RS h p.deltas bw) (l1 : p.base.length ≤ 1000000) (l2 : p.deltas.length ≤ 1000000) :
    FWp Tryz.prog 15 [LV p av aw, LV p bv bw] h fun u h' => u = .bool true ∧ h' = h := by
  have tb15 := And.intro ty22 (And.intro ty23 (And.intro ty25 (ty9)))
  refine FWp.gcs (.flat rfl) ?_
  have hn : ∀ z, z < h.next → ((h.new (.cells (lcs p av aw) 1)).new (.cells (lcs p bv bw) 1)).get z = h.get z := fun z hz => by simp (disch := first | omega | simp only [nx]; omega) only [hpl]
  have r1 := recs1_c ((h.new (.cells (lcs p av aw) 1)).new (.cells (lcs p bv bw) 1)) p.base av bv (ha.mono xF hn) (hb.mono xF hn) l1
  have r2 := recs1_c ((h.new (.cells (lcs p av aw) 1)).new (.cells (lcs p bv bw) 1)) p.deltas aw bw (ha'.mono xF hn) (hb'.mono xF hn) l2
  refine W.enter tyOK Tryz.func15 rfl rfl ?_
  simp only [entry]
  refine Wr <| ja Zx <| ja Zx <| jF za rfl <| On ?_
  have jY := An ty9 <| An ty22 <| ty23
  refine Wr <| ja J25f0 <| ja Jl <| ja J25f0 <| ja Jl <| jE (zb (hv := bs_eql)) (by simp [sst]) <| jE sm rfl <| ja J25f1 <| ja Jl <| ja J25f1 <| ja Jl <| jE (zb (hv := bs_eql)) (by simp [sst]) <| jE Zp rfl <| jE sm rfl <| ja J25f2 <| ja Jl <| ja J25f2 <| ja Jl <| jE Jy xI <| jE Zp rfl <| jE sm rfl <| ja J25f3 <| ja Jl <| ja J25f3 <| ja Jl <| jk (Jc en50 (r1)) rfl <| jE Zp rfl <| jE sm rfl <| ja J25f4 <| ja Jl <| ja J25f4 <| ja Jl <| jk (Jc en50 (r2)) rfl <| jE Zp rfl <| jE za rfl <| On ?_
  refine CWp.ret <| Jr ?_
  exact ⟨rfl, fun r o hr ho => by simp (disch := first | omega | simp only [nx]; omega) only [hpl]; exact ho⟩
end Go.Proofs.YtebheelmgcggmaaGreat
namespace Go.Proofs.YtebheelmgcggmaaGreat
open Go.Ab Go.Sort
theorem max_sl {n : Nat} (h : n ≤ maxLen) : n < 9223372036854775808 := Nat.lt_of_le_of_lt h xK
def AtB (b : Option Addr) (n : Nat) : Prop := (b = none ∧ n = 0) ∨ ∃ r, b = some ⟨r, 0, none⟩
theorem rd_recs {h : AHeap} {n : Nat} {w : Value} (hr : Rd Tryz.prog h (n + 3) 23 [w]) : ∃ (b : Option Addr) (l : List Rec), w = .slice b l.length 0 ∧ AtB b l.length ∧ RS h l (.slice b l.length 0) ∧ ∀ r ∈ l, SL r.key ∧ SL r.val := by
  unfold Rd at hr
  rw [Tryz.underlying23] at hr
  simp only at hr
  rcases hr with h1 | ⟨r, vss, h1, h2, h3, h4, h5⟩
  · exact ⟨none, [], by simpa using h1, .inl ⟨rfl, rfl⟩, ⟨_, _, rfl, .inl ⟨rfl, rfl, rfl⟩⟩, by simp⟩
  · have key : ∃ l : List Rec, vss = l.map Rec.cs ∧ ∀ r ∈ l, SL r.key ∧ SL r.val := by
      clear h1 h2 h4
      induction vss with
      | nil => exact ⟨[], rfl, by simp⟩
      | cons v vss ih =>
        obtain ⟨l, e1, e2⟩ := ih fun x hx => h5 x (List.mem_cons_of_mem _ hx)
        obtain ⟨fss, g1, g2, g3⟩ := Rd.fields Tryz.underlying27 (h5 v List.mem_cons_self).2
        match fss, g2 with
        | [a, b, c, d], _ =>
          obtain ⟨_, x1⟩ := g3 0 _ a rfl rfl
          obtain ⟨_, x2⟩ := g3 1 _ b rfl rfl
          obtain ⟨_, x3⟩ := g3 2 _ c rfl rfl
          obtain ⟨_, x4⟩ := g3 3 _ d rfl rfl
          obtain ⟨⟨⟨k⟩⟩, rfl, m1⟩ := Rd.string Tryz.underlying9 x1
          obtain ⟨i, rfl, _⟩ := Rd.int Tryz.underlying22 x2
          obtain ⟨o, rfl⟩ := Rd.bool Tryz.underlying4 x3
          obtain ⟨⟨⟨w⟩⟩, rfl, m4⟩ := Rd.string Tryz.underlying9 x4
          refine ⟨⟨k, i, o, w⟩ :: l, by rw [g1, e1]; rfl, fun x hx => ?_⟩
          cases hx with
          | head => exact ⟨max_sl m1, max_sl m4⟩
          | tail _ hx => exact e2 x hx
    obtain ⟨l, rfl, h6⟩ := key
    have hl : (l.map Rec.cs).length = l.length := List.length_map _
    rw [hl] at h1
    refine ⟨some ⟨r, 0, none⟩, l, by simpa using h1, .inr ⟨r, rfl⟩, ⟨_, _, rfl, .inr ⟨_, _, rfl, fun hn => ⟨h3, (l.map Rec.cs).flatten, ?_, cellsOf_all (fl_length l)⟩⟩⟩, h6⟩
    have := h4 (fun e => hn (by rw [← hl, e]; rfl))
    simp only [rowOf, this]
theorem rd_leaf {h : AHeap} {n : Nat} {v : Value} (hr : RdV Tryz.prog h (n + 4) 25 v) : ∃ (p : Lf) (b1 b2 : Option Addr), v = LV p (.slice b1 p.base.length 0) (.slice b2 p.deltas.length 0) ∧ AtB b1 p.base.length ∧ AtB b2 p.deltas.length ∧ RS h p.base (.slice b1 p.base.length 0) ∧ RS h p.deltas (.slice b2 p.deltas.length 0) ∧ LB p := by
  unfold RdV at hr
  rw [Tryz.underlying25] at hr
  simp only at hr
  obtain ⟨vs, rfl, hr⟩ := hr
  obtain ⟨fss, g1, g2, g3⟩ := Rd.fields Tryz.underlying25 hr
  match fss, g2 with
  | [a, b, c, d, e], _ =>
    obtain ⟨_, x1⟩ := g3 0 _ a rfl rfl
    obtain ⟨_, x2⟩ := g3 1 _ b rfl rfl
    obtain ⟨_, x3⟩ := g3 2 _ c rfl rfl
    obtain ⟨l4, x4⟩ := g3 3 _ d rfl rfl
    obtain ⟨l5, x5⟩ := g3 4 _ e rfl rfl
    obtain ⟨⟨⟨lo⟩⟩, rfl, m1⟩ := Rd.string Tryz.underlying9 x1
    obtain ⟨⟨⟨hi⟩⟩, rfl, m2⟩ := Rd.string Tryz.underlying9 x2
    obtain ⟨i, rfl, _⟩ := Rd.int Tryz.underlying22 x3
    match d, l4.trans (by kernel_rfl : _ = 1), e, l5.trans (by kernel_rfl : _ = 1) with
    | [w4], _, [w5], _ =>
      obtain ⟨b1, l1, rfl, a1, r1, s1⟩ := rd_recs x4
      obtain ⟨b2, l2, rfl, a2, r2, s2⟩ := rd_recs x5
      refine ⟨⟨lo, hi, i, l1, l2⟩, b1, b2, by rw [g1]; rfl, a1, a2, r1, r2, ⟨max_sl m1, max_sl m2, fun r hr => ?_⟩⟩
      rcases List.mem_append.1 hr with hr | hr
      · exact s1 r hr
      · exact s2 r hr
def cutM (p : Lf) : Lf := { p with base := p.base.take 70, deltas := p.deltas.take 70 }
theorem sl_cut {h : AHeap} {t elem : TypeId} {ti ei : TI} {b : Option Addr} {n m : Nat} (ht : T.get t = some ti) (hu : ti.und = .slice elem) (he : T.get elem = some ei) (hb : AtB b n) (hm : m ≤ n) : aSlice T t (.slice b n 0) none (some (I64 m)) none h = some (.slice b m 0) := by
  rcases hb with ⟨rfl, rfl⟩ | ⟨r, rfl⟩
  · obtain rfl : m = 0 := by omega
    exact sl_0 (x := (0, 0, 0)) ht hu he rfl
  · simp only [aSlice, ht, hu, he, bounds_hi hm]; rfl
theorem rs_take {h : AHeap} {l : List Rec} {b : Option Addr} {m : Nat} (s : RS h l (.slice b l.length 0)) (hm : m ≤ l.length) : RS h (l.take m) (.slice b m 0) := by
  have hl : (l.take m).length = m := by rw [List.length_take]; omega
  obtain ⟨b', c', e, hr⟩ := s.ex
  cases e
  refine ⟨b, 0, by rw [hl], ?_⟩
  rcases hr with ⟨rfl, h1, h2⟩ | ⟨r, off, rfl, hr⟩
  · exact .inl ⟨rfl, by rw [hl]; omega, rfl⟩
  · refine .inr ⟨r, off, rfl, fun h0 => ?_⟩
    rw [hl] at h0 ⊢
    obtain ⟨h1, vs, h2, h3⟩ := hr xA
    refine ⟨h1, vs, h2, ?_⟩
    have e : fl l = fl (l.take m) ++ fl (l.drop m) := by rw [← fl_app, List.take_append_drop]
    have h4 : cellsOf (fl l) 0 (m * 4) = some (fl (l.take m)) := by
      rw [cellsOf_mk (by rw [fl_length]; omega), List.drop_zero, e, List.take_left' (by rw [fl_length, hl])]
    have := cellsOf_sub h3 h4
    rwa [Nat.add_zero] at this
theorem LB.cut {p : Lf} (l : LB p) : LB (cutM p) := ⟨l.low, l.high, fun r hr => by
  rcases List.mem_append.1 hr with hr | hr
  · exact l.ky r (List.mem_append.2 (.inl (List.mem_of_mem_take hr)))
  · exact l.ky r (List.mem_append.2 (.inr (List.mem_of_mem_take hr)))⟩
theorem cut_c (h : AHeap) (p : Lf) (b1 b2 : Option Addr) (h1 : AtB b1 p.base.length) (h2 : AtB b2 p.deltas.length) :
    FWp Tryz.prog 7 [LV p (.slice b1 p.base.length 0) (.slice b2 p.deltas.length 0)] h fun u g => u = LV (cutM p) (.slice b1 (cutM p).base.length 0) (.slice b2 (cutM p).deltas.length 0) ∧ h.next ≤ g.next ∧ ∀ z, z < h.next → g.get z = h.get z := by
  have tb7 := And.intro ty23 (And.intro ty25 (And.intro ty27 (ty3)))
  have e1 : (if (70 : Int) < ((p.base.length : Nat) : Int) then (70 : Int) else ((p.base.length : Nat) : Int)) = ((min 70 p.base.length : Nat) : Int) := by split <;> omega
  have e2 : (if (70 : Int) < ((p.deltas.length : Nat) : Int) then (70 : Int) else ((p.deltas.length : Nat) : Int)) = ((min 70 p.deltas.length : Nat) : Int) := by split <;> omega
  refine W.enter tyOK Tryz.func7 rfl rfl ?_
  simp only [entry]
  have jY := ty25
  refine Wr <| ja Zx <| ja Jo <| On ?_
  have jY := An @rcl <| An ty23 <| An tb7 <| ty25
  refine Wr <| ja J25f3 <| ja Jl <| ja J25f3 <| ja Jl <| ja Jn <| ja (so_min xD) <| ja (so_slice xB xE xE xE ((by rw [e1]; exact sl_cut ty23 rfl ty27 h1 (Nat.min_le_right _ _)))) <| ja J25f3 <| jc Js <| On ?_
  refine Wr <| ja J25f4 <| ja Jl <| ja J25f4 <| ja Jl <| ja Jn <| ja (so_min xD) <| ja (so_slice xB xE xE xE ((by rw [e2]; exact sl_cut ty23 rfl ty27 h2 (Nat.min_le_right _ _)))) <| ja J25f4 <| jc Js <| On ?_
  refine Wr <| ja Jl <| jc Js <| On ?_
  refine CWp.ret <| Jr ?_
  refine ⟨?_, by simp only [nx]; omega, fun z hz => by simp (disch := first | omega | simp only [nx]; omega) only [hpl]⟩
  simp only [cutM, List.length_take]
  rfl
end Go.Proofs.YtebheelmgcggmaaGreat
