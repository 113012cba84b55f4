/-
  Merged: SorRD, SorRE, SorRF, SorRG, SorRH.
-/
import Derived.Test.YtebheelmgcggmaaMc
set_option linter.unusedSimpArgs false
set_option linter.unusedVariables false
set_option maxRecDepth 10000
set_option maxHeartbeats 8000000
namespace Go.Proofs.Ytebheelmgcggmaa.SortR
open Go.Ab Go.Sort
abbrev P0 (p : Nat) : Value := .pointer (some ⟨p, 0, none⟩)
abbrev cell (n : Int) : AObj := .cells [I64 n] 1
theorem order2_c (h : AHeap) (r N q : Nat) (d : Array El) (hN : d.size = N) (hr : h.get r = some (row d)) (hq : ¬ q = r) (s : Int) (hs0 : 0 ≤ s) (hs1 : s ≤ 100) (a b : Nat) (ha : a < N) (hb : b < N) (hsz : N < 1000000000) :
    FWp Try.prog 112 [sl r N, I64 a, I64 b, P0 q, CF] (h.set q (cell s)) fun u h' => ∃ (s' : Int) (x y : Nat), u = .tuple #[I64 x, I64 y] ∧ h' = h.set q (cell s') ∧ 0 ≤ s' ∧ s' ≤ s + 1 ∧ ((x = a ∧ y = b) ∨ (x = b ∧ y = a)) := by
  have w1 : IntKind.i64.wrap (s + 1) = s + 1 := wrap_i64 (by omega) (by omega)
  refine W.enter tyOK Try.func112 rfl rfl ?_
  simp only [entry]
  cases hl : lt d[b]! d[a]!
  · refine Wr <| Oa rfl za rfl <| Oa rfl za rfl <| On ?_
    refine W.seq <| W.seq <| W.regD tyOK mixed (by kernel_rfl) <| Sa rfl sm rfl <| Sa rfl sm rfl <| Sa rfl sm rfl <| Sa rfl (zi (hv := by simp (disch := first | omega | simp only [nx] <;> omega | fail) only [aIndexAddr, ty26, ty33, hpl, hr, sq] <;> rfl)) rfl <| Sa rfl (zl (hv := by simp (disch := first | omega | simp only [nx] <;> omega | fail) only [aLoad, ty33, rowOf, hpl, hr, sq] <;> rfl)) rfl <| Sa rfl sm rfl <| Sa rfl sm rfl <| Sa rfl (zi (hv := by simp (disch := first | omega | simp only [nx] <;> omega | fail) only [aIndexAddr, ty26, ty33, hpl, hr, sq] <;> rfl)) rfl <| Sa rfl (zl (hv := by simp (disch := first | omega | simp only [nx] <;> omega | fail) only [aLoad, ty33, rowOf, hpl, hr, sq] <;> rfl)) rfl <| SqW.vcallD rfl (by simp only [lk] <;> rfl) (by simp only [aopnds, lk] <;> rfl) (less_v _ _ _ _ hl) rfl <| SqW.aopF rfl (zb (hv := bi_lss)) (fun _ => rfl) rfl <| Sn ?_
    refine Wn <| CWp.skip <| SQ.normal ?_
    refine Wr <| Oa rfl sm rfl <| Oa rfl sm rfl <| Oa rfl za rfl <| Oa rfl za rfl <| On ?_
    refine CWp.ret <| FQ.ret (by simp only [aRet, Try.f112, aResults, aResult, lk, Nat.reduceEqDiff, reduceIte] <;> rfl) ?_
    -- leaf: end
    exact ⟨s, a, b, rfl, rfl, hs0, by omega, .inl ⟨rfl, rfl⟩⟩
  · refine Wr <| Oa rfl za rfl <| Oa rfl za rfl <| On ?_
    refine W.seq <| W.seq <| W.regD tyOK mixed (by kernel_rfl) <| Sa rfl sm rfl <| Sa rfl sm rfl <| Sa rfl sm rfl <| Sa rfl (zi (hv := by simp (disch := first | omega | simp only [nx] <;> omega | fail) only [aIndexAddr, ty26, ty33, hpl, hr, sq] <;> rfl)) rfl <| Sa rfl (zl (hv := by simp (disch := first | omega | simp only [nx] <;> omega | fail) only [aLoad, ty33, rowOf, hpl, hr, sq] <;> rfl)) rfl <| Sa rfl sm rfl <| Sa rfl sm rfl <| Sa rfl (zi (hv := by simp (disch := first | omega | simp only [nx] <;> omega | fail) only [aIndexAddr, ty26, ty33, hpl, hr, sq] <;> rfl)) rfl <| Sa rfl (zl (hv := by simp (disch := first | omega | simp only [nx] <;> omega | fail) only [aLoad, ty33, rowOf, hpl, hr, sq] <;> rfl)) rfl <| SqW.vcallD rfl (by simp only [lk] <;> rfl) (by simp only [aopnds, lk] <;> rfl) (less_v _ _ _ _ hl) rfl <| SqW.aopT rfl (zb (hv := bi_lss)) (fun _ => rfl) rfl <| Sn ?_
    refine Wy <| Wr <| Oa rfl sm rfl <| Oa rfl (so_nilCheck (by simp only [lk] <;> rfl)) rfl <| Oa rfl (zl (hv := by simp (disch := first | omega | simp only [nx] <;> omega | fail) only [aLoad, ty3, rowOf, hpl, hr, sq] <;> rfl)) rfl <| Oa rfl (zb (hv := bi_w bi_add (by first | (simp only [w1] <;> rfl) | rfl))) rfl <| Oa rfl (so_nilCheck (by simp only [lk] <;> rfl)) rfl <| Oa rfl (zs (hv := by simp (disch := first | omega | simp only [nx] <;> omega | fail) only [aStore, ty3, writeRow, hpl, hr, sq] <;> rfl)) rfl <| On ?_
    refine Wr <| Oa rfl sm rfl <| Oa rfl sm rfl <| Oa rfl za rfl <| Oa rfl za rfl <| On ?_
    refine CWp.ret <| SQ.ret <| FQ.ret (by simp only [aRet, Try.f112, aResults, aResult, lk, Nat.reduceEqDiff, reduceIte] <;> rfl) ?_
    -- leaf: end
    exact ⟨s + 1, b, a, rfl, rfl, by omega, by omega, .inr ⟨rfl, rfl⟩⟩
theorem median_c (h0 h : AHeap) (r N q : Nat) (d : Array El) (hN : d.size = N) (hr : h.get r = some (row d)) (hq : ¬ q = r) (s : Int) (hh : h0 = h.set q (cell s)) (hs0 : 0 ≤ s) (hs1 : s ≤ 90) (a b c : Nat) (ha : a < N) (hb : b < N) (hc : c < N) (hsz : N < 1000000000) :
    FWp Try.prog 106 [sl r N, I64 a, I64 b, I64 c, P0 q, CF] h0 fun u h' => ∃ (s' : Int) (x : Nat), u = I64 x ∧ h' = h.set q (cell s') ∧ 0 ≤ s' ∧ s' ≤ s + 3 ∧ (x = a ∨ x = b ∨ x = c) := by
  subst hh
  refine W.enter tyOK Try.func106 rfl rfl ?_
  simp only [entry]
  refine Wr <| Oa rfl za rfl <| On ?_
  refine Wr <| Oa rfl sm rfl <| Oa rfl sm rfl <| Oa rfl sm rfl <| Oa rfl sm rfl <| Oa rfl sm rfl <| OSuf.call rfl (by simp only [aopnds, lk] <;> rfl) en112 (order2_c h r N q d hN hr hq s hs0 (by omega) a b ha hb hsz) ?_
  rintro _ _ ⟨s1, x1, y1, rfl, rfl, g1, g2, g3⟩
  refine ⟨_, rfl, ?_⟩
  refine Oa rfl sm rfl <| Oa rfl (ze (hv := by simp (disch := first | omega | simp only [nx] <;> omega | fail) only [aExtract, hpl, hr] <;> rfl)) rfl <| Oa rfl (ze (hv := by simp (disch := first | omega | simp only [nx] <;> omega | fail) only [aExtract, hpl, hr] <;> rfl)) rfl <| Oa rfl za rfl <| Oa rfl za rfl <| On ?_
  refine Wr <| Oa rfl sm rfl <| Oa rfl sm rfl <| Oa rfl sm rfl <| Oa rfl sm rfl <| Oa rfl sm rfl <| OSuf.call rfl (by simp only [aopnds, lk] <;> rfl) en112 (order2_c h r N q d hN hr hq s1 g1 (by omega) y1 c (by omega) hc hsz) ?_
  rintro _ _ ⟨s2, x2, y2, rfl, rfl, g4, g5, g6⟩
  refine ⟨_, rfl, ?_⟩
  refine Oa rfl sm rfl <| Oa rfl (ze (hv := by simp (disch := first | omega | simp only [nx] <;> omega | fail) only [aExtract, hpl, hr] <;> rfl)) rfl <| Oa rfl (ze (hv := by simp (disch := first | omega | simp only [nx] <;> omega | fail) only [aExtract, hpl, hr] <;> rfl)) rfl <| Oa rfl za rfl <| Oa rfl za rfl <| On ?_
  refine Wr <| Oa rfl sm rfl <| Oa rfl sm rfl <| Oa rfl sm rfl <| Oa rfl sm rfl <| Oa rfl sm rfl <| OSuf.call rfl (by simp only [aopnds, lk] <;> rfl) en112 (order2_c h r N q d hN hr hq s2 g4 (by omega) x1 x2 (by omega) (by omega) hsz) ?_
  rintro _ _ ⟨s3, x3, y3, rfl, rfl, g7, g8, g9⟩
  refine ⟨_, rfl, ?_⟩
  refine Oa rfl sm rfl <| Oa rfl (ze (hv := by simp (disch := first | omega | simp only [nx] <;> omega | fail) only [aExtract, hpl, hr] <;> rfl)) rfl <| Oa rfl (ze (hv := by simp (disch := first | omega | simp only [nx] <;> omega | fail) only [aExtract, hpl, hr] <;> rfl)) rfl <| Oa rfl za rfl <| Oa rfl za rfl <| On ?_
  refine Wr <| Oa rfl sm rfl <| Oa rfl za rfl <| On ?_
  refine CWp.ret <| FQ.ret (by simp only [aRet, Try.f106, aResults, aResult, lk, Nat.reduceEqDiff, reduceIte] <;> rfl) ?_
  -- leaf: end
  exact ⟨s3, y3, rfl, rfl, g7, by omega, by omega⟩
theorem adjacent_c (h0 h : AHeap) (r N q : Nat) (d : Array El) (hN : d.size = N) (hr : h.get r = some (row d)) (hq : ¬ q = r) (s : Int) (hh : h0 = h.set q (cell s)) (hs0 : 0 ≤ s) (hs1 : s ≤ 90) (a : Nat) (ha : 1 ≤ a) (hb : a + 1 < N) (hsz : N < 1000000000) :
    FWp Try.prog 105 [sl r N, I64 a, P0 q, CF] h0 fun u h' => ∃ (s' : Int) (x : Nat), u = I64 x ∧ h' = h.set q (cell s') ∧ 0 ≤ s' ∧ s' ≤ s + 3 ∧ (a ≤ x + 1 ∧ x ≤ a + 1) := by
  subst hh
  have w1 : IntKind.i64.wrap ((a : Int) - 1) = ((a - 1 : Nat) : Int) := by rw [wrap_i64 (by omega) (by omega)]; omega
  have w2 : IntKind.i64.wrap ((a : Int) + 1) = ((a + 1 : Nat) : Int) := by rw [wrap_i64 (by omega) (by omega)]; omega
  refine W.enter tyOK Try.func105 rfl rfl ?_
  simp only [entry]
  refine Wr <| Oa rfl za rfl <| On ?_
  refine Wr <| Oa rfl sm rfl <| Oa rfl sm rfl <| Oa rfl (zb (hv := bi_w bi_sub (by first | (simp only [w1, w2] <;> rfl) | rfl))) rfl <| Oa rfl sm rfl <| Oa rfl sm rfl <| Oa rfl (zb (hv := bi_w bi_add (by first | (simp only [w1, w2] <;> rfl) | rfl))) rfl <| Oa rfl sm rfl <| Oa rfl sm rfl <| OSuf.call rfl (by simp only [aopnds, lk] <;> rfl) en106 (median_c _ h r N q d hN hr hq s rfl hs0 hs1 (a - 1) a (a + 1) (by omega) (by omega) hb hsz) ?_
  rintro _ _ ⟨s1, x1, rfl, rfl, g1, g2, g3⟩
  refine ⟨_, rfl, ?_⟩
  refine Oa rfl za rfl <| On ?_
  refine CWp.ret <| FQ.ret (by simp only [aRet, Try.f105, aResults, aResult, lk, Nat.reduceEqDiff, reduceIte] <;> rfl) ?_
  -- leaf: end
  exact ⟨s1, x1, rfl, rfl, g1, g2, by omega⟩
theorem pivot_c (h : AHeap) (r N : Nat) (hrn : r < h.next) (d : Array El) (hN : d.size = N) (a b : Nat) (hab : a + 12 < b) (hb : b ≤ N) (hsz : N < 1000000000) :
    FWp Try.prog 82 [sl r N, I64 a, I64 b, CF] (h.set r (row d)) fun u h' => (∃ (p : Nat) (hint : Int), u = .tuple #[I64 p, I64 hint] ∧ a ≤ p ∧ p < b) ∧ h' = h.set r (row d) := by
  refine FWp.gcE (K0 := fun u h' => (∃ (p : Nat) (hint : Int), u = .tuple #[I64 p, I64 hint] ∧ a ≤ p ∧ p < b) ∧ ∃ s, h' = ((h.set r (row d)).new (cell 0)).set h.next (cell s)) ?_ ?_
  · have w1 : IntKind.i64.wrap ((b : Int) - (a : Int)) = ((b - a : Nat) : Int) := by rw [wrap_i64 (by omega) (by omega)]; omega
    have w2 : IntKind.i64.wrap (((b - a : Nat) : Int).tdiv 4) = (((b - a) / 4 : Nat) : Int) := by rw [Int.tdiv_eq_ediv_of_nonneg (by omega), wrap_i64 (by omega) (by omega)]; omega
    obtain ⟨l4, hl4⟩ : ∃ l4, l4 = (b - a) / 4 := ⟨_, rfl⟩
    rw [← hl4] at w2
    have w3 : IntKind.i64.wrap ((l4 : Int) * 1) = (l4 : Int) := by rw [wrap_i64 (by omega) (by omega)]; omega
    have w4 : IntKind.i64.wrap ((l4 : Int) * 2) = ((l4 * 2 : Nat) : Int) := by rw [wrap_i64 (by omega) (by omega)]; omega
    have w5 : IntKind.i64.wrap ((l4 : Int) * 3) = ((l4 * 3 : Nat) : Int) := by rw [wrap_i64 (by omega) (by omega)]; omega
    have w6 : IntKind.i64.wrap ((a : Int) + (l4 : Int)) = ((a + l4 : Nat) : Int) := by rw [wrap_i64 (by omega) (by omega)]; omega
    have w7 : IntKind.i64.wrap ((a : Int) + ((l4 * 2 : Nat) : Int)) = ((a + l4 * 2 : Nat) : Int) := by rw [wrap_i64 (by omega) (by omega)]; omega
    have w8 : IntKind.i64.wrap ((a : Int) + ((l4 * 3 : Nat) : Int)) = ((a + l4 * 3 : Nat) : Int) := by rw [wrap_i64 (by omega) (by omega)]; omega
    obtain ⟨g, hg⟩ : ∃ g, g = (h.set r (row d)).new (cell 0) := ⟨_, rfl⟩
    have hgr : g.get r = some (row d) := by rw [hg, Gn (by simp only [AHeap.next_set]; omega), AHeap.get_set_same]
    have hg0 : g = g.set h.next (cell 0) := (AHeap.set_self (by rw [hg]; exact AHeap.get_new_same _ _)).symm
    have hqr : ¬ h.next = r := by omega
    refine W.enter tyOK Try.func82 rfl rfl ?_
    simp only [entry]
    have fin : ∀ (s : Int) (p : Nat) (hint : Int), a ≤ p → p < b → (∃ (p : Nat) (hint : Int), Value.tuple #[I64 p, I64 hint] = .tuple #[I64 p, I64 hint] ∧ a ≤ p ∧ p < b) := fun s p hint h1 h2 => ⟨p, hint, rfl, h1, h2⟩
    by_cases h50 : ((b - a : Nat) : Int) ≥ 50
    · refine Wr <| Oa rfl za rfl <| Oa rfl za rfl <| On ?_
      refine Wr <| Oa rfl sm rfl <| Oa rfl sm rfl <| Oa rfl (zb (hv := bi_w bi_sub (by first | (simp only [w1, w2, w3, w4, w5, w6, w7, w8] <;> rfl) | rfl))) rfl <| Oa rfl za rfl <| On ?_
      refine Wr <| Oa rfl (so_alloc (by simp only [aAlloc, ty3] <;> rfl)) rfl <| On ?_
      refine Wr <| Oa rfl sm rfl <| Oa rfl sm rfl <| Oa rfl (zb (hv := bi_w (bi_quo (by decide)) (by first | (simp only [w1, w2, w3, w4, w5, w6, w7, w8] <;> rfl) | rfl))) rfl <| Oa rfl (zb (hv := bi_w bi_mul (by first | (simp only [w1, w2, w3, w4, w5, w6, w7, w8] <;> rfl) | rfl))) rfl <| Oa rfl (zb (hv := bi_w bi_add (by first | (simp only [w1, w2, w3, w4, w5, w6, w7, w8] <;> rfl) | rfl))) rfl <| Oa rfl za rfl <| On ?_
      refine Wr <| Oa rfl sm rfl <| Oa rfl sm rfl <| Oa rfl (zb (hv := bi_w (bi_quo (by decide)) (by first | (simp only [w1, w2, w3, w4, w5, w6, w7, w8] <;> rfl) | rfl))) rfl <| Oa rfl (zb (hv := bi_w bi_mul (by first | (simp only [w1, w2, w3, w4, w5, w6, w7, w8] <;> rfl) | rfl))) rfl <| Oa rfl (zb (hv := bi_w bi_add (by first | (simp only [w1, w2, w3, w4, w5, w6, w7, w8] <;> rfl) | rfl))) rfl <| Oa rfl za rfl <| On ?_
      refine Wr <| Oa rfl sm rfl <| Oa rfl sm rfl <| Oa rfl (zb (hv := bi_w (bi_quo (by decide)) (by first | (simp only [w1, w2, w3, w4, w5, w6, w7, w8] <;> rfl) | rfl))) rfl <| Oa rfl (zb (hv := bi_w bi_mul (by first | (simp only [w1, w2, w3, w4, w5, w6, w7, w8] <;> rfl) | rfl))) rfl <| Oa rfl (zb (hv := bi_w bi_add (by first | (simp only [w1, w2, w3, w4, w5, w6, w7, w8] <;> rfl) | rfl))) rfl <| Oa rfl za rfl <| On ?_
      refine W.seq <| Wr <| Oa rfl sm rfl <| Ot rfl (zb (hv := bi_geq)) rfl (by first | rfl | assumption | ((simp only [bl, hgr]) <;> first | done | assumption | omega) | (simp; done) | (simp; omega)) <| On ?_
      refine Wy <| W.seq <| Wr <| Oa rfl sm rfl <| Ot rfl (zb (hv := bi_geq)) rfl (by first | rfl | assumption | ((simp only [bl, hgr]) <;> first | done | assumption | omega) | (simp; done) | (simp; omega)) <| On ?_
      refine Wy <| Wr <| Oa rfl sm rfl <| Oa rfl sm rfl <| Oa rfl sm rfl <| OSuf.call rfl (by simp only [aopnds, lk] <;> rfl) en105 (adjacent_c _ g r N h.next d hN hgr hqr 0 (hg ▸ hg0) (by omega) (by omega) (a + l4) (by omega) (by omega) hsz) ?_
      rintro _ _ ⟨s1, x1, rfl, rfl, g1, g2, g3⟩
      refine ⟨_, rfl, ?_⟩
      refine Oa rfl za rfl <| On ?_
      refine Wr <| Oa rfl sm rfl <| Oa rfl sm rfl <| Oa rfl sm rfl <| OSuf.call rfl (by simp only [aopnds, lk] <;> rfl) en105 (adjacent_c _ g r N h.next d hN hgr hqr s1 rfl g1 (by omega) (a + l4 * 2) (by omega) (by omega) hsz) ?_
      rintro _ _ ⟨s2, x2, rfl, rfl, g4, g5, g6⟩
      refine ⟨_, rfl, ?_⟩
      refine Oa rfl za rfl <| On ?_
      refine W.reg <| Oa rfl sm rfl <| Oa rfl sm rfl <| Oa rfl sm rfl <| OSuf.call rfl (by simp only [aopnds, lk] <;> rfl) en105 (adjacent_c _ g r N h.next d hN hgr hqr s2 rfl g4 (by omega) (a + l4 * 3) (by omega) (by omega) hsz) ?_
      rintro _ _ ⟨s3, x3, rfl, rfl, g7, g8, g9⟩
      refine ⟨_, rfl, ?_⟩
      refine Oa rfl za rfl <| On ?_
      refine W.reg <| Oa rfl sm rfl <| Oa rfl sm rfl <| Oa rfl sm rfl <| Oa rfl sm rfl <| Oa rfl sm rfl <| OSuf.call rfl (by simp only [aopnds, lk] <;> rfl) en106 (median_c _ g r N h.next d hN hgr hqr s3 rfl g7 (by omega) x1 x2 x3 (by omega) (by omega) (by omega) hsz) ?_
      rintro _ _ ⟨s4, x4, rfl, rfl, g10, g11, g12⟩
      refine ⟨_, rfl, ?_⟩
      refine Oa rfl za rfl <| On ?_
      refine Wr <| Oa rfl (zl (hv := by simp (disch := first | omega | simp only [nx] <;> omega | fail) only [aLoad, ty3, rowOf, hpl, hgr] <;> rfl)) rfl <| On ?_
      refine W.block <| Wr <| OSuf.aopB tyOK rfl (zb (hv := bi_eql)) (fun _ => rfl) (fun hb => ?_) (fun hb => ?_)
      · try simp only [bl] at hb
        refine Ot rfl za rfl rfl <| On ?_
        refine Wy <| Wr <| Oa rfl sm rfl <| Oa rfl za rfl <| Oa rfl za rfl <| On ?_
        refine CWp.ret <| BQ.ret <| FQ.ret (by simp only [aRet, Try.f82, aResults, aResult, lk, Nat.reduceEqDiff, reduceIte] <;> rfl) ?_
        exact ⟨⟨x4, 1, rfl, by omega, by omega⟩, s4, by rw [hg]⟩
      · try simp only [bl] at hb
        refine Of rfl za rfl rfl <| On ?_
        refine Wn <| Wr <| OSuf.aopB tyOK rfl (zb (hv := bi_eql)) (fun _ => rfl) (fun hb => ?_) (fun hb => ?_)
        · try simp only [bl] at hb
          refine Ot rfl za rfl rfl <| On ?_
          refine Wy <| Wr <| Oa rfl sm rfl <| Oa rfl za rfl <| Oa rfl za rfl <| On ?_
          refine CWp.ret <| BQ.ret <| FQ.ret (by simp only [aRet, Try.f82, aResults, aResult, lk, Nat.reduceEqDiff, reduceIte] <;> rfl) ?_
          exact ⟨⟨x4, 2, rfl, by omega, by omega⟩, s4, by rw [hg]⟩
        · try simp only [bl] at hb
          refine Of rfl za rfl rfl <| On ?_
          refine Wn <| Wr <| Oa rfl sm rfl <| Oa rfl za rfl <| Oa rfl za rfl <| On ?_
          refine CWp.ret <| BQ.ret <| FQ.ret (by simp only [aRet, Try.f82, aResults, aResult, lk, Nat.reduceEqDiff, reduceIte] <;> rfl) ?_
          exact ⟨⟨x4, 0, rfl, by omega, by omega⟩, s4, by rw [hg]⟩
    · refine Wr <| Oa rfl za rfl <| Oa rfl za rfl <| On ?_
      refine Wr <| Oa rfl sm rfl <| Oa rfl sm rfl <| Oa rfl (zb (hv := bi_w bi_sub (by first | (simp only [w1, w2, w3, w4, w5, w6, w7, w8] <;> rfl) | rfl))) rfl <| Oa rfl za rfl <| On ?_
      refine Wr <| Oa rfl (so_alloc (by simp only [aAlloc, ty3] <;> rfl)) rfl <| On ?_
      refine Wr <| Oa rfl sm rfl <| Oa rfl sm rfl <| Oa rfl (zb (hv := bi_w (bi_quo (by decide)) (by first | (simp only [w1, w2, w3, w4, w5, w6, w7, w8] <;> rfl) | rfl))) rfl <| Oa rfl (zb (hv := bi_w bi_mul (by first | (simp only [w1, w2, w3, w4, w5, w6, w7, w8] <;> rfl) | rfl))) rfl <| Oa rfl (zb (hv := bi_w bi_add (by first | (simp only [w1, w2, w3, w4, w5, w6, w7, w8] <;> rfl) | rfl))) rfl <| Oa rfl za rfl <| On ?_
      refine Wr <| Oa rfl sm rfl <| Oa rfl sm rfl <| Oa rfl (zb (hv := bi_w (bi_quo (by decide)) (by first | (simp only [w1, w2, w3, w4, w5, w6, w7, w8] <;> rfl) | rfl))) rfl <| Oa rfl (zb (hv := bi_w bi_mul (by first | (simp only [w1, w2, w3, w4, w5, w6, w7, w8] <;> rfl) | rfl))) rfl <| Oa rfl (zb (hv := bi_w bi_add (by first | (simp only [w1, w2, w3, w4, w5, w6, w7, w8] <;> rfl) | rfl))) rfl <| Oa rfl za rfl <| On ?_
      refine Wr <| Oa rfl sm rfl <| Oa rfl sm rfl <| Oa rfl (zb (hv := bi_w (bi_quo (by decide)) (by first | (simp only [w1, w2, w3, w4, w5, w6, w7, w8] <;> rfl) | rfl))) rfl <| Oa rfl (zb (hv := bi_w bi_mul (by first | (simp only [w1, w2, w3, w4, w5, w6, w7, w8] <;> rfl) | rfl))) rfl <| Oa rfl (zb (hv := bi_w bi_add (by first | (simp only [w1, w2, w3, w4, w5, w6, w7, w8] <;> rfl) | rfl))) rfl <| Oa rfl za rfl <| On ?_
      refine W.seq <| Wr <| Oa rfl sm rfl <| Ot rfl (zb (hv := bi_geq)) rfl (by first | rfl | assumption | ((simp only [bl, hgr]) <;> first | done | assumption | omega) | (simp; done) | (simp; omega)) <| On ?_
      refine Wy <| W.seq <| Wr <| Oa rfl sm rfl <| Of rfl (zb (hv := bi_geq)) rfl (by first | rfl | assumption | ((simp only [bl, hgr]) <;> first | done | assumption | omega) | (simp; done) | (simp; omega)) <| On ?_
      refine Wn <| CWp.skip <| SQ.normal ?_
      refine W.reg <| Oa rfl sm rfl <| Oa rfl sm rfl <| Oa rfl sm rfl <| Oa rfl sm rfl <| Oa rfl sm rfl <| OSuf.call rfl (by simp only [aopnds, lk] <;> rfl) en106 (median_c _ g r N h.next d hN hgr hqr 0 (hg ▸ hg0) (by omega) (by omega) (a + l4) (a + l4 * 2) (a + l4 * 3) (by omega) (by omega) (by omega) hsz) ?_
      rintro _ _ ⟨s4, x4, rfl, rfl, g10, g11, g12⟩
      refine ⟨_, rfl, ?_⟩
      refine Oa rfl za rfl <| On ?_
      refine Wr <| Oa rfl (zl (hv := by simp (disch := first | omega | simp only [nx] <;> omega | fail) only [aLoad, ty3, rowOf, hpl, hgr] <;> rfl)) rfl <| On ?_
      refine W.block <| Wr <| OSuf.aopB tyOK rfl (zb (hv := bi_eql)) (fun _ => rfl) (fun hb => ?_) (fun hb => ?_)
      · try simp only [bl] at hb
        refine Ot rfl za rfl rfl <| On ?_
        refine Wy <| Wr <| Oa rfl sm rfl <| Oa rfl za rfl <| Oa rfl za rfl <| On ?_
        refine CWp.ret <| BQ.ret <| FQ.ret (by simp only [aRet, Try.f82, aResults, aResult, lk, Nat.reduceEqDiff, reduceIte] <;> rfl) ?_
        exact ⟨⟨x4, 1, rfl, by omega, by omega⟩, s4, by rw [hg]⟩
      · try simp only [bl] at hb
        refine Of rfl za rfl rfl <| On ?_
        refine Wn <| Wr <| OSuf.aopB tyOK rfl (zb (hv := bi_eql)) (fun _ => rfl) (fun hb => ?_) (fun hb => ?_)
        · try simp only [bl] at hb
          refine Ot rfl za rfl rfl <| On ?_
          refine Wy <| Wr <| Oa rfl sm rfl <| Oa rfl za rfl <| Oa rfl za rfl <| On ?_
          refine CWp.ret <| BQ.ret <| FQ.ret (by simp only [aRet, Try.f82, aResults, aResult, lk, Nat.reduceEqDiff, reduceIte] <;> rfl) ?_
          exact ⟨⟨x4, 2, rfl, by omega, by omega⟩, s4, by rw [hg]⟩
        · try simp only [bl] at hb
          refine Of rfl za rfl rfl <| On ?_
          refine Wn <| Wr <| Oa rfl sm rfl <| Oa rfl za rfl <| Oa rfl za rfl <| On ?_
          refine CWp.ret <| BQ.ret <| FQ.ret (by simp only [aRet, Try.f82, aResults, aResult, lk, Nat.reduceEqDiff, reduceIte] <;> rfl) ?_
          exact ⟨⟨x4, 0, rfl, by omega, by omega⟩, s4, by rw [hg]⟩
  · rintro u h' ⟨⟨p, hint, rfl, h1, h2⟩, s, rfl⟩
    refine ⟨.flat rfl, _, rfl, fun x o hx => .inl ⟨hx, fun hlt => ?_⟩, ⟨p, hint, rfl, h1, h2⟩, rfl⟩
    simp only [AHeap.next_set] at hlt
    rw [Gs (by omega), Gn (by simp only [AHeap.next_set]; omega)]; exact hx
end Go.Proofs.Ytebheelmgcggmaa.SortR
namespace Go.Proofs.Ytebheelmgcggmaa.SortR
open Go.Ab Go.Sort
abbrev U64 (n : Int) : Value := .int .u64 n
abbrev ucell (n : Int) : AObj := .cells [U64 n] 1
def TAB : ByteArray := ⟨#[0,1,2,2,3,3,3,3,4,4,4,4,4,4,4,4,5,5,5,5,5,5,5,5,5,5,5,5,5,5,5,5,6,6,6,6,6,6,6,6,6,6,6,6,6,6,6,6,6,6,6,6,6,6,6,6,6,6,6,6,6,6,6,6,7,7,7,7,7,7,7,7,7,7,7,7,7,7,7,7,7,7,7,7,7,7,7,7,7,7,7,7,7,7,7,7,7,7,7,7,7,7,7,7,7,7,7,7,7,7,7,7,7,7,7,7,7,7,7,7,7,7,7,7,7,7,7,7,8,8,8,8,8,8,8,8,8,8,8,8,8,8,8,8,8,8,8,8,8,8,8,8,8,8,8,8,8,8,8,8,8,8,8,8,8,8,8,8,8,8,8,8,8,8,8,8,8,8,8,8,8,8,8,8,8,8,8,8,8,8,8,8,8,8,8,8,8,8,8,8,8,8,8,8,8,8,8,8,8,8,8,8,8,8,8,8,8,8,8,8,8,8,8,8,8,8,8,8,8,8,8,8,8,8,8,8,8,8,8,8,8,8,8,8,8,8,8,8,8,8,8,8,8,8,8,8]⟩
theorem tab_ok : ∀ i : Fin 256, TAB.data.toList[i.val]? = some (UInt8.ofNat (bitsLen i.val)) := by decide +kernel
theorem tab_get {i : Nat} (hi : i < 256) : TAB.data.toList[i]? = some (UInt8.ofNat (bitsLen i)) := tab_ok ⟨i, hi⟩
theorem bits_small : ∀ i : Fin 256, bitsLen i.val ≤ 8 := by decide +kernel
theorem bitsLen_shift {n k : Nat} (h : 2 ^ k ≤ n) : bitsLen (n / 2 ^ k) + k = bitsLen n := by
  have hp : 0 < 2 ^ k := Nat.two_pow_pos k
  have h1 : n / 2 ^ k ≠ 0 := by
    have := (Nat.le_div_iff_mul_le hp).2 (by omega : 1 * 2 ^ k ≤ n); omega
  have h2 : n ≠ 0 := by omega
  have key : ∀ x, x ≠ 0 → bitsLen x = Nat.log2 x + 1 := fun x hx => by simp [bitsLen, hx]
  rw [key _ h1, key _ h2]
  have : Nat.log2 n = Nat.log2 (n / 2 ^ k) + k := by
    have a1 := (Nat.log2_eq_iff h1 (k := Nat.log2 (n / 2 ^ k))).1 rfl
    refine (Nat.log2_eq_iff h2).2 ⟨?_, ?_⟩
    · rw [Nat.pow_add]; exact (Nat.le_div_iff_mul_le hp).1 a1.1
    · have := (Nat.div_lt_iff_lt_mul hp).1 a1.2
      rw [Nat.add_right_comm, Nat.pow_add]; exact this
  omega
theorem next_c (h : AHeap) (q : Nat) (s : Int) : FWp Try.prog 104 [P0 q] (h.set q (ucell s)) fun u h' => ∃ s' : Int, u = U64 s' ∧ h' = h.set q (ucell s') ∧ 0 ≤ s' ∧ s' < 18446744073709551616 := by
  refine W.enter tyOK Try.func104 rfl rfl ?_
  simp only [entry]
  refine Wr <| Oa rfl za rfl <| On ?_
  refine W.seq <| W.regD tyOK mixed (by kernel_rfl) <| Sa rfl sm rfl <| Sa rfl (so_nilCheck (by simp only [lk] <;> rfl)) rfl <| Sa rfl (zl (hv := by simp (disch := first | omega | simp only [nx] <;> omega | fail) only [aLoad, ty132, rowOf, hpl, AHeap.set_set] <;> rfl)) rfl <| Sa rfl sm rfl <| Sa rfl (so_nilCheck (by simp only [lk] <;> rfl)) rfl <| Sa rfl (zl (hv := by simp (disch := first | omega | simp only [nx] <;> omega | fail) only [aLoad, ty132, rowOf, hpl, AHeap.set_set] <;> rfl)) rfl <| Sa rfl (zb (hv := bi_w (bi_shl (by decide)) rfl)) rfl <| Sa rfl (zb (hv := bi_w bi_xor rfl)) rfl <| Sa rfl (so_nilCheck (by simp only [lk] <;> rfl)) rfl <| Sa rfl (zs (hv := by simp (disch := first | omega | simp only [nx] <;> omega | fail) only [aStore, ty132, writeRow, hpl, AHeap.set_set] <;> rfl)) rfl <| Sn ?_
  refine W.seq <| W.regD tyOK mixed (by kernel_rfl) <| Sa rfl sm rfl <| Sa rfl (so_nilCheck (by simp only [lk] <;> rfl)) rfl <| Sa rfl (zl (hv := by simp (disch := first | omega | simp only [nx] <;> omega | fail) only [aLoad, ty132, rowOf, hpl, AHeap.set_set] <;> rfl)) rfl <| Sa rfl sm rfl <| Sa rfl (so_nilCheck (by simp only [lk] <;> rfl)) rfl <| Sa rfl (zl (hv := by simp (disch := first | omega | simp only [nx] <;> omega | fail) only [aLoad, ty132, rowOf, hpl, AHeap.set_set] <;> rfl)) rfl <| Sa rfl (zb (hv := bi_w (bi_shr (by decide)) rfl)) rfl <| Sa rfl (zb (hv := bi_w bi_xor rfl)) rfl <| Sa rfl (so_nilCheck (by simp only [lk] <;> rfl)) rfl <| Sa rfl (zs (hv := by simp (disch := first | omega | simp only [nx] <;> omega | fail) only [aStore, ty132, writeRow, hpl, AHeap.set_set] <;> rfl)) rfl <| Sn ?_
  refine W.seq <| W.regD tyOK mixed (by kernel_rfl) <| Sa rfl sm rfl <| Sa rfl (so_nilCheck (by simp only [lk] <;> rfl)) rfl <| Sa rfl (zl (hv := by simp (disch := first | omega | simp only [nx] <;> omega | fail) only [aLoad, ty132, rowOf, hpl, AHeap.set_set] <;> rfl)) rfl <| Sa rfl sm rfl <| Sa rfl (so_nilCheck (by simp only [lk] <;> rfl)) rfl <| Sa rfl (zl (hv := by simp (disch := first | omega | simp only [nx] <;> omega | fail) only [aLoad, ty132, rowOf, hpl, AHeap.set_set] <;> rfl)) rfl <| Sa rfl (zb (hv := bi_w (bi_shl (by decide)) rfl)) rfl <| Sa rfl (zb (hv := bi_w bi_xor rfl)) rfl <| Sa rfl (so_nilCheck (by simp only [lk] <;> rfl)) rfl <| Sa rfl (zs (hv := by simp (disch := first | omega | simp only [nx] <;> omega | fail) only [aStore, ty132, writeRow, hpl, AHeap.set_set] <;> rfl)) rfl <| Sn ?_
  refine Wr <| Oa rfl sm rfl <| Oa rfl (so_nilCheck (by simp only [lk] <;> rfl)) rfl <| Oa rfl (zl (hv := by simp (disch := first | omega | simp only [nx] <;> omega | fail) only [aLoad, ty132, rowOf, hpl, AHeap.set_set] <;> rfl)) rfl <| Oa rfl za rfl <| On ?_
  refine CWp.ret <| FQ.ret (by simp only [aRet, Try.f104, aResults, aResult, lk, Nat.reduceEqDiff, reduceIte] <;> rfl) ?_
  -- leaf: end
  exact ⟨_, rfl, rfl, (wrap_u64_range _).1, (wrap_u64_range _).2⟩
theorem len64_c (h : AHeap) (n : Nat) (hn : n < 1073741824) : FWp Try.prog 88 [U64 n] h fun u h' => u = I64 (bitsLen n) ∧ h' = h := by
  refine W.enter tyOK Try.func88 rfl rfl ?_
  simp only [entry]
  have small : ∀ m : Nat, m < 256 → ((UInt8.ofNat (bitsLen m)).toNat : Int) = bitsLen m ∧ bitsLen m ≤ 8 := fun m hm => by
    have := bits_small ⟨m, hm⟩
    simp only at this
    refine ⟨?_, this⟩
    rw [UInt8.toNat_ofNat']; omega
  have fd : ∀ (m k : Nat), Int.fdiv (m : Int) (2 ^ k : Int) = ((m / 2 ^ k : Nat) : Int) := fun m k => by
    rw [Int.fdiv_eq_ediv_of_nonneg _ (by exact Int.le_of_lt (Int.pow_pos (by decide))) ]; norm_cast
  by_cases h1 : (n : Int) ≥ 65536
  · obtain ⟨m, hm⟩ : ∃ m, m = n / 2 ^ 16 := ⟨_, rfl⟩
    have e1 := bitsLen_shift (n := n) (k := 16) (by omega)
    have v1 : Int.fdiv (n : Int) (2 ^ (min (Int.toNat 16) (IntKind.u64.bits))) = (m : Int) := by rw [hm]; exact fd n 16
    have hm2 : m < 16384 := by rw [hm]; omega
    by_cases h2 : (m : Int) ≥ 256
    · obtain ⟨l, hl⟩ : ∃ l, l = m / 2 ^ 8 := ⟨_, rfl⟩
      have e2 := bitsLen_shift (n := m) (k := 8) (by omega)
      have v2 : Int.fdiv (m : Int) (2 ^ (min (Int.toNat 8) (IntKind.u64.bits))) = (l : Int) := by rw [hl]; exact fd m 8
      have hl2 : l < 256 := by rw [hl]; omega
      have s1 := small l hl2
      have w1 : IntKind.u8.wrap (l : Int) = (l : Int) := wrap_u8 (by omega) (by omega)
      have w2 : IntKind.i64.wrap ((UInt8.ofNat (bitsLen l)).toNat : Int) = (bitsLen l : Int) := by rw [s1.1]; exact wrap_i64 (by omega) (by omega)
      have w3 : IntKind.i64.wrap ((0 : Int) + 16) = 16 := by decide
      have w4 : IntKind.i64.wrap ((16 : Int) + 8) = 24 := by decide
      have w5 : IntKind.i64.wrap ((24 : Int) + (bitsLen l : Int)) = (bitsLen n : Int) := by rw [wrap_i64 (by omega) (by omega)]; rw [← hm] at e1; rw [← hl] at e2; omega
      refine Wr <| Oa rfl za rfl <| On ?_
      refine W.seq <| Wr <| Oa rfl sm rfl <| Ofb rfl (zb (hv := bi_geq)) rfl <| On ?_
      refine Wn <| CWp.skip <| SQ.normal ?_
      refine W.seq <| Wr <| Oa rfl sm rfl <| Otb rfl (zb (hv := bi_geq)) rfl <| On ?_
      refine Wy <| Wr <| Oa rfl sm rfl <| Oa rfl (zb (hv := bi_w (bi_shr (by decide)) (by first | (simp only [v1, v2, w1, w2, w3, w4, w5] <;> rfl) | rfl))) rfl <| Oa rfl za rfl <| On ?_
      refine W.reg <| Oa rfl sm rfl <| Oa rfl (zb (hv := bi_w bi_add (by first | (simp only [v1, v2, w1, w2, w3, w4, w5] <;> rfl) | rfl))) rfl <| Oa rfl za rfl <| On ?_
      refine W.seq <| Wr <| Oa rfl sm rfl <| Otb rfl (zb (hv := bi_geq)) rfl <| On ?_
      refine Wy <| Wr <| Oa rfl sm rfl <| Oa rfl (zb (hv := bi_w (bi_shr (by decide)) (by first | (simp only [v1, v2, w1, w2, w3, w4, w5] <;> rfl) | rfl))) rfl <| Oa rfl za rfl <| On ?_
      refine W.reg <| Oa rfl sm rfl <| Oa rfl (zb (hv := bi_w bi_add (by first | (simp only [v1, v2, w1, w2, w3, w4, w5] <;> rfl) | rfl))) rfl <| Oa rfl za rfl <| On ?_
      refine Wr <| Oa rfl sm rfl <| Oa rfl sm rfl <| Oa rfl (so_conw (so_conv tyOK (by simp only [lk] <;> rfl) ty25 ⟨_, rfl⟩ ty5 rfl) (by first | (simp only [v1, v2, w1, w2, w3, w4, w5] <;> rfl) | rfl)) rfl <| Oa rfl (so_index (by simp only [lk] <;> rfl) (by simp only [lk] <;> rfl) (ix_str ty9 rfl (tab_get hl2))) rfl <| Oa rfl (so_conw (so_conv tyOK (by simp only [lk] <;> rfl) ty5 ⟨_, rfl⟩ ty3 rfl) (by first | (simp only [v1, v2, w1, w2, w3, w4, w5] <;> rfl) | rfl)) rfl <| Oa rfl (zb (hv := bi_w bi_add (by first | (simp only [v1, v2, w1, w2, w3, w4, w5] <;> rfl) | rfl))) rfl <| Oa rfl za rfl <| On ?_
      refine CWp.ret <| FQ.ret (by simp only [aRet, Try.f88, aResults, aResult, lk, Nat.reduceEqDiff, reduceIte] <;> rfl) ?_
      -- leaf: end
      exact ⟨rfl, rfl⟩
    · have s1 := small m (by omega)
      have w1 : IntKind.u8.wrap (m : Int) = (m : Int) := wrap_u8 (by omega) (by omega)
      have w2 : IntKind.i64.wrap ((UInt8.ofNat (bitsLen m)).toNat : Int) = (bitsLen m : Int) := by rw [s1.1]; exact wrap_i64 (by omega) (by omega)
      have w3 : IntKind.i64.wrap ((0 : Int) + 16) = 16 := by decide
      have w5 : IntKind.i64.wrap ((16 : Int) + (bitsLen m : Int)) = (bitsLen n : Int) := by rw [wrap_i64 (by omega) (by omega)]; rw [← hm] at e1; omega
      refine Wr <| Oa rfl za rfl <| On ?_
      refine W.seq <| Wr <| Oa rfl sm rfl <| Ofb rfl (zb (hv := bi_geq)) rfl <| On ?_
      refine Wn <| CWp.skip <| SQ.normal ?_
      refine W.seq <| Wr <| Oa rfl sm rfl <| Otb rfl (zb (hv := bi_geq)) rfl <| On ?_
      refine Wy <| Wr <| Oa rfl sm rfl <| Oa rfl (zb (hv := bi_w (bi_shr (by decide)) (by first | (simp only [v1, w1, w2, w3, w5] <;> rfl) | rfl))) rfl <| Oa rfl za rfl <| On ?_
      refine W.reg <| Oa rfl sm rfl <| Oa rfl (zb (hv := bi_w bi_add (by first | (simp only [v1, w1, w2, w3, w5] <;> rfl) | rfl))) rfl <| Oa rfl za rfl <| On ?_
      refine W.seq <| Wr <| Oa rfl sm rfl <| Ofb rfl (zb (hv := bi_geq)) rfl <| On ?_
      refine Wn <| CWp.skip <| SQ.normal ?_
      refine Wr <| Oa rfl sm rfl <| Oa rfl sm rfl <| Oa rfl (so_conw (so_conv tyOK (by simp only [lk] <;> rfl) ty25 ⟨_, rfl⟩ ty5 rfl) (by first | (simp only [v1, w1, w2, w3, w5] <;> rfl) | rfl)) rfl <| Oa rfl (so_index (by simp only [lk] <;> rfl) (by simp only [lk] <;> rfl) (ix_str ty9 rfl (tab_get (i := m) (by omega)))) rfl <| Oa rfl (so_conw (so_conv tyOK (by simp only [lk] <;> rfl) ty5 ⟨_, rfl⟩ ty3 rfl) (by first | (simp only [v1, w1, w2, w3, w5] <;> rfl) | rfl)) rfl <| Oa rfl (zb (hv := bi_w bi_add (by first | (simp only [v1, w1, w2, w3, w5] <;> rfl) | rfl))) rfl <| Oa rfl za rfl <| On ?_
      refine CWp.ret <| FQ.ret (by simp only [aRet, Try.f88, aResults, aResult, lk, Nat.reduceEqDiff, reduceIte] <;> rfl) ?_
      -- leaf: end
      exact ⟨rfl, rfl⟩
  · by_cases h2 : (n : Int) ≥ 256
    · obtain ⟨l, hl⟩ : ∃ l, l = n / 2 ^ 8 := ⟨_, rfl⟩
      have e2 := bitsLen_shift (n := n) (k := 8) (by omega)
      have v2 : Int.fdiv (n : Int) (2 ^ (min (Int.toNat 8) (IntKind.u64.bits))) = (l : Int) := by rw [hl]; exact fd n 8
      have hl2 : l < 256 := by rw [hl]; omega
      have s1 := small l hl2
      have w1 : IntKind.u8.wrap (l : Int) = (l : Int) := wrap_u8 (by omega) (by omega)
      have w2 : IntKind.i64.wrap ((UInt8.ofNat (bitsLen l)).toNat : Int) = (bitsLen l : Int) := by rw [s1.1]; exact wrap_i64 (by omega) (by omega)
      have w4 : IntKind.i64.wrap ((0 : Int) + 8) = 8 := by decide
      have w5 : IntKind.i64.wrap ((8 : Int) + (bitsLen l : Int)) = (bitsLen n : Int) := by rw [wrap_i64 (by omega) (by omega)]; rw [← hl] at e2; omega
      refine Wr <| Oa rfl za rfl <| On ?_
      refine W.seq <| Wr <| Oa rfl sm rfl <| Ofb rfl (zb (hv := bi_geq)) rfl <| On ?_
      refine Wn <| CWp.skip <| SQ.normal ?_
      refine W.seq <| Wr <| Oa rfl sm rfl <| Ofb rfl (zb (hv := bi_geq)) rfl <| On ?_
      refine Wn <| CWp.skip <| SQ.normal ?_
      refine W.seq <| Wr <| Oa rfl sm rfl <| Otb rfl (zb (hv := bi_geq)) rfl <| On ?_
      refine Wy <| Wr <| Oa rfl sm rfl <| Oa rfl (zb (hv := bi_w (bi_shr (by decide)) (by first | (simp only [v2, w1, w2, w4, w5] <;> rfl) | rfl))) rfl <| Oa rfl za rfl <| On ?_
      refine W.reg <| Oa rfl sm rfl <| Oa rfl (zb (hv := bi_w bi_add (by first | (simp only [v2, w1, w2, w4, w5] <;> rfl) | rfl))) rfl <| Oa rfl za rfl <| On ?_
      refine Wr <| Oa rfl sm rfl <| Oa rfl sm rfl <| Oa rfl (so_conw (so_conv tyOK (by simp only [lk] <;> rfl) ty25 ⟨_, rfl⟩ ty5 rfl) (by first | (simp only [v2, w1, w2, w4, w5] <;> rfl) | rfl)) rfl <| Oa rfl (so_index (by simp only [lk] <;> rfl) (by simp only [lk] <;> rfl) (ix_str ty9 rfl (tab_get hl2))) rfl <| Oa rfl (so_conw (so_conv tyOK (by simp only [lk] <;> rfl) ty5 ⟨_, rfl⟩ ty3 rfl) (by first | (simp only [v2, w1, w2, w4, w5] <;> rfl) | rfl)) rfl <| Oa rfl (zb (hv := bi_w bi_add (by first | (simp only [v2, w1, w2, w4, w5] <;> rfl) | rfl))) rfl <| Oa rfl za rfl <| On ?_
      refine CWp.ret <| FQ.ret (by simp only [aRet, Try.f88, aResults, aResult, lk, Nat.reduceEqDiff, reduceIte] <;> rfl) ?_
      -- leaf: end
      exact ⟨rfl, rfl⟩
    · have s1 := small n (by omega)
      have w1 : IntKind.u8.wrap (n : Int) = (n : Int) := wrap_u8 (by omega) (by omega)
      have w2 : IntKind.i64.wrap ((UInt8.ofNat (bitsLen n)).toNat : Int) = (bitsLen n : Int) := by rw [s1.1]; exact wrap_i64 (by omega) (by omega)
      have w5 : IntKind.i64.wrap ((0 : Int) + (bitsLen n : Int)) = (bitsLen n : Int) := by rw [wrap_i64 (by omega) (by omega)]; omega
      refine Wr <| Oa rfl za rfl <| On ?_
      refine W.seq <| Wr <| Oa rfl sm rfl <| Ofb rfl (zb (hv := bi_geq)) rfl <| On ?_
      refine Wn <| CWp.skip <| SQ.normal ?_
      refine W.seq <| Wr <| Oa rfl sm rfl <| Ofb rfl (zb (hv := bi_geq)) rfl <| On ?_
      refine Wn <| CWp.skip <| SQ.normal ?_
      refine W.seq <| Wr <| Oa rfl sm rfl <| Ofb rfl (zb (hv := bi_geq)) rfl <| On ?_
      refine Wn <| CWp.skip <| SQ.normal ?_
      refine Wr <| Oa rfl sm rfl <| Oa rfl sm rfl <| Oa rfl (so_conw (so_conv tyOK (by simp only [lk] <;> rfl) ty25 ⟨_, rfl⟩ ty5 rfl) (by first | (simp only [w1, w2, w5] <;> rfl) | rfl)) rfl <| Oa rfl (so_index (by simp only [lk] <;> rfl) (by simp only [lk] <;> rfl) (ix_str ty9 rfl (tab_get (i := n) (by omega)))) rfl <| Oa rfl (so_conw (so_conv tyOK (by simp only [lk] <;> rfl) ty5 ⟨_, rfl⟩ ty3 rfl) (by first | (simp only [w1, w2, w5] <;> rfl) | rfl)) rfl <| Oa rfl (zb (hv := bi_w bi_add (by first | (simp only [w1, w2, w5] <;> rfl) | rfl))) rfl <| Oa rfl za rfl <| On ?_
      refine CWp.ret <| FQ.ret (by simp only [aRet, Try.f88, aResults, aResult, lk, Nat.reduceEqDiff, reduceIte] <;> rfl) ?_
      -- leaf: end
      exact ⟨rfl, rfl⟩
theorem len_c (h : AHeap) (n : Nat) (hn : n < 1073741824) : FWp Try.prog 62 [U64 n] h fun u h' => u = I64 (bitsLen n) ∧ h' = h := by
  refine W.enter tyOK Try.func62 rfl rfl ?_
  simp only [entry]
  refine Wr <| Oa rfl za rfl <| On ?_
  refine W.seq <| Wn <| CWp.skip <| SQ.normal ?_
  refine Wr <| Oa rfl sm rfl <| OSuf.callD rfl (by simp only [aopnds, lk] <;> rfl) en88 (len64_c _ n hn) rfl <| Oa rfl za rfl <| On ?_
  refine CWp.ret <| FQ.ret (by simp only [aRet, Try.f62, aResults, aResult, lk, Nat.reduceEqDiff, reduceIte] <;> rfl) ?_
  -- leaf: end
  exact ⟨rfl, rfl⟩
end Go.Proofs.Ytebheelmgcggmaa.SortR
namespace Go.Proofs.Ytebheelmgcggmaa.SortR
open Go.Ab Go.Sort
theorem power_c (h : AHeap) (n : Nat) (hn : n < 1000000000) : FWp Try.prog 103 [I64 n] h fun u h' => u = U64 (2 ^ bitsLen n : Nat) ∧ h' = h := by
  have hb : bitsLen n ≤ 30 := (bitsLen_le_iff n 30).2 (by omega)
  have hp : 2 ^ bitsLen n ≤ 2 ^ 30 := Nat.pow_le_pow_right (by omega) hb
  have w1 : IntKind.u64.wrap (n : Int) = (n : Int) := wrap_u64 (by omega) (by omega)
  have w2 : IntKind.u64.wrap (1 * 2 ^ (min (Int.toNat (bitsLen n : Int)) IntKind.u64.bits)) = ((2 ^ bitsLen n : Nat) : Int) := by
    have e : min (Int.toNat (bitsLen n : Int)) IntKind.u64.bits = bitsLen n := by simp only [IntKind.bits, Int.toNat_natCast]; omega
    rw [e, Int.one_mul]
    have e2 : (2 : Int) ^ bitsLen n = ((2 ^ bitsLen n : Nat) : Int) := by norm_cast
    rw [e2]
    generalize 2 ^ bitsLen n = M at *
    exact wrap_u64 (by omega) (by omega)
  refine W.enter tyOK Try.func103 rfl rfl ?_
  simp only [entry]
  refine Wr <| Oa rfl za rfl <| On ?_
  refine Wr <| Oa rfl sm rfl <| Oa rfl (so_conw (so_conv tyOK (by simp only [lk] <;> rfl) ty3 ⟨_, rfl⟩ ty68 rfl) (by first | (simp only [w1, w2] <;> rfl) | rfl)) rfl <| OSuf.callD rfl (by simp only [aopnds, lk] <;> rfl) en62 (len_c _ n (by omega)) rfl <| Oa rfl (zb (hv := bi_w (bi_shl (by omega)) (by first | (simp only [w1, w2] <;> rfl) | rfl))) rfl <| Oa rfl za rfl <| On ?_
  refine CWp.ret <| FQ.ret (by simp only [aRet, Try.f103, aResults, aResult, lk, Nat.reduceEqDiff, reduceIte] <;> rfl) ?_
  -- leaf: end
  exact ⟨rfl, rfl⟩
theorem and_nat (x : Int) (m : Nat) (hm : m < 18446744073709551616) : ∃ o : Nat, IntKind.u64.wrap ((BitVec.ofInt IntKind.u64.bits x &&& BitVec.ofInt IntKind.u64.bits (m : Int)).toNat : Nat) = o ∧ o ≤ m := by
  refine ⟨(BitVec.ofInt IntKind.u64.bits x &&& BitVec.ofInt IntKind.u64.bits (m : Int)).toNat, ?_, ?_⟩
  · have := (BitVec.ofInt IntKind.u64.bits x &&& BitVec.ofInt IntKind.u64.bits (m : Int)).isLt
    simp only [IntKind.bits] at this ⊢
    exact wrap_u64 (by omega) (by omega)
  · rw [BitVec.toNat_and]
    refine Nat.le_trans Nat.and_le_right ?_
    simp only [IntKind.bits, BitVec.toNat_ofInt]
    omega
theorem break_c (h : AHeap) (r N : Nat) (hrn : r < h.next) (d : Array El) (hN : d.size = N) (a b : Nat) (hab : a + 12 < b) (hb : b ≤ N) (hsz : N < 1000000000) :
    FWp Try.prog 81 [sl r N, I64 a, I64 b, CF] (h.set r (row d)) fun u h' => u = .tuple #[] ∧ ∃ d' : Array El, PermIn a b d d' ∧ h' = h.set r (row d') := by
  refine FWp.gcE (K0 := fun u h' => u = .tuple #[] ∧ ∃ d' : Array El, PermIn a b d d' ∧ h'.get r = some (row d') ∧ ∀ x, x < h.next → ¬ r = x → h'.get x = h.get x) ?_ ?_
  · obtain ⟨l, hl⟩ : ∃ l, l = b - a := ⟨_, rfl⟩
    have w1 : IntKind.i64.wrap ((b : Int) - (a : Int)) = (l : Int) := by rw [wrap_i64 (by omega) (by omega)]; omega
    have w0 : IntKind.u64.wrap (l : Int) = (l : Int) := wrap_u64 (by omega) (by omega)
    obtain ⟨l4, hl4⟩ : ∃ l4, l4 = l / 4 := ⟨_, rfl⟩
    have w2 : IntKind.i64.wrap ((l : Int).tdiv 4) = (l4 : Int) := by rw [Int.tdiv_eq_ediv_of_nonneg (by omega), wrap_i64 (by omega) (by omega)]; omega
    have w3 : IntKind.i64.wrap ((l4 : Int) * 2) = ((l4 * 2 : Nat) : Int) := by rw [wrap_i64 (by omega) (by omega)]; omega
    have w4 : IntKind.i64.wrap ((a : Int) + ((l4 * 2 : Nat) : Int)) = ((a + l4 * 2 : Nat) : Int) := by rw [wrap_i64 (by omega) (by omega)]; omega
    have w5 : IntKind.i64.wrap (((a + l4 * 2 : Nat) : Int) - 1) = ((a + l4 * 2 - 1 : Nat) : Int) := by rw [wrap_i64 (by omega) (by omega)]; omega
    have w6 : IntKind.i64.wrap (((a + l4 * 2 : Nat) : Int) + 1) = ((a + l4 * 2 + 1 : Nat) : Int) := by rw [wrap_i64 (by omega) (by omega)]; omega
    obtain ⟨M, hM⟩ : ∃ M, M = 2 ^ bitsLen l := ⟨_, rfl⟩
    have hM2 : M ≤ 2 * l := by rw [hM]; exact two_pow_bitsLen_le (by omega)
    have hM1 : 1 ≤ M := by rw [hM]; exact Nat.two_pow_pos _
    have w7 : IntKind.u64.wrap ((M : Int) - 1) = ((M - 1 : Nat) : Int) := by rw [wrap_u64 (by omega) (by omega)]; omega
    refine W.enter tyOK Try.func81 rfl rfl ?_
    simp only [entry]
    refine Wr <| Oa rfl sm rfl <| Oa rfl sm rfl <| Oa rfl (zb (hv := bi_w bi_sub (by first | (simp only [w0, w1, w2, w3, w4, w5] <;> rfl) | rfl))) rfl <| Oa rfl za rfl <| On ?_
    refine Wr <| Oa rfl sm rfl <| Ot rfl (zb (hv := bi_geq)) rfl (by first | rfl | assumption | ((simp only [bl, Value.cells]) <;> first | done | assumption | omega) | (simp; done) | (simp; omega)) <| On ?_
    refine Wy <| Wr <| Oa rfl sm rfl <| Oa rfl (so_conw (so_conv tyOK (by simp only [lk] <;> rfl) ty3 ⟨_, rfl⟩ ty132 rfl) (by first | (simp only [w0, w1, w2, w3, w4, w5] <;> rfl) | rfl)) rfl <| Oa rfl (so_alloc (by simp only [aAlloc, ty132] <;> rfl)) rfl <| Oa rfl (zs (hv := by simp (disch := first | omega | simp only [nx] <;> omega | fail) only [aStore, ty132, writeRow, hpl, Value.cells] <;> rfl)) rfl <| On ?_
    refine Wr <| Oa rfl sm rfl <| OSuf.callD rfl (by simp only [aopnds, lk] <;> rfl) en103 (hM ▸ power_c _ l (by omega)) rfl <| Oa rfl za rfl <| On ?_
    refine Wr <| Oa rfl sm rfl <| Oa rfl sm rfl <| Oa rfl (zb (hv := bi_w (bi_quo (by decide)) (by first | (simp only [w0, w1, w2, w3, w4, w5] <;> rfl) | rfl))) rfl <| Oa rfl (zb (hv := bi_w bi_mul (by first | (simp only [w0, w1, w2, w3, w4, w5] <;> rfl) | rfl))) rfl <| Oa rfl (zb (hv := bi_w bi_add (by first | (simp only [w0, w1, w2, w3, w4, w5] <;> rfl) | rfl))) rfl <| Oa rfl (zb (hv := bi_w bi_sub (by first | (simp only [w0, w1, w2, w3, w4, w5] <;> rfl) | rfl))) rfl <| Oa rfl za rfl <| On ?_
    -- leaf: loop
    refine W.block (W.loop (fun n L h' => ∃ (i : Nat) (d' : Array El) (s : Int), n = a + l4 * 2 + 2 - i ∧ a + l4 * 2 - 1 ≤ i ∧ i ≤ a + l4 * 2 + 2 ∧ PermIn a b d d' ∧ h'.get r = some (row d') ∧ h'.get h.next = some (ucell s) ∧ (∀ x, x < h.next → ¬ r = x → h'.get x = h.get x) ∧
        L = [(0, sl r N), (1, I64 a), (3, CF), (8, I64 l), (9, P0 h.next), (10, U64 M), (11, I64 i)]) (n := 3) ⟨a + l4 * 2 - 1, d, (l : Int), by omega, by omega, by omega, permIn_refl _ _ _, ?_, ?_, ?_, rfl⟩ ?_ ?_)
    · rw [Gs (by show ¬ h.next = r; omega), Gn (by show ¬ h.next = r; omega), AHeap.get_set_same]
    · exact AHeap.get_set_same _ _ _
    · intro x hx hrx
      rw [Gs (by show ¬ h.next = x; omega), Gn (by show ¬ h.next = x; omega), Gs hrx]
    · simp [HasA, Tr.get_put, hM]
    · rintro n L h1 ⟨i, d1, s, rfl, hi1, hi2, hperm, hr1, hq1, hfr, rfl⟩
      simp only [mkA]
      have hs1 : d1.size = N := hperm.1.trans hN
      by_cases hile : (i : Int) ≤ ((a + l4 * 2 + 1 : Nat) : Int)
      · have w8 : IntKind.i64.wrap ((i : Int) + 1) = ((i + 1 : Nat) : Int) := by rw [wrap_i64 (by omega) (by omega)]; omega
        have step : ∀ (o : Nat), o < l → ∀ (h2 : AHeap) (s' : Int), h2.get r = some (row (swp d1 i (a + o))) → h2.get h.next = some (ucell s') → (∀ x, x < h.next → ¬ r = x → h2.get x = h.get x) →
            ∃ (j : Nat) (d' : Array El) (s : Int), a + l4 * 2 + 2 - (i + 1) = a + l4 * 2 + 2 - j ∧ a + l4 * 2 - 1 ≤ j ∧ j ≤ a + l4 * 2 + 2 ∧ PermIn a b d d' ∧ h2.get r = some (row d') ∧ h2.get h.next = some (ucell s) ∧ (∀ x, x < h.next → ¬ r = x → h2.get x = h.get x) ∧
              [(0, sl r N), (1, I64 a), (3, CF), (8, I64 l), (9, P0 h.next), (10, U64 M), (11, I64 (i + 1 : Nat))] = [(0, sl r N), (1, I64 a), (3, CF), (8, I64 l), (9, P0 h.next), (10, U64 M), (11, I64 j)] :=
          fun o ho h2 s' e1 e2 e3 => ⟨i + 1, _, s', rfl, by omega, by omega, permIn_trans _ _ _ _ _ hperm (swp_permIn d1 a b i (a + o) (by omega) (by omega) (by omega) (by omega) (by omega)), e1, e2, e3, rfl⟩
        have hnr : ¬ h.next = r := by omega
        have hnr' : ¬ r = h.next := by omega
        have hcall : FWp Try.prog 104 [P0 h.next] h1 fun u h' => ∃ s' : Int, u = U64 s' ∧ h' = h1.set h.next (ucell s') ∧ 0 ≤ s' ∧ s' < 18446744073709551616 := by
          have := next_c h1 h.next s
          rw [AHeap.set_self hq1] at this
          exact this
        refine W.seq <| Wr <| Oa rfl sm rfl <| Oa rfl sm rfl <| Oa rfl sm rfl <| Oa rfl (zb (hv := bi_w (bi_quo (by decide)) (by first | (simp only [w2, w3, w4, w6, w7] <;> rfl) | rfl))) rfl <| Oa rfl (zb (hv := bi_w bi_mul (by first | (simp only [w2, w3, w4, w6, w7] <;> rfl) | rfl))) rfl <| Oa rfl (zb (hv := bi_w bi_add (by first | (simp only [w2, w3, w4, w6, w7] <;> rfl) | rfl))) rfl <| Oa rfl (zb (hv := bi_w bi_add (by first | (simp only [w2, w3, w4, w6, w7] <;> rfl) | rfl))) rfl <| Ot rfl (zb (hv := bi_leq)) rfl (by first | rfl | assumption | ((simp only [bl, hr1, sq]) <;> first | done | assumption | omega) | (simp; done) | (simp; omega)) <| On ?_
        refine Wy <| CWp.skip <| SQ.normal ?_
        refine W.seq <| W.block <| Wr <| OSuf.call rfl (by simp only [aopnds, lk] <;> rfl) en104 (hcall) ?_
        rintro _ _ ⟨s', rfl, rfl, hs0, hsm⟩
        obtain ⟨o, ho1, ho2⟩ := and_nat s' (M - 1) (by omega)
        have w9 : IntKind.i64.wrap (o : Int) = (o : Int) := wrap_i64 (by omega) (by omega)
        have w10 : IntKind.i64.wrap ((o : Int) - (l : Int)) = (o : Int) - (l : Int) := wrap_i64 (by omega) (by omega)
        have w11 : IntKind.i64.wrap ((a : Int) + ((o : Int) - (l : Int))) = (a : Int) + ((o : Int) - (l : Int)) := wrap_i64 (by omega) (by omega)
        have w12 : IntKind.i64.wrap ((a : Int) + (o : Int)) = ((a + o : Nat) : Int) := by rw [wrap_i64 (by omega) (by omega)]; omega
        refine ⟨_, rfl, ?_⟩
        refine Oa rfl sm rfl <| Oa rfl (zb (hv := bi_w bi_sub (by first | (simp only [w2, w3, w4, w6, w7, ho1, w9, w10, w11, w12, w8] <;> rfl) | rfl))) rfl <| Oa rfl (zb (hv := bi_w bi_and (by first | (simp only [w2, w3, w4, w6, w7, ho1, w9, w10, w11, w12, w8] <;> rfl) | rfl))) rfl <| Oa rfl (so_conw (so_conv tyOK (by simp only [lk] <;> rfl) ty68 ⟨_, rfl⟩ ty3 rfl) (by first | (simp only [w2, w3, w4, w6, w7, ho1, w9, w10, w11, w12, w8] <;> rfl) | rfl)) rfl <| Oa rfl za rfl <| On ?_
        refine W.seq <| Wr <| Oa rfl sm rfl <| Oa rfl sm rfl <| OSuf.aopB tyOK rfl (zb (hv := bi_geq)) (fun _ => rfl) (fun hge => ?_) (fun hge => ?_)
        · try simp only [bl] at hge
          refine On ?_
          refine Wy <| W.reg <| Oa rfl sm rfl <| Oa rfl sm rfl <| Oa rfl (zb (hv := bi_w bi_sub (by first | (simp only [w2, w3, w4, w6, w7, ho1, w9, w10, w11, w12, w8] <;> rfl) | rfl))) rfl <| Oa rfl za rfl <| On ?_
          refine W.regD tyOK mixed (by kernel_rfl) <| Sa rfl sm rfl <| Sa rfl sm rfl <| Sa rfl sm rfl <| Sa rfl sm rfl <| Sa rfl sm rfl <| Sa rfl (zb (hv := bi_w bi_add (by first | (simp only [w2, w3, w4, w6, w7, ho1, w9, w10, w11, w12, w8] <;> rfl) | rfl))) rfl <| Sa rfl sm rfl <| Sa rfl sm rfl <| Sa rfl sm rfl <| Sa rfl (zb (hv := bi_w bi_add (by first | (simp only [w2, w3, w4, w6, w7, ho1, w9, w10, w11, w12, w8] <;> rfl) | rfl))) rfl <| Sa rfl (zi (hv := by simp (disch := first | omega | simp only [nx] <;> omega | fail) only [aIndexAddr, ty26, ty33, hpl, hr1, sq] <;> rfl)) rfl <| Sa rfl (zl (hv := by simp (disch := first | omega | simp only [nx] <;> omega | fail) only [aLoad, ty33, rowOf, hpl, hr1, sq] <;> rfl)) rfl <| Sa rfl sm rfl <| Sa rfl sm rfl <| Sa rfl (zi (hv := by simp (disch := first | omega | simp only [nx] <;> omega | fail) only [aIndexAddr, ty26, ty33, hpl, hr1, sq] <;> rfl)) rfl <| Sa rfl (zl (hv := by simp (disch := first | omega | simp only [nx] <;> omega | fail) only [aLoad, ty33, rowOf, hpl, hr1, sq] <;> rfl)) rfl <| Sa rfl (zi (hv := by simp (disch := first | omega | simp only [nx] <;> omega | fail) only [aIndexAddr, ty26, ty33, hpl, hr1, sq] <;> rfl)) rfl <| Sa rfl (zs (hv := by simp (disch := first | omega | simp only [nx] <;> omega | fail) only [aStore, ty33, writeRow, hpl, hr1, sq] <;> rfl)) rfl <| Sa rfl (zi (hv := by simp (disch := first | omega | simp only [nx] <;> omega | fail) only [aIndexAddr, ty26, ty33, hpl, hr1, sq] <;> rfl)) rfl <| Sa rfl (zs (hv := by simp (disch := first | omega | simp only [nx] <;> omega | fail) only [aStore, ty33, writeRow, hpl, hr1, sq] <;> rfl)) rfl <| SqW.nil <| BQ.normal <| SQ.normal ?_
          refine W.reg <| Oa rfl sm rfl <| Oa rfl (zb (hv := bi_w bi_add (by first | (simp only [w2, w3, w4, w6, w7, ho1, w9, w10, w11, w12, w8] <;> rfl) | rfl))) rfl <| Oa rfl za rfl <| OSuf.nil <| ?_
          have e9 : ((a : Int) + ((o : Int) - (l : Int))).toNat = a + (o - l) := by omega
          rw [e9]
          refine LQ.normal (m := a + l4 * 2 + 2 - (i + 1)) (L := [(0, sl r N), (1, I64 a), (3, CF), (8, I64 l), (9, P0 h.next), (10, U64 M), (11, I64 (i + 1 : Nat))]) (by omega) ?_ (step (o - l) (by omega) _ s' ?_ ?_ ?_)
          · simp only [HasA, Tr.get_put, Nat.reduceEqDiff, reduceIte, and_self]
          · rw [AHeap.get_set_same]; rfl
          · rw [Gs hnr', AHeap.get_set_same]
          · intro x hx hrx; rw [Gs hrx, Gs (by omega)]; exact hfr x hx hrx
        · try simp only [bl] at hge
          refine On ?_
          refine Wn <| CWp.skip <| SQ.normal ?_
          refine W.regD tyOK mixed (by kernel_rfl) <| Sa rfl sm rfl <| Sa rfl sm rfl <| Sa rfl sm rfl <| Sa rfl sm rfl <| Sa rfl sm rfl <| Sa rfl (zb (hv := bi_w bi_add (by first | (simp only [w2, w3, w4, w6, w7, ho1, w9, w10, w11, w12, w8] <;> rfl) | rfl))) rfl <| Sa rfl sm rfl <| Sa rfl sm rfl <| Sa rfl sm rfl <| Sa rfl (zb (hv := bi_w bi_add (by first | (simp only [w2, w3, w4, w6, w7, ho1, w9, w10, w11, w12, w8] <;> rfl) | rfl))) rfl <| Sa rfl (zi (hv := by simp (disch := first | omega | simp only [nx] <;> omega | fail) only [aIndexAddr, ty26, ty33, hpl, hr1, sq] <;> rfl)) rfl <| Sa rfl (zl (hv := by simp (disch := first | omega | simp only [nx] <;> omega | fail) only [aLoad, ty33, rowOf, hpl, hr1, sq] <;> rfl)) rfl <| Sa rfl sm rfl <| Sa rfl sm rfl <| Sa rfl (zi (hv := by simp (disch := first | omega | simp only [nx] <;> omega | fail) only [aIndexAddr, ty26, ty33, hpl, hr1, sq] <;> rfl)) rfl <| Sa rfl (zl (hv := by simp (disch := first | omega | simp only [nx] <;> omega | fail) only [aLoad, ty33, rowOf, hpl, hr1, sq] <;> rfl)) rfl <| Sa rfl (zi (hv := by simp (disch := first | omega | simp only [nx] <;> omega | fail) only [aIndexAddr, ty26, ty33, hpl, hr1, sq] <;> rfl)) rfl <| Sa rfl (zs (hv := by simp (disch := first | omega | simp only [nx] <;> omega | fail) only [aStore, ty33, writeRow, hpl, hr1, sq] <;> rfl)) rfl <| Sa rfl (zi (hv := by simp (disch := first | omega | simp only [nx] <;> omega | fail) only [aIndexAddr, ty26, ty33, hpl, hr1, sq] <;> rfl)) rfl <| Sa rfl (zs (hv := by simp (disch := first | omega | simp only [nx] <;> omega | fail) only [aStore, ty33, writeRow, hpl, hr1, sq] <;> rfl)) rfl <| SqW.nil <| BQ.normal <| SQ.normal ?_
          refine W.reg <| Oa rfl sm rfl <| Oa rfl (zb (hv := bi_w bi_add (by first | (simp only [w2, w3, w4, w6, w7, ho1, w9, w10, w11, w12, w8] <;> rfl) | rfl))) rfl <| Oa rfl za rfl <| OSuf.nil <| ?_
          refine LQ.normal (m := a + l4 * 2 + 2 - (i + 1)) (L := [(0, sl r N), (1, I64 a), (3, CF), (8, I64 l), (9, P0 h.next), (10, U64 M), (11, I64 (i + 1 : Nat))]) (by omega) ?_ (step o (by omega) _ s' ?_ ?_ ?_)
          · simp only [HasA, Tr.get_put, Nat.reduceEqDiff, reduceIte, and_self]
          · rw [AHeap.get_set_same]; rfl
          · rw [Gs hnr', AHeap.get_set_same]
          · intro x hx hrx; rw [Gs hrx, Gs (by omega)]; exact hfr x hx hrx
      · refine W.seq <| Wr <| Oa rfl sm rfl <| Oa rfl sm rfl <| Oa rfl sm rfl <| Oa rfl (zb (hv := bi_w (bi_quo (by decide)) (by first | (simp only [w2, w3, w4, w6] <;> rfl) | rfl))) rfl <| Oa rfl (zb (hv := bi_w bi_mul (by first | (simp only [w2, w3, w4, w6] <;> rfl) | rfl))) rfl <| Oa rfl (zb (hv := bi_w bi_add (by first | (simp only [w2, w3, w4, w6] <;> rfl) | rfl))) rfl <| Oa rfl (zb (hv := bi_w bi_add (by first | (simp only [w2, w3, w4, w6] <;> rfl) | rfl))) rfl <| Ofb rfl (zb (hv := bi_leq)) rfl <| On ?_
        refine Wn <| CWp.exit <| SQ.exit <| LQ.exit <| BQ.exit <| FQ.normal (by simp only [aRet, Try.f81, aResults, aResult, lk, Nat.reduceEqDiff, reduceIte] <;> rfl) ?_
        -- leaf: end
        exact ⟨rfl, d1, hperm, hr1, hfr⟩
  · rintro u h' ⟨rfl, d', hp, h1, h2⟩
    refine ⟨.flat rfl, h.set r (row d'), rfl, fun x o hx => ?_, rfl, d', hp, rfl⟩
    rw [AHeap.get_set] at hx
    split at hx
    · rename_i e
      subst e
      cases hx
      refine .inr ⟨hrn, h1, fun v hv => ?_⟩
      exact fl_flat v hv
    · rename_i e
      refine .inl ⟨by rw [Gs e]; exact hx, fun hlt => ?_⟩
      rw [h2 x hlt e]; exact hx
end Go.Proofs.Ytebheelmgcggmaa.SortR
namespace Go.Proofs.Ytebheelmgcggmaa.SortR
open Go.Ab Go.Sort
theorem ss_eq {d : Array El} {b i : Nat} (h : i < b) (hp : lt d[i]! d[i - 1]! = false) : scanSorted lt d b i = scanSorted lt d b (i + 1) := by conv => lhs; rw [scanSorted]; simp [h, hp]
theorem ss_stop {d : Array El} {b i : Nat} (h : ¬ i < b ∨ lt d[i]! d[i - 1]! = true) : scanSorted lt d b i = i := by
  rw [scanSorted]
  rcases h with h | h
  · simp [h]
  · simp [h]
theorem ss_range {d : Array El} {b : Nat} : ∀ {n i : Nat}, b - i = n → i ≤ b → i ≤ scanSorted lt d b i ∧ scanSorted lt d b i ≤ b := by
  intro n
  induction n with
  | zero => intro i hn hi; rw [ss_stop (.inl (by omega))]; omega
  | succ n ih =>
    intro i hn hi
    cases hl : lt d[i]! d[i - 1]!
    · rw [ss_eq (by omega) hl]; have := ih (i := i + 1) (by omega) (by omega); omega
    · rw [ss_stop (.inr hl)]; omega
theorem partial_c (h : AHeap) (r N : Nat) (d : Array El) (hN : d.size = N) (a b : Nat) (hab : a < b) (hb : b ≤ N) (hsz : N < 1000000000) :
    FWp Try.prog 84 [sl r N, I64 a, I64 b, CF] (h.set r (row d)) fun u h' => u = .bool (partialInsertionSort lt d a b).2 ∧ h' = h.set r (row (partialInsertionSort lt d a b).1) := by
  refine W.enter tyOK Try.func84 rfl rfl ?_
  simp only [entry]
  have w1 : IntKind.i64.wrap ((a : Int) + 1) = ((a + 1 : Nat) : Int) := by rw [wrap_i64 (by omega) (by omega)]; omega
  have w2 : IntKind.i64.wrap ((b : Int) - (a : Int)) = ((b - a : Nat) : Int) := by rw [wrap_i64 (by omega) (by omega)]; omega
  refine Wr <| Of rfl za rfl rfl <| On ?_
  refine Wr <| Oa rfl sm rfl <| Oa rfl (zb (hv := bi_w bi_add (by first | (simp only [w1] <;> rfl) | rfl))) rfl <| Oa rfl za rfl <| On ?_
  refine W.seq <| Wr <| Oa rfl za rfl <| On ?_
  -- leaf: loop
  refine W.cut (fun L h' => partialInsertionSort lt d a b = ((partialInsertionSort lt d a b).1, false) ∧ h' = h.set r (row (partialInsertionSort lt d a b).1) ∧ L = []) (W.block (W.loop (fun n L h' => ∃ (j i : Nat) (dk : Array El), n + j = 5 ∧ a + 1 ≤ i ∧ i ≤ b ∧ dk.size = N ∧ partialIns lt a b n i dk = partialInsertionSort lt d a b ∧ h' = h.set r (row dk) ∧
      L = [(0, sl r N), (1, I64 a), (2, I64 b), (3, CF), (9, I64 i), (10, I64 j)]) (n := 5) ⟨0, a + 1, d, rfl, by omega, by omega, hN, rfl, rfl, rfl⟩ ?_ ?_)) ?_
  · simp [HasA, Tr.get_put]
  · rintro n L h1 ⟨j, i0, dk, hnj, hi1, hi2, hds, heq, rfl, rfl⟩
    simp only [mkA]
    cases n with
    | zero =>
      refine W.seq <| Wr <| Oa rfl sm rfl <| Ofb rfl (zb (hv := bi_lss)) rfl <| On ?_
      refine Wn <| CWp.exit <| SQ.exit <| LQ.exit <| BQ.exit <| ?_
      -- leaf: cut
      have e : partialIns lt a b 0 i0 dk = (dk, false) := rfl
      rw [e] at heq
      refine NQ.normal (L := []) trivial ⟨by rw [← heq], by rw [← heq], rfl⟩
    | succ s =>
      refine W.seq <| Wr <| Oa rfl sm rfl <| Otb rfl (zb (hv := bi_lss)) rfl <| On ?_
      refine Wy <| CWp.skip <| SQ.normal ?_
      refine W.seq <| W.block <| W.seq <| ?_
      -- leaf: loop
      refine W.cut (fun L h' => h' = h.set r (row dk) ∧ L = [(0, sl r N), (1, I64 a), (2, I64 b), (3, CF), (9, I64 (scanSorted lt dk b i0 : Nat)), (10, I64 j)])
        (W.block (W.loop (fun n L h' => ∃ i : Nat, n = b - i ∧ a + 1 ≤ i ∧ i ≤ b ∧ scanSorted lt dk b i = scanSorted lt dk b i0 ∧ h' = h.set r (row dk) ∧ L = [(0, sl r N), (1, I64 a), (2, I64 b), (3, CF), (9, I64 i), (10, I64 j)]) (n := b - i0) ⟨i0, rfl, hi1, hi2, rfl, rfl, rfl⟩ ?_ ?_)) ?_
      · simp [HasA, Tr.get_put]
      · rintro n L h1 ⟨i, rfl, hj1, hj2, hsc, rfl, rfl⟩
        simp only [mkA]
        have w3 : IntKind.i64.wrap ((i : Int) + 1) = ((i + 1 : Nat) : Int) := by rw [wrap_i64 (by omega) (by omega)]; omega
        have w4 : IntKind.i64.wrap ((i : Int) - 1) = ((i - 1 : Nat) : Int) := by rw [wrap_i64 (by omega) (by omega)]; omega
        by_cases hib : (i : Int) < (b : Int)
        · cases hl : lt dk[i]! dk[i - 1]!
          · refine W.seq <| W.seq <| W.regD tyOK mixed (by kernel_rfl) <| Sa rfl sm rfl <| Sa rfl sm rfl <| SqW.aopT rfl (zb (hv := bi_lss)) (fun _ => rfl) (by first | rfl | assumption | ((simp only [bl, sq]) <;> first | done | assumption | omega) | (simp; done) | (simp; omega)) <| SqW.aopT rfl sm (fun _ => rfl) rfl <| Sa ag sm rfl <| Sa ag sm rfl <| Sa ag sm rfl <| Sa ag (zi (hv := by simp (disch := first | omega | simp only [nx] <;> omega | fail) only [aIndexAddr, ty26, ty33, hpl, sq] <;> rfl)) rfl <| Sa ag (zl (hv := by simp (disch := first | omega | simp only [nx] <;> omega | fail) only [aLoad, ty33, rowOf, hpl, sq] <;> rfl)) rfl <| Sa ag sm rfl <| Sa ag sm rfl <| Sa ag (zb (hv := bi_w bi_sub (by first | (simp only [w3, w4] <;> rfl) | rfl))) rfl <| Sa ag (zi (hv := by simp (disch := first | omega | simp only [nx] <;> omega | fail) only [aIndexAddr, ty26, ty33, hpl, sq] <;> rfl)) rfl <| Sa ag (zl (hv := by simp (disch := first | omega | simp only [nx] <;> omega | fail) only [aLoad, ty33, rowOf, hpl, sq] <;> rfl)) rfl <| SqW.vcallD ag (by simp only [lk] <;> rfl) (by simp only [aopnds, lk] <;> rfl) (less_v _ _ _ _ hl) rfl <| SqW.aopF ag (zb (hv := bi_lss)) (fun _ => rfl) rfl <| SqW.aopT ag Zt (fun _ => rfl) rfl <| SqW.aopT rfl Zp (fun _ => rfl) rfl <| Sn ?_
            refine Wy <| CWp.skip <| SQ.normal ?_
            refine W.block <| W.reg <| Oa rfl sm rfl <| Oa rfl (zb (hv := bi_w bi_add (by first | (simp only [w3, w4] <;> rfl) | rfl))) rfl <| Oa rfl za rfl <| OSuf.nil <| BQ.normal <| ?_
            -- leaf: round
            refine LQ.normal (m := b - (i + 1)) (L := [(0, sl r N), (1, I64 a), (2, I64 b), (3, CF), (9, I64 (i + 1 : Nat)), (10, I64 j)]) (by omega) ?_ ⟨i + 1, rfl, by omega, by omega, ?_, rfl, rfl⟩
            · simp only [HasA, Tr.get_put, Nat.reduceEqDiff, reduceIte, and_self]
            · rw [← hsc]; exact (ss_eq (by omega) hl).symm
          · refine W.seq <| W.seq <| W.regD tyOK mixed (by kernel_rfl) <| Sa rfl sm rfl <| Sa rfl sm rfl <| SqW.aopT rfl (zb (hv := bi_lss)) (fun _ => rfl) (by first | rfl | assumption | ((simp only [bl, sq]) <;> first | done | assumption | omega) | (simp; done) | (simp; omega)) <| SqW.aopT rfl sm (fun _ => rfl) rfl <| Sa ag sm rfl <| Sa ag sm rfl <| Sa ag sm rfl <| Sa ag (zi (hv := by simp (disch := first | omega | simp only [nx] <;> omega | fail) only [aIndexAddr, ty26, ty33, hpl, sq] <;> rfl)) rfl <| Sa ag (zl (hv := by simp (disch := first | omega | simp only [nx] <;> omega | fail) only [aLoad, ty33, rowOf, hpl, sq] <;> rfl)) rfl <| Sa ag sm rfl <| Sa ag sm rfl <| Sa ag (zb (hv := bi_w bi_sub (by first | (simp only [w3, w4] <;> rfl) | rfl))) rfl <| Sa ag (zi (hv := by simp (disch := first | omega | simp only [nx] <;> omega | fail) only [aIndexAddr, ty26, ty33, hpl, sq] <;> rfl)) rfl <| Sa ag (zl (hv := by simp (disch := first | omega | simp only [nx] <;> omega | fail) only [aLoad, ty33, rowOf, hpl, sq] <;> rfl)) rfl <| SqW.vcallD ag (by simp only [lk] <;> rfl) (by simp only [aopnds, lk] <;> rfl) (less_v _ _ _ _ hl) rfl <| SqW.aopT ag (zb (hv := bi_lss)) (fun _ => rfl) rfl <| SqW.aopF ag Zt (fun _ => rfl) rfl <| SqW.aopF rfl Zp (fun _ => rfl) rfl <| Sn ?_
            refine Wn <| CWp.exit <| SQ.exit <| LQ.exit <| BQ.exit <| ?_
            -- leaf: cut
            refine NQ.normal (L := [(0, sl r N), (1, I64 a), (2, I64 b), (3, CF), (9, I64 i), (10, I64 j)]) ?_ ⟨rfl, ?_⟩
            · simp only [HasA, Tr.get_put, Nat.reduceEqDiff, reduceIte, and_self]
            · rw [← hsc, ss_stop (.inr hl)]
        · refine W.seq <| W.seq <| W.regD tyOK mixed (by kernel_rfl) <| Sa rfl sm rfl <| Sa rfl sm rfl <| SqW.aopF rfl (zb (hv := bi_lss)) (fun _ => rfl) (by first | rfl | assumption | ((simp only [bl]) <;> first | done | assumption | omega) | (simp; done) | (simp; omega)) <| SqW.aopF rfl sm (fun _ => rfl) rfl <| SqW.pass ag rfl <| SqW.pass ag rfl <| SqW.pass ag rfl <| SqW.pass ag rfl <| SqW.pass ag rfl <| SqW.pass ag rfl <| SqW.pass ag rfl <| SqW.pass ag rfl <| SqW.pass ag rfl <| SqW.pass ag rfl <| SqW.pass ag rfl <| SqW.pass ag rfl <| SqW.pass ag rfl <| SqW.aopF rfl Zp (fun _ => rfl) rfl <| Sn ?_
          refine Wn <| CWp.exit <| SQ.exit <| LQ.exit <| BQ.exit <| ?_
          -- leaf: cut
          refine NQ.normal (L := [(0, sl r N), (1, I64 a), (2, I64 b), (3, CF), (9, I64 i), (10, I64 j)]) ?_ ⟨rfl, ?_⟩
          · simp only [HasA, Tr.get_put, Nat.reduceEqDiff, reduceIte, and_self]
          · rw [← hsc, ss_stop (.inl (by omega))]
      rintro L a' h1 ha ⟨rfl, rfl⟩
      have hsp : i0 ≤ scanSorted lt dk b i0 ∧ scanSorted lt dk b i0 ≤ b := ss_range rfl hi2
      rw [partialIns_succ] at heq
      generalize scanSorted lt dk b i0 = i at *
      by_cases hib : (i : Int) = (b : Int)
      · rw [if_pos (by omega)] at heq
        refine SQ.normal <| CWp.known ha ?_
        simp only [mkA]
        refine W.seq <| Wr <| Oa rfl sm rfl <| Oa rfl sm rfl <| Ot rfl (zb (hv := bi_eql)) rfl (by first | rfl | assumption | ((simp only [bl, hib]) <;> first | done | assumption | omega) | (simp; done) | (simp; omega)) <| On ?_
        refine Wy <| Wr <| Ot rfl za rfl rfl <| On ?_
        refine CWp.ret <| SQ.ret <| BQ.ret <| SQ.ret <| LQ.ret <| BQ.ret <| NQ.ret <| SQ.ret <| FQ.ret (by simp only [aRet, Try.f84, aResults, aResult, lk, Nat.reduceEqDiff, reduceIte] <;> rfl) ?_
        -- leaf: end
        rw [← heq]
        exact ⟨rfl, rfl⟩
      rw [if_neg (by omega)] at heq
      by_cases h50 : ((b - a : Nat) : Int) < 50
      · rw [if_pos (by omega)] at heq
        refine SQ.normal <| CWp.known ha ?_
        simp only [mkA]
        refine W.seq <| Wr <| Oa rfl sm rfl <| Oa rfl sm rfl <| Ofb rfl (zb (hv := bi_eql)) rfl <| On ?_
        refine Wn <| CWp.skip <| SQ.normal ?_
        refine W.seq <| Wr <| Oa rfl sm rfl <| Oa rfl sm rfl <| Oa rfl (zb (hv := bi_w bi_sub (by first | (simp only [w2] <;> rfl) | rfl))) rfl <| Otb rfl (zb (hv := bi_lss)) rfl <| On ?_
        refine Wy <| Wr <| Of rfl za rfl rfl <| On ?_
        refine CWp.ret <| SQ.ret <| BQ.ret <| SQ.ret <| LQ.ret <| BQ.ret <| NQ.ret <| SQ.ret <| FQ.ret (by simp only [aRet, Try.f84, aResults, aResult, lk, Nat.reduceEqDiff, reduceIte] <;> rfl) ?_
        -- leaf: end
        rw [← heq]
        exact ⟨rfl, rfl⟩
      rw [if_neg (by omega)] at heq
      have w3 : IntKind.i64.wrap ((i : Int) + 1) = ((i + 1 : Nat) : Int) := by rw [wrap_i64 (by omega) (by omega)]; omega
      have w4 : IntKind.i64.wrap ((i : Int) - 1) = ((i - 1 : Nat) : Int) := by rw [wrap_i64 (by omega) (by omega)]; omega
      have w5 : IntKind.i64.wrap ((i : Int) - (a : Int)) = ((i - a : Nat) : Int) := by rw [wrap_i64 (by omega) (by omega)]; omega
      have w6 : IntKind.i64.wrap ((b : Int) - (i : Int)) = ((b - i : Nat) : Int) := by rw [wrap_i64 (by omega) (by omega)]; omega
      refine SQ.normal <| CWp.known ha ?_
      simp only [mkA]
      refine W.seq <| Wr <| Oa rfl sm rfl <| Oa rfl sm rfl <| Of rfl (zb (hv := bi_eql)) rfl (by first | rfl | assumption | ((simp only [bl, sq]) <;> first | done | assumption | omega) | (simp; done) | (simp; omega)) <| On ?_
      refine Wn <| CWp.skip <| SQ.normal ?_
      refine W.seq <| Wr <| Oa rfl sm rfl <| Oa rfl sm rfl <| Oa rfl (zb (hv := bi_w bi_sub (by first | (simp only [w2, w4] <;> rfl) | rfl))) rfl <| Of rfl (zb (hv := bi_lss)) rfl (by first | rfl | assumption | ((simp only [bl, sq]) <;> first | done | assumption | omega) | (simp; done) | (simp; omega)) <| On ?_
      refine Wn <| CWp.skip <| SQ.normal ?_
      refine W.seq <| W.regD tyOK mixed (by kernel_rfl) <| Sa rfl sm rfl <| Sa rfl sm rfl <| Sa rfl sm rfl <| Sa rfl sm rfl <| Sa rfl (zb (hv := bi_w bi_sub (by first | (simp only [w2, w4] <;> rfl) | rfl))) rfl <| Sa rfl sm rfl <| Sa rfl sm rfl <| Sa rfl (zb (hv := bi_w bi_sub (by first | (simp only [w2, w4] <;> rfl) | rfl))) rfl <| Sa rfl (zi (hv := by simp (disch := first | omega | simp only [nx] <;> omega | fail) only [aIndexAddr, ty26, ty33, hpl, sq] <;> rfl)) rfl <| Sa rfl (zl (hv := by simp (disch := first | omega | simp only [nx] <;> omega | fail) only [aLoad, ty33, rowOf, hpl, sq] <;> rfl)) rfl <| Sa rfl sm rfl <| Sa rfl sm rfl <| Sa rfl (zi (hv := by simp (disch := first | omega | simp only [nx] <;> omega | fail) only [aIndexAddr, ty26, ty33, hpl, sq] <;> rfl)) rfl <| Sa rfl (zl (hv := by simp (disch := first | omega | simp only [nx] <;> omega | fail) only [aLoad, ty33, rowOf, hpl, sq] <;> rfl)) rfl <| Sa rfl (zi (hv := by simp (disch := first | omega | simp only [nx] <;> omega | fail) only [aIndexAddr, ty26, ty33, hpl, sq] <;> rfl)) rfl <| Sa rfl (zs (hv := by simp (disch := first | omega | simp only [nx] <;> omega | fail) only [aStore, ty33, writeRow, hpl, sq] <;> rfl)) rfl <| Sa rfl (zi (hv := by simp (disch := first | omega | simp only [nx] <;> omega | fail) only [aIndexAddr, ty26, ty33, hpl, sq] <;> rfl)) rfl <| Sa rfl (zs (hv := by simp (disch := first | omega | simp only [nx] <;> omega | fail) only [aStore, ty33, writeRow, hpl, sq] <;> rfl)) rfl <| Sn ?_
      refine W.seq <| ?_
      -- leaf: upto
      obtain ⟨d1, hd1⟩ : ∃ d1, d1 = swp dk i (i - 1) := ⟨_, rfl⟩
      have hs1 : d1.size = N := by rw [hd1]; exact swp_sz hds
      rw [show (dk.setIfInBounds i dk[i - 1]!).setIfInBounds (i - 1) dk[i]! = d1 from hd1.symm]
      rw [← hd1] at heq
      try dsimp only at heq
      refine W.cut (fun L h' => ∃ d2 : Array El, d2.size = N ∧ d2 = fixDown lt a i d1 ∧ h' = h.set r (row d2) ∧ L = [(0, sl r N), (1, I64 a), (2, I64 b), (3, CF), (9, I64 i), (10, I64 j)]) ?_ ?_
      · by_cases h2 : ((i - a : Nat) : Int) ≥ 2
        · refine Wr <| Oa rfl sm rfl <| Oa rfl sm rfl <| Oa rfl (zb (hv := bi_w bi_sub (by first | (simp only [w4, w5] <;> rfl) | rfl))) rfl <| Otb rfl (zb (hv := bi_geq)) rfl <| On ?_
          refine Wy <| Wr <| Oa rfl sm rfl <| Oa rfl (zb (hv := bi_w bi_sub (by first | (simp only [w4, w5] <;> rfl) | rfl))) rfl <| Oa rfl za rfl <| On ?_
          -- leaf: loop
          refine W.block (W.loop (fun n L h' => ∃ (dj : Array El), n ≤ i - 1 ∧ dj.size = N ∧ shiftDown lt n dj = shiftDown lt (i - 1) d1 ∧ h' = h.set r (row dj) ∧ L = [(0, sl r N), (1, I64 a), (2, I64 b), (3, CF), (9, I64 i), (10, I64 j), (11, I64 n)]) (n := i - 1) ⟨d1, Nat.le_refl _, hs1, rfl, rfl, rfl⟩ ?_ ?_)
          · simp [HasA, Tr.get_put]
          · rintro n L h1 ⟨dj, hn, hdj, hsh, rfl, rfl⟩
            simp only [mkA]
            cases n with
            | zero =>
              refine W.seq <| Wr <| Oa rfl sm rfl <| Ofb rfl (zb (hv := bi_geq)) rfl <| On ?_
              refine Wn <| CWp.exit <| SQ.exit <| LQ.exit <| BQ.exit <| ?_
              -- leaf: cut
              refine NQ.normal (L := [(0, sl r N), (1, I64 a), (2, I64 b), (3, CF), (9, I64 i), (10, I64 j)]) ?_ ⟨dj, hdj, ?_, rfl, rfl⟩
              · simp only [HasA, Tr.get_put, Nat.reduceEqDiff, reduceIte, and_self]
              · rw [fixDown, if_pos (by omega), ← hsh]; rfl
            | succ m =>
              have w7 : IntKind.i64.wrap (((m + 1 : Nat) : Int) - 1) = (m : Int) := by rw [wrap_i64 (by omega) (by omega)]; omega
              rw [shiftDown] at hsh
              cases hl : lt dj[m + 1]! dj[m]!
              · rw [hl] at hsh
                refine W.seq <| Wr <| Oa rfl sm rfl <| Ot rfl (zb (hv := bi_geq)) rfl (by first | rfl | assumption | ((simp only [bl, sq]) <;> first | done | assumption | omega) | (simp; done) | (simp; omega)) <| On ?_
                refine Wy <| CWp.skip <| SQ.normal ?_
                refine W.seq <| W.block <| W.seq <| W.seq <| W.regD tyOK mixed (by kernel_rfl) <| Sa rfl sm rfl <| Sa rfl sm rfl <| Sa rfl sm rfl <| Sa rfl (zi (hv := by simp (disch := first | omega | simp only [nx] <;> omega | fail) only [aIndexAddr, ty26, ty33, hpl, sq] <;> rfl)) rfl <| Sa rfl (zl (hv := by simp (disch := first | omega | simp only [nx] <;> omega | fail) only [aLoad, ty33, rowOf, hpl, sq] <;> rfl)) rfl <| Sa rfl sm rfl <| Sa rfl sm rfl <| Sa rfl (zb (hv := bi_w bi_sub (by first | (simp only [w7] <;> rfl) | rfl))) rfl <| Sa rfl (zi (hv := by simp (disch := first | omega | simp only [nx] <;> omega | fail) only [aIndexAddr, ty26, ty33, hpl, sq] <;> rfl)) rfl <| Sa rfl (zl (hv := by simp (disch := first | omega | simp only [nx] <;> omega | fail) only [aLoad, ty33, rowOf, hpl, sq] <;> rfl)) rfl <| SqW.vcallD rfl (by simp only [lk] <;> rfl) (by simp only [aopnds, lk] <;> rfl) (less_v _ _ _ _ hl) rfl <| SqW.aopF rfl (zb (hv := bi_lss)) (fun _ => rfl) rfl <| SqW.aopT rfl Zt (fun _ => rfl) rfl <| Sn ?_
                refine Wy <| CWp.exit <| SQ.exit <| BQ.out rfl <| SQ.exit <| LQ.exit <| BQ.exit <| ?_
                -- leaf: cut
                refine NQ.normal (L := [(0, sl r N), (1, I64 a), (2, I64 b), (3, CF), (9, I64 i), (10, I64 j)]) ?_ ⟨dj, hdj, ?_, rfl, rfl⟩
                · simp only [HasA, Tr.get_put, Nat.reduceEqDiff, reduceIte, and_self]
                · rw [fixDown, if_pos (by omega), ← hsh]; rfl
              · rw [hl] at hsh
                refine W.seq <| Wr <| Oa rfl sm rfl <| Ot rfl (zb (hv := bi_geq)) rfl (by first | rfl | assumption | ((simp only [bl, sq]) <;> first | done | assumption | omega) | (simp; done) | (simp; omega)) <| On ?_
                refine Wy <| CWp.skip <| SQ.normal ?_
                refine W.seq <| W.block <| W.seq <| W.seq <| W.regD tyOK mixed (by kernel_rfl) <| Sa rfl sm rfl <| Sa rfl sm rfl <| Sa rfl sm rfl <| Sa rfl (zi (hv := by simp (disch := first | omega | simp only [nx] <;> omega | fail) only [aIndexAddr, ty26, ty33, hpl, sq] <;> rfl)) rfl <| Sa rfl (zl (hv := by simp (disch := first | omega | simp only [nx] <;> omega | fail) only [aLoad, ty33, rowOf, hpl, sq] <;> rfl)) rfl <| Sa rfl sm rfl <| Sa rfl sm rfl <| Sa rfl (zb (hv := bi_w bi_sub (by first | (simp only [w7] <;> rfl) | rfl))) rfl <| Sa rfl (zi (hv := by simp (disch := first | omega | simp only [nx] <;> omega | fail) only [aIndexAddr, ty26, ty33, hpl, sq] <;> rfl)) rfl <| Sa rfl (zl (hv := by simp (disch := first | omega | simp only [nx] <;> omega | fail) only [aLoad, ty33, rowOf, hpl, sq] <;> rfl)) rfl <| SqW.vcallD rfl (by simp only [lk] <;> rfl) (by simp only [aopnds, lk] <;> rfl) (less_v _ _ _ _ hl) rfl <| SqW.aopT rfl (zb (hv := bi_lss)) (fun _ => rfl) rfl <| SqW.aopF rfl Zt (fun _ => rfl) rfl <| Sn ?_
                refine Wn <| CWp.skip <| SQ.normal ?_
                refine W.regD tyOK mixed (by kernel_rfl) <| Sa rfl sm rfl <| Sa rfl sm rfl <| Sa rfl sm rfl <| Sa rfl sm rfl <| Sa rfl (zb (hv := bi_w bi_sub (by first | (simp only [w7] <;> rfl) | rfl))) rfl <| Sa rfl sm rfl <| Sa rfl sm rfl <| Sa rfl (zb (hv := bi_w bi_sub (by first | (simp only [w7] <;> rfl) | rfl))) rfl <| Sa rfl (zi (hv := by simp (disch := first | omega | simp only [nx] <;> omega | fail) only [aIndexAddr, ty26, ty33, hpl, sq] <;> rfl)) rfl <| Sa rfl (zl (hv := by simp (disch := first | omega | simp only [nx] <;> omega | fail) only [aLoad, ty33, rowOf, hpl, sq] <;> rfl)) rfl <| Sa rfl sm rfl <| Sa rfl sm rfl <| Sa rfl (zi (hv := by simp (disch := first | omega | simp only [nx] <;> omega | fail) only [aIndexAddr, ty26, ty33, hpl, sq] <;> rfl)) rfl <| Sa rfl (zl (hv := by simp (disch := first | omega | simp only [nx] <;> omega | fail) only [aLoad, ty33, rowOf, hpl, sq] <;> rfl)) rfl <| Sa rfl (zi (hv := by simp (disch := first | omega | simp only [nx] <;> omega | fail) only [aIndexAddr, ty26, ty33, hpl, sq] <;> rfl)) rfl <| Sa rfl (zs (hv := by simp (disch := first | omega | simp only [nx] <;> omega | fail) only [aStore, ty33, writeRow, hpl, sq] <;> rfl)) rfl <| Sa rfl (zi (hv := by simp (disch := first | omega | simp only [nx] <;> omega | fail) only [aIndexAddr, ty26, ty33, hpl, sq] <;> rfl)) rfl <| Sa rfl (zs (hv := by simp (disch := first | omega | simp only [nx] <;> omega | fail) only [aStore, ty33, writeRow, hpl, sq] <;> rfl)) rfl <| SqW.nil <| BQ.normal <| SQ.normal ?_
                refine W.reg <| Oa rfl sm rfl <| Oa rfl (zb (hv := bi_w bi_sub (by first | (simp only [w7] <;> rfl) | rfl))) rfl <| Oa rfl za rfl <| OSuf.nil <| ?_
                -- leaf: round
                refine LQ.normal (m := m) (L := [(0, sl r N), (1, I64 a), (2, I64 b), (3, CF), (9, I64 i), (10, I64 j), (11, I64 m)]) (by omega) ?_ ⟨swp dj (m + 1) m, by omega, swp_sz hdj, hsh, rfl, rfl⟩
                simp only [HasA, Tr.get_put, Nat.reduceEqDiff, reduceIte, and_self]
        · refine Wr <| Oa rfl sm rfl <| Oa rfl sm rfl <| Oa rfl (zb (hv := bi_w bi_sub (by first | (simp only [w5] <;> rfl) | rfl))) rfl <| Ofb rfl (zb (hv := bi_geq)) rfl <| On ?_
          refine Wn <| CWp.skip <| ?_
          -- leaf: cut
          refine NQ.normal (L := [(0, sl r N), (1, I64 a), (2, I64 b), (3, CF), (9, I64 i), (10, I64 j)]) ?_ ⟨d1, hs1, by rw [fixDown, if_neg (by omega)], rfl, rfl⟩
          simp only [HasA, Tr.get_put, Nat.reduceEqDiff, reduceIte, and_self]
      rintro L a' h1 ha ⟨d2, hs2, hd2, rfl, rfl⟩
      rw [← hd2] at heq
      refine SQ.normal <| CWp.known ha ?_
      simp only [mkA]
      -- leaf: upto
      refine W.cut (fun L h' => ∃ d3 : Array El, d3.size = N ∧ d3 = fixUp lt b i d2 ∧ h' = h.set r (row d3) ∧ L = [(0, sl r N), (1, I64 a), (2, I64 b), (3, CF), (9, I64 i), (10, I64 j)]) ?_ ?_
      · by_cases h2 : ((b - i : Nat) : Int) ≥ 2
        · refine Wr <| Oa rfl sm rfl <| Oa rfl sm rfl <| Oa rfl (zb (hv := bi_w bi_sub (by first | (simp only [w3, w6] <;> rfl) | rfl))) rfl <| Otb rfl (zb (hv := bi_geq)) rfl <| On ?_
          refine Wy <| Wr <| Oa rfl sm rfl <| Oa rfl (zb (hv := bi_w bi_add (by first | (simp only [w3, w6] <;> rfl) | rfl))) rfl <| Oa rfl za rfl <| On ?_
          -- leaf: loop
          refine W.block (W.loop (fun n L h' => ∃ (k : Nat) (dj : Array El), n = b - k ∧ i + 1 ≤ k ∧ k ≤ b ∧ dj.size = N ∧ shiftUp lt b k dj = shiftUp lt b (i + 1) d2 ∧ h' = h.set r (row dj) ∧ L = [(0, sl r N), (1, I64 a), (2, I64 b), (3, CF), (9, I64 i), (10, I64 j), (12, I64 k)]) (n := b - (i + 1)) ⟨i + 1, d2, rfl, by omega, by omega, hs2, rfl, rfl, rfl⟩ ?_ ?_)
          · simp [HasA, Tr.get_put]
          · rintro n L h1 ⟨k, dj, rfl, hk1, hk2, hdj, hsh, rfl, rfl⟩
            simp only [mkA]
            rw [shiftUp] at hsh
            by_cases hkb : (k : Int) < (b : Int)
            · rw [if_pos (by omega)] at hsh
              have w7 : IntKind.i64.wrap ((k : Int) - 1) = ((k - 1 : Nat) : Int) := by rw [wrap_i64 (by omega) (by omega)]; omega
              have w8 : IntKind.i64.wrap ((k : Int) + 1) = ((k + 1 : Nat) : Int) := by rw [wrap_i64 (by omega) (by omega)]; omega
              cases hl : lt dj[k]! dj[k - 1]!
              · rw [hl] at hsh
                refine W.seq <| Wr <| Oa rfl sm rfl <| Oa rfl sm rfl <| Ot rfl (zb (hv := bi_lss)) rfl (by first | rfl | assumption | ((simp only [bl, sq]) <;> first | done | assumption | omega) | (simp; done) | (simp; omega)) <| On ?_
                refine Wy <| CWp.skip <| SQ.normal ?_
                refine W.seq <| W.block <| W.seq <| W.seq <| W.regD tyOK mixed (by kernel_rfl) <| Sa rfl sm rfl <| Sa rfl sm rfl <| Sa rfl sm rfl <| Sa rfl (zi (hv := by simp (disch := first | omega | simp only [nx] <;> omega | fail) only [aIndexAddr, ty26, ty33, hpl, sq] <;> rfl)) rfl <| Sa rfl (zl (hv := by simp (disch := first | omega | simp only [nx] <;> omega | fail) only [aLoad, ty33, rowOf, hpl, sq] <;> rfl)) rfl <| Sa rfl sm rfl <| Sa rfl sm rfl <| Sa rfl (zb (hv := bi_w bi_sub (by first | (simp only [w7, w8] <;> rfl) | rfl))) rfl <| Sa rfl (zi (hv := by simp (disch := first | omega | simp only [nx] <;> omega | fail) only [aIndexAddr, ty26, ty33, hpl, sq] <;> rfl)) rfl <| Sa rfl (zl (hv := by simp (disch := first | omega | simp only [nx] <;> omega | fail) only [aLoad, ty33, rowOf, hpl, sq] <;> rfl)) rfl <| SqW.vcallD rfl (by simp only [lk] <;> rfl) (by simp only [aopnds, lk] <;> rfl) (less_v _ _ _ _ hl) rfl <| SqW.aopF rfl (zb (hv := bi_lss)) (fun _ => rfl) rfl <| SqW.aopT rfl Zt (fun _ => rfl) rfl <| Sn ?_
                refine Wy <| CWp.exit <| SQ.exit <| BQ.out rfl <| SQ.exit <| LQ.exit <| BQ.exit <| ?_
                -- leaf: cut
                refine NQ.normal (L := [(0, sl r N), (1, I64 a), (2, I64 b), (3, CF), (9, I64 i), (10, I64 j)]) ?_ ⟨dj, hdj, ?_, rfl, rfl⟩
                · simp only [HasA, Tr.get_put, Nat.reduceEqDiff, reduceIte, and_self]
                · rw [fixUp, if_pos (by omega), ← hsh]; rfl
              · rw [hl] at hsh
                refine W.seq <| Wr <| Oa rfl sm rfl <| Oa rfl sm rfl <| Ot rfl (zb (hv := bi_lss)) rfl (by first | rfl | assumption | ((simp only [bl, sq]) <;> first | done | assumption | omega) | (simp; done) | (simp; omega)) <| On ?_
                refine Wy <| CWp.skip <| SQ.normal ?_
                refine W.seq <| W.block <| W.seq <| W.seq <| W.regD tyOK mixed (by kernel_rfl) <| Sa rfl sm rfl <| Sa rfl sm rfl <| Sa rfl sm rfl <| Sa rfl (zi (hv := by simp (disch := first | omega | simp only [nx] <;> omega | fail) only [aIndexAddr, ty26, ty33, hpl, sq] <;> rfl)) rfl <| Sa rfl (zl (hv := by simp (disch := first | omega | simp only [nx] <;> omega | fail) only [aLoad, ty33, rowOf, hpl, sq] <;> rfl)) rfl <| Sa rfl sm rfl <| Sa rfl sm rfl <| Sa rfl (zb (hv := bi_w bi_sub (by first | (simp only [w7, w8] <;> rfl) | rfl))) rfl <| Sa rfl (zi (hv := by simp (disch := first | omega | simp only [nx] <;> omega | fail) only [aIndexAddr, ty26, ty33, hpl, sq] <;> rfl)) rfl <| Sa rfl (zl (hv := by simp (disch := first | omega | simp only [nx] <;> omega | fail) only [aLoad, ty33, rowOf, hpl, sq] <;> rfl)) rfl <| SqW.vcallD rfl (by simp only [lk] <;> rfl) (by simp only [aopnds, lk] <;> rfl) (less_v _ _ _ _ hl) rfl <| SqW.aopT rfl (zb (hv := bi_lss)) (fun _ => rfl) rfl <| SqW.aopF rfl Zt (fun _ => rfl) rfl <| Sn ?_
                refine Wn <| CWp.skip <| SQ.normal ?_
                refine W.regD tyOK mixed (by kernel_rfl) <| Sa rfl sm rfl <| Sa rfl sm rfl <| Sa rfl sm rfl <| Sa rfl sm rfl <| Sa rfl (zb (hv := bi_w bi_sub (by first | (simp only [w7, w8] <;> rfl) | rfl))) rfl <| Sa rfl sm rfl <| Sa rfl sm rfl <| Sa rfl (zb (hv := bi_w bi_sub (by first | (simp only [w7, w8] <;> rfl) | rfl))) rfl <| Sa rfl (zi (hv := by simp (disch := first | omega | simp only [nx] <;> omega | fail) only [aIndexAddr, ty26, ty33, hpl, sq] <;> rfl)) rfl <| Sa rfl (zl (hv := by simp (disch := first | omega | simp only [nx] <;> omega | fail) only [aLoad, ty33, rowOf, hpl, sq] <;> rfl)) rfl <| Sa rfl sm rfl <| Sa rfl sm rfl <| Sa rfl (zi (hv := by simp (disch := first | omega | simp only [nx] <;> omega | fail) only [aIndexAddr, ty26, ty33, hpl, sq] <;> rfl)) rfl <| Sa rfl (zl (hv := by simp (disch := first | omega | simp only [nx] <;> omega | fail) only [aLoad, ty33, rowOf, hpl, sq] <;> rfl)) rfl <| Sa rfl (zi (hv := by simp (disch := first | omega | simp only [nx] <;> omega | fail) only [aIndexAddr, ty26, ty33, hpl, sq] <;> rfl)) rfl <| Sa rfl (zs (hv := by simp (disch := first | omega | simp only [nx] <;> omega | fail) only [aStore, ty33, writeRow, hpl, sq] <;> rfl)) rfl <| Sa rfl (zi (hv := by simp (disch := first | omega | simp only [nx] <;> omega | fail) only [aIndexAddr, ty26, ty33, hpl, sq] <;> rfl)) rfl <| Sa rfl (zs (hv := by simp (disch := first | omega | simp only [nx] <;> omega | fail) only [aStore, ty33, writeRow, hpl, sq] <;> rfl)) rfl <| SqW.nil <| BQ.normal <| SQ.normal ?_
                refine W.reg <| Oa rfl sm rfl <| Oa rfl (zb (hv := bi_w bi_add (by first | (simp only [w7, w8] <;> rfl) | rfl))) rfl <| Oa rfl za rfl <| OSuf.nil <| ?_
                -- leaf: round
                refine LQ.normal (m := b - (k + 1)) (L := [(0, sl r N), (1, I64 a), (2, I64 b), (3, CF), (9, I64 i), (10, I64 j), (12, I64 (k + 1 : Nat))]) (by omega) ?_ ⟨k + 1, swp dj k (k - 1), rfl, by omega, by omega, swp_sz hdj, hsh, rfl, rfl⟩
                simp only [HasA, Tr.get_put, Nat.reduceEqDiff, reduceIte, and_self]
            · rw [if_neg (by omega)] at hsh
              refine W.seq <| Wr <| Oa rfl sm rfl <| Oa rfl sm rfl <| Ofb rfl (zb (hv := bi_lss)) rfl <| On ?_
              refine Wn <| CWp.exit <| SQ.exit <| LQ.exit <| BQ.exit <| ?_
              -- leaf: cut
              refine NQ.normal (L := [(0, sl r N), (1, I64 a), (2, I64 b), (3, CF), (9, I64 i), (10, I64 j)]) ?_ ⟨dj, hdj, ?_, rfl, rfl⟩
              · simp only [HasA, Tr.get_put, Nat.reduceEqDiff, reduceIte, and_self]
              · rw [fixUp, if_pos (by omega), ← hsh]
        · refine Wr <| Oa rfl sm rfl <| Oa rfl sm rfl <| Oa rfl (zb (hv := bi_w bi_sub (by first | (simp only [w6] <;> rfl) | rfl))) rfl <| Ofb rfl (zb (hv := bi_geq)) rfl <| On ?_
          refine Wn <| CWp.skip <| ?_
          -- leaf: cut
          refine NQ.normal (L := [(0, sl r N), (1, I64 a), (2, I64 b), (3, CF), (9, I64 i), (10, I64 j)]) ?_ ⟨d2, hs2, by rw [fixUp, if_neg (by omega)], rfl, rfl⟩
          simp only [HasA, Tr.get_put, Nat.reduceEqDiff, reduceIte, and_self]
      rintro L a' h1 ha ⟨d3, hs3, hd3, rfl, rfl⟩
      rw [← hd3] at heq
      have w9 : IntKind.i64.wrap ((j : Int) + 1) = ((j + 1 : Nat) : Int) := by rw [wrap_i64 (by omega) (by omega)]; omega
      refine BQ.normal <| SQ.normal <| CWp.known ha ?_
      simp only [mkA]
      refine W.reg <| Oa rfl sm rfl <| Oa rfl (zb (hv := bi_w bi_add (by first | (simp only [w9] <;> rfl) | rfl))) rfl <| Oa rfl za rfl <| OSuf.nil <| ?_
      -- leaf: round
      refine LQ.normal (m := s) (L := [(0, sl r N), (1, I64 a), (2, I64 b), (3, CF), (9, I64 i), (10, I64 (j + 1 : Nat))]) (by omega) ?_ ⟨j + 1, i, d3, by omega, by omega, by omega, hs3, heq, rfl, rfl⟩
      simp only [HasA, Tr.get_put, Nat.reduceEqDiff, reduceIte, and_self]
  rintro L a' h1 ha ⟨hf, rfl, rfl⟩
  refine SQ.normal <| CWp.known ha ?_
  simp only [mkA]
  refine Wr <| Of rfl za rfl rfl <| On ?_
  refine CWp.ret <| FQ.ret (by simp only [aRet, Try.f84, aResults, aResult, lk, Nat.reduceEqDiff, reduceIte] <;> rfl) ?_
  -- leaf: end
  exact ⟨by rw [hf], rfl⟩
end Go.Proofs.Ytebheelmgcggmaa.SortR
namespace Go.Proofs.Ytebheelmgcggmaa.SortR
open Go.Ab Go.Sort
theorem swo : SWO lt := ⟨fun x => by simp [ltL], fun x y z h1 h2 => by simp only [lt, ltL, decide_eq_true_eq] at *; omega, fun x y z h1 h2 => by simp only [lt, ltL, decide_eq_false_iff_not] at *; omega⟩
theorem pdq_c (h : AHeap) (r N : Nat) (hrn : r < h.next) (hsz : N < 1000000000) : ∀ (n a b lim : Nat) (d : Array El), b - a ≤ n → d.size = N → a ≤ b → b ≤ N → lim ≤ 100 → Below lt a b d →
    FWp Try.prog 61 [sl r N, I64 a, I64 b, I64 lim, CF] (h.set r (row d)) fun u h' => u = .tuple #[] ∧ ∃ d' : Array El, h' = h.set r (row d') ∧ PermIn a b d d' ∧ SortedIn lt a b d' := by
  intro n
  induction n using Nat.strongRecOn with
  | _ n ih =>
  intro a b lim d hn hN hab hb hlim hB
  refine W.enter tyOK Try.func61 rfl rfl ?_
  simp only [entry]
  refine Wr <| Ot rfl za rfl rfl <| On ?_
  refine Wr <| Ot rfl za rfl rfl <| On ?_
  -- leaf: loop
  refine W.block (W.loop (fun n1 L h' => ∃ (a1 b1 lim1 : Nat) (wb wp : Bool) (dk : Array El), n1 = b1 - a1 ∧ a ≤ a1 ∧ a1 ≤ b1 ∧ b1 ≤ b ∧ lim1 ≤ 100 ∧ dk.size = N ∧ Below lt a1 b1 dk ∧ (∀ R, PermIn a1 b1 dk R → SortedIn lt a1 b1 R → PermIn a b d R ∧ SortedIn lt a b R) ∧ h' = h.set r (row dk) ∧
      L = [(0, sl r N), (1, I64 a1), (2, I64 b1), (3, I64 lim1), (4, CF), (10, .bool wb), (11, .bool wp)]) (n := b - a) ⟨a, b, lim, true, true, d, rfl, Nat.le_refl _, hab, Nat.le_refl _, hlim, hN, hB, fun R h1 h2 => ⟨h1, h2⟩, rfl, rfl⟩ ?_ ?_)
  · simp [HasA, Tr.get_put]
  rintro n1 L h1 ⟨a1, b1, lim1, wb, wp, dk, rfl, ha1, hab1, hbb1, hl1, hds, hB1, hcont, rfl, rfl⟩
  simp only [mkA]
  have w1 : IntKind.i64.wrap ((b1 : Int) - (a1 : Int)) = ((b1 - a1 : Nat) : Int) := by rw [wrap_i64 (by omega) (by omega)]; omega
  by_cases h12 : ((b1 - a1 : Nat) : Int) ≤ 12
  · refine W.block <| Wr <| Oa rfl sm rfl <| Oa rfl sm rfl <| Oa rfl (zb (hv := bi_w bi_sub (by first | (simp only [w1] <;> rfl) | rfl))) rfl <| Oa rfl za rfl <| On ?_
    refine W.seq <| Wr <| Oa rfl sm rfl <| Otb rfl (zb (hv := bi_leq)) rfl <| On ?_
    refine Wy <| Wr <| Oa rfl sm rfl <| Oa rfl sm rfl <| Oa rfl sm rfl <| Oa rfl sm rfl <| OSuf.callD rfl (by simp only [aopnds, lk] <;> rfl) en79 (insertion_c h r N dk hds a1 b1 hab1 (by omega) hsz) rfl <| On ?_
    refine CWp.ret <| SQ.ret <| BQ.ret <| LQ.ret <| BQ.ret <| FQ.ret (by simp only [aRet, Try.f61, aResults, aResult, lk, Nat.reduceEqDiff, reduceIte] <;> rfl) ?_
    -- leaf: end
    obtain ⟨p1, p2⟩ := insertionSort_holds swo dk a1 b1 hab1 (by omega)
    exact ⟨rfl, _, rfl, hcont _ p1 p2⟩
  by_cases hl0 : (lim1 : Int) = 0
  · refine W.block <| Wr <| Oa rfl sm rfl <| Oa rfl sm rfl <| Oa rfl (zb (hv := bi_w bi_sub (by first | (simp only [w1] <;> rfl) | rfl))) rfl <| Oa rfl za rfl <| On ?_
    refine W.seq <| Wr <| Oa rfl sm rfl <| Of rfl (zb (hv := bi_leq)) rfl (by first | rfl | assumption | ((simp only [bl, hl0]) <;> first | done | assumption | omega) | (simp; done) | (simp; omega)) <| On ?_
    refine Wn <| CWp.skip <| SQ.normal ?_
    refine W.seq <| Wr <| Oa rfl sm rfl <| Ot rfl (zb (hv := bi_eql)) rfl (by first | rfl | assumption | ((simp only [bl, hl0]) <;> first | done | assumption | omega) | (simp; done) | (simp; omega)) <| On ?_
    refine Wy <| Wr <| Oa rfl sm rfl <| Oa rfl sm rfl <| Oa rfl sm rfl <| Oa rfl sm rfl <| OSuf.callD rfl (by simp only [aopnds, lk] <;> rfl) en80 (heap_c h r N dk hds a1 b1 hab1 (by omega) hsz) rfl <| On ?_
    refine CWp.ret <| SQ.ret <| BQ.ret <| LQ.ret <| BQ.ret <| FQ.ret (by simp only [aRet, Try.f61, aResults, aResult, lk, Nat.reduceEqDiff, reduceIte] <;> rfl) ?_
    -- leaf: end
    obtain ⟨p1, p2⟩ := heapSort_holds swo dk a1 b1 hab1 (by omega)
    exact ⟨rfl, _, rfl, hcont _ p1 p2⟩
  refine W.block <| Wr <| Oa rfl sm rfl <| Oa rfl sm rfl <| Oa rfl (zb (hv := bi_w bi_sub (by first | (simp only [w1] <;> rfl) | rfl))) rfl <| Oa rfl za rfl <| On ?_
  refine W.seq <| Wr <| Oa rfl sm rfl <| Ofb rfl (zb (hv := bi_leq)) rfl <| On ?_
  refine Wn <| CWp.skip <| SQ.normal ?_
  refine W.seq <| Wr <| Oa rfl sm rfl <| Ofb rfl (zb (hv := bi_eql)) rfl <| On ?_
  refine Wn <| CWp.skip <| SQ.normal ?_
  refine W.seq <| ?_
  -- leaf: upto
  have hlt1 : a1 + 12 < b1 := by omega
  refine W.cut (fun L h' => ∃ (d1 : Array El) (lim2 : Nat), lim2 ≤ 100 ∧ PermIn a1 b1 dk d1 ∧ h' = h.set r (row d1) ∧ L = [(0, sl r N), (1, I64 a1), (2, I64 b1), (3, I64 lim2), (4, CF), (10, .bool wb), (11, .bool wp), (12, I64 (b1 - a1 : Nat))]) ?_ ?_
  · have w2 : IntKind.i64.wrap ((lim1 : Int) - 1) = ((lim1 - 1 : Nat) : Int) := by rw [wrap_i64 (by omega) (by omega)]; omega
    cases wb
    · refine Wr <| Ofb rfl sm rfl <| Ot rfl Zt rfl rfl <| On ?_
      refine Wy <| Wr <| Oa rfl sm rfl <| Oa rfl sm rfl <| Oa rfl sm rfl <| Oa rfl sm rfl <| OSuf.call rfl (by simp only [aopnds, lk] <;> rfl) en81 (break_c h r N hrn dk hds a1 b1 hlt1 (by omega) hsz) ?_
      rintro _ _ ⟨rfl, d1, hp, rfl⟩
      refine ⟨_, rfl, ?_⟩
      refine On ?_
      refine W.reg <| Oa rfl sm rfl <| Oa rfl (zb (hv := bi_w bi_sub (by first | (simp only [w2] <;> rfl) | rfl))) rfl <| Oa rfl za rfl <| OSuf.nil <| ?_
      -- leaf: cut
      refine NQ.normal (L := [(0, sl r N), (1, I64 a1), (2, I64 b1), (3, I64 (lim1 - 1 : Nat)), (4, CF), (10, .bool false), (11, .bool wp), (12, I64 (b1 - a1 : Nat))]) ?_ ⟨d1, lim1 - 1, by omega, hp, rfl, rfl⟩
      simp only [HasA, Tr.get_put, Nat.reduceEqDiff, reduceIte, and_self]
    · refine Wr <| Otb rfl sm rfl <| Of rfl Zt rfl rfl <| On ?_
      refine Wn <| CWp.skip <| ?_
      -- leaf: cut
      refine NQ.normal (L := [(0, sl r N), (1, I64 a1), (2, I64 b1), (3, I64 lim1), (4, CF), (10, .bool true), (11, .bool wp), (12, I64 (b1 - a1 : Nat))]) ?_ ⟨dk, lim1, hl1, permIn_refl _ _ _, rfl, rfl⟩
      simp only [HasA, Tr.get_put, Nat.reduceEqDiff, reduceIte, and_self]
  rintro L a' h1 ha ⟨d1, lim2, hl2, hp1, rfl, rfl⟩
  have hs1 : d1.size = N := hp1.1.trans hds
  refine SQ.normal <| CWp.known ha ?_
  simp only [mkA]
  refine Wr <| Oa rfl sm rfl <| Oa rfl sm rfl <| Oa rfl sm rfl <| Oa rfl sm rfl <| OSuf.call rfl (by simp only [aopnds, lk] <;> rfl) en82 (pivot_c h r N hrn d1 hs1 a1 b1 hlt1 (by omega) hsz) ?_
  rintro _ _ ⟨⟨pv, hint, rfl, hpv1, hpv2⟩, rfl⟩
  refine ⟨_, rfl, ?_⟩
  refine Oa rfl sm rfl <| Oa rfl (ze (hv := by simp (disch := first | omega | simp only [nx] <;> omega | fail) only [aExtract, hpl] <;> rfl)) rfl <| Oa rfl (ze (hv := by simp (disch := first | omega | simp only [nx] <;> omega | fail) only [aExtract, hpl] <;> rfl)) rfl <| Oa rfl za rfl <| Oa rfl za rfl <| On ?_
  refine W.seq <| ?_
  -- leaf: upto
  refine W.cut (fun L h' => ∃ (d2 : Array El) (pv2 : Nat) (hint2 : Int), a1 ≤ pv2 ∧ pv2 < b1 ∧ PermIn a1 b1 dk d2 ∧ h' = h.set r (row d2) ∧ L = [(0, sl r N), (1, I64 a1), (2, I64 b1), (3, I64 lim2), (4, CF), (10, .bool wb), (11, .bool wp), (12, I64 (b1 - a1 : Nat)), (13, I64 pv2), (14, I64 hint2)]) ?_ ?_
  · by_cases hh : hint = 2
    · have w2 : IntKind.i64.wrap ((b1 : Int) - 1) = ((b1 - 1 : Nat) : Int) := by rw [wrap_i64 (by omega) (by omega)]; omega
      have w3 : IntKind.i64.wrap ((pv : Int) - (a1 : Int)) = ((pv - a1 : Nat) : Int) := by rw [wrap_i64 (by omega) (by omega)]; omega
      have w4 : IntKind.i64.wrap (((b1 - 1 : Nat) : Int) - ((pv - a1 : Nat) : Int)) = ((b1 - 1 - (pv - a1) : Nat) : Int) := by rw [wrap_i64 (by omega) (by omega)]; omega
      refine Wr <| Oa rfl sm rfl <| Ot rfl (zb (hv := bi_eql)) rfl (by first | rfl | assumption | ((simp only [bl, hh]) <;> first | done | assumption | omega) | (simp; done) | (simp; omega)) <| On ?_
      refine Wy <| Wr <| Oa rfl sm rfl <| Oa rfl sm rfl <| Oa rfl sm rfl <| Oa rfl sm rfl <| OSuf.callD rfl (by simp only [aopnds, lk] <;> rfl) en83 (reverse_c h r N d1 hs1 a1 b1 (by omega) (by omega) hsz) rfl <| On ?_
      refine Wr <| Oa rfl sm rfl <| Oa rfl (zb (hv := bi_w bi_sub (by first | (simp only [w2, w3, w4] <;> rfl) | rfl))) rfl <| Oa rfl sm rfl <| Oa rfl sm rfl <| Oa rfl (zb (hv := bi_w bi_sub (by first | (simp only [w2, w3, w4] <;> rfl) | rfl))) rfl <| Oa rfl (zb (hv := bi_w bi_sub (by first | (simp only [w2, w3, w4] <;> rfl) | rfl))) rfl <| Oa rfl za rfl <| On ?_
      refine W.reg <| Oa rfl za rfl <| OSuf.nil <| ?_
      -- leaf: cut
      refine NQ.normal (L := [(0, sl r N), (1, I64 a1), (2, I64 b1), (3, I64 lim2), (4, CF), (10, .bool wb), (11, .bool wp), (12, I64 (b1 - a1 : Nat)), (13, I64 (b1 - 1 - (pv - a1) : Nat)), (14, I64 1)]) ?_ ⟨_, b1 - 1 - (pv - a1), 1, by omega, by omega, permIn_trans _ _ _ _ _ hp1 (reverseRange_holds d1 a1 b1 (by omega) (by omega)), rfl, rfl⟩
      simp only [HasA, Tr.get_put, Nat.reduceEqDiff, reduceIte, and_self]
    · refine Wr <| Oa rfl sm rfl <| Of rfl (zb (hv := bi_eql)) rfl (by first | rfl | assumption | ((simp only [bl, hh]) <;> first | done | assumption | omega) | (simp; done) | (simp; omega)) <| On ?_
      refine Wn <| CWp.skip <| ?_
      -- leaf: cut
      refine NQ.normal (L := [(0, sl r N), (1, I64 a1), (2, I64 b1), (3, I64 lim2), (4, CF), (10, .bool wb), (11, .bool wp), (12, I64 (b1 - a1 : Nat)), (13, I64 pv), (14, I64 hint)]) ?_ ⟨d1, pv, hint, hpv1, hpv2, hp1, rfl, rfl⟩
      simp only [HasA, Tr.get_put, Nat.reduceEqDiff, reduceIte, and_self]
  clear hp1 hs1 ha
  clear hpv1 hpv2
  rintro L a' h1 ha ⟨d2, pv2, hint2, hq1, hq2, hp2, rfl, rfl⟩
  have hs2 : d2.size = N := hp2.1.trans hds
  refine SQ.normal <| CWp.known ha ?_
  simp only [mkA]
  refine W.seq <| ?_
  -- leaf: upto
  refine W.cut (fun L h' => ∃ (d3 : Array El), PermIn a1 b1 dk d3 ∧ h' = h.set r (row d3) ∧ L = [(0, sl r N), (1, I64 a1), (2, I64 b1), (3, I64 lim2), (4, CF), (10, .bool wb), (11, .bool wp), (12, I64 (b1 - a1 : Nat)), (13, I64 pv2)]) ?_ ?_
  · have skip : ∀ a, HasA a [(0, sl r N), (1, I64 a1), (2, I64 b1), (3, I64 lim2), (4, CF), (10, .bool wb), (11, .bool wp), (12, I64 (b1 - a1 : Nat)), (13, I64 pv2)] → ∀ Q, NQ (fun L h' => ∃ (d3 : Array El), PermIn a1 b1 dk d3 ∧ h' = h.set r (row d3) ∧ L = [(0, sl r N), (1, I64 a1), (2, I64 b1), (3, I64 lim2), (4, CF), (10, .bool wb), (11, .bool wp), (12, I64 (b1 - a1 : Nat)), (13, I64 pv2)]) Q .normal a (h.set r (row d2)) :=
      fun a hA Q => NQ.normal hA ⟨d2, hp2, rfl, rfl⟩
    cases wb
    · refine Wr <| Ofb rfl sm rfl <| Of rfl sm rfl rfl <| OSuf.pass ag rfl <| Of rfl Zp rfl rfl <| Of rfl sm rfl rfl <| OSuf.pass ag rfl <| OSuf.pass ag rfl <| Of rfl Zp rfl rfl <| On ?_
      refine Wn <| CWp.skip <| ?_
      -- leaf: cut
      exact skip _ (by simp only [HasA, Tr.get_put, Nat.reduceEqDiff, reduceIte, and_self]) _
    cases wp
    · refine Wr <| Otb rfl sm rfl <| Ot rfl sm rfl rfl <| Ofb ag sm rfl <| Of rfl Zp rfl rfl <| Of rfl sm rfl rfl <| OSuf.pass ag rfl <| OSuf.pass ag rfl <| Of rfl Zp rfl rfl <| On ?_
      refine Wn <| CWp.skip <| ?_
      -- leaf: cut
      exact skip _ (by simp only [HasA, Tr.get_put, Nat.reduceEqDiff, reduceIte, and_self]) _
    by_cases hh : hint2 = 1
    · have hBB := hB1.perm (by omega) hp2
      obtain ⟨q1, q2⟩ := partialInsertionSort_holds swo d2 a1 b1 (by omega) (by omega) hBB
      have hc := partial_c h r N d2 hs2 a1 b1 (by omega) (by omega) hsz
      cases hres : (partialInsertionSort lt d2 a1 b1).2
      · rw [hres] at hc
        refine Wr <| Ot rfl sm rfl (by first | rfl | assumption | ((simp only [bl, hh]) <;> first | done | assumption | omega) | (simp; done) | (simp; omega)) <| Ot rfl sm rfl rfl <| Ot ag sm rfl (by first | rfl | assumption | ((simp only [bl, hh]) <;> first | done | assumption | omega) | (simp; done) | (simp; omega)) <| Ot rfl Zp rfl rfl <| Ot rfl sm rfl rfl <| Oa ag sm rfl <| Ot ag (zb (hv := bi_eql)) rfl (by first | rfl | assumption | ((simp only [bl, hh]) <;> first | done | assumption | omega) | (simp; done) | (simp; omega)) <| Ot rfl Zp rfl rfl <| On ?_
        refine Wy <| Wr <| Oa rfl sm rfl <| Oa rfl sm rfl <| Oa rfl sm rfl <| Oa rfl sm rfl <| OSuf.callD rfl (by simp only [aopnds, lk] <;> rfl) en84 (hc) rfl <| On ?_
        refine Wn <| CWp.skip <| ?_
        -- leaf: cut
        refine NQ.normal (L := [(0, sl r N), (1, I64 a1), (2, I64 b1), (3, I64 lim2), (4, CF), (10, .bool true), (11, .bool true), (12, I64 (b1 - a1 : Nat)), (13, I64 pv2)]) ?_ ⟨_, permIn_trans _ _ _ _ _ hp2 q1, rfl, rfl⟩
        simp only [HasA, Tr.get_put, Nat.reduceEqDiff, reduceIte, and_self]
      · rw [hres] at hc
        refine Wr <| Ot rfl sm rfl (by first | rfl | assumption | ((simp only [bl, hh]) <;> first | done | assumption | omega) | (simp; done) | (simp; omega)) <| Ot rfl sm rfl rfl <| Ot ag sm rfl (by first | rfl | assumption | ((simp only [bl, hh]) <;> first | done | assumption | omega) | (simp; done) | (simp; omega)) <| Ot rfl Zp rfl rfl <| Ot rfl sm rfl rfl <| Oa ag sm rfl <| Ot ag (zb (hv := bi_eql)) rfl (by first | rfl | assumption | ((simp only [bl, hh]) <;> first | done | assumption | omega) | (simp; done) | (simp; omega)) <| Ot rfl Zp rfl rfl <| On ?_
        refine Wy <| Wr <| Oa rfl sm rfl <| Oa rfl sm rfl <| Oa rfl sm rfl <| Oa rfl sm rfl <| OSuf.callD rfl (by simp only [aopnds, lk] <;> rfl) en84 (hc) rfl <| On ?_
        refine Wy <| CWp.ret <| NQ.ret <| SQ.ret <| BQ.ret <| LQ.ret <| BQ.ret <| FQ.ret (by simp only [aRet, Try.f61, aResults, aResult, lk, Nat.reduceEqDiff, reduceIte] <;> rfl) ?_
        -- leaf: end
        exact ⟨rfl, _, rfl, hcont _ (permIn_trans _ _ _ _ _ hp2 q1) (q2 hres)⟩
    · refine Wr <| Ot rfl sm rfl (by first | rfl | assumption | ((simp only [bl, hh]) <;> first | done | assumption | omega) | (simp; done) | (simp; omega)) <| Ot rfl sm rfl rfl <| Ot ag sm rfl (by first | rfl | assumption | ((simp only [bl, hh]) <;> first | done | assumption | omega) | (simp; done) | (simp; omega)) <| Ot rfl Zp rfl rfl <| Ot rfl sm rfl rfl <| Oa ag sm rfl <| Of ag (zb (hv := bi_eql)) rfl (by first | rfl | assumption | ((simp only [bl, hh]) <;> first | done | assumption | omega) | (simp; done) | (simp; omega)) <| Of rfl Zp rfl rfl <| On ?_
      refine Wn <| CWp.skip <| ?_
      -- leaf: cut
      exact skip _ (by simp only [HasA, Tr.get_put, Nat.reduceEqDiff, reduceIte, and_self]) _
  clear hp2 hs2 ha
  rintro L a' h1 ha ⟨d3, hp3, rfl, rfl⟩
  have hs3 : d3.size = N := hp3.1.trans hds
  have hB3 := hB1.perm (by omega) hp3
  have w5 : IntKind.i64.wrap ((a1 : Int) - 1) = ((a1 : Int) - 1) := wrap_i64 (by omega) (by omega)
  by_cases heqp : 0 < a1 ∧ lt d3[a1 - 1]! d3[pv2]! = false
  · have w6 : IntKind.i64.wrap ((a1 : Int) - 1) = ((a1 - 1 : Nat) : Int) := by rw [wrap_i64 (by omega) (by omega)]; omega
    obtain ⟨mid, d4, hx⟩ : ∃ mid d4, partitionEqual lt d3 a1 b1 pv2 = (mid, d4) := ⟨_, _, rfl⟩
    obtain ⟨r1, r2, r3, r4, r5⟩ := round_eq swo (partitionEqual_holds lt) heqp.1 hq1 hq2 (by omega) hB3 heqp.2 hx
    have hc := partEq_c h r N d3 hs3 a1 b1 pv2 hq1 hq2 (by omega) hsz
    rw [hx] at hc
    dsimp only at hc
    refine SQ.normal <| CWp.known ha ?_
    simp only [mkA]
    refine W.seq <| W.seq <| W.regD tyOK mixed (by kernel_rfl) <| Sa rfl sm rfl <| SqW.aopT rfl (zb (hv := bi_gtr)) (fun _ => rfl) (by first | rfl | assumption | ((simp only [bl, sq]) <;> first | done | assumption | omega) | (simp; done) | (simp; omega)) <| SqW.aopT rfl sm (fun _ => rfl) rfl <| Sa ag sm rfl <| Sa ag sm rfl <| Sa ag sm rfl <| Sa ag (zb (hv := bi_w bi_sub (by first | (simp only [w6] <;> rfl) | rfl))) rfl <| Sa ag (zi (hv := by simp (disch := first | omega | simp only [nx] <;> omega | fail) only [aIndexAddr, ty26, ty33, hpl, sq] <;> rfl)) rfl <| Sa ag (zl (hv := by simp (disch := first | omega | simp only [nx] <;> omega | fail) only [aLoad, ty33, rowOf, hpl, sq] <;> rfl)) rfl <| Sa ag sm rfl <| Sa ag sm rfl <| Sa ag (zi (hv := by simp (disch := first | omega | simp only [nx] <;> omega | fail) only [aIndexAddr, ty26, ty33, hpl, sq] <;> rfl)) rfl <| Sa ag (zl (hv := by simp (disch := first | omega | simp only [nx] <;> omega | fail) only [aLoad, ty33, rowOf, hpl, sq] <;> rfl)) rfl <| SqW.vcallD ag (by simp only [lk] <;> rfl) (by simp only [aopnds, lk] <;> rfl) (less_v _ _ _ _ heqp.2) rfl <| SqW.aopF ag (zb (hv := bi_lss)) (fun _ => rfl) rfl <| SqW.aopT ag Zt (fun _ => rfl) rfl <| SqW.aopT rfl Zp (fun _ => rfl) rfl <| Sn ?_
    refine Wy <| Wr <| Oa rfl sm rfl <| Oa rfl sm rfl <| Oa rfl sm rfl <| Oa rfl sm rfl <| Oa rfl sm rfl <| OSuf.callD rfl (by simp only [aopnds, lk] <;> rfl) en85 (hc) rfl <| Oa rfl za rfl <| On ?_
    refine Wr <| Oa rfl sm rfl <| Oa rfl za rfl <| On ?_
    refine CWp.exit <| SQ.exit <| BQ.exit <| ?_
    -- leaf: round
    refine LQ.normal (m := b1 - mid) (L := [(0, sl r N), (1, I64 mid), (2, I64 b1), (3, I64 lim2), (4, CF), (10, .bool wb), (11, .bool wp)]) (by omega) ?_ ⟨mid, b1, lim2, wb, wp, d4, rfl, by omega, by omega, hbb1, hl2, r3.trans hs3, r4, fun R e1 e2 => ?_, rfl, rfl⟩
    · simp only [HasA, Tr.get_put, Nat.reduceEqDiff, reduceIte, and_self]
    · obtain ⟨g1, g2⟩ := r5 R e1 e2
      exact hcont R (permIn_trans _ _ _ _ _ hp3 g1) g2
  obtain ⟨mid, ap, d4, hx⟩ : ∃ mid ap d4, partition lt d3 a1 b1 pv2 = (mid, ap, d4) := ⟨_, _, _, rfl⟩
  obtain ⟨r1, r2, r3, r4, r5, r6, r7⟩ := round_part swo (partition_holds lt) hq1 hq2 (by omega) hB3 hx
  have hc := partition_c h r N d3 hs3 a1 b1 pv2 hq1 hq2 (by omega) hsz
  rw [hx] at hc
  dsimp only at hc
  have hs4 : d4.size = N := r3.trans hs3
  have v1 : IntKind.i64.wrap ((mid : Int) - (a1 : Int)) = ((mid - a1 : Nat) : Int) := by rw [wrap_i64 (by omega) (by omega)]; omega
  have v2 : IntKind.i64.wrap ((b1 : Int) - (mid : Int)) = ((b1 - mid : Nat) : Int) := by rw [wrap_i64 (by omega) (by omega)]; omega
  have v3 : IntKind.i64.wrap ((mid : Int) + 1) = ((mid + 1 : Nat) : Int) := by rw [wrap_i64 (by omega) (by omega)]; omega
  have v4 : IntKind.i64.wrap (((b1 - a1 : Nat) : Int).tdiv 8) = (((b1 - a1) / 8 : Nat) : Int) := by rw [Int.tdiv_eq_ediv_of_nonneg (by omega), wrap_i64 (by omega) (by omega)]; omega
  have goL : ∀ (wb2 : Bool) (a' : Tr Value) (h' : AHeap) (Q : AExit → Tr Value → AHeap → Prop), (∃ dL : Array El, h' = h.set r (row dL) ∧ PermIn a1 mid d4 dL ∧ SortedIn lt a1 mid dL) → HasA a' [(0, sl r N), (1, I64 (mid + 1 : Nat)), (2, I64 b1), (3, I64 lim2), (4, CF), (10, .bool wb2), (11, .bool ap)] →
      LQ (b1 - a1) (fun n1 L h' => ∃ (a1 b1 lim1 : Nat) (wb wp : Bool) (dk : Array El), n1 = b1 - a1 ∧ a ≤ a1 ∧ a1 ≤ b1 ∧ b1 ≤ b ∧ lim1 ≤ 100 ∧ dk.size = N ∧ Below lt a1 b1 dk ∧ (∀ R, PermIn a1 b1 dk R → SortedIn lt a1 b1 R → PermIn a b d R ∧ SortedIn lt a b R) ∧ h' = h.set r (row dk) ∧
        L = [(0, sl r N), (1, I64 a1), (2, I64 b1), (3, I64 lim1), (4, CF), (10, .bool wb), (11, .bool wp)]) Q .normal a' h' := by
    rintro wb2 a' h' Q ⟨dL, rfl, e1, e2⟩ hA
    obtain ⟨g1, g2⟩ := r6 dL e1 e2
    refine LQ.normal (m := b1 - (mid + 1)) (by omega) hA ⟨mid + 1, b1, lim2, wb2, ap, dL, rfl, by omega, by omega, hbb1, hl2, e1.1.trans hs4, g1, fun R f1 f2 => ?_, rfl, rfl⟩
    obtain ⟨k1, k2⟩ := g2 R f1 f2
    exact hcont R (permIn_trans _ _ _ _ _ hp3 k1) k2
  have goR : ∀ (wb2 : Bool) (a' : Tr Value) (h' : AHeap) (Q : AExit → Tr Value → AHeap → Prop), (∃ dL : Array El, h' = h.set r (row dL) ∧ PermIn (mid + 1) b1 d4 dL ∧ SortedIn lt (mid + 1) b1 dL) → HasA a' [(0, sl r N), (1, I64 a1), (2, I64 mid), (3, I64 lim2), (4, CF), (10, .bool wb2), (11, .bool ap)] →
      LQ (b1 - a1) (fun n1 L h' => ∃ (a1 b1 lim1 : Nat) (wb wp : Bool) (dk : Array El), n1 = b1 - a1 ∧ a ≤ a1 ∧ a1 ≤ b1 ∧ b1 ≤ b ∧ lim1 ≤ 100 ∧ dk.size = N ∧ Below lt a1 b1 dk ∧ (∀ R, PermIn a1 b1 dk R → SortedIn lt a1 b1 R → PermIn a b d R ∧ SortedIn lt a b R) ∧ h' = h.set r (row dk) ∧
        L = [(0, sl r N), (1, I64 a1), (2, I64 b1), (3, I64 lim1), (4, CF), (10, .bool wb), (11, .bool wp)]) Q .normal a' h' := by
    rintro wb2 a' h' Q ⟨dL, rfl, e1, e2⟩ hA
    obtain ⟨g1, g2⟩ := r7 dL e1 e2
    refine LQ.normal (m := mid - a1) (by omega) hA ⟨a1, mid, lim2, wb2, ap, dL, rfl, by omega, by omega, by omega, hl2, e1.1.trans hs4, g1, fun R f1 f2 => ?_, rfl, rfl⟩
    obtain ⟨k1, k2⟩ := g2 R f1 f2
    exact hcont R (permIn_trans _ _ _ _ _ hp3 k1) k2
  have recL := ih (mid - a1) (by omega) a1 mid lim2 d4 (Nat.le_refl _) hs4 (by omega) (by omega) hl2 r4
  have recR := ih (b1 - (mid + 1)) (by omega) (mid + 1) b1 lim2 d4 (Nat.le_refl _) hs4 (by omega) (by omega) hl2 r5
  by_cases ha0 : (a1 : Int) > 0
  · have w6 : IntKind.i64.wrap ((a1 : Int) - 1) = ((a1 - 1 : Nat) : Int) := by rw [wrap_i64 (by omega) (by omega)]; omega
    have hl : lt d3[a1 - 1]! d3[pv2]! = true := by
      cases hlv : lt d3[a1 - 1]! d3[pv2]!
      · exact (heqp ⟨by omega, hlv⟩).elim
      · rfl
    by_cases hlr : ((mid - a1 : Nat) : Int) < ((b1 - mid : Nat) : Int)
    · refine SQ.normal <| CWp.known ha ?_
      simp only [mkA]
      refine W.seq <| W.seq <| W.regD tyOK mixed (by kernel_rfl) <| Sa rfl sm rfl <| SqW.aopT rfl (zb (hv := bi_gtr)) (fun _ => rfl) (by first | rfl | assumption | ((simp only [bl, sq]) <;> first | done | assumption | omega) | (simp; done) | (simp; omega)) <| SqW.aopT rfl sm (fun _ => rfl) rfl <| Sa ag sm rfl <| Sa ag sm rfl <| Sa ag sm rfl <| Sa ag (zb (hv := bi_w bi_sub (by first | (simp only [w6, v1, v2, v3, v4] <;> rfl) | rfl))) rfl <| Sa ag (zi (hv := by simp (disch := first | omega | simp only [nx] <;> omega | fail) only [aIndexAddr, ty26, ty33, hpl, sq] <;> rfl)) rfl <| Sa ag (zl (hv := by simp (disch := first | omega | simp only [nx] <;> omega | fail) only [aLoad, ty33, rowOf, hpl, sq] <;> rfl)) rfl <| Sa ag sm rfl <| Sa ag sm rfl <| Sa ag (zi (hv := by simp (disch := first | omega | simp only [nx] <;> omega | fail) only [aIndexAddr, ty26, ty33, hpl, sq] <;> rfl)) rfl <| Sa ag (zl (hv := by simp (disch := first | omega | simp only [nx] <;> omega | fail) only [aLoad, ty33, rowOf, hpl, sq] <;> rfl)) rfl <| SqW.vcallD ag (by simp only [lk] <;> rfl) (by simp only [aopnds, lk] <;> rfl) (less_v _ _ _ _ hl) rfl <| SqW.aopT ag (zb (hv := bi_lss)) (fun _ => rfl) rfl <| SqW.aopF ag Zt (fun _ => rfl) rfl <| SqW.aopF rfl Zp (fun _ => rfl) rfl <| Sn ?_
      refine Wn <| CWp.skip <| SQ.normal ?_
      refine Wr <| Oa rfl sm rfl <| Oa rfl sm rfl <| Oa rfl sm rfl <| Oa rfl sm rfl <| Oa rfl sm rfl <| OSuf.callD rfl (by simp only [aopnds, lk] <;> rfl) en86 (hc) rfl <| Oa rfl sm rfl <| Oa rfl (ze (hv := by simp (disch := first | omega | simp only [nx] <;> omega | fail) only [aExtract, hpl, sq] <;> rfl)) rfl <| Oa rfl (ze (hv := by simp (disch := first | omega | simp only [nx] <;> omega | fail) only [aExtract, hpl, sq] <;> rfl)) rfl <| Oa rfl za rfl <| Oa rfl za rfl <| On ?_
      refine Wr <| Oa rfl sm rfl <| Oa rfl za rfl <| On ?_
      refine Wr <| Oa rfl sm rfl <| Oa rfl sm rfl <| Oa rfl (zb (hv := bi_w bi_sub (by first | (simp only [w6, v1, v2, v3, v4] <;> rfl) | rfl))) rfl <| Oa rfl sm rfl <| Oa rfl sm rfl <| Oa rfl (zb (hv := bi_w bi_sub (by first | (simp only [w6, v1, v2, v3, v4] <;> rfl) | rfl))) rfl <| Oa rfl za rfl <| Oa rfl za rfl <| On ?_
      refine Wr <| Oa rfl sm rfl <| Oa rfl (zb (hv := bi_w (bi_quo (by decide)) (by first | (simp only [w6, v1, v2, v3, v4] <;> rfl) | rfl))) rfl <| Oa rfl za rfl <| On ?_
      refine Wr <| Oa rfl sm rfl <| Oa rfl sm rfl <| Ot rfl (zb (hv := bi_lss)) rfl (by first | rfl | assumption | ((simp only [bl, sq]) <;> first | done | assumption | omega) | (simp; done) | (simp; omega)) <| On ?_
      refine Wy <| Wr <| Oa rfl sm rfl <| Oa rfl sm rfl <| Oa rfl (zb (hv := bi_geq)) rfl <| Oa rfl za rfl <| On ?_
      refine Wr <| Oa rfl sm rfl <| Oa rfl sm rfl <| Oa rfl sm rfl <| Oa rfl sm rfl <| Oa rfl sm rfl <| OSuf.call rfl (by simp only [aopnds, lk] <;> rfl) en61 (recL) ?_
      rintro _ _ ⟨rfl, dL, rfl, e1, e2⟩
      refine ⟨_, rfl, ?_⟩
      refine On ?_
      refine W.reg <| Oa rfl sm rfl <| Oa rfl (zb (hv := bi_w bi_add (by first | (simp only [w6, v1, v2, v3, v4] <;> rfl) | rfl))) rfl <| Oa rfl za rfl <| OSuf.nil <| BQ.normal <| ?_
      -- leaf: round
      exact goL (decide (((mid - a1 : Nat) : Int) ≥ (((b1 - a1) / 8 : Nat) : Int))) _ _ _ ⟨dL, rfl, e1, e2⟩ (by simp only [HasA, Tr.get_put, Nat.reduceEqDiff, reduceIte, and_self])
    · refine SQ.normal <| CWp.known ha ?_
      simp only [mkA]
      refine W.seq <| W.seq <| W.regD tyOK mixed (by kernel_rfl) <| Sa rfl sm rfl <| SqW.aopT rfl (zb (hv := bi_gtr)) (fun _ => rfl) (by first | rfl | assumption | ((simp only [bl, sq]) <;> first | done | assumption | omega) | (simp; done) | (simp; omega)) <| SqW.aopT rfl sm (fun _ => rfl) rfl <| Sa ag sm rfl <| Sa ag sm rfl <| Sa ag sm rfl <| Sa ag (zb (hv := bi_w bi_sub (by first | (simp only [w6, v1, v2, v3, v4] <;> rfl) | rfl))) rfl <| Sa ag (zi (hv := by simp (disch := first | omega | simp only [nx] <;> omega | fail) only [aIndexAddr, ty26, ty33, hpl, sq] <;> rfl)) rfl <| Sa ag (zl (hv := by simp (disch := first | omega | simp only [nx] <;> omega | fail) only [aLoad, ty33, rowOf, hpl, sq] <;> rfl)) rfl <| Sa ag sm rfl <| Sa ag sm rfl <| Sa ag (zi (hv := by simp (disch := first | omega | simp only [nx] <;> omega | fail) only [aIndexAddr, ty26, ty33, hpl, sq] <;> rfl)) rfl <| Sa ag (zl (hv := by simp (disch := first | omega | simp only [nx] <;> omega | fail) only [aLoad, ty33, rowOf, hpl, sq] <;> rfl)) rfl <| SqW.vcallD ag (by simp only [lk] <;> rfl) (by simp only [aopnds, lk] <;> rfl) (less_v _ _ _ _ hl) rfl <| SqW.aopT ag (zb (hv := bi_lss)) (fun _ => rfl) rfl <| SqW.aopF ag Zt (fun _ => rfl) rfl <| SqW.aopF rfl Zp (fun _ => rfl) rfl <| Sn ?_
      refine Wn <| CWp.skip <| SQ.normal ?_
      refine Wr <| Oa rfl sm rfl <| Oa rfl sm rfl <| Oa rfl sm rfl <| Oa rfl sm rfl <| Oa rfl sm rfl <| OSuf.callD rfl (by simp only [aopnds, lk] <;> rfl) en86 (hc) rfl <| Oa rfl sm rfl <| Oa rfl (ze (hv := by simp (disch := first | omega | simp only [nx] <;> omega | fail) only [aExtract, hpl, sq] <;> rfl)) rfl <| Oa rfl (ze (hv := by simp (disch := first | omega | simp only [nx] <;> omega | fail) only [aExtract, hpl, sq] <;> rfl)) rfl <| Oa rfl za rfl <| Oa rfl za rfl <| On ?_
      refine Wr <| Oa rfl sm rfl <| Oa rfl za rfl <| On ?_
      refine Wr <| Oa rfl sm rfl <| Oa rfl sm rfl <| Oa rfl (zb (hv := bi_w bi_sub (by first | (simp only [w6, v1, v2, v3, v4] <;> rfl) | rfl))) rfl <| Oa rfl sm rfl <| Oa rfl sm rfl <| Oa rfl (zb (hv := bi_w bi_sub (by first | (simp only [w6, v1, v2, v3, v4] <;> rfl) | rfl))) rfl <| Oa rfl za rfl <| Oa rfl za rfl <| On ?_
      refine Wr <| Oa rfl sm rfl <| Oa rfl (zb (hv := bi_w (bi_quo (by decide)) (by first | (simp only [w6, v1, v2, v3, v4] <;> rfl) | rfl))) rfl <| Oa rfl za rfl <| On ?_
      refine Wr <| Oa rfl sm rfl <| Oa rfl sm rfl <| Of rfl (zb (hv := bi_lss)) rfl (by first | rfl | assumption | ((simp only [bl, sq]) <;> first | done | assumption | omega) | (simp; done) | (simp; omega)) <| On ?_
      refine Wn <| Wr <| Oa rfl sm rfl <| Oa rfl sm rfl <| Oa rfl (zb (hv := bi_geq)) rfl <| Oa rfl za rfl <| On ?_
      refine Wr <| Oa rfl sm rfl <| Oa rfl sm rfl <| Oa rfl (zb (hv := bi_w bi_add (by first | (simp only [w6, v1, v2, v3, v4] <;> rfl) | rfl))) rfl <| Oa rfl sm rfl <| Oa rfl sm rfl <| Oa rfl sm rfl <| OSuf.call rfl (by simp only [aopnds, lk] <;> rfl) en61 (recR) ?_
      rintro _ _ ⟨rfl, dL, rfl, e1, e2⟩
      refine ⟨_, rfl, ?_⟩
      refine On ?_
      refine W.reg <| Oa rfl sm rfl <| Oa rfl za rfl <| OSuf.nil <| BQ.normal <| ?_
      -- leaf: round
      exact goR (decide (((b1 - mid : Nat) : Int) ≥ (((b1 - a1) / 8 : Nat) : Int))) _ _ _ ⟨dL, rfl, e1, e2⟩ (by simp only [HasA, Tr.get_put, Nat.reduceEqDiff, reduceIte, and_self])
  by_cases hlr : ((mid - a1 : Nat) : Int) < ((b1 - mid : Nat) : Int)
  · refine SQ.normal <| CWp.known ha ?_
    simp only [mkA]
    refine W.seq <| W.seq <| W.regD tyOK mixed (by kernel_rfl) <| Sa rfl sm rfl <| SqW.aopF rfl (zb (hv := bi_gtr)) (fun _ => rfl) (by first | rfl | assumption | ((simp only [bl, sq]) <;> first | done | assumption | omega) | (simp; done) | (simp; omega)) <| SqW.aopF rfl sm (fun _ => rfl) rfl <| SqW.pass ag rfl <| SqW.pass ag rfl <| SqW.pass ag rfl <| SqW.pass ag rfl <| SqW.pass ag rfl <| SqW.pass ag rfl <| SqW.pass ag rfl <| SqW.pass ag rfl <| SqW.pass ag rfl <| SqW.pass ag rfl <| SqW.pass ag rfl <| SqW.pass ag rfl <| SqW.pass ag rfl <| SqW.aopF rfl Zp (fun _ => rfl) rfl <| Sn ?_
    refine Wn <| CWp.skip <| SQ.normal ?_
    refine Wr <| Oa rfl sm rfl <| Oa rfl sm rfl <| Oa rfl sm rfl <| Oa rfl sm rfl <| Oa rfl sm rfl <| OSuf.callD rfl (by simp only [aopnds, lk] <;> rfl) en86 (hc) rfl <| Oa rfl sm rfl <| Oa rfl (ze (hv := by simp (disch := first | omega | simp only [nx] <;> omega | fail) only [aExtract, hpl, sq] <;> rfl)) rfl <| Oa rfl (ze (hv := by simp (disch := first | omega | simp only [nx] <;> omega | fail) only [aExtract, hpl, sq] <;> rfl)) rfl <| Oa rfl za rfl <| Oa rfl za rfl <| On ?_
    refine Wr <| Oa rfl sm rfl <| Oa rfl za rfl <| On ?_
    refine Wr <| Oa rfl sm rfl <| Oa rfl sm rfl <| Oa rfl (zb (hv := bi_w bi_sub (by first | (simp only [v1, v2, v3, v4] <;> rfl) | rfl))) rfl <| Oa rfl sm rfl <| Oa rfl sm rfl <| Oa rfl (zb (hv := bi_w bi_sub (by first | (simp only [v1, v2, v3, v4] <;> rfl) | rfl))) rfl <| Oa rfl za rfl <| Oa rfl za rfl <| On ?_
    refine Wr <| Oa rfl sm rfl <| Oa rfl (zb (hv := bi_w (bi_quo (by decide)) (by first | (simp only [v1, v2, v3, v4] <;> rfl) | rfl))) rfl <| Oa rfl za rfl <| On ?_
    refine Wr <| Oa rfl sm rfl <| Oa rfl sm rfl <| Ot rfl (zb (hv := bi_lss)) rfl (by first | rfl | assumption | ((simp only [bl, sq]) <;> first | done | assumption | omega) | (simp; done) | (simp; omega)) <| On ?_
    refine Wy <| Wr <| Oa rfl sm rfl <| Oa rfl sm rfl <| Oa rfl (zb (hv := bi_geq)) rfl <| Oa rfl za rfl <| On ?_
    refine Wr <| Oa rfl sm rfl <| Oa rfl sm rfl <| Oa rfl sm rfl <| Oa rfl sm rfl <| Oa rfl sm rfl <| OSuf.call rfl (by simp only [aopnds, lk] <;> rfl) en61 (recL) ?_
    rintro _ _ ⟨rfl, dL, rfl, e1, e2⟩
    refine ⟨_, rfl, ?_⟩
    refine On ?_
    refine W.reg <| Oa rfl sm rfl <| Oa rfl (zb (hv := bi_w bi_add (by first | (simp only [v1, v2, v3, v4] <;> rfl) | rfl))) rfl <| Oa rfl za rfl <| OSuf.nil <| BQ.normal <| ?_
    -- leaf: round
    exact goL (decide (((mid - a1 : Nat) : Int) ≥ (((b1 - a1) / 8 : Nat) : Int))) _ _ _ ⟨dL, rfl, e1, e2⟩ (by simp only [HasA, Tr.get_put, Nat.reduceEqDiff, reduceIte, and_self])
  · refine SQ.normal <| CWp.known ha ?_
    simp only [mkA]
    refine W.seq <| W.seq <| W.regD tyOK mixed (by kernel_rfl) <| Sa rfl sm rfl <| SqW.aopF rfl (zb (hv := bi_gtr)) (fun _ => rfl) (by first | rfl | assumption | ((simp only [bl, sq]) <;> first | done | assumption | omega) | (simp; done) | (simp; omega)) <| SqW.aopF rfl sm (fun _ => rfl) rfl <| SqW.pass ag rfl <| SqW.pass ag rfl <| SqW.pass ag rfl <| SqW.pass ag rfl <| SqW.pass ag rfl <| SqW.pass ag rfl <| SqW.pass ag rfl <| SqW.pass ag rfl <| SqW.pass ag rfl <| SqW.pass ag rfl <| SqW.pass ag rfl <| SqW.pass ag rfl <| SqW.pass ag rfl <| SqW.aopF rfl Zp (fun _ => rfl) rfl <| Sn ?_
    refine Wn <| CWp.skip <| SQ.normal ?_
    refine Wr <| Oa rfl sm rfl <| Oa rfl sm rfl <| Oa rfl sm rfl <| Oa rfl sm rfl <| Oa rfl sm rfl <| OSuf.callD rfl (by simp only [aopnds, lk] <;> rfl) en86 (hc) rfl <| Oa rfl sm rfl <| Oa rfl (ze (hv := by simp (disch := first | omega | simp only [nx] <;> omega | fail) only [aExtract, hpl, sq] <;> rfl)) rfl <| Oa rfl (ze (hv := by simp (disch := first | omega | simp only [nx] <;> omega | fail) only [aExtract, hpl, sq] <;> rfl)) rfl <| Oa rfl za rfl <| Oa rfl za rfl <| On ?_
    refine Wr <| Oa rfl sm rfl <| Oa rfl za rfl <| On ?_
    refine Wr <| Oa rfl sm rfl <| Oa rfl sm rfl <| Oa rfl (zb (hv := bi_w bi_sub (by first | (simp only [v1, v2, v3, v4] <;> rfl) | rfl))) rfl <| Oa rfl sm rfl <| Oa rfl sm rfl <| Oa rfl (zb (hv := bi_w bi_sub (by first | (simp only [v1, v2, v3, v4] <;> rfl) | rfl))) rfl <| Oa rfl za rfl <| Oa rfl za rfl <| On ?_
    refine Wr <| Oa rfl sm rfl <| Oa rfl (zb (hv := bi_w (bi_quo (by decide)) (by first | (simp only [v1, v2, v3, v4] <;> rfl) | rfl))) rfl <| Oa rfl za rfl <| On ?_
    refine Wr <| Oa rfl sm rfl <| Oa rfl sm rfl <| Of rfl (zb (hv := bi_lss)) rfl (by first | rfl | assumption | ((simp only [bl, sq]) <;> first | done | assumption | omega) | (simp; done) | (simp; omega)) <| On ?_
    refine Wn <| Wr <| Oa rfl sm rfl <| Oa rfl sm rfl <| Oa rfl (zb (hv := bi_geq)) rfl <| Oa rfl za rfl <| On ?_
    refine Wr <| Oa rfl sm rfl <| Oa rfl sm rfl <| Oa rfl (zb (hv := bi_w bi_add (by first | (simp only [v1, v2, v3, v4] <;> rfl) | rfl))) rfl <| Oa rfl sm rfl <| Oa rfl sm rfl <| Oa rfl sm rfl <| OSuf.call rfl (by simp only [aopnds, lk] <;> rfl) en61 (recR) ?_
    rintro _ _ ⟨rfl, dL, rfl, e1, e2⟩
    refine ⟨_, rfl, ?_⟩
    refine On ?_
    refine W.reg <| Oa rfl sm rfl <| Oa rfl za rfl <| OSuf.nil <| BQ.normal <| ?_
    -- leaf: round
    exact goR (decide (((b1 - mid : Nat) : Int) ≥ (((b1 - a1) / 8 : Nat) : Int))) _ _ _ ⟨dL, rfl, e1, e2⟩ (by simp only [HasA, Tr.get_put, Nat.reduceEqDiff, reduceIte, and_self])
theorem sort_c (h : AHeap) (r N : Nat) (hrn : r < h.next) (hsz : N < 1000000000) (d : Array El) (hN : d.size = N) :
    FWp Try.prog 33 [sl r N, CF] (h.set r (row d)) fun u h' => u = .tuple #[] ∧ ∃ d' : Array El, h' = h.set r (row d') ∧ PermIn 0 N d d' ∧ SortedIn lt 0 N d' := by
  have hb : bitsLen N ≤ 30 := (bitsLen_le_iff N 30).2 (by omega)
  have w1 : IntKind.u64.wrap (N : Int) = (N : Int) := wrap_u64 (by omega) (by omega)
  refine W.enter tyOK Try.func33 rfl rfl ?_
  simp only [entry]
  refine Wr <| Oa rfl sm rfl <| Oa rfl (Zn (hv := by simp (disch := first | omega | simp only [nx] <;> omega | fail) only [aLenOf, ty26, hpl] <;> rfl)) rfl <| Oa rfl za rfl <| On ?_
  refine W.reg <| Oa rfl sm rfl <| Oa rfl sm rfl <| Oa rfl sm rfl <| Oa rfl (so_conw (so_conv tyOK (by simp only [lk] <;> rfl) ty3 ⟨_, rfl⟩ ty68 rfl) (by first | (simp only [w1] <;> rfl) | rfl)) rfl <| OSuf.callD rfl (by simp only [aopnds, lk] <;> rfl) en62 (len_c _ N (by omega)) rfl <| Oa rfl sm rfl <| OSuf.call rfl (by simp only [aopnds, lk] <;> rfl) en61 (pdq_c h r N hrn hsz N 0 N (bitsLen N) d (by omega) hN (by omega) (Nat.le_refl _) (by omega) (.inl rfl)) ?_
  rintro _ _ ⟨rfl, d', rfl, e1, e2⟩
  refine ⟨_, rfl, ?_⟩
  refine OSuf.nil <| FQ.normal (by simp only [aRet, Try.f33, aResults, aResult, lk, Nat.reduceEqDiff, reduceIte] <;> rfl) ?_
  -- leaf: end
  exact ⟨rfl, d', rfl, e1, e2⟩
end Go.Proofs.Ytebheelmgcggmaa.SortR
