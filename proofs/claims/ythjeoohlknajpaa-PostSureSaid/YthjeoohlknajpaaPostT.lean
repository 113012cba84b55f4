/-
  The law PostTrims, walked.
-/
import Derived.Test.YthjeoohlknajpaaPostL
namespace Go.Proofs.Ythjeoohlknajpaa
open Go.Ab
set_option linter.unusedSimpArgs false
set_option linter.unusedVariables false
set_option maxRecDepth 10000

set_option maxRecDepth 1000000 in
theorem worksRan : Ab.isTrue (Ab.evCall (Ab.envOf Try.prog 65 34) (Ab.ev (Ab.envOf Try.prog 65 34) 400) 13 [] ⟨0, .leaf⟩) = true := by kernel_rfl
theorem works_c (h : AHeap) : FWp Try.prog 13 [] h fun u h' => u = .bool true ∧ h' = h :=
  FWp.ofClosed rfl (fun w => closed_true (envOf_ok Try.prog 65 34 (by kernel_rfl)) 400 worksRan w)

theorem trims_c (h0 : AHeap) (m : Int) (hm0 : 0 ≤ m) (hm1 : m < 256) (b1 b2 : Option Addr) (l1 l2 : List Int) (hL1 : l1.length ≤ maxLen) (hL2 : l2.length ≤ maxLen)
    (hr1 : ∀ i, i < l1.length → ∃ r z, b1 = some ⟨r, 0, none⟩ ∧ r < h0.next ∧ h0.get r = some (.ro (l1.map (Value.int .u8))) ∧ l1[i]? = some z ∧ (l1.map (Value.int .u8))[i]? = some (.int .u8 z) ∧ (Lit.int .u8 z).wf = true)
    (hr2 : ∀ i, i < l2.length → ∃ r z, b2 = some ⟨r, 0, none⟩ ∧ r < h0.next ∧ h0.get r = some (.ro (l2.map (Value.int .u8))) ∧ l2[i]? = some z ∧ (l2.map (Value.int .u8))[i]? = some (.int .u8 z) ∧ (Lit.int .u8 z).wf = true) :
    FWp Try.prog 4 [.int .u8 m, .slice b1 l1.length 0, .slice b2 l2.length 0] h0 fun u _ => u = .bool true := by
  have hml : maxLen = 9223372036854775807 := rfl
  have hmn : 0 ≤ m.tmod 41 ∧ m.tmod 41 < 41 := by rw [Int.tmod_eq_emod_of_nonneg hm0]; omega
  obtain ⟨N, hN⟩ : ∃ N : Nat, m.tmod 41 = N := ⟨(m.tmod 41).toNat, by omega⟩
  have hN41 : N < 41 := by omega
  have wN : IntKind.u64.wrap (m.tmod 41) = N := by rw [hN]; exact wrap_u64 (by omega) (by omega)
  refine W.enter tyOK Try.func4 rfl rfl ?_
  simp only [entry]
  refine W.seq <| W.reg <| 
      OSuf.aopF tyOK rfl (so_assign (by simp only [lk] <;> rfl)) (fun _ => rfl) rfl <|
      OSuf.nil <| SQ.normal ?_
  refine W.seq <| W.reg <| 
      OSuf.callD rfl (by simp only [aopnds, lk] <;> rfl) en6 (new_c _ _) rfl <|
      OSuf.aop tyOK rfl (so_assign (by simp only [lk] <;> rfl)) rfl <|
      OSuf.nil <| SQ.normal ?_
  refine W.seq <| W.seq <| W.reg <| 
      OSuf.aop tyOK rfl (so_move (by simp only [lk] <;> rfl)) rfl <|
      OSuf.aopF tyOK rfl (so_bin (by simp only [lk] <;> rfl) (by simp only [lk] <;> rfl) (bi_nil ⟨_, _, ty23, rfl⟩)) (fun _ => rfl) rfl <|
      OSuf.nil <| SQ.normal ?_
  refine W.no (by simp only [lk] <;> rfl) <| CWp.skip <| SQ.normal ?_
  refine W.seq <| W.reg <| 
      OSuf.aop tyOK rfl (so_move (by simp only [lk] <;> rfl)) rfl <|
      OSuf.aop tyOK rfl (so_bin (by simp only [lk] <;> rfl) (by simp only [lk] <;> rfl) (bi_w (bi_rem (by decide)) (by first | (simp only [wN] <;> rfl) | rfl))) rfl <|
      OSuf.aop tyOK rfl (so_conw (so_conv tyOK (by simp only [lk] <;> rfl) ty5 ⟨_, rfl⟩ ty25 rfl) (by first | (simp only [wN] <;> rfl) | rfl)) rfl <|
      OSuf.aop tyOK rfl (so_assign (by simp only [lk] <;> rfl)) rfl <|
      OSuf.nil <| SQ.normal ?_
  refine W.seq <| W.seq <| W.reg <| 
      OSuf.aop tyOK rfl (so_assign (by simp only [lk] <;> rfl)) rfl <|
      OSuf.nil <| SQ.normal ?_
  -- leaf: loop
  have ro0 : Ro h0 (h0.new (.cells [U64 100, .slice none 0 0, I64 0] 1)) := ⟨by simp, fun q vs hq hg => by rw [AHeap.get_new_ne (by omega)]; exact hg⟩
  refine W.cut (fun L h => ∃ S R, PA h h0.next S R ∧ Okp S (100 + N) ∧ Ro h0 h ∧ L = [(1, .slice b1 l1.length 0), (2, .slice b2 l2.length 0), (7, P0 h0.next), (8, U64 N)]) (W.block (W.loop (fun n L h => ∃ k S R, n + k = N ∧ PA h h0.next S R ∧ Okp S (100 + k) ∧ Ro h0 h ∧
      L = [(1, .slice b1 l1.length 0), (2, .slice b2 l2.length 0), (7, P0 h0.next), (8, U64 N), (9, U64 (k + 1 : Nat))]) (n := N)
    ⟨0, _, _, by omega, new_pa h0 100, ⟨by simp, by simp, fun i o ho => by simp at ho, rfl, by simp⟩, ro0, rfl⟩ ?_ ?_)) ?_
  · simp [HasA, Tr.get_put, wN]
  · rintro n L h ⟨k, S, R, hn, hP, hO, hR, rfl⟩
    simp only [mkA]
    have w1 : IntKind.u64.wrap (100 + ((k + 1 : Nat) : Int)) = 100 + k + 1 := by rw [wrap_u64 (by omega) (by omega)]; omega
    have w2 : IntKind.u64.wrap (((k + 1 : Nat) : Int) + 1) = ((k + 1 + 1 : Nat) : Int) := by rw [wrap_u64 (by omega) (by omega)]; omega
    by_cases hk : ((k + 1 : Nat) : Int) ≤ (N : Int)
    · refine W.seq <| W.seq <| W.reg <| 
          OSuf.aop tyOK rfl (so_move (by simp only [lk] <;> rfl)) rfl <|
          OSuf.aop tyOK rfl (so_move (by simp only [lk] <;> rfl)) rfl <|
          OSuf.aopT tyOK rfl (so_bin (by simp only [lk] <;> rfl) (by simp only [lk] <;> rfl) bi_leq) (fun _ => rfl) (by first | rfl | assumption | ((simp only [bl]) <;> first | done | assumption | omega) | (simp []; done) | (simp []; omega)) <|
          OSuf.nil <| SQ.normal ?_
      refine W.yes (by simp only [lk] <;> rfl) <| CWp.skip <| SQ.normal ?_
      refine W.seq <| W.block <| W.reg <| 
          OSuf.aop tyOK rfl (so_move (by simp only [lk] <;> rfl)) rfl <|
          OSuf.aop tyOK rfl (so_move (by simp only [lk] <;> rfl)) rfl <|
          OSuf.aop tyOK rfl (so_bin (by simp only [lk] <;> rfl) (by simp only [lk] <;> rfl) (bi_w bi_add (by first | (simp only [w1, w2] <;> rfl) | rfl))) rfl <|
          OSuf.aop tyOK rfl (so_build (by simp only [aparts, lk] <;> rfl) (by simp (disch := first | assumption | omega | (simp only [nx] <;> omega) | fail) only [aBuild, ty29, hpl] <;> rfl)) rfl <|
          OSuf.call rfl (by simp only [aopnds, lk] <;> rfl) en7 (add_c _ h0.next S R hP _ _ _ (100 + k + 1) hO.base (by have := hO.sum; omega) (by have := hO.len; omega) hO.w.1 (by have := hO.w; omega) (by have := hO.sum; omega)) ?_
      rintro _ h2 ⟨rfl, R2, hP2, hF2⟩
      refine ⟨_, rfl, ?_⟩
      refine 
          OSuf.nil <| BQ.normal <| SQ.normal ?_
      refine W.reg <| 
          OSuf.aop tyOK rfl (so_move (by simp only [lk] <;> rfl)) rfl <|
          OSuf.aop tyOK rfl (so_bin (by simp only [lk] <;> rfl) (by simp only [lk] <;> rfl) (bi_w bi_add (by first | (simp only [w1, w2] <;> rfl) | rfl))) rfl <|
          OSuf.aop tyOK rfl (so_assign (by simp only [lk] <;> rfl)) rfl <|
          OSuf.nil <| ?_
      -- leaf: round
      refine LQ.normal (m := n - 1) (L := [(1, .slice b1 l1.length 0), (2, .slice b2 l2.length 0), (7, P0 h0.next), (8, U64 N), (9, U64 (k + 1 + 1 : Nat))]) (by omega) ?_ ⟨k + 1, _, R2, by omega, hP2, ?_, hR.step hP hF2, rfl⟩
      · simp only [HasA, Tr.get_put, Nat.reduceEqDiff, reduceIte, w2, and_self]
      · exact hO.add (by omega) _ _ _
    · refine W.seq <| W.seq <| W.reg <| 
          OSuf.aop tyOK rfl (so_move (by simp only [lk] <;> rfl)) rfl <|
          OSuf.aop tyOK rfl (so_move (by simp only [lk] <;> rfl)) rfl <|
          OSuf.aopF tyOK rfl (so_bin (by simp only [lk] <;> rfl) (by simp only [lk] <;> rfl) bi_leq) (fun _ => rfl) (by first | rfl | assumption | ((simp only [bl]) <;> first | done | assumption | omega) | (simp []; done) | (simp []; omega)) <|
          OSuf.nil <| SQ.normal ?_
      refine W.no (by simp only [lk] <;> rfl) <| CWp.exit <| SQ.exit <| LQ.exit <| BQ.exit <| ?_
      -- leaf: cut
      refine NQ.normal (L := [(1, .slice b1 l1.length 0), (2, .slice b2 l2.length 0), (7, P0 h0.next), (8, U64 N)]) ?_ ⟨S, R, hP, ?_, hR, rfl⟩
      · simp only [HasA, Tr.get_put, Nat.reduceEqDiff, reduceIte, and_self]
      · have : k = N := by omega
        rw [← this]; exact hO
  rintro L a' h ha ⟨S, R, hP, hO, hR, rfl⟩
  refine SQ.normal <| CWp.known ha ?_
  simp only [mkA]
  refine W.seq <| W.seq <| W.reg <| 
      OSuf.aop tyOK rfl (so_assign (by simp only [lk] <;> rfl)) rfl <|
      OSuf.nil <| SQ.normal ?_
  -- leaf: loop
  refine W.cut (fun L h => ∃ S R, PA h h0.next S R ∧ Okp S (100 + N) ∧ Ro h0 h ∧ L = [(2, .slice b2 l2.length 0), (7, P0 h0.next), (8, U64 N)]) (W.block (W.loop (fun n L h => ∃ (k : Nat) (S : PS) (R : Option Nat), n + k = l1.length ∧ PA h h0.next S R ∧ Okp S (100 + N) ∧ Ro h0 h ∧
      L = [(1, .slice b1 l1.length 0), (2, .slice b2 l2.length 0), (7, P0 h0.next), (8, U64 N), (10, I64 k)]) (n := l1.length)
    ⟨0, S, R, by omega, hP, hO, hR, rfl⟩ ?_ ?_)) ?_
  · simp [HasA, Tr.get_put]
  · clear hP hO hR S R h
    rintro n L h ⟨k, S, R, hn, hP, hO, hR, rfl⟩
    simp only [mkA]
    have out : ∀ a, HasA a [(2, .slice b2 l2.length 0), (7, P0 h0.next), (8, U64 N)] → NQ (fun L h => ∃ S R, PA h h0.next S R ∧ Okp S (100 + N) ∧ Ro h0 h ∧ L = [(2, .slice b2 l2.length 0), (7, P0 h0.next), (8, U64 N)]) (FQ T Try.f4 fun u x => u = .bool true) .normal a h :=
      fun a ha => NQ.normal ha ⟨S, R, hP, hO, hR, rfl⟩
    by_cases h1 : (k : Int) < (l1.length : Int)
    · have w2 : IntKind.i64.wrap ((k : Int) + 1) = ((k + 1 : Nat) : Int) := by rw [wrap_i64 (by omega) (by omega)]; omega
      by_cases h2 : (k : Int) < 60
      · obtain ⟨r, z, rfl, hrn, hg, _, hz, hwf⟩ := hr1 k (by omega)
        have hg1 := hR.2 r _ hrn hg
        have hc : (0 ≤ (k : Int) ∧ (k : Int) < (l1.length : Int)) := by omega
        have hz0 := lit_u8 hwf
        have hzm : 0 ≤ z.tmod 42 ∧ z.tmod 42 < 42 := by rw [Int.tmod_eq_emod_of_nonneg hz0.1]; omega
        have w1 : IntKind.u64.wrap (z.tmod 42) = z.tmod 42 := wrap_u64 (by omega) (by omega)
        have w3 : IntKind.u64.wrap (100 + z.tmod 42) = 100 + z.tmod 42 := wrap_u64 (by omega) (by omega)
        refine W.seq <| W.seq <| W.reg <| 
            OSuf.aop tyOK rfl (so_move (by simp only [lk] <;> rfl)) rfl <|
            OSuf.aop tyOK rfl (so_move (by simp only [lk] <;> rfl)) rfl <|
            OSuf.aop tyOK rfl (so_len (by simp only [aopnds, lk] <;> rfl) (by simp (disch := first | assumption | omega | (simp only [nx] <;> omega) | fail) only [aLenOf, ty22, hpl, hc, and_self, if_true, Int.toNat_natCast, hg1, Nat.mul_one, Nat.zero_add, hz] <;> rfl)) rfl <|
            OSuf.aopT tyOK rfl (so_bin (by simp only [lk] <;> rfl) (by simp only [lk] <;> rfl) bi_lss) (fun _ => rfl) (by first | rfl | assumption | ((simp only [bl, hc, and_self, if_true, Int.toNat_natCast, hg1, Nat.mul_one, Nat.zero_add, hz]) <;> first | done | assumption | omega) | (simp [hc, and_self, if_true, Int.toNat_natCast, hg1, Nat.mul_one, Nat.zero_add, hz]; done) | (simp [hc, and_self, if_true, Int.toNat_natCast, hg1, Nat.mul_one, Nat.zero_add, hz]; omega)) <|
            OSuf.aopT tyOK rfl (so_move (by simp only [lk] <;> rfl)) (fun _ => rfl) rfl <|
            OSuf.aop tyOK (aguard_of rfl rfl (by simp only [lk] <;> rfl) rfl) (so_move (by simp only [lk] <;> rfl)) rfl <|
            OSuf.aopT tyOK (aguard_of rfl rfl (by simp only [lk] <;> rfl) rfl) (so_bin (by simp only [lk] <;> rfl) (by simp only [lk] <;> rfl) bi_lss) (fun _ => rfl) (by first | rfl | assumption | ((simp only [bl, hc, and_self, if_true, Int.toNat_natCast, hg1, Nat.mul_one, Nat.zero_add, hz]) <;> first | done | assumption | omega) | (simp [hc, and_self, if_true, Int.toNat_natCast, hg1, Nat.mul_one, Nat.zero_add, hz]; done) | (simp [hc, and_self, if_true, Int.toNat_natCast, hg1, Nat.mul_one, Nat.zero_add, hz]; omega)) <|
            OSuf.aopT tyOK rfl (so_pick (by simp only [lk] <;> rfl) (by simp only [lk, cond_true, cond_false] <;> rfl)) (fun _ => rfl) rfl <|
            OSuf.nil <| SQ.normal ?_
        refine W.yes (by simp only [lk] <;> rfl) <| CWp.skip <| SQ.normal ?_
        refine W.seq <| W.block <| W.reg <| 
            OSuf.aop tyOK rfl (so_move (by simp only [lk] <;> rfl)) rfl <|
            OSuf.aop tyOK rfl (so_move (by simp only [lk] <;> rfl)) rfl <|
            OSuf.aop tyOK rfl (so_move (by simp only [lk] <;> rfl)) rfl <|
            OSuf.aop tyOK rfl (so_indexAddr (by simp only [lk] <;> rfl) (by simp only [lk] <;> rfl) (by simp (disch := first | assumption | omega | (simp only [nx] <;> omega) | fail) only [aIndexAddr, ty22, ty5, hpl, hc, and_self, if_true, Int.toNat_natCast, hg1, Nat.mul_one, Nat.zero_add, hz] <;> rfl)) rfl <|
            OSuf.aop tyOK rfl (so_load (by simp only [lk] <;> rfl) (by simp (disch := first | assumption | omega | (simp only [nx] <;> omega) | fail) only [aLoad, ty5, rowOf, hpl, hc, and_self, if_true, Int.toNat_natCast, hg1, Nat.mul_one, Nat.zero_add, hz] <;> rfl)) rfl <|
            OSuf.aop tyOK rfl (so_bin (by simp only [lk] <;> rfl) (by simp only [lk] <;> rfl) (bi_w (bi_rem (by decide)) (by first | (simp only [w1, w2, w3] <;> rfl) | rfl))) rfl <|
            OSuf.aop tyOK rfl (so_conw (so_conv tyOK (by simp only [lk] <;> rfl) ty5 ⟨_, rfl⟩ ty25 rfl) (by first | (simp only [w1, w2, w3] <;> rfl) | rfl)) rfl <|
            OSuf.aop tyOK rfl (so_bin (by simp only [lk] <;> rfl) (by simp only [lk] <;> rfl) (bi_w bi_add (by first | (simp only [w1, w2, w3] <;> rfl) | rfl))) rfl <|
            OSuf.call rfl (by simp only [aopnds, lk] <;> rfl) en10 (ack_c _ h0.next S R hP _ hO.base (by omega) (by omega) (by have := hO.len; omega) hO.w.1 (by have := hO.w; omega)) ?_
        rintro _ h2 ⟨rfl, hP2, hF2⟩
        refine ⟨_, rfl, ?_⟩
        refine 
            OSuf.nil <| BQ.normal <| SQ.normal ?_
        refine W.reg <| 
            OSuf.aop tyOK rfl (so_move (by simp only [lk] <;> rfl)) rfl <|
            OSuf.aop tyOK rfl (so_bin (by simp only [lk] <;> rfl) (by simp only [lk] <;> rfl) (bi_w bi_add (by first | (simp only [w1, w2, w3] <;> rfl) | rfl))) rfl <|
            OSuf.aop tyOK rfl (so_assign (by simp only [lk] <;> rfl)) rfl <|
            OSuf.nil <| ?_
        -- leaf: round
        refine LQ.normal (m := n - 1) (L := [(1, .slice (some ⟨r, 0, none⟩) l1.length 0), (2, .slice b2 l2.length 0), (7, P0 h0.next), (8, U64 N), (10, I64 (k + 1 : Nat))]) (by omega) ?_ ⟨k + 1, _, R, by omega, hP2, hO.ack _, hR.step hP hF2, rfl⟩
        simp only [HasA, Tr.get_put, Nat.reduceEqDiff, reduceIte, w2, and_self]
      · refine W.seq <| W.seq <| W.reg <| 
            OSuf.aop tyOK rfl (so_move (by simp only [lk] <;> rfl)) rfl <|
            OSuf.aop tyOK rfl (so_move (by simp only [lk] <;> rfl)) rfl <|
            OSuf.aop tyOK rfl (so_len (by simp only [aopnds, lk] <;> rfl) (by simp (disch := first | assumption | omega | (simp only [nx] <;> omega) | fail) only [aLenOf, ty22, hpl] <;> rfl)) rfl <|
            OSuf.aopT tyOK rfl (so_bin (by simp only [lk] <;> rfl) (by simp only [lk] <;> rfl) bi_lss) (fun _ => rfl) (by first | rfl | assumption | ((simp only [bl]) <;> first | done | assumption | omega) | (simp []; done) | (simp []; omega)) <|
            OSuf.aopT tyOK rfl (so_move (by simp only [lk] <;> rfl)) (fun _ => rfl) rfl <|
            OSuf.aop tyOK (aguard_of rfl rfl (by simp only [lk] <;> rfl) rfl) (so_move (by simp only [lk] <;> rfl)) rfl <|
            OSuf.aopF tyOK (aguard_of rfl rfl (by simp only [lk] <;> rfl) rfl) (so_bin (by simp only [lk] <;> rfl) (by simp only [lk] <;> rfl) bi_lss) (fun _ => rfl) (by first | rfl | assumption | ((simp only [bl]) <;> first | done | assumption | omega) | (simp []; done) | (simp []; omega)) <|
            OSuf.aopF tyOK rfl (so_pick (by simp only [lk] <;> rfl) (by simp only [lk, cond_true, cond_false] <;> rfl)) (fun _ => rfl) rfl <|
            OSuf.nil <| SQ.normal ?_
        refine W.no (by simp only [lk] <;> rfl) <| CWp.exit <| SQ.exit <| LQ.exit <| BQ.exit <| ?_
        -- leaf: cut
        exact out _ (by simp only [HasA, Tr.get_put, Nat.reduceEqDiff, reduceIte, and_self])
    · refine W.seq <| W.seq <| W.reg <| 
          OSuf.aop tyOK rfl (so_move (by simp only [lk] <;> rfl)) rfl <|
          OSuf.aop tyOK rfl (so_move (by simp only [lk] <;> rfl)) rfl <|
          OSuf.aop tyOK rfl (so_len (by simp only [aopnds, lk] <;> rfl) (by simp (disch := first | assumption | omega | (simp only [nx] <;> omega) | fail) only [aLenOf, ty22, hpl] <;> rfl)) rfl <|
          OSuf.aopF tyOK rfl (so_bin (by simp only [lk] <;> rfl) (by simp only [lk] <;> rfl) bi_lss) (fun _ => rfl) (by first | rfl | assumption | ((simp only [bl]) <;> first | done | assumption | omega) | (simp []; done) | (simp []; omega)) <|
          OSuf.aopF tyOK rfl (so_move (by simp only [lk] <;> rfl)) (fun _ => rfl) rfl <|
          OSuf.pass (aguard_of rfl rfl (by simp only [lk] <;> rfl) rfl) rfl <|
          OSuf.pass (aguard_of rfl rfl (by simp only [lk] <;> rfl) rfl) rfl <|
          OSuf.aopF tyOK rfl (so_pick (by simp only [lk] <;> rfl) (by simp only [lk, cond_true, cond_false] <;> rfl)) (fun _ => rfl) rfl <|
          OSuf.nil <| SQ.normal ?_
      refine W.no (by simp only [lk] <;> rfl) <| CWp.exit <| SQ.exit <| LQ.exit <| BQ.exit <| ?_
      -- leaf: cut
      exact out _ (by simp only [HasA, Tr.get_put, Nat.reduceEqDiff, reduceIte, and_self])
  clear hP hO hR S R h
  rintro L a' h ha ⟨S, R, hP, hO, hR, rfl⟩
  refine SQ.normal <| CWp.known ha ?_
  simp only [mkA]
  refine W.seq <| W.seq <| W.reg <| 
      OSuf.aop tyOK rfl (so_assign (by simp only [lk] <;> rfl)) rfl <|
      OSuf.nil <| SQ.normal ?_
  -- leaf: loop
  refine W.cut (fun L h => L = []) (W.block (W.loop (fun n L h => ∃ (k j : Nat) (S : PS) (R : Option Nat), n + k = l2.length ∧ k = j ∧ j ≤ 20 ∧ PA h h0.next S R ∧ Okp S (100 + (N + j : Nat)) ∧ Ro h0 h ∧
      L = [(2, .slice b2 l2.length 0), (7, P0 h0.next), (8, U64 (N + j : Nat)), (11, I64 k)]) (n := l2.length)
    ⟨0, 0, S, R, by omega, rfl, by omega, hP, hO, hR, rfl⟩ ?_ ?_)) ?_
  · simp [HasA, Tr.get_put]
  · clear hP hO hR S R h
    rintro n L h ⟨k, j, S, R, hn, rfl, hj, hP, hO, hR, rfl⟩
    simp only [mkA]
    by_cases h1 : (k : Int) < (l2.length : Int)
    · have w2 : IntKind.i64.wrap ((k : Int) + 1) = ((k + 1 : Nat) : Int) := by rw [wrap_i64 (by omega) (by omega)]; omega
      by_cases h2 : (k : Int) < 20
      · obtain ⟨r, z, rfl, hrn, hg, _, hz, hwf⟩ := hr2 k (by omega)
        have hg1 := hR.2 r _ hrn hg
        have hc : (0 ≤ (k : Int) ∧ (k : Int) < (l2.length : Int)) := by omega
        have hz0 := lit_u8 hwf
        have hzm : 0 ≤ z.tmod 50 ∧ z.tmod 50 < 50 := by rw [Int.tmod_eq_emod_of_nonneg hz0.1]; omega
        have w1 : IntKind.u64.wrap (z.tmod 50) = z.tmod 50 := wrap_u64 (by omega) (by omega)
        have w3 : IntKind.u64.wrap (100 + z.tmod 50) = 100 + z.tmod 50 := wrap_u64 (by omega) (by omega)
        have w4 : IntKind.u64.wrap (100 + ((N + k : Nat) : Int)) = 100 + (N + k : Nat) := wrap_u64 (by omega) (by omega)
        have w5 : IntKind.u64.wrap (100 + ((N + k : Nat) : Int) + 2) = 100 + (N + k : Nat) + 2 := wrap_u64 (by omega) (by omega)
        have w6 : IntKind.u64.wrap (100 + ((N + k : Nat) : Int) + 1) = 100 + (N + k : Nat) + 1 := wrap_u64 (by omega) (by omega)
        have w7 : IntKind.u64.wrap (((N + k : Nat) : Int) + 1) = ((N + (k + 1) : Nat) : Int) := by rw [wrap_u64 (by omega) (by omega)]; omega
        obtain ⟨t, ht, htl, hO2, hpf⟩ := hO.trim (100 + z.tmod 50)
        refine W.seq <| W.seq <| W.reg <| 
            OSuf.aop tyOK rfl (so_move (by simp only [lk] <;> rfl)) rfl <|
            OSuf.aop tyOK rfl (so_move (by simp only [lk] <;> rfl)) rfl <|
            OSuf.aop tyOK rfl (so_len (by simp only [aopnds, lk] <;> rfl) (by simp (disch := first | assumption | omega | (simp only [nx] <;> omega) | fail) only [aLenOf, ty22, hpl, hc, and_self, if_true, Int.toNat_natCast, hg1, Nat.mul_one, Nat.zero_add, hz, hpf] <;> rfl)) rfl <|
            OSuf.aopT tyOK rfl (so_bin (by simp only [lk] <;> rfl) (by simp only [lk] <;> rfl) bi_lss) (fun _ => rfl) (by first | rfl | assumption | ((simp only [bl, hc, and_self, if_true, Int.toNat_natCast, hg1, Nat.mul_one, Nat.zero_add, hz, hpf]) <;> first | done | assumption | omega) | (simp [hc, and_self, if_true, Int.toNat_natCast, hg1, Nat.mul_one, Nat.zero_add, hz, hpf]; done) | (simp [hc, and_self, if_true, Int.toNat_natCast, hg1, Nat.mul_one, Nat.zero_add, hz, hpf]; omega)) <|
            OSuf.aopT tyOK rfl (so_move (by simp only [lk] <;> rfl)) (fun _ => rfl) rfl <|
            OSuf.aop tyOK (aguard_of rfl rfl (by simp only [lk] <;> rfl) rfl) (so_move (by simp only [lk] <;> rfl)) rfl <|
            OSuf.aopT tyOK (aguard_of rfl rfl (by simp only [lk] <;> rfl) rfl) (so_bin (by simp only [lk] <;> rfl) (by simp only [lk] <;> rfl) bi_lss) (fun _ => rfl) (by first | rfl | assumption | ((simp only [bl, hc, and_self, if_true, Int.toNat_natCast, hg1, Nat.mul_one, Nat.zero_add, hz, hpf]) <;> first | done | assumption | omega) | (simp [hc, and_self, if_true, Int.toNat_natCast, hg1, Nat.mul_one, Nat.zero_add, hz, hpf]; done) | (simp [hc, and_self, if_true, Int.toNat_natCast, hg1, Nat.mul_one, Nat.zero_add, hz, hpf]; omega)) <|
            OSuf.aopT tyOK rfl (so_pick (by simp only [lk] <;> rfl) (by simp only [lk, cond_true, cond_false] <;> rfl)) (fun _ => rfl) rfl <|
            OSuf.nil <| SQ.normal ?_
        refine W.yes (by simp only [lk] <;> rfl) <| CWp.skip <| SQ.normal ?_
        refine W.seq <| W.block <| W.seq <| W.reg <| 
            OSuf.aop tyOK rfl (so_move (by simp only [lk] <;> rfl)) rfl <|
            OSuf.callD rfl (by simp only [aopnds, lk] <;> rfl) en9 (prefix_c _ h0.next S R hP (by have := hO.len; omega)) rfl <|
            OSuf.aop tyOK rfl (so_move (by simp only [lk] <;> rfl)) rfl <|
            OSuf.callD rfl (by simp only [aopnds, lk] <;> rfl) en12 (waits_c _ h0.next S R hP) rfl <|
            OSuf.aop tyOK rfl (so_assign (by simp only [lk] <;> rfl)) rfl <|
            OSuf.aop tyOK rfl (so_assign (by simp only [lk] <;> rfl)) rfl <|
            OSuf.nil <| SQ.normal ?_
        refine W.seq <| W.reg <| 
            OSuf.aop tyOK rfl (so_move (by simp only [lk] <;> rfl)) rfl <|
            OSuf.aop tyOK rfl (so_move (by simp only [lk] <;> rfl)) rfl <|
            OSuf.aop tyOK rfl (so_move (by simp only [lk] <;> rfl)) rfl <|
            OSuf.aop tyOK rfl (so_indexAddr (by simp only [lk] <;> rfl) (by simp only [lk] <;> rfl) (by simp (disch := first | assumption | omega | (simp only [nx] <;> omega) | fail) only [aIndexAddr, ty22, ty5, hpl, hc, and_self, if_true, Int.toNat_natCast, hg1, Nat.mul_one, Nat.zero_add, hz, hpf] <;> rfl)) rfl <|
            OSuf.aop tyOK rfl (so_load (by simp only [lk] <;> rfl) (by simp (disch := first | assumption | omega | (simp only [nx] <;> omega) | fail) only [aLoad, ty5, rowOf, hpl, hc, and_self, if_true, Int.toNat_natCast, hg1, Nat.mul_one, Nat.zero_add, hz, hpf] <;> rfl)) rfl <|
            OSuf.aop tyOK rfl (so_bin (by simp only [lk] <;> rfl) (by simp only [lk] <;> rfl) (bi_w (bi_rem (by decide)) (by first | (simp only [w1, w2, w3, w4, w5, w6, w7] <;> rfl) | rfl))) rfl <|
            OSuf.aop tyOK rfl (so_conw (so_conv tyOK (by simp only [lk] <;> rfl) ty5 ⟨_, rfl⟩ ty25 rfl) (by first | (simp only [w1, w2, w3, w4, w5, w6, w7] <;> rfl) | rfl)) rfl <|
            OSuf.aop tyOK rfl (so_bin (by simp only [lk] <;> rfl) (by simp only [lk] <;> rfl) (bi_w bi_add (by first | (simp only [w1, w2, w3, w4, w5, w6, w7] <;> rfl) | rfl))) rfl <|
            OSuf.call rfl (by simp only [aopnds, lk] <;> rfl) en14 (trim_c _ h0.next S R hP _ t hO.base (by have := hO.sum; omega) (by omega) (by omega) (by have := hO.len; omega) ht htl) ?_
        rintro _ h2 ⟨hP2, hF2⟩
        refine ⟨_, rfl, ?_⟩
        refine 
            OSuf.nil <| SQ.normal ?_
        refine W.seq <| W.seq <| W.reg <| 
            OSuf.aop tyOK rfl (so_move (by simp only [lk] <;> rfl)) rfl <|
            OSuf.callD rfl (by simp only [aopnds, lk] <;> rfl) en9 (prefix_c _ h0.next _ R hP2 (by have := hO2.len; omega)) rfl <|
            OSuf.aop tyOK rfl (so_move (by simp only [lk] <;> rfl)) rfl <|
            OSuf.aopF tyOK rfl (so_bin (by simp only [lk] <;> rfl) (by simp only [lk] <;> rfl) bi_neq) (fun _ => rfl) (by first | rfl | assumption | ((simp only [bl, hc, and_self, if_true, Int.toNat_natCast, hg1, Nat.mul_one, Nat.zero_add, hz, hpf]) <;> first | done | assumption | omega) | (simp [hc, and_self, if_true, Int.toNat_natCast, hg1, Nat.mul_one, Nat.zero_add, hz, hpf]; done) | (simp [hc, and_self, if_true, Int.toNat_natCast, hg1, Nat.mul_one, Nat.zero_add, hz, hpf]; omega)) <|
            OSuf.aopF tyOK rfl (so_move (by simp only [lk] <;> rfl)) (fun _ => rfl) rfl <|
            OSuf.aop tyOK (aguard_of rfl rfl (by simp only [lk] <;> rfl) rfl) (so_move (by simp only [lk] <;> rfl)) rfl <|
            OSuf.callD (aguard_of rfl rfl (by simp only [lk] <;> rfl) rfl) (by simp only [aopnds, lk] <;> rfl) en12 (waits_c _ h0.next _ R hP2) rfl <|
            OSuf.aop tyOK (aguard_of rfl rfl (by simp only [lk] <;> rfl) rfl) (so_move (by simp only [lk] <;> rfl)) rfl <|
            OSuf.aopF tyOK (aguard_of rfl rfl (by simp only [lk] <;> rfl) rfl) (so_bin (by simp only [lk] <;> rfl) (by simp only [lk] <;> rfl) bi_neq) (fun _ => rfl) (by first | rfl | assumption | ((simp only [bl, hc, and_self, if_true, Int.toNat_natCast, hg1, Nat.mul_one, Nat.zero_add, hz, hpf]) <;> first | done | assumption | omega) | (simp [hc, and_self, if_true, Int.toNat_natCast, hg1, Nat.mul_one, Nat.zero_add, hz, hpf]; done) | (simp [hc, and_self, if_true, Int.toNat_natCast, hg1, Nat.mul_one, Nat.zero_add, hz, hpf]; omega)) <|
            OSuf.aopF tyOK rfl (so_pick (by simp only [lk] <;> rfl) (by simp only [lk, cond_true, cond_false] <;> rfl)) (fun _ => rfl) rfl <|
            OSuf.aopF tyOK rfl (so_move (by simp only [lk] <;> rfl)) (fun _ => rfl) rfl <|
            OSuf.aop tyOK (aguard_of rfl rfl (by simp only [lk] <;> rfl) rfl) (so_move (by simp only [lk] <;> rfl)) rfl <|
            OSuf.aop tyOK (aguard_of rfl rfl (by simp only [lk] <;> rfl) rfl) (so_move (by simp only [lk] <;> rfl)) rfl <|
            OSuf.aop tyOK (aguard_of rfl rfl (by simp only [lk] <;> rfl) rfl) (so_bin (by simp only [lk] <;> rfl) (by simp only [lk] <;> rfl) (bi_w bi_add (by first | (simp only [w1, w2, w3, w4, w5, w6, w7] <;> rfl) | rfl))) rfl <|
            OSuf.aop tyOK (aguard_of rfl rfl (by simp only [lk] <;> rfl) rfl) (so_bin (by simp only [lk] <;> rfl) (by simp only [lk] <;> rfl) (bi_w bi_add (by first | (simp only [w1, w2, w3, w4, w5, w6, w7] <;> rfl) | rfl))) rfl <|
            OSuf.aop tyOK (aguard_of rfl rfl (by simp only [lk] <;> rfl) rfl) (so_build (by simp only [aparts, lk] <;> rfl) (by simp (disch := first | assumption | omega | (simp only [nx] <;> omega) | fail) only [aBuild, ty29, hpl, hc, and_self, if_true, Int.toNat_natCast, hg1, Nat.mul_one, Nat.zero_add, hz, hpf] <;> rfl)) rfl <|
            OSuf.callD (aguard_of rfl rfl (by simp only [lk] <;> rfl) rfl) (by simp only [aopnds, lk] <;> rfl) en7 (add_bad _ h0.next _ R hP2 _ _ _ _ hO2.base (by have := hO2.sum; omega) (by have := hO2.len; omega) (by have := hO2.sum; omega)) rfl <|
            OSuf.aopF tyOK (aguard_of rfl rfl (by simp only [lk] <;> rfl) rfl) (so_bin (by simp only [lk] <;> rfl) (by simp only [lk] <;> rfl) bi_neq) (fun _ => rfl) (by first | rfl | assumption | ((simp only [bl, hc, and_self, if_true, Int.toNat_natCast, hg1, Nat.mul_one, Nat.zero_add, hz, hpf]) <;> first | done | assumption | omega) | (simp [hc, and_self, if_true, Int.toNat_natCast, hg1, Nat.mul_one, Nat.zero_add, hz, hpf]; done) | (simp [hc, and_self, if_true, Int.toNat_natCast, hg1, Nat.mul_one, Nat.zero_add, hz, hpf]; omega)) <|
            OSuf.aopF tyOK rfl (so_pick (by simp only [lk] <;> rfl) (by simp only [lk, cond_true, cond_false] <;> rfl)) (fun _ => rfl) rfl <|
            OSuf.nil <| SQ.normal ?_
        refine W.no (by simp only [lk] <;> rfl) <| CWp.skip <| SQ.normal ?_
        refine W.seq <| W.seq <| W.reg <| 
            OSuf.aop tyOK rfl (so_move (by simp only [lk] <;> rfl)) rfl <|
            OSuf.aop tyOK rfl (so_move (by simp only [lk] <;> rfl)) rfl <|
            OSuf.aop tyOK rfl (so_bin (by simp only [lk] <;> rfl) (by simp only [lk] <;> rfl) (bi_w bi_add (by first | (simp only [w1, w2, w3, w4, w5, w6, w7] <;> rfl) | rfl))) rfl <|
            OSuf.aop tyOK rfl (so_bin (by simp only [lk] <;> rfl) (by simp only [lk] <;> rfl) (bi_w bi_add (by first | (simp only [w1, w2, w3, w4, w5, w6, w7] <;> rfl) | rfl))) rfl <|
            OSuf.aop tyOK rfl (so_build (by simp only [aparts, lk] <;> rfl) (by simp (disch := first | assumption | omega | (simp only [nx] <;> omega) | fail) only [aBuild, ty29, hpl, hc, and_self, if_true, Int.toNat_natCast, hg1, Nat.mul_one, Nat.zero_add, hz, hpf] <;> rfl)) rfl <|
            OSuf.call rfl (by simp only [aopnds, lk] <;> rfl) en7 (add_c _ h0.next _ R hP2 _ _ _ _ hO2.base (by have := hO2.sum; omega) (by have := hO2.len; omega) hO2.w.1 (by have := hO2.w; omega) (by have := hO2.sum; omega)) ?_
        rintro _ h3 ⟨rfl, R3, hP3, hF3⟩
        refine ⟨_, rfl, ?_⟩
        refine 
            OSuf.aopF tyOK rfl (so_bin (by simp only [lk] <;> rfl) (by simp only [lk] <;> rfl) bi_neq) (fun _ => rfl) (by first | rfl | assumption | ((simp only [bl, hc, and_self, if_true, Int.toNat_natCast, hg1, Nat.mul_one, Nat.zero_add, hz, hpf]) <;> first | done | assumption | omega) | (simp [hc, and_self, if_true, Int.toNat_natCast, hg1, Nat.mul_one, Nat.zero_add, hz, hpf]; done) | (simp [hc, and_self, if_true, Int.toNat_natCast, hg1, Nat.mul_one, Nat.zero_add, hz, hpf]; omega)) <|
            OSuf.nil <| SQ.normal ?_
        refine W.no (by simp only [lk] <;> rfl) <| CWp.skip <| SQ.normal ?_
        refine W.reg <| 
            OSuf.aop tyOK rfl (so_move (by simp only [lk] <;> rfl)) rfl <|
            OSuf.aop tyOK rfl (so_bin (by simp only [lk] <;> rfl) (by simp only [lk] <;> rfl) (bi_w bi_add (by first | (simp only [w1, w2, w3, w4, w5, w6, w7] <;> rfl) | rfl))) rfl <|
            OSuf.aop tyOK rfl (so_assign (by simp only [lk] <;> rfl)) rfl <|
            OSuf.nil <| BQ.normal <| SQ.normal ?_
        refine W.reg <| 
            OSuf.aop tyOK rfl (so_move (by simp only [lk] <;> rfl)) rfl <|
            OSuf.aop tyOK rfl (so_bin (by simp only [lk] <;> rfl) (by simp only [lk] <;> rfl) (bi_w bi_add (by first | (simp only [w1, w2, w3, w4, w5, w6, w7] <;> rfl) | rfl))) rfl <|
            OSuf.aop tyOK rfl (so_assign (by simp only [lk] <;> rfl)) rfl <|
            OSuf.nil <| ?_
        -- leaf: round
        refine LQ.normal (m := n - 1) (L := [(2, .slice (some ⟨r, 0, none⟩) l2.length 0), (7, P0 h0.next), (8, U64 (N + (k + 1) : Nat)), (11, I64 (k + 1 : Nat))]) (by omega) ?_ ⟨k + 1, k + 1, _, R3, by omega, rfl, by omega, hP3, ?_, (hR.step hP hF2).step hP2 hF3, rfl⟩
        · simp only [HasA, Tr.get_put, Nat.reduceEqDiff, reduceIte, w2, w7, and_self]
        · have := hO2.add (by omega) ⟨#[]⟩ ⟨#[]⟩ false
          have e : 100 + ((N + k : Nat) : Int) + 1 = 100 + (N + (k + 1) : Nat) := by omega
          rw [e] at this
          rw [e]
          exact this
      · refine W.seq <| W.seq <| W.reg <| 
            OSuf.aop tyOK rfl (so_move (by simp only [lk] <;> rfl)) rfl <|
            OSuf.aop tyOK rfl (so_move (by simp only [lk] <;> rfl)) rfl <|
            OSuf.aop tyOK rfl (so_len (by simp only [aopnds, lk] <;> rfl) (by simp (disch := first | assumption | omega | (simp only [nx] <;> omega) | fail) only [aLenOf, ty22, hpl] <;> rfl)) rfl <|
            OSuf.aopT tyOK rfl (so_bin (by simp only [lk] <;> rfl) (by simp only [lk] <;> rfl) bi_lss) (fun _ => rfl) (by first | rfl | assumption | ((simp only [bl]) <;> first | done | assumption | omega) | (simp []; done) | (simp []; omega)) <|
            OSuf.aopT tyOK rfl (so_move (by simp only [lk] <;> rfl)) (fun _ => rfl) rfl <|
            OSuf.aop tyOK (aguard_of rfl rfl (by simp only [lk] <;> rfl) rfl) (so_move (by simp only [lk] <;> rfl)) rfl <|
            OSuf.aopF tyOK (aguard_of rfl rfl (by simp only [lk] <;> rfl) rfl) (so_bin (by simp only [lk] <;> rfl) (by simp only [lk] <;> rfl) bi_lss) (fun _ => rfl) (by first | rfl | assumption | ((simp only [bl]) <;> first | done | assumption | omega) | (simp []; done) | (simp []; omega)) <|
            OSuf.aopF tyOK rfl (so_pick (by simp only [lk] <;> rfl) (by simp only [lk, cond_true, cond_false] <;> rfl)) (fun _ => rfl) rfl <|
            OSuf.nil <| SQ.normal ?_
        refine W.no (by simp only [lk] <;> rfl) <| CWp.exit <| SQ.exit <| LQ.exit <| BQ.exit <| ?_
        -- leaf: cut
        exact NQ.normal (L := []) trivial rfl
    · refine W.seq <| W.seq <| W.reg <| 
          OSuf.aop tyOK rfl (so_move (by simp only [lk] <;> rfl)) rfl <|
          OSuf.aop tyOK rfl (so_move (by simp only [lk] <;> rfl)) rfl <|
          OSuf.aop tyOK rfl (so_len (by simp only [aopnds, lk] <;> rfl) (by simp (disch := first | assumption | omega | (simp only [nx] <;> omega) | fail) only [aLenOf, ty22, hpl] <;> rfl)) rfl <|
          OSuf.aopF tyOK rfl (so_bin (by simp only [lk] <;> rfl) (by simp only [lk] <;> rfl) bi_lss) (fun _ => rfl) (by first | rfl | assumption | ((simp only [bl]) <;> first | done | assumption | omega) | (simp []; done) | (simp []; omega)) <|
          OSuf.aopF tyOK rfl (so_move (by simp only [lk] <;> rfl)) (fun _ => rfl) rfl <|
          OSuf.pass (aguard_of rfl rfl (by simp only [lk] <;> rfl) rfl) rfl <|
          OSuf.pass (aguard_of rfl rfl (by simp only [lk] <;> rfl) rfl) rfl <|
          OSuf.aopF tyOK rfl (so_pick (by simp only [lk] <;> rfl) (by simp only [lk, cond_true, cond_false] <;> rfl)) (fun _ => rfl) rfl <|
          OSuf.nil <| SQ.normal ?_
      refine W.no (by simp only [lk] <;> rfl) <| CWp.exit <| SQ.exit <| LQ.exit <| BQ.exit <| ?_
      -- leaf: cut
      exact NQ.normal (L := []) trivial rfl
  rintro L a' h ha rfl
  refine SQ.normal <| CWp.known ha ?_
  simp only [mkA]
  refine W.seq <| W.reg <| 
      OSuf.callD rfl (by simp only [aopnds, lk] <;> rfl) en13 (works_c _) rfl <|
      OSuf.aopT tyOK rfl (so_assign (by simp only [lk] <;> rfl)) (fun _ => rfl) rfl <|
      OSuf.nil <| SQ.normal ?_
  refine CWp.ret <| FQ.ret (by simp only [aRet, Try.f4, aResults, aResult, lk] <;> rfl) ?_
  -- leaf: end
  rfl
end Go.Proofs.Ythjeoohlknajpaa
