/-
  The law PostSure, walked.
-/
import Derived.Test.YthjeoohlknajpaaPostN
import Derived.Test.YthjeoohlknajpaaPostT
namespace Go.Proofs.Ythjeoohlknajpaa
open Go.Ab
set_option linter.unusedSimpArgs false
set_option linter.unusedVariables false
set_option maxRecDepth 10000
set_option maxHeartbeats 4000000

/-- What Post is between the steps: N operations, none trimmed. -/
structure Sure (h : AHeap) (p : Nat) (S : PS) (R : Option Nat) (N : Nat) (now : Int) (h0 : AHeap) : Prop where
  pa : PA h p S R
  ok : Okp S N
  base : S.base = 0
  ats : Ats now S.ops
  ro : Ro h0 h
theorem PA.rlt {h : AHeap} {p : Nat} {S : PS} {R : Option Nat} (hP : PA h p S R) : ∀ r, R = some r → r < h.next := by
  intro r hr
  obtain ⟨_, s, _, hs⟩ := hP
  cases hs with
  | none => cases hr
  | some hl hn hp hg => cases hr; exact hn

theorem sure_c (h0 : AHeap) (m : Int) (hm0 : 0 ≤ m) (hm1 : m < 256) (b1 : Option Addr) (l1 : List Int) (hL1 : l1.length ≤ maxLen)
    (hr1 : ∀ i, i < l1.length → ∃ r z, b1 = some ⟨r, 0, none⟩ ∧ r < h0.next ∧ h0.get r = some (.ro (l1.map (Value.int .u8))) ∧ l1[i]? = some z ∧ (l1.map (Value.int .u8))[i]? = some (.int .u8 z) ∧ (Lit.int .u8 z).wf = true) :
    FWp Try.prog 3 [.int .u8 m, .slice b1 l1.length 0] h0 fun u _ => u = .bool true := by
  have hml : maxLen = 9223372036854775807 := rfl
  have hmn : 0 ≤ m.tmod 61 ∧ m.tmod 61 < 61 := by rw [Int.tmod_eq_emod_of_nonneg hm0]; omega
  obtain ⟨N, hN⟩ : ∃ N : Nat, m.tmod 61 = N := ⟨(m.tmod 61).toNat, by omega⟩
  have hN61 : N < 61 := by omega
  have wN : IntKind.u64.wrap (m.tmod 61) = N := by rw [hN]; exact wrap_u64 (by omega) (by omega)
  refine W.enter tyOK Try.func3 rfl rfl ?_
  simp only [entry]
  refine W.seq <| W.reg <| 
      OSuf.aopF tyOK rfl (so_assign (by simp only [lk] <;> rfl)) (fun _ => rfl) rfl <|
      OSuf.nil <| SQ.normal ?_
  refine W.seq <| W.reg <| 
      OSuf.callD rfl (by simp only [aopnds, lk] <;> rfl) en6 (new_c _ _) rfl <|
      OSuf.aop tyOK rfl (so_assign (by simp only [lk] <;> rfl)) rfl <|
      OSuf.nil <| SQ.normal ?_
  refine W.seq <| W.seq <| W.reg <| 
      OSuf.aop tyOK rfl (so_move (by simp only [lk] <;> rfl)) rfl <|
      OSuf.aopF tyOK rfl (so_bin (by simp only [lk] <;> rfl) (by simp only [lk] <;> rfl) (bi_nil ⟨_, _, ty23, rfl⟩)) (fun _ => rfl) rfl <|
      OSuf.nil <| SQ.normal ?_
  refine W.no (by simp only [lk] <;> rfl) <| CWp.skip <| SQ.normal ?_
  refine W.seq <| W.reg <| 
      OSuf.aop tyOK rfl (so_move (by simp only [lk] <;> rfl)) rfl <|
      OSuf.aop tyOK rfl (so_bin (by simp only [lk] <;> rfl) (by simp only [lk] <;> rfl) (bi_w (bi_rem (by decide)) (by first | (simp only [wN] <;> rfl) | rfl))) rfl <|
      OSuf.aop tyOK rfl (so_conw (so_conv tyOK (by simp only [lk] <;> rfl) ty5 ⟨_, rfl⟩ ty25 rfl) (by first | (simp only [wN] <;> rfl) | rfl)) rfl <|
      OSuf.aop tyOK rfl (so_assign (by simp only [lk] <;> rfl)) rfl <|
      OSuf.nil <| SQ.normal ?_
  refine W.seq <| W.seq <| W.reg <| 
      OSuf.aop tyOK rfl (so_assign (by simp only [lk] <;> rfl)) rfl <|
      OSuf.nil <| SQ.normal ?_
  -- leaf: loop
  have ro0 : Ro h0 (h0.new (.cells [U64 0, .slice none 0 0, I64 0] 1)) := ⟨by simp, fun q vs hq hg => by rw [AHeap.get_new_ne (by omega)]; exact hg⟩
  refine W.cut (fun L h => ∃ S R, Sure h h0.next S R N 0 h0 ∧ L = [(1, .slice b1 l1.length 0), (5, P0 h0.next), (6, U64 N)]) (W.block (W.loop (fun n L h => ∃ k S R, n + k = N ∧ Sure h h0.next S R k 0 h0 ∧
      L = [(1, .slice b1 l1.length 0), (5, P0 h0.next), (6, U64 N), (7, U64 (k + 1 : Nat))]) (n := N)
    ⟨0, _, _, by omega, ⟨new_pa h0 0, ⟨by simp, by simp, fun i o ho => by simp at ho, rfl, by simp⟩, rfl, (fun o ho => by cases ho), ro0⟩, rfl⟩ ?_ ?_)) ?_
  · simp [HasA, Tr.get_put, wN]
  · rintro n L h ⟨k, S, R, hn, ⟨hP, hO, hB, hT, hR⟩, rfl⟩
    simp only [mkA]
    have hsum := hO.sum
    have hlen := hO.len
    have hww := hO.w
    have w2 : IntKind.u64.wrap (((k + 1 : Nat) : Int) + 1) = ((k + 1 + 1 : Nat) : Int) := by rw [wrap_u64 (by omega) (by omega)]; omega
    by_cases hk : ((k + 1 : Nat) : Int) ≤ (N : Int)
    · refine W.seq <| W.seq <| W.reg <| 
          OSuf.aop tyOK rfl (so_move (by simp only [lk] <;> rfl)) rfl <|
          OSuf.aop tyOK rfl (so_move (by simp only [lk] <;> rfl)) rfl <|
          OSuf.aopT tyOK rfl (so_bin (by simp only [lk] <;> rfl) (by simp only [lk] <;> rfl) bi_leq) (fun _ => rfl) (by first | rfl | assumption | ((simp only [bl]) <;> first | done | assumption | omega) | (simp []; done) | (simp []; omega)) <|
          OSuf.nil <| SQ.normal ?_
      refine W.yes (by simp only [lk] <;> rfl) <| CWp.skip <| SQ.normal ?_
      refine W.seq <| W.block <| W.seq <| W.reg <| 
          OSuf.aop tyOK rfl (so_move (by simp only [lk] <;> rfl)) rfl <|
          OSuf.aop tyOK rfl (so_move (by simp only [lk] <;> rfl)) rfl <|
          OSuf.aop tyOK rfl (so_build (by simp only [aparts, lk] <;> rfl) (by simp (disch := first | assumption | omega | (simp only [nx] <;> omega) | fail) only [aBuild, ty29, hpl] <;> rfl)) rfl <|
          OSuf.call rfl (by simp only [aopnds, lk] <;> rfl) en7 (add_c _ h0.next S R hP _ _ _ ((k + 1 : Nat) : Int) hO.base (by omega) (by omega) hww.1 (by omega) (by omega)) ?_
      rintro _ h2 ⟨rfl, R2, hP2, hF2⟩
      refine ⟨_, rfl, ?_⟩
      refine 
          OSuf.aopF tyOK rfl (so_bin (by simp only [lk] <;> rfl) (by simp only [lk] <;> rfl) bi_neq) (fun _ => rfl) (by first | rfl | assumption | ((simp only [bl]) <;> first | done | assumption | omega) | (simp []; done) | (simp []; omega)) <|
          OSuf.nil <| SQ.normal ?_
      refine W.no (by simp only [lk] <;> rfl) <| CWp.skip <| BQ.normal <| SQ.normal ?_
      refine W.reg <| 
          OSuf.aop tyOK rfl (so_move (by simp only [lk] <;> rfl)) rfl <|
          OSuf.aop tyOK rfl (so_bin (by simp only [lk] <;> rfl) (by simp only [lk] <;> rfl) (bi_w bi_add (by first | (simp only [w2] <;> rfl) | rfl))) rfl <|
          OSuf.aop tyOK rfl (so_assign (by simp only [lk] <;> rfl)) rfl <|
          OSuf.nil <| ?_
      -- leaf: round
      refine LQ.normal (m := n - 1) (L := [(1, .slice b1 l1.length 0), (5, P0 h0.next), (6, U64 N), (7, U64 (k + 1 + 1 : Nat))]) (by omega) ?_ ⟨k + 1, _, R2, by omega, ⟨hP2, ?_, hB, ?_, hR.step hP hF2⟩, rfl⟩
      · simp only [HasA, Tr.get_put, Nat.reduceEqDiff, reduceIte, w2, and_self]
      · have := hO.add (by omega) ⟨#[]⟩ ⟨#[]⟩ false
        exact this
      · intro o ho
        rcases List.mem_append.1 ho with h9 | h9
        · exact hT o h9
        · simp at h9; subst h9; exact ⟨by simp, by simp⟩
    · refine W.seq <| W.seq <| W.reg <| 
          OSuf.aop tyOK rfl (so_move (by simp only [lk] <;> rfl)) rfl <|
          OSuf.aop tyOK rfl (so_move (by simp only [lk] <;> rfl)) rfl <|
          OSuf.aopF tyOK rfl (so_bin (by simp only [lk] <;> rfl) (by simp only [lk] <;> rfl) bi_leq) (fun _ => rfl) (by first | rfl | assumption | ((simp only [bl]) <;> first | done | assumption | omega) | (simp []; done) | (simp []; omega)) <|
          OSuf.nil <| SQ.normal ?_
      refine W.no (by simp only [lk] <;> rfl) <| CWp.exit <| SQ.exit <| LQ.exit <| BQ.exit <| ?_
      -- leaf: cut
      have : k = N := by omega
      subst this
      refine NQ.normal (L := [(1, .slice b1 l1.length 0), (5, P0 h0.next), (6, U64 k)]) ?_ ⟨S, R, ⟨hP, hO, hB, hT, hR⟩, rfl⟩
      simp only [HasA, Tr.get_put, Nat.reduceEqDiff, reduceIte, and_self]
  rintro L a' h ha ⟨S, R, hS, rfl⟩
  refine SQ.normal <| CWp.known ha ?_
  simp only [mkA]
  refine W.seq <| W.reg <| 
      OSuf.aop tyOK rfl (so_assign (by simp only [lk] <;> rfl)) rfl <|
      OSuf.nil <| SQ.normal ?_
  refine W.seq <| W.seq <| W.reg <| 
      OSuf.aop tyOK rfl (so_assign (by simp only [lk] <;> rfl)) rfl <|
      OSuf.nil <| SQ.normal ?_
  -- leaf: loop
  refine W.cut (fun L h => ∃ S R now, Sure h h0.next S R N now h0 ∧ 0 ≤ now ∧ now ≤ 160 ∧ L = [(5, P0 h0.next), (6, U64 N), (8, U64 now)]) (W.block (W.loop (fun n L h => ∃ (k : Nat) (S : PS) (R : Option Nat) (now : Int), n + k = l1.length ∧ k ≤ 40 ∧ Sure h h0.next S R N now h0 ∧ 0 ≤ now ∧ now ≤ 4 * k ∧
      L = [(1, .slice b1 l1.length 0), (5, P0 h0.next), (6, U64 N), (8, U64 now), (9, I64 k)]) (n := l1.length)
    ⟨0, S, R, 0, by omega, by omega, hS, by omega, by omega, rfl⟩ ?_ ?_)) ?_
  · simp [HasA, Tr.get_put]
  · clear hS S R h
    rintro n L h ⟨k, S, R, now, hn, hk40, ⟨hP, hO, hB, hT, hR⟩, hnow0, hnow1, rfl⟩
    simp only [mkA]
    have out : ∀ a, HasA a [(5, P0 h0.next), (6, U64 N), (8, U64 now)] → NQ (fun L h => ∃ S R now, Sure h h0.next S R N now h0 ∧ 0 ≤ now ∧ now ≤ 160 ∧ L = [(5, P0 h0.next), (6, U64 N), (8, U64 now)]) (FQ T Try.f3 fun u x => u = .bool true) .normal a h :=
      fun a ha => NQ.normal ha ⟨S, R, now, ⟨hP, hO, hB, hT, hR⟩, hnow0, by omega, rfl⟩
    by_cases h1 : (k : Int) < (l1.length : Int)
    · have w2 : IntKind.i64.wrap ((k : Int) + 1) = ((k + 1 : Nat) : Int) := by rw [wrap_i64 (by omega) (by omega)]; omega
      by_cases h2 : (k : Int) < 40
      · obtain ⟨r, z, rfl, hrn, hg, _, hz, hwf⟩ := hr1 k (by omega)
        have hg1 := hR.2 r _ hrn hg
        have hc : (0 ≤ (k : Int) ∧ (k : Int) < (l1.length : Int)) := by omega
        have hz0 := lit_u8 hwf
        have hzm : 0 ≤ z.tmod 5 ∧ z.tmod 5 < 5 := by rw [Int.tmod_eq_emod_of_nonneg hz0.1]; omega
        have w1 : IntKind.u64.wrap (z.tmod 5) = z.tmod 5 := wrap_u64 (by omega) (by omega)
        obtain ⟨now2, hnow2⟩ : ∃ x, now + z.tmod 5 = x := ⟨_, rfl⟩
        have w3 : IntKind.u64.wrap (now + z.tmod 5) = now2 := by rw [← hnow2]; exact wrap_u64 (by omega) (by omega)
        have hlen := hO.len
        have hww := hO.w
        have hT2 : Ats now2 S.ops := hT.mono (by omega)
        have hdl := dl_len now2 8 S.ops
        have hsum := hO.sum
        refine W.seq <| W.seq <| W.reg <| 
            OSuf.aop tyOK rfl (so_move (by simp only [lk] <;> rfl)) rfl <|
            OSuf.aop tyOK rfl (so_move (by simp only [lk] <;> rfl)) rfl <|
            OSuf.aop tyOK rfl (so_len (by simp only [aopnds, lk] <;> rfl) (by simp (disch := first | assumption | omega | (simp only [nx] <;> omega) | fail) only [aLenOf, ty22, hpl, hc, and_self, if_true, Int.toNat_natCast, hg1, Nat.mul_one, Nat.zero_add, hz] <;> rfl)) rfl <|
            OSuf.aopT tyOK rfl (so_bin (by simp only [lk] <;> rfl) (by simp only [lk] <;> rfl) bi_lss) (fun _ => rfl) (by first | rfl | assumption | ((simp only [bl, hc, and_self, if_true, Int.toNat_natCast, hg1, Nat.mul_one, Nat.zero_add, hz]) <;> first | done | assumption | omega) | (simp [hc, and_self, if_true, Int.toNat_natCast, hg1, Nat.mul_one, Nat.zero_add, hz]; done) | (simp [hc, and_self, if_true, Int.toNat_natCast, hg1, Nat.mul_one, Nat.zero_add, hz]; omega)) <|
            OSuf.aopT tyOK rfl (so_move (by simp only [lk] <;> rfl)) (fun _ => rfl) rfl <|
            OSuf.aop tyOK (aguard_of rfl rfl (by simp only [lk] <;> rfl) rfl) (so_move (by simp only [lk] <;> rfl)) rfl <|
            OSuf.aopT tyOK (aguard_of rfl rfl (by simp only [lk] <;> rfl) rfl) (so_bin (by simp only [lk] <;> rfl) (by simp only [lk] <;> rfl) bi_lss) (fun _ => rfl) (by first | rfl | assumption | ((simp only [bl, hc, and_self, if_true, Int.toNat_natCast, hg1, Nat.mul_one, Nat.zero_add, hz]) <;> first | done | assumption | omega) | (simp [hc, and_self, if_true, Int.toNat_natCast, hg1, Nat.mul_one, Nat.zero_add, hz]; done) | (simp [hc, and_self, if_true, Int.toNat_natCast, hg1, Nat.mul_one, Nat.zero_add, hz]; omega)) <|
            OSuf.aopT tyOK rfl (so_pick (by simp only [lk] <;> rfl) (by simp only [lk, cond_true, cond_false] <;> rfl)) (fun _ => rfl) rfl <|
            OSuf.nil <| SQ.normal ?_
        refine W.yes (by simp only [lk] <;> rfl) <| CWp.skip <| SQ.normal ?_
        refine W.seq <| W.block <| W.seq <| W.reg <| 
            OSuf.aop tyOK rfl (so_move (by simp only [lk] <;> rfl)) rfl <|
            OSuf.aop tyOK rfl (so_move (by simp only [lk] <;> rfl)) rfl <|
            OSuf.aop tyOK rfl (so_move (by simp only [lk] <;> rfl)) rfl <|
            OSuf.aop tyOK rfl (so_indexAddr (by simp only [lk] <;> rfl) (by simp only [lk] <;> rfl) (by simp (disch := first | assumption | omega | (simp only [nx] <;> omega) | fail) only [aIndexAddr, ty22, ty5, hpl, hc, and_self, if_true, Int.toNat_natCast, hg1, Nat.mul_one, Nat.zero_add, hz] <;> rfl)) rfl <|
            OSuf.aop tyOK rfl (so_load (by simp only [lk] <;> rfl) (by simp (disch := first | assumption | omega | (simp only [nx] <;> omega) | fail) only [aLoad, ty5, rowOf, hpl, hc, and_self, if_true, Int.toNat_natCast, hg1, Nat.mul_one, Nat.zero_add, hz] <;> rfl)) rfl <|
            OSuf.aop tyOK rfl (so_bin (by simp only [lk] <;> rfl) (by simp only [lk] <;> rfl) (bi_w (bi_rem (by decide)) (by first | (simp only [w1, w2, w3] <;> rfl) | rfl))) rfl <|
            OSuf.aop tyOK rfl (so_conw (so_conv tyOK (by simp only [lk] <;> rfl) ty5 ⟨_, rfl⟩ ty25 rfl) (by first | (simp only [w1, w2, w3] <;> rfl) | rfl)) rfl <|
            OSuf.aop tyOK rfl (so_bin (by simp only [lk] <;> rfl) (by simp only [lk] <;> rfl) (bi_w bi_add (by first | (simp only [w1, w2, w3] <;> rfl) | rfl))) rfl <|
            OSuf.aop tyOK rfl (so_assign (by simp only [lk] <;> rfl)) rfl <|
            OSuf.nil <| SQ.normal ?_
        refine W.seq <| W.reg <| 
            OSuf.aop tyOK rfl (so_move (by simp only [lk] <;> rfl)) rfl <|
            OSuf.aop tyOK rfl (so_move (by simp only [lk] <;> rfl)) rfl <|
            OSuf.call rfl (by simp only [aopnds, lk] <;> rfl) en8 (due_c _ h0.next S R hP now2 hlen (by omega) (by omega) hT2) ?_
        rintro u h2 ⟨hP2, hF2, hRec⟩
        obtain ⟨b, rfl, hat⟩ := recs_slice hRec
        refine ⟨_, rfl, ?_⟩
        refine 
            OSuf.aop tyOK rfl (so_assign (by simp only [lk] <;> rfl)) rfl <|
            OSuf.nil <| SQ.normal ?_
        refine W.seq <| W.seq <| W.reg <| 
            OSuf.aop tyOK rfl (so_move (by simp only [lk] <;> rfl)) rfl <|
            OSuf.aop tyOK rfl (so_len (by simp only [aopnds, lk] <;> rfl) (by simp (disch := first | assumption | omega | (simp only [nx] <;> omega) | fail) only [aLenOf, ty30, hpl, hc, and_self, if_true, Int.toNat_natCast, hg1, Nat.mul_one, Nat.zero_add, hz] <;> rfl)) rfl <|
            OSuf.aopF tyOK rfl (so_bin (by simp only [lk] <;> rfl) (by simp only [lk] <;> rfl) bi_gtr) (fun _ => rfl) (by first | rfl | assumption | ((simp only [bl, hc, and_self, if_true, Int.toNat_natCast, hg1, Nat.mul_one, Nat.zero_add, hz]) <;> first | done | assumption | omega) | (simp [hc, and_self, if_true, Int.toNat_natCast, hg1, Nat.mul_one, Nat.zero_add, hz]; done) | (simp [hc, and_self, if_true, Int.toNat_natCast, hg1, Nat.mul_one, Nat.zero_add, hz]; omega)) <|
            OSuf.nil <| SQ.normal ?_
        refine W.no (by simp only [lk] <;> rfl) <| CWp.skip <| SQ.normal ?_
        refine W.seq <| W.seq <| W.reg <| 
            OSuf.aop tyOK rfl (so_assign (by simp only [lk] <;> rfl)) rfl <|
            OSuf.nil <| SQ.normal ?_
        -- leaf: loop
        have hR2 := hR.step hP hF2
        have hO2 := hO.sn now2
        rw [← pt_nil] at hP2 hO2
        have hrlt := hP.rlt
        have hplt := hP.lt
        refine W.cut (fun L h' => ∃ S' R, Sure h' h0.next S' R N now2 h0 ∧ L = [(1, .slice (some ⟨r, 0, none⟩) l1.length 0), (5, P0 h0.next), (6, U64 N), (8, U64 now2), (9, I64 k)]) (W.block (W.loop (fun n L h' => ∃ (j : Nat) (bs : List Bool) (w : Int), n + j = (dl now2 8 S.ops).length ∧ bs.length = j ∧ PA h' h0.next ⟨S.base, pt now2 8 bs S.ops, w⟩ R ∧ Okp ⟨S.base, pt now2 8 bs S.ops, w⟩ N ∧ RecsAt h' h.next (dl now2 8 S.ops) (.slice b (dl now2 8 S.ops).length 0) ∧ Ro h0 h' ∧
            L = [(1, .slice (some ⟨r, 0, none⟩) l1.length 0), (5, P0 h0.next), (6, U64 N), (8, U64 now2), (9, I64 k), (10, .slice b (dl now2 8 S.ops).length 0), (11, I64 j)]) (n := (dl now2 8 S.ops).length)
          ⟨0, [], S.waits, by omega, rfl, hP2, hO2, hRec, hR2, rfl⟩ ?_ ?_)) ?_
        · simp [HasA, Tr.get_put]
        · clear hP2 hO2 hRec hR2 hF2 hat
          rintro n L h2 ⟨j, bs, w, hn2, hbs, hP2, hO2, hRec, hR2, rfl⟩
          simp only [mkA]
          by_cases hj : (j : Int) < ((dl now2 8 S.ops).length : Int)
          · obtain ⟨o, ho⟩ : ∃ o, (dl now2 8 S.ops)[bs.length]? = some o := ⟨(dl now2 8 S.ops)[bs.length]'(by omega), by simp⟩
            obtain ⟨i, x, g1, g2, g3, g4, g5, g6⟩ := pt_step now2 8 bs S.ops o ho
            have hxi : i < (pt now2 8 bs S.ops).length := (List.getElem?_eq_some_iff.1 g2).1
            have hxl := hO2.seqd i x g2
            have hw2 := hO2.w
            have hlen2 := hO2.len
            have hxl' : x.lsn = S.base + i + 1 := hxl
            have hpf : pref S.base (pt now2 8 bs S.ops) < o.lsn := by
              have e1 : pref S.base (pt now2 8 bs S.ops) = S.base + lead (pt now2 8 bs S.ops) := pref_lead hO2.seqd
              have e2 := lead_lt g2 g3
              omega
            obtain ⟨bb, hbb, hat⟩ := recs_slice hRec
            simp only [Value.slice.injEq] at hbb
            obtain ⟨rfl, _, _⟩ := hbb
            obtain ⟨y, rfl, hy1, hy2, hy3⟩ := hat j (by omega)
            have hlsn : (flatsR (dl now2 8 S.ops))[j * 4 + 1]? = some (U64 o.lsn) := by rw [← hbs]; exact flatsR_get ho
            have hgz := hR2.2 r _ hrn hg
            have hcj : (0 ≤ (j : Int) ∧ (j : Int) < ((dl now2 8 S.ops).length : Int)) := by omega
            have v1 : IntKind.i64.wrap z = z := wrap_i64 (by omega) (by omega)
            have v2 : IntKind.i64.wrap (z + j) = z + j := wrap_i64 (by omega) (by omega)
            have v3 : IntKind.i64.wrap ((j : Int) + 1) = ((j + 1 : Nat) : Int) := by rw [wrap_i64 (by omega) (by omega)]; omega
            have hple : ¬ o.lsn ≤ pref S.base (pt now2 8 bs S.ops) := by omega
            by_cases h3 : (z + j).tmod 3 = 0
            · obtain ⟨H, hP3, hF3, hfw⟩ := ack_e h2 h0.next ⟨S.base, pt now2 8 bs S.ops, w⟩ R hP2 i x g2 g3 hxl hO2.base (by simp only; omega) hlen2 hw2.1 hw2.2
              have hO3 := hO2.ackd g2 g3
              rw [g4] at hfw
              simp only [g5] at hP3 hO3
              refine W.seq <| W.seq <| W.reg <| 
                  OSuf.aop tyOK rfl (so_move (by simp only [lk] <;> rfl)) rfl <|
                  OSuf.aop tyOK rfl (so_move (by simp only [lk] <;> rfl)) rfl <|
                  OSuf.aop tyOK rfl (so_len (by simp only [aopnds, lk] <;> rfl) (by simp (disch := first | assumption | omega | (simp only [nx] <;> omega) | fail) only [aLenOf, ty30, hpl, hc, hcj, and_self, if_true, Int.toNat_natCast, hgz, hy3, hlsn, hz, Nat.zero_add, Nat.mul_one] <;> rfl)) rfl <|
                  OSuf.aopT tyOK rfl (so_bin (by simp only [lk] <;> rfl) (by simp only [lk] <;> rfl) bi_lss) (fun _ => rfl) (by first | rfl | assumption | ((simp only [bl, hc, hcj, and_self, if_true, Int.toNat_natCast, hgz, hy3, hlsn, hz, Nat.zero_add, Nat.mul_one]) <;> first | done | assumption | omega) | (simp [hc, hcj, and_self, if_true, Int.toNat_natCast, hgz, hy3, hlsn, hz, Nat.zero_add, Nat.mul_one]; done) | (simp [hc, hcj, and_self, if_true, Int.toNat_natCast, hgz, hy3, hlsn, hz, Nat.zero_add, Nat.mul_one]; omega)) <|
                  OSuf.nil <| SQ.normal ?_
              refine W.yes (by simp only [lk] <;> rfl) <| CWp.skip <| SQ.normal ?_
              refine W.seq <| W.block <| W.seq <| CWp.sqd tyOK mixed (ms := [0, 0, 3, 7, 15, 0, 32, 127, 255, 511, 511, 2047, 4095, 8191, 511, 32767, 65535, 131071, 262143, 524287, 524287, 524287, 3670015, 7864319, 16252927, 33554431, 67108863, 134217727, 268435455]) (by kernel_rfl) (
                  .free rfl rfl (so_move (by simp only [lk] <;> rfl)) rfl <|
                  .free rfl rfl (so_move (by simp only [lk] <;> rfl)) rfl <|
                  .free rfl rfl (so_indexAddr (by simp only [lk] <;> rfl) (by simp only [lk] <;> rfl) (by simp (disch := first | assumption | omega | (simp only [nx] <;> omega) | fail) only [aIndexAddr, ty30, ty29, hpl, hc, hcj, and_self, if_true, Int.toNat_natCast, hgz, hy3, hlsn, hz, Nat.zero_add, Nat.mul_one] <;> rfl)) rfl <|
                  .free rfl rfl (so_fieldAddr (by simp only [lk] <;> rfl) (fa_ok (k := 1) ty29 rfl rfl ty25 rfl rfl)) rfl <|
                  .read rfl rfl (so_load (by simp only [lk] <;> rfl) (by simp (disch := first | assumption | omega | (simp only [nx] <;> omega) | fail) only [aLoad, ty25, rowOf, hpl, hc, hcj, and_self, if_true, Int.toNat_natCast, hgz, hy3, hlsn, hz, Nat.zero_add, Nat.mul_one] <;> rfl)) (by first | rfl | (simp [veq, veq1, veqs]; done) | (simp [veq, veq1, veqs, splice]; done)) trivial rfl <|
                  .free rfl rfl (so_move (by simp only [lk] <;> rfl)) rfl <|
                  .call rfl rfl (fcallO (by simp only [aopnds, lk] <;> rfl) en9 (prefix_c _ h0.next ⟨S.base, pt now2 8 bs S.ops, w⟩ R hP2 (by simp only at hlen2 ⊢; omega))) rfl ⟨.inr (so_load (by simp only [lk] <;> rfl) (by simp (disch := first | assumption | omega | (simp only [nx] <;> omega) | fail) only [aLoad, ty25, rowOf, hpl, hc, hcj, and_self, if_true, Int.toNat_natCast, hgz, hy3, hlsn, hz, Nat.zero_add, Nat.mul_one] <;> rfl)), trivial⟩ rfl <|
                  .free rfl rfl (so_bw (so_bin (by simp only [lk] <;> rfl) (by simp only [lk] <;> rfl) bi_leq) (b' := false) (by simpa using hpf)) rfl <|
                  .free rfl rfl (so_move (by simp only [lk] <;> rfl)) rfl <|
                  .free (aguard_of rfl rfl (by simp only [lk] <;> rfl) rfl) rfl (so_move (by simp only [lk] <;> rfl)) rfl <|
                  .free (aguard_of rfl rfl (by simp only [lk] <;> rfl) rfl) rfl (so_move (by simp only [lk] <;> rfl)) rfl <|
                  .free (aguard_of rfl rfl (by simp only [lk] <;> rfl) rfl) rfl (so_indexAddr (by simp only [lk] <;> rfl) (by simp only [lk] <;> rfl) (by simp (disch := first | assumption | omega | (simp only [nx] <;> omega) | fail) only [aIndexAddr, ty22, ty5, hpl, hc, hcj, and_self, if_true, Int.toNat_natCast, hgz, hy3, hlsn, hz, Nat.zero_add, Nat.mul_one] <;> rfl)) rfl <|
                  .read (aguard_of rfl rfl (by simp only [lk] <;> rfl) rfl) rfl (so_load (by simp only [lk] <;> rfl) (by simp (disch := first | assumption | omega | (simp only [nx] <;> omega) | fail) only [aLoad, ty5, rowOf, hpl, hc, hcj, and_self, if_true, Int.toNat_natCast, hgz, hy3, hlsn, hz, Nat.zero_add, Nat.mul_one] <;> rfl)) (by first | rfl | (simp [veq, veq1, veqs]; done) | (simp [veq, veq1, veqs, splice]; done)) ⟨.inl rfl, trivial⟩ rfl <|
                  .read (aguard_of rfl rfl (by simp only [lk] <;> rfl) rfl) (by kernel_rfl) (so_conw (so_conv tyOK (by simp only [lk] <;> rfl) ty5 ⟨_, rfl⟩ ty3 rfl) (by first | (simp only [v1, v2, v3] <;> rfl) | rfl)) (by first | rfl | (simp [veq, veq1, veqs]; done) | (simp [veq, veq1, veqs, splice]; done)) ⟨.inl rfl, trivial⟩ rfl <|
                  .free (aguard_of rfl rfl (by simp only [lk] <;> rfl) rfl) rfl (so_move (by simp only [lk] <;> rfl)) rfl <|
                  .free (aguard_of rfl rfl (by simp only [lk] <;> rfl) rfl) rfl (so_bin (by simp only [lk] <;> rfl) (by simp only [lk] <;> rfl) (bi_w bi_add (by first | (simp only [v1, v2, v3] <;> rfl) | rfl))) rfl <|
                  .free (aguard_of rfl rfl (by simp only [lk] <;> rfl) rfl) rfl (so_bin (by simp only [lk] <;> rfl) (by simp only [lk] <;> rfl) (bi_w (bi_rem (by decide)) (by first | (simp only [v1, v2, v3] <;> rfl) | rfl))) rfl <|
                  .free (aguard_of rfl rfl (by simp only [lk] <;> rfl) rfl) rfl (so_bw (so_bin (by simp only [lk] <;> rfl) (by simp only [lk] <;> rfl) bi_eql) (b' := true) (by simpa using h3)) rfl <|
                  .free (aguard_of rfl rfl (by simp only [lk] <;> rfl) rfl) rfl (so_move (by simp only [lk] <;> rfl)) rfl <|
                  .free (aguard_of rfl rfl (by simp only [lk] <;> rfl) rfl) rfl (so_move (by simp only [lk] <;> rfl)) rfl <|
                  .free (aguard_of rfl rfl (by simp only [lk] <;> rfl) rfl) rfl (so_move (by simp only [lk] <;> rfl)) rfl <|
                  .free (aguard_of rfl rfl (by simp only [lk] <;> rfl) rfl) rfl (so_move (by simp only [lk] <;> rfl)) rfl <|
                  .free (aguard_of rfl rfl (by simp only [lk] <;> rfl) rfl) rfl (so_indexAddr (by simp only [lk] <;> rfl) (by simp only [lk] <;> rfl) (by simp (disch := first | assumption | omega | (simp only [nx] <;> omega) | fail) only [aIndexAddr, ty30, ty29, hpl, hc, hcj, and_self, if_true, Int.toNat_natCast, hgz, hy3, hlsn, hz, Nat.zero_add, Nat.mul_one] <;> rfl)) rfl <|
                  .free (aguard_of rfl rfl (by simp only [lk] <;> rfl) rfl) rfl (so_fieldAddr (by simp only [lk] <;> rfl) (fa_ok (k := 1) ty29 rfl rfl ty25 rfl rfl)) rfl <|
                  .read (aguard_of rfl rfl (by simp only [lk] <;> rfl) rfl) rfl (so_load (by simp only [lk] <;> rfl) (by simp (disch := first | assumption | omega | (simp only [nx] <;> omega) | fail) only [aLoad, ty25, rowOf, hpl, hc, hcj, and_self, if_true, Int.toNat_natCast, hgz, hy3, hlsn, hz, Nat.zero_add, Nat.mul_one] <;> rfl)) (by first | rfl | (simp [veq, veq1, veqs]; done) | (simp [veq, veq1, veqs, splice]; done)) ⟨.inl rfl, trivial⟩ rfl <|
                  .call (aguard_of rfl rfl (by simp only [lk] <;> rfl) rfl) rfl (fcallO (by simp only [aopnds, lk] <;> rfl) en10 (hfw)) rfl ⟨.inl rfl, .inl rfl, .inl rfl, .inl rfl, trivial⟩ rfl <|
                  .free (aguard_of rfl rfl (by simp only [lk] <;> rfl) rfl) rfl (so_bw (so_not (by simp only [lk] <;> rfl)) (b' := false) rfl) rfl <|
                  .free (aguard_of rfl rfl (by simp only [lk] <;> rfl) rfl) rfl (so_pick (by simp only [lk] <;> rfl) (by simp only [lk, cond_true, cond_false] <;> rfl)) rfl <|
                  .free rfl rfl (so_pick (by simp only [lk] <;> rfl) (by simp only [lk, cond_true, cond_false] <;> rfl)) rfl <|
                  .nil) <| SQ.normal ?_
              refine W.no (by simp only [lk] <;> rfl) <| CWp.skip <| BQ.normal <| SQ.normal ?_
              refine W.reg <| 
                  OSuf.aop tyOK rfl (so_move (by simp only [lk] <;> rfl)) rfl <|
                  OSuf.aop tyOK rfl (so_bin (by simp only [lk] <;> rfl) (by simp only [lk] <;> rfl) (bi_w bi_add (by first | (simp only [v1, v2, v3] <;> rfl) | rfl))) rfl <|
                  OSuf.aop tyOK rfl (so_assign (by simp only [lk] <;> rfl)) rfl <|
                  OSuf.nil <| ?_
              -- leaf: round
              refine LQ.normal (m := n - 1) (L := [(1, .slice (some ⟨r, 0, none⟩) l1.length 0), (5, P0 h0.next), (6, U64 N), (8, U64 now2), (9, I64 k), (10, .slice (some ⟨y, 0, none⟩) (dl now2 8 S.ops).length 0), (11, I64 (j + 1 : Nat))]) (by omega) ?_ ⟨j + 1, bs ++ [true], w - 1, by omega, by simp [hbs], hP3, hO3, RecsAt_keep hRec hF3.1 (fun x h1 h2 => hF3.2 x h2 (by omega) (fun e => by have := hrlt x e; omega)), hR2.step hP2 hF3, rfl⟩
              simp only [HasA, Tr.get_put, Nat.reduceEqDiff, reduceIte, v3, and_self]
            · refine W.seq <| W.seq <| W.reg <| 
                  OSuf.aop tyOK rfl (so_move (by simp only [lk] <;> rfl)) rfl <|
                  OSuf.aop tyOK rfl (so_move (by simp only [lk] <;> rfl)) rfl <|
                  OSuf.aop tyOK rfl (so_len (by simp only [aopnds, lk] <;> rfl) (by simp (disch := first | assumption | omega | (simp only [nx] <;> omega) | fail) only [aLenOf, ty30, hpl, hc, hcj, and_self, if_true, Int.toNat_natCast, hgz, hy3, hlsn, hz, Nat.zero_add, Nat.mul_one] <;> rfl)) rfl <|
                  OSuf.aopT tyOK rfl (so_bin (by simp only [lk] <;> rfl) (by simp only [lk] <;> rfl) bi_lss) (fun _ => rfl) (by first | rfl | assumption | ((simp only [bl, hc, hcj, and_self, if_true, Int.toNat_natCast, hgz, hy3, hlsn, hz, Nat.zero_add, Nat.mul_one]) <;> first | done | assumption | omega) | (simp [hc, hcj, and_self, if_true, Int.toNat_natCast, hgz, hy3, hlsn, hz, Nat.zero_add, Nat.mul_one]; done) | (simp [hc, hcj, and_self, if_true, Int.toNat_natCast, hgz, hy3, hlsn, hz, Nat.zero_add, Nat.mul_one]; omega)) <|
                  OSuf.nil <| SQ.normal ?_
              refine W.yes (by simp only [lk] <;> rfl) <| CWp.skip <| SQ.normal ?_
              refine W.seq <| W.block <| W.seq <| CWp.sqd tyOK mixed (ms := [0, 0, 3, 7, 15, 0, 32, 127, 255, 511, 511, 2047, 4095, 8191, 511, 32767, 65535, 131071, 262143, 524287, 524287, 524287, 3670015, 7864319, 16252927, 33554431, 67108863, 134217727, 268435455]) (by kernel_rfl) (
                  .free rfl rfl (so_move (by simp only [lk] <;> rfl)) rfl <|
                  .free rfl rfl (so_move (by simp only [lk] <;> rfl)) rfl <|
                  .free rfl rfl (so_indexAddr (by simp only [lk] <;> rfl) (by simp only [lk] <;> rfl) (by simp (disch := first | assumption | omega | (simp only [nx] <;> omega) | fail) only [aIndexAddr, ty30, ty29, hpl, hc, hcj, and_self, if_true, Int.toNat_natCast, hgz, hy3, hlsn, hz, Nat.zero_add, Nat.mul_one] <;> rfl)) rfl <|
                  .free rfl rfl (so_fieldAddr (by simp only [lk] <;> rfl) (fa_ok (k := 1) ty29 rfl rfl ty25 rfl rfl)) rfl <|
                  .read rfl rfl (so_load (by simp only [lk] <;> rfl) (by simp (disch := first | assumption | omega | (simp only [nx] <;> omega) | fail) only [aLoad, ty25, rowOf, hpl, hc, hcj, and_self, if_true, Int.toNat_natCast, hgz, hy3, hlsn, hz, Nat.zero_add, Nat.mul_one] <;> rfl)) (by first | rfl | (simp [veq, veq1, veqs]; done) | (simp [veq, veq1, veqs, splice]; done)) trivial rfl <|
                  .free rfl rfl (so_move (by simp only [lk] <;> rfl)) rfl <|
                  .call rfl rfl (fcallO (by simp only [aopnds, lk] <;> rfl) en9 (prefix_c _ h0.next ⟨S.base, pt now2 8 bs S.ops, w⟩ R hP2 (by simp only at hlen2 ⊢; omega))) rfl ⟨.inr (so_load (by simp only [lk] <;> rfl) (by simp (disch := first | assumption | omega | (simp only [nx] <;> omega) | fail) only [aLoad, ty25, rowOf, hpl, hc, hcj, and_self, if_true, Int.toNat_natCast, hgz, hy3, hlsn, hz, Nat.zero_add, Nat.mul_one] <;> rfl)), trivial⟩ rfl <|
                  .free rfl rfl (so_bw (so_bin (by simp only [lk] <;> rfl) (by simp only [lk] <;> rfl) bi_leq) (b' := false) (by simpa using hpf)) rfl <|
                  .free rfl rfl (so_move (by simp only [lk] <;> rfl)) rfl <|
                  .free (aguard_of rfl rfl (by simp only [lk] <;> rfl) rfl) rfl (so_move (by simp only [lk] <;> rfl)) rfl <|
                  .free (aguard_of rfl rfl (by simp only [lk] <;> rfl) rfl) rfl (so_move (by simp only [lk] <;> rfl)) rfl <|
                  .free (aguard_of rfl rfl (by simp only [lk] <;> rfl) rfl) rfl (so_indexAddr (by simp only [lk] <;> rfl) (by simp only [lk] <;> rfl) (by simp (disch := first | assumption | omega | (simp only [nx] <;> omega) | fail) only [aIndexAddr, ty22, ty5, hpl, hc, hcj, and_self, if_true, Int.toNat_natCast, hgz, hy3, hlsn, hz, Nat.zero_add, Nat.mul_one] <;> rfl)) rfl <|
                  .read (aguard_of rfl rfl (by simp only [lk] <;> rfl) rfl) rfl (so_load (by simp only [lk] <;> rfl) (by simp (disch := first | assumption | omega | (simp only [nx] <;> omega) | fail) only [aLoad, ty5, rowOf, hpl, hc, hcj, and_self, if_true, Int.toNat_natCast, hgz, hy3, hlsn, hz, Nat.zero_add, Nat.mul_one] <;> rfl)) (by first | rfl | (simp [veq, veq1, veqs]; done) | (simp [veq, veq1, veqs, splice]; done)) ⟨.inl rfl, trivial⟩ rfl <|
                  .read (aguard_of rfl rfl (by simp only [lk] <;> rfl) rfl) (by kernel_rfl) (so_conw (so_conv tyOK (by simp only [lk] <;> rfl) ty5 ⟨_, rfl⟩ ty3 rfl) (by first | (simp only [v1, v2, v3] <;> rfl) | rfl)) (by first | rfl | (simp [veq, veq1, veqs]; done) | (simp [veq, veq1, veqs, splice]; done)) ⟨.inl rfl, trivial⟩ rfl <|
                  .free (aguard_of rfl rfl (by simp only [lk] <;> rfl) rfl) rfl (so_move (by simp only [lk] <;> rfl)) rfl <|
                  .free (aguard_of rfl rfl (by simp only [lk] <;> rfl) rfl) rfl (so_bin (by simp only [lk] <;> rfl) (by simp only [lk] <;> rfl) (bi_w bi_add (by first | (simp only [v1, v2, v3] <;> rfl) | rfl))) rfl <|
                  .free (aguard_of rfl rfl (by simp only [lk] <;> rfl) rfl) rfl (so_bin (by simp only [lk] <;> rfl) (by simp only [lk] <;> rfl) (bi_w (bi_rem (by decide)) (by first | (simp only [v1, v2, v3] <;> rfl) | rfl))) rfl <|
                  .free (aguard_of rfl rfl (by simp only [lk] <;> rfl) rfl) rfl (so_bw (so_bin (by simp only [lk] <;> rfl) (by simp only [lk] <;> rfl) bi_eql) (b' := false) (by simpa using h3)) rfl <|
                  .free (aguard_of rfl rfl (by simp only [lk] <;> rfl) rfl) rfl (so_move (by simp only [lk] <;> rfl)) rfl <|
                  .skip (aguard_of rfl rfl (by simp only [lk] <;> rfl) rfl) rfl <|
                  .skip (aguard_of rfl rfl (by simp only [lk] <;> rfl) rfl) rfl <|
                  .skip (aguard_of rfl rfl (by simp only [lk] <;> rfl) rfl) rfl <|
                  .skip (aguard_of rfl rfl (by simp only [lk] <;> rfl) rfl) rfl <|
                  .skip (aguard_of rfl rfl (by simp only [lk] <;> rfl) rfl) rfl <|
                  .skip (aguard_of rfl rfl (by simp only [lk] <;> rfl) rfl) rfl <|
                  .skip (aguard_of rfl rfl (by simp only [lk] <;> rfl) rfl) rfl <|
                  .skip (aguard_of rfl rfl (by simp only [lk] <;> rfl) rfl) rfl <|
                  .free (aguard_of rfl rfl (by simp only [lk] <;> rfl) rfl) rfl (so_pick (by simp only [lk] <;> rfl) (by simp only [lk, cond_true, cond_false] <;> rfl)) rfl <|
                  .free rfl rfl (so_pick (by simp only [lk] <;> rfl) (by simp only [lk, cond_true, cond_false] <;> rfl)) rfl <|
                  .nil) <| SQ.normal ?_
              refine W.no (by simp only [lk] <;> rfl) <| CWp.skip <| BQ.normal <| SQ.normal ?_
              refine W.reg <| 
                  OSuf.aop tyOK rfl (so_move (by simp only [lk] <;> rfl)) rfl <|
                  OSuf.aop tyOK rfl (so_bin (by simp only [lk] <;> rfl) (by simp only [lk] <;> rfl) (bi_w bi_add (by first | (simp only [v1, v2, v3] <;> rfl) | rfl))) rfl <|
                  OSuf.aop tyOK rfl (so_assign (by simp only [lk] <;> rfl)) rfl <|
                  OSuf.nil <| ?_
              -- leaf: round
              refine LQ.normal (m := n - 1) (L := [(1, .slice (some ⟨r, 0, none⟩) l1.length 0), (5, P0 h0.next), (6, U64 N), (8, U64 now2), (9, I64 k), (10, .slice (some ⟨y, 0, none⟩) (dl now2 8 S.ops).length 0), (11, I64 (j + 1 : Nat))]) (by omega) ?_ ⟨j + 1, bs ++ [false], w, by omega, by simp [hbs], by rw [g6]; exact hP2, by rw [g6]; exact hO2, hRec, hR2, rfl⟩
              simp only [HasA, Tr.get_put, Nat.reduceEqDiff, reduceIte, v3, and_self]
          · refine W.seq <| W.seq <| W.reg <| 
                OSuf.aop tyOK rfl (so_move (by simp only [lk] <;> rfl)) rfl <|
                OSuf.aop tyOK rfl (so_move (by simp only [lk] <;> rfl)) rfl <|
                OSuf.aop tyOK rfl (so_len (by simp only [aopnds, lk] <;> rfl) (by simp (disch := first | assumption | omega | (simp only [nx] <;> omega) | fail) only [aLenOf, ty30, hpl] <;> rfl)) rfl <|
                OSuf.aopF tyOK rfl (so_bin (by simp only [lk] <;> rfl) (by simp only [lk] <;> rfl) bi_lss) (fun _ => rfl) (by first | rfl | assumption | ((simp only [bl]) <;> first | done | assumption | omega) | (simp []; done) | (simp []; omega)) <|
                OSuf.nil <| SQ.normal ?_
            refine W.no (by simp only [lk] <;> rfl) <| CWp.exit <| SQ.exit <| LQ.exit <| BQ.exit <| ?_
            -- leaf: cut
            refine NQ.normal (L := [(1, .slice (some ⟨r, 0, none⟩) l1.length 0), (5, P0 h0.next), (6, U64 N), (8, U64 now2), (9, I64 k)]) ?_ ⟨_, R, ⟨hP2, hO2, hB, pt_ats (by omega) _ _ _ hT2, hR2⟩, rfl⟩
            simp only [HasA, Tr.get_put, Nat.reduceEqDiff, reduceIte, and_self]
        clear hP2 hO2 hRec hR2 hF2 hat hP hO hB hT hR out hT2 hdl hrlt hplt hlen hww hsum hg1 S R h h2
        rintro L a' h ha ⟨S, R, ⟨hP, hO, hB, hT, hR⟩, rfl⟩
        have hg1 := hR.2 r _ hrn hg
        have hlen := hO.len
        have hww := hO.w
        have hsum := hO.sum
        by_cases h255 : z = 255
        · have hO2 := hO.again
          have v1 : IntKind.i64.wrap (N : Int) = N := wrap_i64 (by omega) (by omega)
          have hpf0 : pref S.base (S.ops.map anew) = 0 := by
            have e1 : pref S.base (S.ops.map anew) = S.base + lead (S.ops.map anew) := pref_lead hO2.seqd
            rw [e1, lead_anew, hB]; rfl
          refine SQ.normal <| CWp.known ha ?_
          simp only [mkA]
          refine W.seq <| W.reg <| 
              OSuf.aop tyOK rfl (so_move (by simp only [lk] <;> rfl)) rfl <|
              OSuf.aop tyOK rfl (so_move (by simp only [lk] <;> rfl)) rfl <|
              OSuf.aop tyOK rfl (so_indexAddr (by simp only [lk] <;> rfl) (by simp only [lk] <;> rfl) (by simp (disch := first | assumption | omega | (simp only [nx] <;> omega) | fail) only [aIndexAddr, ty22, ty5, hpl, hc, and_self, if_true, Int.toNat_natCast, hg1, hz, Nat.zero_add, Nat.mul_one, h255] <;> rfl)) rfl <|
              OSuf.aop tyOK rfl (so_load (by simp only [lk] <;> rfl) (by simp (disch := first | assumption | omega | (simp only [nx] <;> omega) | fail) only [aLoad, ty5, rowOf, hpl, hc, and_self, if_true, Int.toNat_natCast, hg1, hz, Nat.zero_add, Nat.mul_one, h255] <;> rfl)) rfl <|
              OSuf.aopT tyOK rfl (so_bin (by simp only [lk] <;> rfl) (by simp only [lk] <;> rfl) bi_eql) (fun _ => rfl) (by first | rfl | assumption | ((simp only [bl, hc, and_self, if_true, Int.toNat_natCast, hg1, hz, Nat.zero_add, Nat.mul_one, h255]) <;> first | done | assumption | omega) | (simp [hc, and_self, if_true, Int.toNat_natCast, hg1, hz, Nat.zero_add, Nat.mul_one, h255]; done) | (simp [hc, and_self, if_true, Int.toNat_natCast, hg1, hz, Nat.zero_add, Nat.mul_one, h255]; omega)) <|
              OSuf.nil <| SQ.normal ?_
          refine W.yes (by simp only [lk] <;> rfl) <| W.seq <| W.reg <| 
              OSuf.aop tyOK rfl (so_move (by simp only [lk] <;> rfl)) rfl <|
              OSuf.call rfl (by simp only [aopnds, lk] <;> rfl) en11 (again_c _ h0.next S R hP hlen) ?_
          rintro _ h2 ⟨hP2, hF2⟩
          refine ⟨_, rfl, ?_⟩
          refine 
              OSuf.nil <| SQ.normal ?_
          refine W.seq <| W.reg <| 
              OSuf.aop tyOK rfl (so_move (by simp only [lk] <;> rfl)) rfl <|
              OSuf.callD rfl (by simp only [aopnds, lk] <;> rfl) en12 (waits_c _ h0.next _ R hP2) rfl <|
              OSuf.aop tyOK rfl (so_move (by simp only [lk] <;> rfl)) rfl <|
              OSuf.aop tyOK rfl (so_conw (so_conv tyOK (by simp only [lk] <;> rfl) ty25 ⟨_, rfl⟩ ty3 rfl) (by first | (simp only [w2, v1] <;> rfl) | rfl)) rfl <|
              OSuf.aopF tyOK rfl (so_bin (by simp only [lk] <;> rfl) (by simp only [lk] <;> rfl) bi_neq) (fun _ => rfl) (by first | rfl | assumption | ((simp only [bl, hc, and_self, if_true, Int.toNat_natCast, hg1, hz, Nat.zero_add, Nat.mul_one, h255, hsum, hpf0]) <;> first | done | assumption | omega) | (simp [hc, and_self, if_true, Int.toNat_natCast, hg1, hz, Nat.zero_add, Nat.mul_one, h255, hsum, hpf0]; done) | (simp [hc, and_self, if_true, Int.toNat_natCast, hg1, hz, Nat.zero_add, Nat.mul_one, h255, hsum, hpf0]; omega)) <|
              OSuf.aopF tyOK rfl (so_move (by simp only [lk] <;> rfl)) (fun _ => rfl) rfl <|
              OSuf.aop tyOK (aguard_of rfl rfl (by simp only [lk] <;> rfl) rfl) (so_move (by simp only [lk] <;> rfl)) rfl <|
              OSuf.callD (aguard_of rfl rfl (by simp only [lk] <;> rfl) rfl) (by simp only [aopnds, lk] <;> rfl) en9 (prefix_c _ h0.next _ R hP2 (by simp; omega)) rfl <|
              OSuf.aopF tyOK (aguard_of rfl rfl (by simp only [lk] <;> rfl) rfl) (so_bin (by simp only [lk] <;> rfl) (by simp only [lk] <;> rfl) bi_neq) (fun _ => rfl) (by first | rfl | assumption | ((simp only [bl, hc, and_self, if_true, Int.toNat_natCast, hg1, hz, Nat.zero_add, Nat.mul_one, h255, hsum, hpf0]) <;> first | done | assumption | omega) | (simp [hc, and_self, if_true, Int.toNat_natCast, hg1, hz, Nat.zero_add, Nat.mul_one, h255, hsum, hpf0]; done) | (simp [hc, and_self, if_true, Int.toNat_natCast, hg1, hz, Nat.zero_add, Nat.mul_one, h255, hsum, hpf0]; omega)) <|
              OSuf.aopF tyOK rfl (so_pick (by simp only [lk] <;> rfl) (by simp only [lk, cond_true, cond_false] <;> rfl)) (fun _ => rfl) rfl <|
              OSuf.nil <| SQ.normal ?_
          refine W.no (by simp only [lk] <;> rfl) <| CWp.skip <| BQ.normal <| SQ.normal ?_
          refine W.reg <| 
              OSuf.aop tyOK rfl (so_move (by simp only [lk] <;> rfl)) rfl <|
              OSuf.aop tyOK rfl (so_bin (by simp only [lk] <;> rfl) (by simp only [lk] <;> rfl) (bi_w bi_add (by first | (simp only [w2, v1] <;> rfl) | rfl))) rfl <|
              OSuf.aop tyOK rfl (so_assign (by simp only [lk] <;> rfl)) rfl <|
              OSuf.nil <| ?_
          -- leaf: round
          refine LQ.normal (m := n - 1) (L := [(1, .slice (some ⟨r, 0, none⟩) l1.length 0), (5, P0 h0.next), (6, U64 N), (8, U64 now2), (9, I64 (k + 1 : Nat))]) (by omega) ?_ ⟨k + 1, _, R, now2, by omega, by omega, ⟨hP2, hO2, hB, hT.anew, hR.step hP hF2⟩, by omega, by omega, rfl⟩
          simp only [HasA, Tr.get_put, Nat.reduceEqDiff, reduceIte, w2, and_self]
        · refine SQ.normal <| CWp.known ha ?_
          simp only [mkA]
          refine W.seq <| W.reg <| 
              OSuf.aop tyOK rfl (so_move (by simp only [lk] <;> rfl)) rfl <|
              OSuf.aop tyOK rfl (so_move (by simp only [lk] <;> rfl)) rfl <|
              OSuf.aop tyOK rfl (so_indexAddr (by simp only [lk] <;> rfl) (by simp only [lk] <;> rfl) (by simp (disch := first | assumption | omega | (simp only [nx] <;> omega) | fail) only [aIndexAddr, ty22, ty5, hpl, hc, and_self, if_true, Int.toNat_natCast, hg1, hz, Nat.zero_add, Nat.mul_one] <;> rfl)) rfl <|
              OSuf.aop tyOK rfl (so_load (by simp only [lk] <;> rfl) (by simp (disch := first | assumption | omega | (simp only [nx] <;> omega) | fail) only [aLoad, ty5, rowOf, hpl, hc, and_self, if_true, Int.toNat_natCast, hg1, hz, Nat.zero_add, Nat.mul_one] <;> rfl)) rfl <|
              OSuf.aopF tyOK rfl (so_bin (by simp only [lk] <;> rfl) (by simp only [lk] <;> rfl) bi_eql) (fun _ => rfl) (by first | rfl | assumption | ((simp only [bl, hc, and_self, if_true, Int.toNat_natCast, hg1, hz, Nat.zero_add, Nat.mul_one]) <;> first | done | assumption | omega) | (simp [hc, and_self, if_true, Int.toNat_natCast, hg1, hz, Nat.zero_add, Nat.mul_one]; done) | (simp [hc, and_self, if_true, Int.toNat_natCast, hg1, hz, Nat.zero_add, Nat.mul_one]; omega)) <|
              OSuf.nil <| SQ.normal ?_
          refine W.no (by simp only [lk] <;> rfl) <| CWp.skip <| BQ.normal <| SQ.normal ?_
          refine W.reg <| 
              OSuf.aop tyOK rfl (so_move (by simp only [lk] <;> rfl)) rfl <|
              OSuf.aop tyOK rfl (so_bin (by simp only [lk] <;> rfl) (by simp only [lk] <;> rfl) (bi_w bi_add (by first | (simp only [w2] <;> rfl) | rfl))) rfl <|
              OSuf.aop tyOK rfl (so_assign (by simp only [lk] <;> rfl)) rfl <|
              OSuf.nil <| ?_
          -- leaf: round
          refine LQ.normal (m := n - 1) (L := [(1, .slice (some ⟨r, 0, none⟩) l1.length 0), (5, P0 h0.next), (6, U64 N), (8, U64 now2), (9, I64 (k + 1 : Nat))]) (by omega) ?_ ⟨k + 1, _, R, now2, by omega, by omega, ⟨hP, hO, hB, hT, hR⟩, by omega, by omega, rfl⟩
          simp only [HasA, Tr.get_put, Nat.reduceEqDiff, reduceIte, w2, and_self]
      · refine W.seq <| W.seq <| W.reg <| 
            OSuf.aop tyOK rfl (so_move (by simp only [lk] <;> rfl)) rfl <|
            OSuf.aop tyOK rfl (so_move (by simp only [lk] <;> rfl)) rfl <|
            OSuf.aop tyOK rfl (so_len (by simp only [aopnds, lk] <;> rfl) (by simp (disch := first | assumption | omega | (simp only [nx] <;> omega) | fail) only [aLenOf, ty22, hpl] <;> rfl)) rfl <|
            OSuf.aopT tyOK rfl (so_bin (by simp only [lk] <;> rfl) (by simp only [lk] <;> rfl) bi_lss) (fun _ => rfl) (by first | rfl | assumption | ((simp only [bl]) <;> first | done | assumption | omega) | (simp []; done) | (simp []; omega)) <|
            OSuf.aopT tyOK rfl (so_move (by simp only [lk] <;> rfl)) (fun _ => rfl) rfl <|
            OSuf.aop tyOK (aguard_of rfl rfl (by simp only [lk] <;> rfl) rfl) (so_move (by simp only [lk] <;> rfl)) rfl <|
            OSuf.aopF tyOK (aguard_of rfl rfl (by simp only [lk] <;> rfl) rfl) (so_bin (by simp only [lk] <;> rfl) (by simp only [lk] <;> rfl) bi_lss) (fun _ => rfl) (by first | rfl | assumption | ((simp only [bl]) <;> first | done | assumption | omega) | (simp []; done) | (simp []; omega)) <|
            OSuf.aopF tyOK rfl (so_pick (by simp only [lk] <;> rfl) (by simp only [lk, cond_true, cond_false] <;> rfl)) (fun _ => rfl) rfl <|
            OSuf.nil <| SQ.normal ?_
        refine W.no (by simp only [lk] <;> rfl) <| CWp.exit <| SQ.exit <| LQ.exit <| BQ.exit <| ?_
        -- leaf: cut
        exact out _ (by simp only [HasA, Tr.get_put, Nat.reduceEqDiff, reduceIte, and_self])
    · refine W.seq <| W.seq <| W.reg <| 
          OSuf.aop tyOK rfl (so_move (by simp only [lk] <;> rfl)) rfl <|
          OSuf.aop tyOK rfl (so_move (by simp only [lk] <;> rfl)) rfl <|
          OSuf.aop tyOK rfl (so_len (by simp only [aopnds, lk] <;> rfl) (by simp (disch := first | assumption | omega | (simp only [nx] <;> omega) | fail) only [aLenOf, ty22, hpl] <;> rfl)) rfl <|
          OSuf.aopF tyOK rfl (so_bin (by simp only [lk] <;> rfl) (by simp only [lk] <;> rfl) bi_lss) (fun _ => rfl) (by first | rfl | assumption | ((simp only [bl]) <;> first | done | assumption | omega) | (simp []; done) | (simp []; omega)) <|
          OSuf.aopF tyOK rfl (so_move (by simp only [lk] <;> rfl)) (fun _ => rfl) rfl <|
          OSuf.pass (aguard_of rfl rfl (by simp only [lk] <;> rfl) rfl) rfl <|
          OSuf.pass (aguard_of rfl rfl (by simp only [lk] <;> rfl) rfl) rfl <|
          OSuf.aopF tyOK rfl (so_pick (by simp only [lk] <;> rfl) (by simp only [lk, cond_true, cond_false] <;> rfl)) (fun _ => rfl) rfl <|
          OSuf.nil <| SQ.normal ?_
      refine W.no (by simp only [lk] <;> rfl) <| CWp.exit <| SQ.exit <| LQ.exit <| BQ.exit <| ?_
      -- leaf: cut
      exact out _ (by simp only [HasA, Tr.get_put, Nat.reduceEqDiff, reduceIte, and_self])
  clear hS S R h
  rintro L a' h ha ⟨S, R, now, ⟨hP, hO, hB, hT, hR⟩, hnow0, hnow1, rfl⟩
  have hwc := hO.waits
  have hww := hO.w
  have hcl := cnt_le S.ops
  have hsum := hO.sum
  obtain ⟨Wt, hW⟩ : ∃ Wt, cnt S.ops = Wt := ⟨_, rfl⟩
  obtain ⟨C, hC⟩ : ∃ C, (Wt + 7) / 8 = C := ⟨_, rfl⟩
  have hW60 : Wt ≤ 60 := by omega
  have hC8 : C ≤ 8 := by omega
  have u1 : IntKind.i64.wrap (S.waits + 8) = S.waits + 8 := wrap_i64 (by omega) (by omega)
  have u2 : IntKind.i64.wrap (S.waits + 8 - 1) = S.waits + 8 - 1 := wrap_i64 (by omega) (by omega)
  have u3 : IntKind.i64.wrap ((S.waits + 8 - 1).tdiv 8) = C := by
    have : (S.waits + 8 - 1).tdiv 8 = C := by rw [Int.tdiv_eq_ediv_of_nonneg (by omega)]; omega
    rw [this]; exact wrap_i64 (by omega) (by omega)
  have u4 : IntKind.i64.wrap (9 * (C : Int)) = 9 * C := wrap_i64 (by omega) (by omega)
  have u5 : IntKind.i64.wrap (9 * (C : Int) + 1) = (9 * C + 1 : Nat) := by rw [wrap_i64 (by omega) (by omega)]; omega
  refine SQ.normal <| CWp.known ha ?_
  simp only [mkA]
  refine W.seq <| W.reg <| 
      OSuf.aop tyOK rfl (so_move (by simp only [lk] <;> rfl)) rfl <|
      OSuf.callD rfl (by simp only [aopnds, lk] <;> rfl) en12 (waits_c _ h0.next S R hP) rfl <|
      OSuf.aop tyOK rfl (so_bin (by simp only [lk] <;> rfl) (by simp only [lk] <;> rfl) (bi_w bi_add (by first | (simp only [u1, u2, u3, u4, u5] <;> rfl) | rfl))) rfl <|
      OSuf.aop tyOK rfl (so_bin (by simp only [lk] <;> rfl) (by simp only [lk] <;> rfl) (bi_w bi_sub (by first | (simp only [u1, u2, u3, u4, u5] <;> rfl) | rfl))) rfl <|
      OSuf.aop tyOK rfl (so_bin (by simp only [lk] <;> rfl) (by simp only [lk] <;> rfl) (bi_w (bi_quo (by decide)) (by first | (simp only [u1, u2, u3, u4, u5] <;> rfl) | rfl))) rfl <|
      OSuf.aop tyOK rfl (so_bin (by simp only [lk] <;> rfl) (by simp only [lk] <;> rfl) (bi_w bi_mul (by first | (simp only [u1, u2, u3, u4, u5] <;> rfl) | rfl))) rfl <|
      OSuf.aop tyOK rfl (so_bin (by simp only [lk] <;> rfl) (by simp only [lk] <;> rfl) (bi_w bi_add (by first | (simp only [u1, u2, u3, u4, u5] <;> rfl) | rfl))) rfl <|
      OSuf.aop tyOK rfl (so_assign (by simp only [lk] <;> rfl)) rfl <|
      OSuf.nil <| SQ.normal ?_
  refine W.seq <| W.seq <| W.reg <| 
      OSuf.aop tyOK rfl (so_assign (by simp only [lk] <;> rfl)) rfl <|
      OSuf.nil <| SQ.normal ?_
  -- leaf: loop
  have hI : Inv now S.ops (8 * C) := by rw [← hC, ← hW]; exact Inv.start now S.ops
  refine W.cut (fun L h => ∃ S R now, Sure h h0.next S R N now h0 ∧ cnt S.ops = 0 ∧ 0 ≤ now ∧ now ≤ 300 ∧ L = [(5, P0 h0.next), (6, U64 N), (8, U64 now)]) (W.block (W.loop (fun n L h => ∃ (k : Nat) (S : PS) (R : Option Nat) (now : Int), n + k = 9 * C + 1 ∧ Sure h h0.next S R N now h0 ∧ Inv now S.ops (8 * C - k) ∧ 0 ≤ now ∧ now ≤ 160 + k ∧
      L = [(5, P0 h0.next), (6, U64 N), (8, U64 now), (12, I64 (9 * C + 1 : Nat)), (13, I64 k)]) (n := 9 * C + 1)
    ⟨0, S, R, now, by omega, ⟨hP, hO, hB, hT, hR⟩, hI, by omega, by omega, rfl⟩ ?_ ?_)) ?_
  · simp [HasA, Tr.get_put]
  · clear ha hI hP hO hB hT hR hwc hww hcl hsum hW u1 u2 u3 hnow0 hnow1 now S R h
    rintro n L h ⟨k, S, R, now, hn, ⟨hP, hO, hB, hT, hR⟩, hI, hnow0, hnow1, rfl⟩
    simp only [mkA]
    by_cases h1 : (k : Int) < ((9 * C + 1 : Nat) : Int)
    · have w2 : IntKind.i64.wrap ((k : Int) + 1) = ((k + 1 : Nat) : Int) := by rw [wrap_i64 (by omega) (by omega)]; omega
      have w3 : IntKind.u64.wrap (now + 1) = now + 1 := wrap_u64 (by omega) (by omega)
      have hI2 := hI.round hT
      have hlen := hO.len
      have hww := hO.w
      have hT2 : Ats (now + 1) S.ops := hT.mono (by omega)
      have hsum := hO.sum
      refine W.seq <| W.seq <| W.reg <| 
          OSuf.aop tyOK rfl (so_move (by simp only [lk] <;> rfl)) rfl <|
          OSuf.aop tyOK rfl (so_move (by simp only [lk] <;> rfl)) rfl <|
          OSuf.aopT tyOK rfl (so_bin (by simp only [lk] <;> rfl) (by simp only [lk] <;> rfl) bi_lss) (fun _ => rfl) (by first | rfl | assumption | ((simp only [bl]) <;> first | done | assumption | omega) | (simp []; done) | (simp []; omega)) <|
          OSuf.nil <| SQ.normal ?_
      refine W.yes (by simp only [lk] <;> rfl) <| CWp.skip <| SQ.normal ?_
      refine W.seq <| W.block <| W.seq <| W.reg <| 
          OSuf.aop tyOK rfl (so_move (by simp only [lk] <;> rfl)) rfl <|
          OSuf.aop tyOK rfl (so_bin (by simp only [lk] <;> rfl) (by simp only [lk] <;> rfl) (bi_w bi_add (by first | (simp only [w2, w3] <;> rfl) | rfl))) rfl <|
          OSuf.aop tyOK rfl (so_assign (by simp only [lk] <;> rfl)) rfl <|
          OSuf.nil <| SQ.normal ?_
      refine W.seq <| W.reg <| 
          OSuf.aop tyOK rfl (so_move (by simp only [lk] <;> rfl)) rfl <|
          OSuf.aop tyOK rfl (so_move (by simp only [lk] <;> rfl)) rfl <|
          OSuf.call rfl (by simp only [aopnds, lk] <;> rfl) en8 (due_c _ h0.next S R hP (now + 1) hlen (by omega) (by omega) hT2) ?_
      rintro u h2 ⟨hP2, hF2, hRec⟩
      obtain ⟨b, rfl, hat⟩ := recs_slice hRec
      refine ⟨_, rfl, ?_⟩
      refine 
          OSuf.aop tyOK rfl (so_assign (by simp only [lk] <;> rfl)) rfl <|
          OSuf.nil <| SQ.normal ?_
      refine W.seq <| W.reg <| 
          OSuf.aop tyOK rfl (so_assign (by simp only [lk] <;> rfl)) rfl <|
          OSuf.nil <| SQ.normal ?_
      -- leaf: loop
      have hR2 := hR.step hP hF2
      have hO2 := hO.sn (now + 1)
      rw [← pt_nil] at hP2 hO2
      have hrlt := hP.rlt
      have hplt := hP.lt
      refine W.cut (fun L h' => ∃ w R, PA h' h0.next ⟨S.base, rnd (now + 1) 8 S.ops, w⟩ R ∧ Okp ⟨S.base, rnd (now + 1) 8 S.ops, w⟩ N ∧ Ats (now + 1) (rnd (now + 1) 8 S.ops) ∧ Ro h0 h' ∧ L = [(5, P0 h0.next), (6, U64 N), (8, U64 (now + 1)), (12, I64 (9 * C + 1 : Nat)), (13, I64 k)]) (W.block (W.loop (fun n L h' => ∃ (j : Nat) (bs : List Bool) (w : Int), n + j = (dl (now + 1) 8 S.ops).length ∧ bs.length = j ∧ (∀ b ∈ bs, b = true) ∧ PA h' h0.next ⟨S.base, pt (now + 1) 8 bs S.ops, w⟩ R ∧ Okp ⟨S.base, pt (now + 1) 8 bs S.ops, w⟩ N ∧ RecsAt h' h.next (dl (now + 1) 8 S.ops) (.slice b (dl (now + 1) 8 S.ops).length 0) ∧ Ro h0 h' ∧
          L = [(5, P0 h0.next), (6, U64 N), (8, U64 (now + 1)), (12, I64 (9 * C + 1 : Nat)), (13, I64 k), (14, .slice b (dl (now + 1) 8 S.ops).length 0), (15, I64 j)]) (n := (dl (now + 1) 8 S.ops).length)
        ⟨0, [], S.waits, by omega, rfl, (fun b hb => by cases hb), hP2, hO2, hRec, hR2, rfl⟩ ?_ ?_)) ?_
      · simp [HasA, Tr.get_put]
      · clear hP2 hO2 hRec hR2 hF2 hat
        rintro n L h2 ⟨j, bs, w, hn2, hbs, hbt, hP2, hO2, hRec, hR2, rfl⟩
        simp only [mkA]
        have hdl := dl_len (now + 1) 8 S.ops
        by_cases hj : (j : Int) < ((dl (now + 1) 8 S.ops).length : Int)
        · obtain ⟨o, ho⟩ : ∃ o, (dl (now + 1) 8 S.ops)[bs.length]? = some o := ⟨(dl (now + 1) 8 S.ops)[bs.length]'(by omega), by simp⟩
          obtain ⟨i, x, g1, g2, g3, g4, g5, g6⟩ := pt_step (now + 1) 8 bs S.ops o ho
          have hxl := hO2.seqd i x g2
          have hw2 := hO2.w
          have hlen2 := hO2.len
          obtain ⟨bb, hbb, hat⟩ := recs_slice hRec
          simp only [Value.slice.injEq] at hbb
          obtain ⟨rfl, _, _⟩ := hbb
          obtain ⟨y, rfl, hy1, hy2, hy3⟩ := hat j (by omega)
          have hlsn : (flatsR (dl (now + 1) 8 S.ops))[j * 4 + 1]? = some (U64 o.lsn) := by rw [← hbs]; exact flatsR_get ho
          have hcj : (0 ≤ (j : Int) ∧ (j : Int) < ((dl (now + 1) 8 S.ops).length : Int)) := by omega
          have v3 : IntKind.i64.wrap ((j : Int) + 1) = ((j + 1 : Nat) : Int) := by rw [wrap_i64 (by omega) (by omega)]; omega
          obtain ⟨H, hP3, hF3, hfw⟩ := ack_e h2 h0.next ⟨S.base, pt (now + 1) 8 bs S.ops, w⟩ R hP2 i x g2 g3 hxl hO2.base (by simp only; omega) hlen2 hw2.1 hw2.2
          have hO3 := hO2.ackd g2 g3
          rw [g4] at hfw
          simp only [g5] at hP3 hO3
          refine W.seq <| W.seq <| W.reg <| 
              OSuf.aop tyOK rfl (so_move (by simp only [lk] <;> rfl)) rfl <|
              OSuf.aop tyOK rfl (so_move (by simp only [lk] <;> rfl)) rfl <|
              OSuf.aop tyOK rfl (so_len (by simp only [aopnds, lk] <;> rfl) (by simp (disch := first | assumption | omega | (simp only [nx] <;> omega) | fail) only [aLenOf, ty30, hpl, hcj, and_self, if_true, Int.toNat_natCast, hy3, hlsn, Nat.zero_add, Nat.mul_one] <;> rfl)) rfl <|
              OSuf.aopT tyOK rfl (so_bin (by simp only [lk] <;> rfl) (by simp only [lk] <;> rfl) bi_lss) (fun _ => rfl) (by first | rfl | assumption | ((simp only [bl, hcj, and_self, if_true, Int.toNat_natCast, hy3, hlsn, Nat.zero_add, Nat.mul_one]) <;> first | done | assumption | omega) | (simp [hcj, and_self, if_true, Int.toNat_natCast, hy3, hlsn, Nat.zero_add, Nat.mul_one]; done) | (simp [hcj, and_self, if_true, Int.toNat_natCast, hy3, hlsn, Nat.zero_add, Nat.mul_one]; omega)) <|
              OSuf.nil <| SQ.normal ?_
          refine W.yes (by simp only [lk] <;> rfl) <| CWp.skip <| SQ.normal ?_
          refine W.seq <| W.block <| W.seq <| W.reg <| 
              OSuf.aop tyOK rfl (so_move (by simp only [lk] <;> rfl)) rfl <|
              OSuf.aop tyOK rfl (so_move (by simp only [lk] <;> rfl)) rfl <|
              OSuf.aop tyOK rfl (so_move (by simp only [lk] <;> rfl)) rfl <|
              OSuf.aop tyOK rfl (so_indexAddr (by simp only [lk] <;> rfl) (by simp only [lk] <;> rfl) (by simp (disch := first | assumption | omega | (simp only [nx] <;> omega) | fail) only [aIndexAddr, ty30, ty29, hpl, hcj, and_self, if_true, Int.toNat_natCast, hy3, hlsn, Nat.zero_add, Nat.mul_one] <;> rfl)) rfl <|
              OSuf.aop tyOK rfl (so_fieldAddr (by simp only [lk] <;> rfl) (fa_ok (k := 1) ty29 rfl rfl ty25 rfl rfl)) rfl <|
              OSuf.aop tyOK rfl (so_load (by simp only [lk] <;> rfl) (by simp (disch := first | assumption | omega | (simp only [nx] <;> omega) | fail) only [aLoad, ty25, rowOf, hpl, hcj, and_self, if_true, Int.toNat_natCast, hy3, hlsn, Nat.zero_add, Nat.mul_one] <;> rfl)) rfl <|
              OSuf.callD rfl (by simp only [aopnds, lk] <;> rfl) en10 (hfw) rfl <|
              OSuf.aopF tyOK rfl (so_not (by simp only [lk] <;> rfl)) (fun _ => rfl) rfl <|
              OSuf.nil <| SQ.normal ?_
          refine W.no (by simp only [lk] <;> rfl) <| CWp.skip <| BQ.normal <| SQ.normal ?_
          refine W.reg <| 
              OSuf.aop tyOK rfl (so_move (by simp only [lk] <;> rfl)) rfl <|
              OSuf.aop tyOK rfl (so_bin (by simp only [lk] <;> rfl) (by simp only [lk] <;> rfl) (bi_w bi_add (by first | (simp only [v3] <;> rfl) | rfl))) rfl <|
              OSuf.aop tyOK rfl (so_assign (by simp only [lk] <;> rfl)) rfl <|
              OSuf.nil <| ?_
          -- leaf: round
          refine LQ.normal (m := n - 1) (L := [(5, P0 h0.next), (6, U64 N), (8, U64 (now + 1)), (12, I64 (9 * C + 1 : Nat)), (13, I64 k), (14, .slice (some ⟨y, 0, none⟩) (dl (now + 1) 8 S.ops).length 0), (15, I64 (j + 1 : Nat))]) (by omega) ?_ ⟨j + 1, bs ++ [true], w - 1, by omega, by simp [hbs], ?_, hP3, hO3, RecsAt_keep hRec hF3.1 (fun x h1 h2 => hF3.2 x h2 (by omega) (fun e => by have := hrlt x e; omega)), hR2.step hP2 hF3, rfl⟩
          · simp only [HasA, Tr.get_put, Nat.reduceEqDiff, reduceIte, v3, and_self]
          · intro b hb; rcases List.mem_append.1 hb with h9 | h9
            · exact hbt b h9
            · simpa using h9
        · refine W.seq <| W.seq <| W.reg <| 
              OSuf.aop tyOK rfl (so_move (by simp only [lk] <;> rfl)) rfl <|
              OSuf.aop tyOK rfl (so_move (by simp only [lk] <;> rfl)) rfl <|
              OSuf.aop tyOK rfl (so_len (by simp only [aopnds, lk] <;> rfl) (by simp (disch := first | assumption | omega | (simp only [nx] <;> omega) | fail) only [aLenOf, ty30, hpl] <;> rfl)) rfl <|
              OSuf.aopF tyOK rfl (so_bin (by simp only [lk] <;> rfl) (by simp only [lk] <;> rfl) bi_lss) (fun _ => rfl) (by first | rfl | assumption | ((simp only [bl]) <;> first | done | assumption | omega) | (simp []; done) | (simp []; omega)) <|
              OSuf.nil <| SQ.normal ?_
          refine W.no (by simp only [lk] <;> rfl) <| CWp.exit <| SQ.exit <| LQ.exit <| BQ.exit <| ?_
          -- leaf: cut
          have e := pt_all (now + 1) 8 bs S.ops hbt (by omega)
          have hA2 := pt_ats (by omega) 8 bs _ hT2
          rw [e] at hP2 hO2 hA2
          refine NQ.normal (L := [(5, P0 h0.next), (6, U64 N), (8, U64 (now + 1)), (12, I64 (9 * C + 1 : Nat)), (13, I64 k)]) ?_ ⟨w, R, hP2, hO2, hA2, hR2, rfl⟩
          simp only [HasA, Tr.get_put, Nat.reduceEqDiff, reduceIte, and_self]
      clear hP2 hO2 hRec hR2 hF2 hat
      rintro L a' h3 ha ⟨w, R2, hP2, hO2, hA2, hR2, rfl⟩
      refine BQ.normal <| SQ.normal <| CWp.known ha ?_
      simp only [mkA]
      refine W.reg <| 
          OSuf.aop tyOK rfl (so_move (by simp only [lk] <;> rfl)) rfl <|
          OSuf.aop tyOK rfl (so_bin (by simp only [lk] <;> rfl) (by simp only [lk] <;> rfl) (bi_w bi_add (by first | (simp only [w2] <;> rfl) | rfl))) rfl <|
          OSuf.aop tyOK rfl (so_assign (by simp only [lk] <;> rfl)) rfl <|
          OSuf.nil <| ?_
      -- leaf: round
      refine LQ.normal (m := n - 1) (L := [(5, P0 h0.next), (6, U64 N), (8, U64 (now + 1)), (12, I64 (9 * C + 1 : Nat)), (13, I64 (k + 1 : Nat))]) (by omega) ?_ ⟨k + 1, _, R2, now + 1, by omega, ⟨hP2, hO2, hB, hA2, hR2⟩, ?_, by omega, by omega, rfl⟩
      · simp only [HasA, Tr.get_put, Nat.reduceEqDiff, reduceIte, w2, and_self]
      · have e : 8 * C - (k + 1) = 8 * C - k - 1 := by omega
        rw [e]; exact hI2
    · refine W.seq <| W.seq <| W.reg <| 
          OSuf.aop tyOK rfl (so_move (by simp only [lk] <;> rfl)) rfl <|
          OSuf.aop tyOK rfl (so_move (by simp only [lk] <;> rfl)) rfl <|
          OSuf.aopF tyOK rfl (so_bin (by simp only [lk] <;> rfl) (by simp only [lk] <;> rfl) bi_lss) (fun _ => rfl) (by first | rfl | assumption | ((simp only [bl]) <;> first | done | assumption | omega) | (simp []; done) | (simp []; omega)) <|
          OSuf.nil <| SQ.normal ?_
      refine W.no (by simp only [lk] <;> rfl) <| CWp.exit <| SQ.exit <| LQ.exit <| BQ.exit <| ?_
      -- leaf: cut
      have e : 8 * C - k = 0 := by omega
      rw [e] at hI
      refine NQ.normal (L := [(5, P0 h0.next), (6, U64 N), (8, U64 now)]) ?_ ⟨S, R, now, ⟨hP, hO, hB, hT, hR⟩, hI.done, by omega, by omega, rfl⟩
      simp only [HasA, Tr.get_put, Nat.reduceEqDiff, reduceIte, and_self]
  clear ha hI hP hO hB hT hR hwc hww hcl hsum hW u1 u2 u3 hnow0 hnow1 now S R h
  rintro L a' h ha ⟨S, R, now, ⟨hP, hO, hB, hT, hR⟩, h00, hnow0, hnow1, rfl⟩
  have hlen := hO.len
  have hsum := hO.sum
  have hw0 : S.waits = 0 := by rw [hO.waits, h00]; rfl
  have hpf : pref S.base S.ops = N := by rw [pref_lead hO.seqd, lead_all h00]; exact hsum
  have u1 : IntKind.u64.wrap (now + 100) = now + 100 := wrap_u64 (by omega) (by omega)
  refine SQ.normal <| CWp.known ha ?_
  simp only [mkA]
  refine W.seq <| W.reg <| 
      OSuf.aop tyOK rfl (so_move (by simp only [lk] <;> rfl)) rfl <|
      OSuf.callD rfl (by simp only [aopnds, lk] <;> rfl) en12 (waits_c _ h0.next S R hP) rfl <|
      OSuf.aopT tyOK rfl (so_bin (by simp only [lk] <;> rfl) (by simp only [lk] <;> rfl) bi_eql) (fun _ => rfl) (by first | rfl | assumption | ((simp only [bl, hw0, hpf]) <;> first | done | assumption | omega) | (simp [hw0, hpf]; done) | (simp [hw0, hpf]; omega)) <|
      OSuf.aopT tyOK rfl (so_move (by simp only [lk] <;> rfl)) (fun _ => rfl) rfl <|
      OSuf.aop tyOK (aguard_of rfl rfl (by simp only [lk] <;> rfl) rfl) (so_move (by simp only [lk] <;> rfl)) rfl <|
      OSuf.callD (aguard_of rfl rfl (by simp only [lk] <;> rfl) rfl) (by simp only [aopnds, lk] <;> rfl) en9 (prefix_c _ h0.next S R hP (by omega)) rfl <|
      OSuf.aop tyOK (aguard_of rfl rfl (by simp only [lk] <;> rfl) rfl) (so_move (by simp only [lk] <;> rfl)) rfl <|
      OSuf.aopT tyOK (aguard_of rfl rfl (by simp only [lk] <;> rfl) rfl) (so_bin (by simp only [lk] <;> rfl) (by simp only [lk] <;> rfl) bi_eql) (fun _ => rfl) (by first | rfl | assumption | ((simp only [bl, hw0, hpf]) <;> first | done | assumption | omega) | (simp [hw0, hpf]; done) | (simp [hw0, hpf]; omega)) <|
      OSuf.aopT tyOK rfl (so_pick (by simp only [lk] <;> rfl) (by simp only [lk, cond_true, cond_false] <;> rfl)) (fun _ => rfl) rfl <|
      OSuf.aopT tyOK rfl (so_move (by simp only [lk] <;> rfl)) (fun _ => rfl) rfl <|
      OSuf.aop tyOK (aguard_of rfl rfl (by simp only [lk] <;> rfl) rfl) (so_move (by simp only [lk] <;> rfl)) rfl <|
      OSuf.aop tyOK (aguard_of rfl rfl (by simp only [lk] <;> rfl) rfl) (so_move (by simp only [lk] <;> rfl)) rfl <|
      OSuf.aop tyOK (aguard_of rfl rfl (by simp only [lk] <;> rfl) rfl) (so_bin (by simp only [lk] <;> rfl) (by simp only [lk] <;> rfl) (bi_w bi_add (by first | (simp only [u1] <;> rfl) | rfl))) rfl <|
      OSuf.call (aguard_of rfl rfl (by simp only [lk] <;> rfl) rfl) (by simp only [aopnds, lk] <;> rfl) en8 (due_c _ h0.next S R hP (now + 100) hlen (by omega) (by omega) (hT.mono (by omega))) ?_
  rintro u h2 ⟨hP2, hF2, hRec⟩
  rw [dl_none (now + 100) 8 h00] at hRec
  obtain ⟨b, rfl, hat⟩ := recs_slice hRec
  refine ⟨_, rfl, ?_⟩
  refine 
      OSuf.aop tyOK (aguard_of rfl rfl (by simp only [lk] <;> rfl) rfl) (so_len (by simp only [aopnds, lk] <;> rfl) (by simp (disch := first | assumption | omega | (simp only [nx] <;> omega) | fail) only [aLenOf, ty30, hpl, hw0, hpf, hw0, hpf] <;> rfl)) rfl <|
      OSuf.aopT tyOK (aguard_of rfl rfl (by simp only [lk] <;> rfl) rfl) (so_bin (by simp only [lk] <;> rfl) (by simp only [lk] <;> rfl) bi_eql) (fun _ => rfl) (by first | rfl | assumption | ((simp only [bl, hw0, hpf, hw0, hpf]) <;> first | done | assumption | omega) | (simp [hw0, hpf, hw0, hpf]; done) | (simp [hw0, hpf, hw0, hpf]; omega)) <|
      OSuf.aopT tyOK rfl (so_pick (by simp only [lk] <;> rfl) (by simp only [lk, cond_true, cond_false] <;> rfl)) (fun _ => rfl) rfl <|
      OSuf.aopT tyOK rfl (so_move (by simp only [lk] <;> rfl)) (fun _ => rfl) rfl <|
      OSuf.callD (aguard_of rfl rfl (by simp only [lk] <;> rfl) rfl) (by simp only [aopnds, lk] <;> rfl) en13 (works_c _) rfl <|
      OSuf.aopT tyOK rfl (so_pick (by simp only [lk] <;> rfl) (by simp only [lk, cond_true, cond_false] <;> rfl)) (fun _ => rfl) rfl <|
      OSuf.aopT tyOK rfl (so_assign (by simp only [lk] <;> rfl)) (fun _ => rfl) rfl <|
      OSuf.nil <| SQ.normal ?_
  refine CWp.ret <| FQ.ret (by simp only [aRet, Try.f3, aResults, aResult, lk, Nat.reduceEqDiff, reduceIte] <;> rfl) ?_
  -- leaf: end
  rfl
end Go.Proofs.Ythjeoohlknajpaa
