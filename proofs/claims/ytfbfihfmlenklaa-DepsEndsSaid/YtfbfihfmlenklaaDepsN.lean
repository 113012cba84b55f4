/-
  The law DepsEnds, walked.
-/
import Derived.Test.YtfbfihfmlenklaaDepsG
namespace Go.Proofs.Ytfbfihfmlenklaa
open Go.Ab
set_option linter.unusedSimpArgs false
set_option linter.unusedVariables false
set_option maxRecDepth 10000
set_option maxHeartbeats 4000000

theorem ends_c (h0 : AHeap) (b b2 : Option Addr) (l : List Lk) (gs : List Bool) (hl : LinksAt h0 b l) (hb : BoolsAt h0 b2 gs) :
    FWp Try.prog 4 [.slice b l.length 0, .slice b2 gs.length 0] h0 fun u _ => u = .bool true := by
  have hml : maxLen = 9223372036854775807 := rfl
  have hlen := hb.len
  refine W.enter tyOK Try.func4 rfl rfl ?_
  simp only [entry]
  refine W.seq <| W.reg <| 
      OSuf.aopF tyOK rfl (so_assign (by simp only [lk] <;> rfl)) (fun _ => rfl) rfl <|
      OSuf.nil <| SQ.normal ?_
  refine W.seq <| W.seq <| W.reg <| 
      OSuf.callD rfl (by simp only [aopnds, lk] <;> rfl) en22 (works_c _) rfl <|
      OSuf.aopF tyOK rfl (so_not (by simp only [lk] <;> rfl)) (fun _ => rfl) rfl <|
      OSuf.nil <| SQ.normal ?_
  refine W.no (by simp only [lk] <;> rfl) <| CWp.skip <| SQ.normal ?_
  refine W.seq <| W.reg <| 
      OSuf.aop tyOK rfl (so_move (by simp only [lk] <;> rfl)) rfl <|
      OSuf.call rfl (by simp only [aopnds, lk] <;> rfl) en23 (linked_c _ b l hl) ?_
  rintro _ h1 ⟨rfl, S, hA, hm, hP, hnx, hold⟩
  refine ⟨_, rfl, ?_⟩
  refine 
      OSuf.aop tyOK rfl (so_assign (by simp only [lk] <;> rfl)) rfl <|
      OSuf.nil <| SQ.normal ?_
  refine W.seq <| W.seq <| W.reg <| 
      OSuf.aop tyOK rfl (so_assign (by simp only [lk] <;> rfl)) rfl <|
      OSuf.nil <| SQ.normal ?_
  -- leaf: loop
  have hF := hP.from_ fun x hx => hl.ok x (List.mem_of_mem_take hx)
  have hSl : S.ps.length ≤ 100 := by have := hP.len; simp at this; omega
  refine W.cut (fun L h' => ∃ S, DA h' (h0.next + 1) S ∧ S.ps = [] ∧ L = [(5, P0 (h0.next + 1))]) (W.block (W.loop (fun n L h' => ∃ (k : Nat) (S : DS), n + k = 41 ∧ DA h' (h0.next + 1) S ∧ S.m = h0.next ∧ From k S.ps ∧ S.ps.length ≤ 100 ∧ h0.next + 1 < h'.next ∧ (∀ z, z < h0.next → h'.get z = h0.get z) ∧ L = [(1, .slice b2 gs.length 0), (5, P0 (h0.next + 1)), (6, U64 k)]) (n := 41)
    ⟨0, S, by omega, hA, hm, hF, hSl, hnx, hold, rfl⟩ ?_ ?_)) ?_
  · simp [HasA, Tr.get_put]
  · clear hA hm hP hF hSl hnx hold
    rintro n L h ⟨k, S, hn, hA, hm, hF, hSl, hnx, hold, rfl⟩
    simp only [mkA]
    by_cases hk : (k : Int) ≤ 40
    · have w2 : IntKind.u64.wrap ((k : Int) + 1) = ((k + 1 : Nat) : Int) := by rw [wrap_u64 (by omega) (by omega)]; omega
      have w3 : IntKind.i64.wrap (k : Int) = k := wrap_i64 (by omega) (by omega)
      have hrd := ready_t hA (ts := (k : Int)) fun p hp e => by have := hF p hp; omega
      have log : ∀ h2, DA h2 (h0.next + 1) ⟨S.ps.filter (fun p => !decide (p.key.2 = (k : Int))), S.clock, S.m⟩ → FrD h h2 S → ∃ (k' : Nat) (S' : DS), n - 1 + k' = 41 ∧ DA h2 (h0.next + 1) S' ∧ S'.m = h0.next ∧ From k' S'.ps ∧ S'.ps.length ≤ 100 ∧ h0.next + 1 < h2.next ∧ (∀ z, z < h0.next → h2.get z = h0.get z) ∧ k' = k + 1 := fun h2 hA2 hF2 => by
        refine ⟨k + 1, _, by omega, hA2, hm, fun p hp => ?_, ?_, Nat.lt_of_lt_of_le hnx hF2.1, fun z hz => by rw [hF2.2 z (by omega) (by omega)]; exact hold z hz, rfl⟩
        · obtain ⟨h9, h8⟩ := List.mem_filter.1 hp
          have := hF p h9
          have h8 : ¬ p.key.2 = (k : Int) := by simpa using h8
          omega
        · have := List.length_filter_le (fun p => !decide (p.key.2 = (k : Int))) S.ps
          simp only; omega
      by_cases hkl : (k : Int) < (gs.length : Int)
      · obtain ⟨g, hg⟩ : ∃ g, gs[k]? = some g := ⟨gs[k]'(by omega), by simp⟩
        obtain ⟨r, rfl, hrn, hgr⟩ := hb.at_ (fun e => by rw [e] at hg; simp at hg)
        have hg1 : h.get r = some (.ro (gs.map Value.bool)) := by rw [hold r hrn]; exact hgr
        have hc : (0 ≤ (k : Int) ∧ (k : Int) < (gs.length : Int)) := by omega
        have hgb : (gs.map Value.bool)[k]? = some (.bool g) := by simp [hg]
        cases hgv : g
        · refine W.seq <| W.seq <| W.reg <| 
              OSuf.aop tyOK rfl (so_move (by simp only [lk] <;> rfl)) rfl <|
              OSuf.aopT tyOK rfl (so_bin (by simp only [lk] <;> rfl) (by simp only [lk] <;> rfl) bi_leq) (fun _ => rfl) (by first | rfl | assumption | ((simp only [bl, hc, and_self, if_true, Int.toNat_natCast, hg1, Nat.mul_one, Nat.zero_add, Nat.add_zero, hgb]) <;> first | done | assumption | omega) | (simp [hc, and_self, if_true, Int.toNat_natCast, hg1, Nat.mul_one, Nat.zero_add, Nat.add_zero, hgb]; done) | (simp [hc, and_self, if_true, Int.toNat_natCast, hg1, Nat.mul_one, Nat.zero_add, Nat.add_zero, hgb]; omega)) <|
              OSuf.nil <| SQ.normal ?_
          refine W.yes (by simp only [lk] <;> rfl) <| CWp.skip <| SQ.normal ?_
          refine W.seq <| W.block <| W.seq <| W.seq <| W.reg <| 
              OSuf.aop tyOK rfl (so_move (by simp only [lk] <;> rfl)) rfl <|
              OSuf.aop tyOK rfl (so_move (by simp only [lk] <;> rfl)) rfl <|
              OSuf.callD rfl (by simp only [aopnds, lk] <;> rfl) en20 (hrd) rfl <|
              OSuf.aopF tyOK rfl (so_not (by simp only [lk] <;> rfl)) (fun _ => rfl) rfl <|
              OSuf.nil <| SQ.normal ?_
          refine W.no (by simp only [lk] <;> rfl) <| CWp.skip <| SQ.normal ?_
          refine W.seq <| W.reg <| 
              OSuf.aop tyOK rfl (so_move (by simp only [lk] <;> rfl)) rfl <|
              OSuf.aop tyOK rfl (so_conw (so_conv tyOK (by simp only [lk] <;> rfl) ty29 ⟨_, rfl⟩ ty3 rfl) (by first | (simp only [w2, w3] <;> rfl) | rfl)) rfl <|
              OSuf.aop tyOK rfl (so_move (by simp only [lk] <;> rfl)) rfl <|
              OSuf.aop tyOK rfl (so_len (by simp only [aopnds, lk] <;> rfl) (by simp (disch := first | assumption | omega | (simp only [nx] <;> omega) | fail) only [aLenOf, ty43, hpl, hc, and_self, if_true, Int.toNat_natCast, hg1, Nat.mul_one, Nat.zero_add, Nat.add_zero, hgb] <;> rfl)) rfl <|
              OSuf.aopT tyOK rfl (so_bin (by simp only [lk] <;> rfl) (by simp only [lk] <;> rfl) bi_lss) (fun _ => rfl) (by first | rfl | assumption | ((simp only [bl, hc, and_self, if_true, Int.toNat_natCast, hg1, Nat.mul_one, Nat.zero_add, Nat.add_zero, hgb]) <;> first | done | assumption | omega) | (simp [hc, and_self, if_true, Int.toNat_natCast, hg1, Nat.mul_one, Nat.zero_add, Nat.add_zero, hgb]; done) | (simp [hc, and_self, if_true, Int.toNat_natCast, hg1, Nat.mul_one, Nat.zero_add, Nat.add_zero, hgb]; omega)) <|
              OSuf.aopT tyOK rfl (so_move (by simp only [lk] <;> rfl)) (fun _ => rfl) rfl <|
              OSuf.aop tyOK (aguard_of rfl rfl (by simp only [lk] <;> rfl) rfl) (so_move (by simp only [lk] <;> rfl)) rfl <|
              OSuf.aop tyOK (aguard_of rfl rfl (by simp only [lk] <;> rfl) rfl) (so_move (by simp only [lk] <;> rfl)) rfl <|
              OSuf.aop tyOK (aguard_of rfl rfl (by simp only [lk] <;> rfl) rfl) (so_indexAddr (by simp only [lk] <;> rfl) (by simp only [lk] <;> rfl) (by simp (disch := first | assumption | omega | (simp only [nx] <;> omega) | fail) only [aIndexAddr, ty43, ty4, hpl, hc, and_self, if_true, Int.toNat_natCast, hg1, Nat.mul_one, Nat.zero_add, Nat.add_zero, hgb] <;> rfl)) rfl <|
              OSuf.aopF tyOK (aguard_of rfl rfl (by simp only [lk] <;> rfl) rfl) (so_load (by simp only [lk] <;> rfl) (by simp (disch := first | assumption | omega | (simp only [nx] <;> omega) | fail) only [aLoad, ty4, rowOf, hpl, hc, and_self, if_true, Int.toNat_natCast, hg1, Nat.mul_one, Nat.zero_add, Nat.add_zero, hgb] <;> rfl)) (fun _ => rfl) (hgv) <|
              OSuf.aopF tyOK rfl (so_pick (by simp only [lk] <;> rfl) (by simp only [lk, cond_true, cond_false] <;> rfl)) (fun _ => rfl) rfl <|
              OSuf.nil <| SQ.normal ?_
          refine W.no (by simp only [lk] <;> rfl) <| W.reg <| 
              OSuf.aop tyOK rfl (so_move (by simp only [lk] <;> rfl)) rfl <|
              OSuf.aop tyOK rfl (so_move (by simp only [lk] <;> rfl)) rfl <|
              OSuf.call rfl (by simp only [aopnds, lk] <;> rfl) en13 (logged_c _ (h0.next + 1) S hA k) ?_
          rintro _ h2 ⟨rfl, hA2, hF2⟩
          refine ⟨_, rfl, ?_⟩
          refine 
              OSuf.nil <| BQ.normal <| SQ.normal ?_
          refine W.reg <| 
              OSuf.aop tyOK rfl (so_move (by simp only [lk] <;> rfl)) rfl <|
              OSuf.aop tyOK rfl (so_bin (by simp only [lk] <;> rfl) (by simp only [lk] <;> rfl) (bi_w bi_add (by first | (simp only [w2, w3] <;> rfl) | rfl))) rfl <|
              OSuf.aop tyOK rfl (so_assign (by simp only [lk] <;> rfl)) rfl <|
              OSuf.nil <| ?_
          -- leaf: round
          obtain ⟨k', S', q1, q2, q3, q4, q5, q6, q7, rfl⟩ := log h2 hA2 hF2
          refine LQ.normal (m := n - 1) (L := [(1, .slice (some ⟨r, 0, none⟩) gs.length 0), (5, P0 (h0.next + 1)), (6, U64 (k + 1 : Nat))]) (by omega) ?_ ⟨k + 1, S', q1, q2, q3, q4, q5, q6, q7, rfl⟩
          simp only [HasA, Tr.get_put, Nat.reduceEqDiff, reduceIte, w2, and_self]
        · refine W.seq <| W.seq <| W.reg <| 
              OSuf.aop tyOK rfl (so_move (by simp only [lk] <;> rfl)) rfl <|
              OSuf.aopT tyOK rfl (so_bin (by simp only [lk] <;> rfl) (by simp only [lk] <;> rfl) bi_leq) (fun _ => rfl) (by first | rfl | assumption | ((simp only [bl, hc, and_self, if_true, Int.toNat_natCast, hg1, Nat.mul_one, Nat.zero_add, Nat.add_zero, hgb]) <;> first | done | assumption | omega) | (simp [hc, and_self, if_true, Int.toNat_natCast, hg1, Nat.mul_one, Nat.zero_add, Nat.add_zero, hgb]; done) | (simp [hc, and_self, if_true, Int.toNat_natCast, hg1, Nat.mul_one, Nat.zero_add, Nat.add_zero, hgb]; omega)) <|
              OSuf.nil <| SQ.normal ?_
          refine W.yes (by simp only [lk] <;> rfl) <| CWp.skip <| SQ.normal ?_
          refine W.seq <| W.block <| W.seq <| W.seq <| W.reg <| 
              OSuf.aop tyOK rfl (so_move (by simp only [lk] <;> rfl)) rfl <|
              OSuf.aop tyOK rfl (so_move (by simp only [lk] <;> rfl)) rfl <|
              OSuf.callD rfl (by simp only [aopnds, lk] <;> rfl) en20 (hrd) rfl <|
              OSuf.aopF tyOK rfl (so_not (by simp only [lk] <;> rfl)) (fun _ => rfl) rfl <|
              OSuf.nil <| SQ.normal ?_
          refine W.no (by simp only [lk] <;> rfl) <| CWp.skip <| SQ.normal ?_
          refine W.seq <| W.reg <| 
              OSuf.aop tyOK rfl (so_move (by simp only [lk] <;> rfl)) rfl <|
              OSuf.aop tyOK rfl (so_conw (so_conv tyOK (by simp only [lk] <;> rfl) ty29 ⟨_, rfl⟩ ty3 rfl) (by first | (simp only [w2, w3] <;> rfl) | rfl)) rfl <|
              OSuf.aop tyOK rfl (so_move (by simp only [lk] <;> rfl)) rfl <|
              OSuf.aop tyOK rfl (so_len (by simp only [aopnds, lk] <;> rfl) (by simp (disch := first | assumption | omega | (simp only [nx] <;> omega) | fail) only [aLenOf, ty43, hpl, hc, and_self, if_true, Int.toNat_natCast, hg1, Nat.mul_one, Nat.zero_add, Nat.add_zero, hgb] <;> rfl)) rfl <|
              OSuf.aopT tyOK rfl (so_bin (by simp only [lk] <;> rfl) (by simp only [lk] <;> rfl) bi_lss) (fun _ => rfl) (by first | rfl | assumption | ((simp only [bl, hc, and_self, if_true, Int.toNat_natCast, hg1, Nat.mul_one, Nat.zero_add, Nat.add_zero, hgb]) <;> first | done | assumption | omega) | (simp [hc, and_self, if_true, Int.toNat_natCast, hg1, Nat.mul_one, Nat.zero_add, Nat.add_zero, hgb]; done) | (simp [hc, and_self, if_true, Int.toNat_natCast, hg1, Nat.mul_one, Nat.zero_add, Nat.add_zero, hgb]; omega)) <|
              OSuf.aopT tyOK rfl (so_move (by simp only [lk] <;> rfl)) (fun _ => rfl) rfl <|
              OSuf.aop tyOK (aguard_of rfl rfl (by simp only [lk] <;> rfl) rfl) (so_move (by simp only [lk] <;> rfl)) rfl <|
              OSuf.aop tyOK (aguard_of rfl rfl (by simp only [lk] <;> rfl) rfl) (so_move (by simp only [lk] <;> rfl)) rfl <|
              OSuf.aop tyOK (aguard_of rfl rfl (by simp only [lk] <;> rfl) rfl) (so_indexAddr (by simp only [lk] <;> rfl) (by simp only [lk] <;> rfl) (by simp (disch := first | assumption | omega | (simp only [nx] <;> omega) | fail) only [aIndexAddr, ty43, ty4, hpl, hc, and_self, if_true, Int.toNat_natCast, hg1, Nat.mul_one, Nat.zero_add, Nat.add_zero, hgb] <;> rfl)) rfl <|
              OSuf.aopT tyOK (aguard_of rfl rfl (by simp only [lk] <;> rfl) rfl) (so_load (by simp only [lk] <;> rfl) (by simp (disch := first | assumption | omega | (simp only [nx] <;> omega) | fail) only [aLoad, ty4, rowOf, hpl, hc, and_self, if_true, Int.toNat_natCast, hg1, Nat.mul_one, Nat.zero_add, Nat.add_zero, hgb] <;> rfl)) (fun _ => rfl) (hgv) <|
              OSuf.aopT tyOK rfl (so_pick (by simp only [lk] <;> rfl) (by simp only [lk, cond_true, cond_false] <;> rfl)) (fun _ => rfl) rfl <|
              OSuf.nil <| SQ.normal ?_
          refine W.yes (by simp only [lk] <;> rfl) <| W.seq <| W.reg <| 
              OSuf.aop tyOK rfl (so_move (by simp only [lk] <;> rfl)) rfl <|
              OSuf.aop tyOK rfl (so_move (by simp only [lk] <;> rfl)) rfl <|
              OSuf.call rfl (by simp only [aopnds, lk] <;> rfl) en16 (gone_c _ (h0.next + 1) S hA k (by omega)) ?_
          rintro u h2 ⟨G, hG⟩
          obtain ⟨bb, rfl, hat⟩ := out_slice hG.out
          refine ⟨_, rfl, ?_⟩
          refine 
              OSuf.aop tyOK rfl (so_assign (by simp only [lk] <;> rfl)) rfl <|
              OSuf.nil <| SQ.normal ?_
          refine W.seq <| W.reg <| 
              OSuf.aop tyOK rfl (so_assign (by simp only [lk] <;> rfl)) rfl <|
              OSuf.nil <| SQ.normal ?_
          -- leaf: loop
          have hA2 := hG.da
          have hF2 := hG.fr
          have hGl : G.length ≤ 100 := by
            have := nodup_lenI (a := G) (b := S.ps.map fun p => p.key.1) (hG.sorted.imp fun h => by omega) fun y hy => by obtain ⟨p, hp, e⟩ := hG.sub y hy; exact List.mem_map.2 ⟨p, hp, e⟩
            simp at this; omega
          refine W.cut (fun L h' => h' = h2 ∧ L = [(1, .slice (some ⟨r, 0, none⟩) gs.length 0), (5, P0 (h0.next + 1)), (6, U64 k)]) (W.block (W.loop (fun n L h' => ∃ i : Nat, n + i = G.length ∧ h' = h2 ∧ L = [(1, .slice (some ⟨r, 0, none⟩) gs.length 0), (5, P0 (h0.next + 1)), (6, U64 k), (7, .slice bb G.length 0), (8, I64 i)]) (n := G.length) ⟨0, by omega, rfl, rfl⟩ ?_ ?_)) ?_
          · simp [HasA, Tr.get_put]
          · rintro n L h3 ⟨i, hi, rfl, rfl⟩
            simp only [mkA]
            by_cases hil : (i : Int) < (G.length : Int)
            · obtain ⟨y, hy⟩ : ∃ y, G[i]? = some y := ⟨G[i]'(by omega), by simp⟩
              obtain ⟨q, rfl, hq1, hq2, hq3⟩ := hat i (by omega)
              have hyG : y ∈ G := List.mem_of_getElem? hy
              have hyk := hF.reach ((hG.reach y).1 (List.mem_cons_of_mem _ hyG))
              have hne : y ≠ k := fun e => hG.nts (e ▸ hyG)
              have hle : ¬ y ≤ (k : Int) := by omega
              have hrd2 := ready_t hA2 (ts := y) fun p hp e => by
                have := (List.mem_filter.1 hp).2
                simp [inG, e, hyG] at this
              have hci : (0 ≤ (i : Int) ∧ (i : Int) < (G.length : Int)) := by omega
              have hyv : (G.map (Value.int .u64))[i]? = some (.int .u64 y) := by simp [hy]
              have v2 : IntKind.i64.wrap ((i : Int) + 1) = ((i + 1 : Nat) : Int) := by rw [wrap_i64 (by omega) (by omega)]; omega
              by_cases hi0 : (i : Int) > 0
              · obtain ⟨j, rfl⟩ : ∃ j, i = j + 1 := ⟨i - 1, by omega⟩
                obtain ⟨x, hx⟩ : ∃ x, G[j]? = some x := ⟨G[j]'(by omega), by simp⟩
                have hcj : (0 ≤ (j : Int) ∧ (j : Int) < (G.length : Int)) := by omega
                have hxv : (G.map (Value.int .u64))[j]? = some (.int .u64 x) := by simp [hx]
                have v3 : IntKind.i64.wrap (((j + 1 : Nat) : Int) - 1) = (j : Int) := by rw [wrap_i64 (by omega) (by omega)]; omega
                have hlt : ¬ y ≤ x := by
                  have := List.pairwise_iff_getElem.1 hG.sorted j (j + 1) (by omega) (by omega) (by omega)
                  rw [List.getElem?_eq_getElem (by omega)] at hx hy
                  have e1 := Option.some.inj hx
                  have e2 := Option.some.inj hy
                  omega
                refine W.seq <| W.seq <| W.reg <| 
                    OSuf.aop tyOK rfl (so_move (by simp only [lk] <;> rfl)) rfl <|
                    OSuf.aop tyOK rfl (so_move (by simp only [lk] <;> rfl)) rfl <|
                    OSuf.aop tyOK rfl (so_len (by simp only [aopnds, lk] <;> rfl) (by simp (disch := first | assumption | omega | (simp only [nx] <;> omega) | fail) only [aLenOf, ty36, hpl, hci, hcj, and_self, if_true, Int.toNat_natCast, hq3, Nat.mul_one, Nat.zero_add, Nat.add_zero, hyv, hxv] <;> rfl)) rfl <|
                    OSuf.aopT tyOK rfl (so_bin (by simp only [lk] <;> rfl) (by simp only [lk] <;> rfl) bi_lss) (fun _ => rfl) (by first | rfl | assumption | ((simp only [bl, hci, hcj, and_self, if_true, Int.toNat_natCast, hq3, Nat.mul_one, Nat.zero_add, Nat.add_zero, hyv, hxv]) <;> first | done | assumption | omega) | (simp [hci, hcj, and_self, if_true, Int.toNat_natCast, hq3, Nat.mul_one, Nat.zero_add, Nat.add_zero, hyv, hxv]; done) | (simp [hci, hcj, and_self, if_true, Int.toNat_natCast, hq3, Nat.mul_one, Nat.zero_add, Nat.add_zero, hyv, hxv]; omega)) <|
                    OSuf.nil <| SQ.normal ?_
                refine W.yes (by simp only [lk] <;> rfl) <| CWp.skip <| SQ.normal ?_
                refine W.seq <| W.block <| W.seq <| W.regD tyOK mixed (by kernel_rfl) <| 
                    SqW.aop rfl (so_move (by simp only [lk] <;> rfl)) rfl <|
                    SqW.aop rfl (so_move (by simp only [lk] <;> rfl)) rfl <|
                    SqW.aop rfl (so_indexAddr (by simp only [lk] <;> rfl) (by simp only [lk] <;> rfl) (by simp (disch := first | assumption | omega | (simp only [nx] <;> omega) | fail) only [aIndexAddr, ty36, ty29, hpl, hci, hcj, and_self, if_true, Int.toNat_natCast, hq3, Nat.mul_one, Nat.zero_add, Nat.add_zero, hyv, hxv] <;> rfl)) rfl <|
                    SqW.aop rfl (so_load (by simp only [lk] <;> rfl) (by simp (disch := first | assumption | omega | (simp only [nx] <;> omega) | fail) only [aLoad, ty29, rowOf, hpl, hci, hcj, and_self, if_true, Int.toNat_natCast, hq3, Nat.mul_one, Nat.zero_add, Nat.add_zero, hyv, hxv] <;> rfl)) rfl <|
                    SqW.aop rfl (so_move (by simp only [lk] <;> rfl)) rfl <|
                    SqW.aopF rfl (so_bin (by simp only [lk] <;> rfl) (by simp only [lk] <;> rfl) bi_leq) (fun _ => rfl) (by first | rfl | assumption | ((simp only [bl, hci, hcj, and_self, if_true, Int.toNat_natCast, hq3, Nat.mul_one, Nat.zero_add, Nat.add_zero, hyv, hxv]) <;> first | done | assumption | omega) | (simp [hci, hcj, and_self, if_true, Int.toNat_natCast, hq3, Nat.mul_one, Nat.zero_add, Nat.add_zero, hyv, hxv]; done) | (simp [hci, hcj, and_self, if_true, Int.toNat_natCast, hq3, Nat.mul_one, Nat.zero_add, Nat.add_zero, hyv, hxv]; omega)) <|
                    SqW.aopF rfl (so_move (by simp only [lk] <;> rfl)) (fun _ => rfl) rfl <|
                    SqW.aop (aguard_of rfl rfl (by simp only [lk] <;> rfl) rfl) (so_move (by simp only [lk] <;> rfl)) rfl <|
                    SqW.aop (aguard_of rfl rfl (by simp only [lk] <;> rfl) rfl) (so_move (by simp only [lk] <;> rfl)) rfl <|
                    SqW.aop (aguard_of rfl rfl (by simp only [lk] <;> rfl) rfl) (so_move (by simp only [lk] <;> rfl)) rfl <|
                    SqW.aop (aguard_of rfl rfl (by simp only [lk] <;> rfl) rfl) (so_indexAddr (by simp only [lk] <;> rfl) (by simp only [lk] <;> rfl) (by simp (disch := first | assumption | omega | (simp only [nx] <;> omega) | fail) only [aIndexAddr, ty36, ty29, hpl, hci, hcj, and_self, if_true, Int.toNat_natCast, hq3, Nat.mul_one, Nat.zero_add, Nat.add_zero, hyv, hxv] <;> rfl)) rfl <|
                    SqW.aop (aguard_of rfl rfl (by simp only [lk] <;> rfl) rfl) (so_load (by simp only [lk] <;> rfl) (by simp (disch := first | assumption | omega | (simp only [nx] <;> omega) | fail) only [aLoad, ty29, rowOf, hpl, hci, hcj, and_self, if_true, Int.toNat_natCast, hq3, Nat.mul_one, Nat.zero_add, Nat.add_zero, hyv, hxv] <;> rfl)) rfl <|
                    SqW.callD (aguard_of rfl rfl (by simp only [lk] <;> rfl) rfl) (by simp only [aopnds, lk] <;> rfl) en20 (hrd2) rfl <|
                    SqW.aopF (aguard_of rfl rfl (by simp only [lk] <;> rfl) rfl) (so_not (by simp only [lk] <;> rfl)) (fun _ => rfl) rfl <|
                    SqW.aopF rfl (so_pick (by simp only [lk] <;> rfl) (by simp only [lk, cond_true, cond_false] <;> rfl)) (fun _ => rfl) rfl <|
                    SqW.aopF rfl (so_move (by simp only [lk] <;> rfl)) (fun _ => rfl) rfl <|
                    SqW.aop (aguard_of rfl rfl (by simp only [lk] <;> rfl) rfl) (so_move (by simp only [lk] <;> rfl)) rfl <|
                    SqW.aopT (aguard_of rfl rfl (by simp only [lk] <;> rfl) rfl) (so_bin (by simp only [lk] <;> rfl) (by simp only [lk] <;> rfl) bi_gtr) (fun _ => rfl) (by first | rfl | assumption | ((simp only [bl, hci, hcj, and_self, if_true, Int.toNat_natCast, hq3, Nat.mul_one, Nat.zero_add, Nat.add_zero, hyv, hxv]) <;> first | done | assumption | omega) | (simp [hci, hcj, and_self, if_true, Int.toNat_natCast, hq3, Nat.mul_one, Nat.zero_add, Nat.add_zero, hyv, hxv]; done) | (simp [hci, hcj, and_self, if_true, Int.toNat_natCast, hq3, Nat.mul_one, Nat.zero_add, Nat.add_zero, hyv, hxv]; omega)) <|
                    SqW.aopT (aguard_of rfl rfl (by simp only [lk] <;> rfl) rfl) (so_move (by simp only [lk] <;> rfl)) (fun _ => rfl) rfl <|
                    SqW.aop (aguard_of rfl rfl (by simp only [lk] <;> rfl) rfl) (so_move (by simp only [lk] <;> rfl)) rfl <|
                    SqW.aop (aguard_of rfl rfl (by simp only [lk] <;> rfl) rfl) (so_move (by simp only [lk] <;> rfl)) rfl <|
                    SqW.aop (aguard_of rfl rfl (by simp only [lk] <;> rfl) rfl) (so_bin (by simp only [lk] <;> rfl) (by simp only [lk] <;> rfl) (bi_w bi_sub (by first | (simp only [v2, v3] <;> rfl) | rfl))) rfl <|
                    SqW.aop (aguard_of rfl rfl (by simp only [lk] <;> rfl) rfl) (so_indexAddr (by simp only [lk] <;> rfl) (by simp only [lk] <;> rfl) (by simp (disch := first | assumption | omega | (simp only [nx] <;> omega) | fail) only [aIndexAddr, ty36, ty29, hpl, hci, hcj, and_self, if_true, Int.toNat_natCast, hq3, Nat.mul_one, Nat.zero_add, Nat.add_zero, hyv, hxv] <;> rfl)) rfl <|
                    SqW.aop (aguard_of rfl rfl (by simp only [lk] <;> rfl) rfl) (so_load (by simp only [lk] <;> rfl) (by simp (disch := first | assumption | omega | (simp only [nx] <;> omega) | fail) only [aLoad, ty29, rowOf, hpl, hci, hcj, and_self, if_true, Int.toNat_natCast, hq3, Nat.mul_one, Nat.zero_add, Nat.add_zero, hyv, hxv] <;> rfl)) rfl <|
                    SqW.aop (aguard_of rfl rfl (by simp only [lk] <;> rfl) rfl) (so_move (by simp only [lk] <;> rfl)) rfl <|
                    SqW.aop (aguard_of rfl rfl (by simp only [lk] <;> rfl) rfl) (so_move (by simp only [lk] <;> rfl)) rfl <|
                    SqW.aop (aguard_of rfl rfl (by simp only [lk] <;> rfl) rfl) (so_indexAddr (by simp only [lk] <;> rfl) (by simp only [lk] <;> rfl) (by simp (disch := first | assumption | omega | (simp only [nx] <;> omega) | fail) only [aIndexAddr, ty36, ty29, hpl, hci, hcj, and_self, if_true, Int.toNat_natCast, hq3, Nat.mul_one, Nat.zero_add, Nat.add_zero, hyv, hxv] <;> rfl)) rfl <|
                    SqW.aop (aguard_of rfl rfl (by simp only [lk] <;> rfl) rfl) (so_load (by simp only [lk] <;> rfl) (by simp (disch := first | assumption | omega | (simp only [nx] <;> omega) | fail) only [aLoad, ty29, rowOf, hpl, hci, hcj, and_self, if_true, Int.toNat_natCast, hq3, Nat.mul_one, Nat.zero_add, Nat.add_zero, hyv, hxv] <;> rfl)) rfl <|
                    SqW.aopF (aguard_of rfl rfl (by simp only [lk] <;> rfl) rfl) (so_bin (by simp only [lk] <;> rfl) (by simp only [lk] <;> rfl) bi_geq) (fun _ => rfl) (by first | rfl | assumption | ((simp only [bl, hci, hcj, and_self, if_true, Int.toNat_natCast, hq3, Nat.mul_one, Nat.zero_add, Nat.add_zero, hyv, hxv]) <;> first | done | assumption | omega) | (simp [hci, hcj, and_self, if_true, Int.toNat_natCast, hq3, Nat.mul_one, Nat.zero_add, Nat.add_zero, hyv, hxv]; done) | (simp [hci, hcj, and_self, if_true, Int.toNat_natCast, hq3, Nat.mul_one, Nat.zero_add, Nat.add_zero, hyv, hxv]; omega)) <|
                    SqW.aopF (aguard_of rfl rfl (by simp only [lk] <;> rfl) rfl) (so_pick (by simp only [lk] <;> rfl) (by simp only [lk, cond_true, cond_false] <;> rfl)) (fun _ => rfl) rfl <|
                    SqW.aopF rfl (so_pick (by simp only [lk] <;> rfl) (by simp only [lk, cond_true, cond_false] <;> rfl)) (fun _ => rfl) rfl <|
                    SqW.nil <| SQ.normal ?_
                refine W.no (by simp only [lk] <;> rfl) <| CWp.skip <| BQ.normal <| SQ.normal ?_
                refine W.reg <| 
                    OSuf.aop tyOK rfl (so_move (by simp only [lk] <;> rfl)) rfl <|
                    OSuf.aop tyOK rfl (so_bin (by simp only [lk] <;> rfl) (by simp only [lk] <;> rfl) (bi_w bi_add (by first | (simp only [v2, v3] <;> rfl) | rfl))) rfl <|
                    OSuf.aop tyOK rfl (so_assign (by simp only [lk] <;> rfl)) rfl <|
                    OSuf.nil <| ?_
                -- leaf: round
                refine LQ.normal (m := n - 1) (L := [(1, .slice (some ⟨r, 0, none⟩) gs.length 0), (5, P0 (h0.next + 1)), (6, U64 k), (7, .slice (some ⟨q, 0, none⟩) G.length 0), (8, I64 (j + 1 + 1 : Nat))]) (by omega) ?_ ⟨j + 1 + 1, by omega, rfl, rfl⟩
                simp only [HasA, Tr.get_put, Nat.reduceEqDiff, reduceIte, v2, and_self]
              · refine W.seq <| W.seq <| W.reg <| 
                    OSuf.aop tyOK rfl (so_move (by simp only [lk] <;> rfl)) rfl <|
                    OSuf.aop tyOK rfl (so_move (by simp only [lk] <;> rfl)) rfl <|
                    OSuf.aop tyOK rfl (so_len (by simp only [aopnds, lk] <;> rfl) (by simp (disch := first | assumption | omega | (simp only [nx] <;> omega) | fail) only [aLenOf, ty36, hpl, hci, and_self, if_true, Int.toNat_natCast, hq3, Nat.mul_one, Nat.zero_add, Nat.add_zero, hyv] <;> rfl)) rfl <|
                    OSuf.aopT tyOK rfl (so_bin (by simp only [lk] <;> rfl) (by simp only [lk] <;> rfl) bi_lss) (fun _ => rfl) (by first | rfl | assumption | ((simp only [bl, hci, and_self, if_true, Int.toNat_natCast, hq3, Nat.mul_one, Nat.zero_add, Nat.add_zero, hyv]) <;> first | done | assumption | omega) | (simp [hci, and_self, if_true, Int.toNat_natCast, hq3, Nat.mul_one, Nat.zero_add, Nat.add_zero, hyv]; done) | (simp [hci, and_self, if_true, Int.toNat_natCast, hq3, Nat.mul_one, Nat.zero_add, Nat.add_zero, hyv]; omega)) <|
                    OSuf.nil <| SQ.normal ?_
                refine W.yes (by simp only [lk] <;> rfl) <| CWp.skip <| SQ.normal ?_
                refine W.seq <| W.block <| W.seq <| W.regD tyOK mixed (by kernel_rfl) <| 
                    SqW.aop rfl (so_move (by simp only [lk] <;> rfl)) rfl <|
                    SqW.aop rfl (so_move (by simp only [lk] <;> rfl)) rfl <|
                    SqW.aop rfl (so_indexAddr (by simp only [lk] <;> rfl) (by simp only [lk] <;> rfl) (by simp (disch := first | assumption | omega | (simp only [nx] <;> omega) | fail) only [aIndexAddr, ty36, ty29, hpl, hci, and_self, if_true, Int.toNat_natCast, hq3, Nat.mul_one, Nat.zero_add, Nat.add_zero, hyv] <;> rfl)) rfl <|
                    SqW.aop rfl (so_load (by simp only [lk] <;> rfl) (by simp (disch := first | assumption | omega | (simp only [nx] <;> omega) | fail) only [aLoad, ty29, rowOf, hpl, hci, and_self, if_true, Int.toNat_natCast, hq3, Nat.mul_one, Nat.zero_add, Nat.add_zero, hyv] <;> rfl)) rfl <|
                    SqW.aop rfl (so_move (by simp only [lk] <;> rfl)) rfl <|
                    SqW.aopF rfl (so_bin (by simp only [lk] <;> rfl) (by simp only [lk] <;> rfl) bi_leq) (fun _ => rfl) (by first | rfl | assumption | ((simp only [bl, hci, and_self, if_true, Int.toNat_natCast, hq3, Nat.mul_one, Nat.zero_add, Nat.add_zero, hyv]) <;> first | done | assumption | omega) | (simp [hci, and_self, if_true, Int.toNat_natCast, hq3, Nat.mul_one, Nat.zero_add, Nat.add_zero, hyv]; done) | (simp [hci, and_self, if_true, Int.toNat_natCast, hq3, Nat.mul_one, Nat.zero_add, Nat.add_zero, hyv]; omega)) <|
                    SqW.aopF rfl (so_move (by simp only [lk] <;> rfl)) (fun _ => rfl) rfl <|
                    SqW.aop (aguard_of rfl rfl (by simp only [lk] <;> rfl) rfl) (so_move (by simp only [lk] <;> rfl)) rfl <|
                    SqW.aop (aguard_of rfl rfl (by simp only [lk] <;> rfl) rfl) (so_move (by simp only [lk] <;> rfl)) rfl <|
                    SqW.aop (aguard_of rfl rfl (by simp only [lk] <;> rfl) rfl) (so_move (by simp only [lk] <;> rfl)) rfl <|
                    SqW.aop (aguard_of rfl rfl (by simp only [lk] <;> rfl) rfl) (so_indexAddr (by simp only [lk] <;> rfl) (by simp only [lk] <;> rfl) (by simp (disch := first | assumption | omega | (simp only [nx] <;> omega) | fail) only [aIndexAddr, ty36, ty29, hpl, hci, and_self, if_true, Int.toNat_natCast, hq3, Nat.mul_one, Nat.zero_add, Nat.add_zero, hyv] <;> rfl)) rfl <|
                    SqW.aop (aguard_of rfl rfl (by simp only [lk] <;> rfl) rfl) (so_load (by simp only [lk] <;> rfl) (by simp (disch := first | assumption | omega | (simp only [nx] <;> omega) | fail) only [aLoad, ty29, rowOf, hpl, hci, and_self, if_true, Int.toNat_natCast, hq3, Nat.mul_one, Nat.zero_add, Nat.add_zero, hyv] <;> rfl)) rfl <|
                    SqW.callD (aguard_of rfl rfl (by simp only [lk] <;> rfl) rfl) (by simp only [aopnds, lk] <;> rfl) en20 (hrd2) rfl <|
                    SqW.aopF (aguard_of rfl rfl (by simp only [lk] <;> rfl) rfl) (so_not (by simp only [lk] <;> rfl)) (fun _ => rfl) rfl <|
                    SqW.aopF rfl (so_pick (by simp only [lk] <;> rfl) (by simp only [lk, cond_true, cond_false] <;> rfl)) (fun _ => rfl) rfl <|
                    SqW.aopF rfl (so_move (by simp only [lk] <;> rfl)) (fun _ => rfl) rfl <|
                    SqW.aop (aguard_of rfl rfl (by simp only [lk] <;> rfl) rfl) (so_move (by simp only [lk] <;> rfl)) rfl <|
                    SqW.aopF (aguard_of rfl rfl (by simp only [lk] <;> rfl) rfl) (so_bin (by simp only [lk] <;> rfl) (by simp only [lk] <;> rfl) bi_gtr) (fun _ => rfl) (by first | rfl | assumption | ((simp only [bl, hci, and_self, if_true, Int.toNat_natCast, hq3, Nat.mul_one, Nat.zero_add, Nat.add_zero, hyv]) <;> first | done | assumption | omega) | (simp [hci, and_self, if_true, Int.toNat_natCast, hq3, Nat.mul_one, Nat.zero_add, Nat.add_zero, hyv]; done) | (simp [hci, and_self, if_true, Int.toNat_natCast, hq3, Nat.mul_one, Nat.zero_add, Nat.add_zero, hyv]; omega)) <|
                    SqW.aopF (aguard_of rfl rfl (by simp only [lk] <;> rfl) rfl) (so_move (by simp only [lk] <;> rfl)) (fun _ => rfl) rfl <|
                    SqW.pass (aguard_of rfl rfl (by simp only [lk] <;> rfl) rfl) rfl <|
                    SqW.pass (aguard_of rfl rfl (by simp only [lk] <;> rfl) rfl) rfl <|
                    SqW.pass (aguard_of rfl rfl (by simp only [lk] <;> rfl) rfl) rfl <|
                    SqW.pass (aguard_of rfl rfl (by simp only [lk] <;> rfl) rfl) rfl <|
                    SqW.pass (aguard_of rfl rfl (by simp only [lk] <;> rfl) rfl) rfl <|
                    SqW.pass (aguard_of rfl rfl (by simp only [lk] <;> rfl) rfl) rfl <|
                    SqW.pass (aguard_of rfl rfl (by simp only [lk] <;> rfl) rfl) rfl <|
                    SqW.pass (aguard_of rfl rfl (by simp only [lk] <;> rfl) rfl) rfl <|
                    SqW.pass (aguard_of rfl rfl (by simp only [lk] <;> rfl) rfl) rfl <|
                    SqW.pass (aguard_of rfl rfl (by simp only [lk] <;> rfl) rfl) rfl <|
                    SqW.aopF (aguard_of rfl rfl (by simp only [lk] <;> rfl) rfl) (so_pick (by simp only [lk] <;> rfl) (by simp only [lk, cond_true, cond_false] <;> rfl)) (fun _ => rfl) rfl <|
                    SqW.aopF rfl (so_pick (by simp only [lk] <;> rfl) (by simp only [lk, cond_true, cond_false] <;> rfl)) (fun _ => rfl) rfl <|
                    SqW.nil <| SQ.normal ?_
                refine W.no (by simp only [lk] <;> rfl) <| CWp.skip <| BQ.normal <| SQ.normal ?_
                refine W.reg <| 
                    OSuf.aop tyOK rfl (so_move (by simp only [lk] <;> rfl)) rfl <|
                    OSuf.aop tyOK rfl (so_bin (by simp only [lk] <;> rfl) (by simp only [lk] <;> rfl) (bi_w bi_add (by first | (simp only [v2] <;> rfl) | rfl))) rfl <|
                    OSuf.aop tyOK rfl (so_assign (by simp only [lk] <;> rfl)) rfl <|
                    OSuf.nil <| ?_
                -- leaf: round
                refine LQ.normal (m := n - 1) (L := [(1, .slice (some ⟨r, 0, none⟩) gs.length 0), (5, P0 (h0.next + 1)), (6, U64 k), (7, .slice (some ⟨q, 0, none⟩) G.length 0), (8, I64 (i + 1 : Nat))]) (by omega) ?_ ⟨i + 1, by omega, rfl, rfl⟩
                simp only [HasA, Tr.get_put, Nat.reduceEqDiff, reduceIte, v2, and_self]
            · refine W.seq <| W.seq <| W.reg <| 
                  OSuf.aop tyOK rfl (so_move (by simp only [lk] <;> rfl)) rfl <|
                  OSuf.aop tyOK rfl (so_move (by simp only [lk] <;> rfl)) rfl <|
                  OSuf.aop tyOK rfl (so_len (by simp only [aopnds, lk] <;> rfl) (by simp (disch := first | assumption | omega | (simp only [nx] <;> omega) | fail) only [aLenOf, ty36, hpl] <;> rfl)) rfl <|
                  OSuf.aopF tyOK rfl (so_bin (by simp only [lk] <;> rfl) (by simp only [lk] <;> rfl) bi_lss) (fun _ => rfl) (by first | rfl | assumption | ((simp only [bl]) <;> first | done | assumption | omega) | (simp []; done) | (simp []; omega)) <|
                  OSuf.nil <| SQ.normal ?_
              refine W.no (by simp only [lk] <;> rfl) <| CWp.exit <| SQ.exit <| LQ.exit <| BQ.exit <| ?_
              -- leaf: cut
              refine NQ.normal (L := [(1, .slice (some ⟨r, 0, none⟩) gs.length 0), (5, P0 (h0.next + 1)), (6, U64 k)]) ?_ ⟨rfl, rfl⟩
              simp only [HasA, Tr.get_put, Nat.reduceEqDiff, reduceIte, and_self]
          rintro L a' h3 ha ⟨rfl, rfl⟩
          refine BQ.normal <| SQ.normal <| CWp.known ha ?_
          simp only [mkA]
          refine W.reg <| 
              OSuf.aop tyOK rfl (so_move (by simp only [lk] <;> rfl)) rfl <|
              OSuf.aop tyOK rfl (so_bin (by simp only [lk] <;> rfl) (by simp only [lk] <;> rfl) (bi_w bi_add (by first | (simp only [w2] <;> rfl) | rfl))) rfl <|
              OSuf.aop tyOK rfl (so_assign (by simp only [lk] <;> rfl)) rfl <|
              OSuf.nil <| ?_
          -- leaf: round
          refine LQ.normal (m := n - 1) (L := [(1, .slice (some ⟨r, 0, none⟩) gs.length 0), (5, P0 (h0.next + 1)), (6, U64 (k + 1 : Nat))]) (by omega) ?_ ⟨k + 1, _, by omega, hA2, hm, fun p hp => ?_, ?_, Nat.lt_of_lt_of_le hnx hF2.1, fun z hz => by rw [hF2.2 z (by omega) (by omega)]; exact hold z hz, rfl⟩
          · simp only [HasA, Tr.get_put, Nat.reduceEqDiff, reduceIte, w2, and_self]
          · obtain ⟨h9, h8⟩ := List.mem_filter.1 hp
            have := hF p h9
            have : ¬ p.key.2 = (k : Int) := fun e => by simp [inG, e] at h8
            omega
          · have := List.length_filter_le (fun p => !inG k G p) S.ps
            simp only; omega
      · refine W.seq <| W.seq <| W.reg <| 
            OSuf.aop tyOK rfl (so_move (by simp only [lk] <;> rfl)) rfl <|
            OSuf.aopT tyOK rfl (so_bin (by simp only [lk] <;> rfl) (by simp only [lk] <;> rfl) bi_leq) (fun _ => rfl) (by first | rfl | assumption | ((simp only [bl]) <;> first | done | assumption | omega) | (simp []; done) | (simp []; omega)) <|
            OSuf.nil <| SQ.normal ?_
        refine W.yes (by simp only [lk] <;> rfl) <| CWp.skip <| SQ.normal ?_
        refine W.seq <| W.block <| W.seq <| W.seq <| W.reg <| 
            OSuf.aop tyOK rfl (so_move (by simp only [lk] <;> rfl)) rfl <|
            OSuf.aop tyOK rfl (so_move (by simp only [lk] <;> rfl)) rfl <|
            OSuf.callD rfl (by simp only [aopnds, lk] <;> rfl) en20 (hrd) rfl <|
            OSuf.aopF tyOK rfl (so_not (by simp only [lk] <;> rfl)) (fun _ => rfl) rfl <|
            OSuf.nil <| SQ.normal ?_
        refine W.no (by simp only [lk] <;> rfl) <| CWp.skip <| SQ.normal ?_
        refine W.seq <| W.reg <| 
            OSuf.aop tyOK rfl (so_move (by simp only [lk] <;> rfl)) rfl <|
            OSuf.aop tyOK rfl (so_conw (so_conv tyOK (by simp only [lk] <;> rfl) ty29 ⟨_, rfl⟩ ty3 rfl) (by first | (simp only [w2, w3] <;> rfl) | rfl)) rfl <|
            OSuf.aop tyOK rfl (so_move (by simp only [lk] <;> rfl)) rfl <|
            OSuf.aop tyOK rfl (so_len (by simp only [aopnds, lk] <;> rfl) (by simp (disch := first | assumption | omega | (simp only [nx] <;> omega) | fail) only [aLenOf, ty43, hpl] <;> rfl)) rfl <|
            OSuf.aopF tyOK rfl (so_bin (by simp only [lk] <;> rfl) (by simp only [lk] <;> rfl) bi_lss) (fun _ => rfl) (by first | rfl | assumption | ((simp only [bl]) <;> first | done | assumption | omega) | (simp []; done) | (simp []; omega)) <|
            OSuf.aopF tyOK rfl (so_move (by simp only [lk] <;> rfl)) (fun _ => rfl) rfl <|
            OSuf.pass (aguard_of rfl rfl (by simp only [lk] <;> rfl) rfl) rfl <|
            OSuf.pass (aguard_of rfl rfl (by simp only [lk] <;> rfl) rfl) rfl <|
            OSuf.pass (aguard_of rfl rfl (by simp only [lk] <;> rfl) rfl) rfl <|
            OSuf.pass (aguard_of rfl rfl (by simp only [lk] <;> rfl) rfl) rfl <|
            OSuf.aopF tyOK rfl (so_pick (by simp only [lk] <;> rfl) (by simp only [lk, cond_true, cond_false] <;> rfl)) (fun _ => rfl) rfl <|
            OSuf.nil <| SQ.normal ?_
        refine W.no (by simp only [lk] <;> rfl) <| W.reg <| 
            OSuf.aop tyOK rfl (so_move (by simp only [lk] <;> rfl)) rfl <|
            OSuf.aop tyOK rfl (so_move (by simp only [lk] <;> rfl)) rfl <|
            OSuf.call rfl (by simp only [aopnds, lk] <;> rfl) en13 (logged_c _ (h0.next + 1) S hA k) ?_
        rintro _ h2 ⟨rfl, hA2, hF2⟩
        refine ⟨_, rfl, ?_⟩
        refine 
            OSuf.nil <| BQ.normal <| SQ.normal ?_
        refine W.reg <| 
            OSuf.aop tyOK rfl (so_move (by simp only [lk] <;> rfl)) rfl <|
            OSuf.aop tyOK rfl (so_bin (by simp only [lk] <;> rfl) (by simp only [lk] <;> rfl) (bi_w bi_add (by first | (simp only [w2, w3] <;> rfl) | rfl))) rfl <|
            OSuf.aop tyOK rfl (so_assign (by simp only [lk] <;> rfl)) rfl <|
            OSuf.nil <| ?_
        -- leaf: round
        obtain ⟨k', S', q1, q2, q3, q4, q5, q6, q7, rfl⟩ := log h2 hA2 hF2
        refine LQ.normal (m := n - 1) (L := [(1, .slice b2 gs.length 0), (5, P0 (h0.next + 1)), (6, U64 (k + 1 : Nat))]) (by omega) ?_ ⟨k + 1, S', q1, q2, q3, q4, q5, q6, q7, rfl⟩
        simp only [HasA, Tr.get_put, Nat.reduceEqDiff, reduceIte, w2, and_self]
    · refine W.seq <| W.seq <| W.reg <| 
          OSuf.aop tyOK rfl (so_move (by simp only [lk] <;> rfl)) rfl <|
          OSuf.aopF tyOK rfl (so_bin (by simp only [lk] <;> rfl) (by simp only [lk] <;> rfl) bi_leq) (fun _ => rfl) (by first | rfl | assumption | ((simp only [bl]) <;> first | done | assumption | omega) | (simp []; done) | (simp []; omega)) <|
          OSuf.nil <| SQ.normal ?_
      refine W.no (by simp only [lk] <;> rfl) <| CWp.exit <| SQ.exit <| LQ.exit <| BQ.exit <| ?_
      -- leaf: cut
      refine NQ.normal (L := [(5, P0 (h0.next + 1))]) ?_ ⟨S, hA, ?_, rfl⟩
      · simp only [HasA, Tr.get_put, Nat.reduceEqDiff, reduceIte, and_self]
      · cases hps : S.ps with
        | nil => rfl
        | cons p ps => have := hF p (by rw [hps]; exact List.mem_cons_self); omega
  rintro L a' h ha ⟨S, hA, he, rfl⟩
  refine SQ.normal <| CWp.known ha ?_
  simp only [mkA]
  refine W.seq <| W.reg <| 
      OSuf.aop tyOK rfl (so_move (by simp only [lk] <;> rfl)) rfl <|
      OSuf.callD rfl (by simp only [aopnds, lk] <;> rfl) en18 (len_c _ (h0.next + 1) S hA) rfl <|
      OSuf.aop tyOK rfl (so_bin (by simp only [lk] <;> rfl) (by simp only [lk] <;> rfl) bi_eql) rfl <|
      OSuf.aop tyOK rfl (so_assign (by simp only [lk] <;> rfl)) rfl <|
      OSuf.nil <| SQ.normal ?_
  refine CWp.ret <| FQ.ret (by simp only [aRet, Try.f4, aResults, aResult, lk, Nat.reduceEqDiff, reduceIte] <;> rfl) ?_
  -- leaf: end
  simp [he]
end Go.Proofs.Ytfbfihfmlenklaa
