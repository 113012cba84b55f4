/-
  Merged: RhH, RhI, RhJ, RhN, RhK, RhL, RhM.
-/
import Derived.Test.YtebheelmgcggmaaGreatMp
import Derived.Test.YtebheelmgcggmaaGreatMo
import Derived.Test.YtebheelmgcggmaaGreatMf
import Derived.Test.YtebheelmgcggmaaGreatMa
set_option linter.unusedSimpArgs false
set_option linter.unusedVariables false
set_option maxRecDepth 10000
set_option maxHeartbeats 8000000
namespace Go.Proofs.YtebheelmgcggmaaGreat
open Go.Ab Go.Sort
structure RX (h g : AHeap) (low high : List UInt8) (full : Nat) (s4 : Rdr) (i : Nat) (bv : Value) : Prop where
  q : g.get (h.next + 1) = some (.cells (rc (recsS i s4).2) 1)
  p : g.get (h.next + 2) = some (LR ⟨low, high, full, [], []⟩ bv (.slice none 0 0))
  r : g.get h.next = some (.cells zlf 1)
  s : SV g 4 (h.next + 3) (fl ((recsS i s4).1.map (·.2))) bv
  n : h.next + 3 ≤ g.next
  o : ∀ z, z < h.next → g.get z = h.get z
  d : (recsS i s4).1.all (fun x => decide (x.1 ≤ 1)) = true
theorem read_p (h : AHeap) (l : List UInt8) (hl : l.length ≤ 400000) : FWpP Tryz.prog 65 [encS l] h (fun u g => readOK l = true ∧ (∃ bv, u = LV (leafS l) bv (.slice none 0 0) ∧ SV g 4 (h.next + 3) (fl (leafS l).base) bv) ∧ h.next ≤ g.next ∧ ∀ z, z < h.next → g.get z = h.get z)
    fun pv g => readOK l = false ∧ pv = WR ∧ h.next ≤ g.next ∧ ∀ z, z < h.next → g.get z = h.get z := by
  have tb65 := And.intro ty23 (And.intro ty25 (And.intro ty27 (And.intro ty4 (ty9))))
  obtain ⟨low, s1, e1⟩ : ∃ a b, textS (some l) = (a, b) := ⟨_, _, rfl⟩
  obtain ⟨high, s2, e2⟩ : ∃ a b, textS s1 = (a, b) := ⟨_, _, rfl⟩
  obtain ⟨full, s3, e3⟩ : ∃ a b, numS s2 = (a, b) := ⟨_, _, rfl⟩
  obtain ⟨n, s4, e4⟩ : ∃ a b, numS s3 = (a, b) := ⟨_, _, rfl⟩
  have eH : headS (some l) = (low, high, full, n, s4) := by simp only [headS, e1, e2, e3, e4]
  have l0 : lenS (some l) ≤ 400000 := hl
  have l1 : lenS s1 ≤ 400000 := by have := textS_le (some l); rw [e1] at this; exact Nat.le_trans this l0
  have l2 : lenS s2 ≤ 400000 := by have := textS_le s1; rw [e2] at this; exact Nat.le_trans this l1
  have l3 : lenS s3 ≤ 400000 := by have := numS_le s2; rw [e3] at this; exact Nat.le_trans this l2
  have l4 : lenS s4 ≤ 400000 := by have := numS_le s3; rw [e4] at this; exact Nat.le_trans this l3
  refine V.enter tyOK Tryz.func65 rfl rfl ?_
  simp only [entry]
  refine V.seq <| V.reg <| Oa rfl (so_alloc (by simp only [aAlloc, ty25] <;> rfl)) rfl <| OSuf.nil <| SQP.normal ?_
  refine V.seq <| V.reg <| Oa rfl sm rfl <| OSuf.call rfl (by simp only [aopnds, lk] <;> rfl) en92 (rdnew_c _ l) ?_
  rintro _ _ ⟨rfl, rfl⟩
  refine ⟨_, rfl, ?_⟩
  refine Oa rfl za rfl <| OSuf.nil <| SQP.normal ?_
  refine V.seq <| V.reg <| Oa rfl sm rfl <| OSuf.call rfl (by simp only [aopnds, lk] <;> rfl) en93 (rdtext_e (s := some l) (zQ) l0 e1) ?_
  rintro _ g1 ⟨rfl, q1, n1, k1⟩
  refine ⟨_, rfl, ?_⟩
  refine Oa rfl sm rfl <| OSuf.call rfl (by simp only [aopnds, lk] <;> rfl) en93 (rdtext_e q1 l1 e2) ?_
  rintro _ g2 ⟨rfl, q2, n2, k2⟩
  refine ⟨_, rfl, ?_⟩
  refine Oa rfl sm rfl <| OSuf.call rfl (by simp only [aopnds, lk] <;> rfl) en94 (rdnum_e q2 l2 e3) ?_
  rintro _ g3 ⟨rfl, q3, n3, k3⟩
  simp only [nx] at n1 n2 n3 k1 k2 k3 q3
  have n3' : g3.next = h.next + 2 := by omega
  have r3 : g3.get h.next = some (.cells zlf 1) := (by rw [k3 _ (by omega), k2 _ (by omega), k1 _ (by omega)]; simp (disch := first | omega | simp only [nx]; omega) only [hpl] <;> rfl)
  have o3 : ∀ z, z < h.next → g3.get z = h.get z := fun z hz => (by rw [k3 _ (by omega), k2 _ (by omega), k1 _ (by omega)]; simp (disch := first | omega | simp only [nx]; omega) only [hpl])
  clear k1 k2 k3
  refine ⟨_, rfl, ?_⟩
  refine Oa rfl (so_build (by simp only [aparts, lk] <;> rfl) (by simp only [aBuild, ty25, Value.cells, places, tb65] <;> rfl)) rfl <| Oa rfl (so_alloc (by simp only [aAlloc, ty25] <;> rfl)) rfl <| Oa rfl (zs (hv := by simp (disch := first | omega | simp only [nx]; omega) only [aStore, ty25, writeRow, hpl, Value.cells] <;> rfl)) rfl <| OSuf.nil <| SQP.normal ?_
  refine V.seq <| V.reg <| Oa rfl sm rfl <| OSuf.call rfl (by simp only [aopnds, lk] <;> rfl) en94 (rdnum_e (by simp (disch := first | omega | simp only [nx]; omega) only [hpl]; exact q3) l3 e4) ?_
  rintro _ g4 ⟨rfl, q4, n4, k4⟩
  simp only [nx] at n4 k4 q4
  have n4' : g4.next = h.next + 3 := by omega
  have p4 : g4.get (h.next + 2) = some (LR ⟨low, high, full, [], []⟩ (.slice none 0 0) (.slice none 0 0)) := (by rw [k4 _ (by omega), show h.next + 2 = g3.next by omega]; simp (disch := first | omega | simp only [nx]; omega) only [hpl] <;> rfl)
  have r4 : g4.get h.next = some (.cells zlf 1) := (by rw [k4 _ (by omega)]; simp (disch := first | omega | simp only [nx]; omega) only [hpl]; exact r3)
  have o4 : ∀ z, z < h.next → g4.get z = h.get z := fun z hz => (by rw [k4 _ (by omega)]; simp (disch := first | omega | simp only [nx]; omega) only [hpl]; exact o3 z hz)
  clear k4 o3 r3
  refine ⟨_, rfl, ?_⟩
  refine Oa rfl za rfl <| OSuf.nil <| SQP.normal ?_
  refine V.seq <| V.regP <| OSufP.aop tyOK rfl sm rfl <| OSufP.aop tyOK rfl (zb (hv := bi_leq)) rfl <| OSufP.callP rfl (by simp only [aopnds, lk] <;> rfl) en95 ((must_p _ _).monoJ (by rintro pv g ⟨hb, rfl, rfl⟩; exact ⟨(by simp only [decide_eq_false_iff_not] at hb; simp only [readOK, eH]; rw [decide_eq_false (by omega)]; rfl), rfl, by omega, o4⟩)) ?_
  rintro _ _ ⟨hb, rfl, rfl⟩
  refine ⟨_, rfl, ?_⟩
  refine OSufP.nil <| SQP.normal ?_
  refine V.seq <| V.seq <| V.reg <| Oa rfl sm rfl <| Oa rfl sm rfl <| OSuf.nil <| SQP.normal ?_
  have hn : n ≤ 64 := by simp only [decide_eq_true_eq] at hb; omega
  have hle := recsS_len
  refine V.cut (fun L g => ∃ bv, RX h g low high full s4 n bv ∧ L = [(2, P0 h.next), (3, P0 (h.next + 1)), (4, P0 (h.next + 2))]) (V.block (V.loop (fun m L g => ∃ (i : Nat) (bv : Value), m + i = n ∧ RX h g low high full s4 i bv ∧ L = [(2, P0 h.next), (3, P0 (h.next + 1)), (4, P0 (h.next + 2)), (22, U64 n), (23, U64 i)]) (n := n) (L := [(2, P0 h.next), (3, P0 (h.next + 1)), (4, P0 (h.next + 2)), (22, U64 n), (23, U64 ((0 : Nat) : Int))]) ⟨0, .slice none 0 0, rfl, ⟨q4, p4, r4, .nil, by omega, o4, rfl⟩, rfl⟩ ?_ ?_)) ?_
  · simp [HasA, Tr.get_put, n3']
  · rintro m L g ⟨i, bv, hm, X, rfl⟩
    simp only [mkA]
    obtain ⟨x1, x2, x3, x4, x5, x6, x7⟩ := X
    by_cases hi : (i : Int) < (n : Int)
    · have hi' : i < n := by omega
      obtain ⟨b, rfl⟩ := sv_form x4
      generalize hst : (recsS i s4).2 = st at x1
      obtain ⟨key, ra, ek⟩ : ∃ a b, textS st = (a, b) := ⟨_, _, rfl⟩
      obtain ⟨lsn, rb, en⟩ : ∃ a b, numS ra = (a, b) := ⟨_, _, rfl⟩
      obtain ⟨del, rd, ed⟩ : ∃ a b, numS rb = (a, b) := ⟨_, _, rfl⟩
      obtain ⟨val, re, ev⟩ : ∃ a b, textS rd = (a, b) := ⟨_, _, rfl⟩
      have m0 : lenS st ≤ 400000 := by rw [← hst]; exact Nat.le_trans (recsS_le i s4) l4
      have m1 : lenS ra ≤ 400000 := by have := textS_le st; rw [ek] at this; exact Nat.le_trans this m0
      have m2 : lenS rb ≤ 400000 := by have := numS_le ra; rw [en] at this; exact Nat.le_trans this m1
      have m3 : lenS rd ≤ 400000 := by have := numS_le rb; rw [ed] at this; exact Nat.le_trans this m2
      have eR : recS st = (del, ⟨key, lsn, ((del : Int) == 1), val⟩, re) := by simp only [recS, ek, en, ed, ev]
      have eS : recsS (i + 1) s4 = ((recsS i s4).1 ++ [(del, ⟨key, lsn, ((del : Int) == 1), val⟩)], re) := by rw [recsS_snoc, hst, eR]
      have w2 : IntKind.u64.wrap ((i : Int) + 1) = ((i + 1 : Nat) : Int) := by
        have := wr_u64 (n := i + 1) (by omega); simpa using this
      have hbad : 1 < del → readOK l = false := fun h9 => by
        have hmem : (recsS n s4).1.all (fun x => decide (x.1 ≤ 1)) = false := by
          rw [← Bool.not_eq_true, List.all_eq_true]
          intro hall
          have := recsS_mem (i + 1) n s4 (by omega) (del, ⟨key, lsn, ((del : Int) == 1), val⟩) (by rw [eS]; simp)
          have := hall _ this
          simp only [decide_eq_true_eq] at this; omega
        simp only [readOK, eH]; rw [hmem]; simp
      refine V.seq <| V.reg <| Ot rfl (zb (hv := bi_lss)) rfl (by first | rfl | assumption | ((simp only [bl, Value.cells, places, tb65]) <;> first | done | assumption | omega) | (simp; done) | (simp; omega)) <| OSuf.nil <| SQP.normal ?_
      refine V.seq <| V.yes (by simp only [lk] <;> rfl) <| CWpP.skip <| SQP.normal ?_
      refine V.seq <| V.block <| V.seq <| V.reg <| Oa rfl sm rfl <| OSuf.call rfl (by simp only [aopnds, lk] <;> rfl) en93 (rdtext_e x1 m0 ek) ?_
      rintro _ f1 ⟨rfl, a1, c1, j1⟩
      refine ⟨_, rfl, ?_⟩
      refine Oa rfl sm rfl <| OSuf.call rfl (by simp only [aopnds, lk] <;> rfl) en94 (rdnum_e a1 m1 en) ?_
      rintro _ f2 ⟨rfl, a2, c2, j2⟩
      refine ⟨_, rfl, ?_⟩
      refine Oa rfl (so_build (by simp only [aparts, lk] <;> rfl) (by simp only [aBuild, ty27, Value.cells, places, tb65] <;> rfl)) rfl <| Oa rfl (so_alloc (by simp only [aAlloc, ty27] <;> rfl)) rfl <| Oa rfl (zs (hv := by simp (disch := first | omega | simp only [nx]; omega) only [aStore, ty27, writeRow, hpl, Value.cells] <;> rfl)) rfl <| OSuf.nil <| SQP.normal ?_
      refine V.seq <| V.reg <| Oa rfl sm rfl <| OSuf.call rfl (by simp only [aopnds, lk] <;> rfl) en94 (rdnum_e (by simp (disch := first | omega | simp only [nx]; omega) only [hpl]; exact a2) m2 ed) ?_
      rintro _ f3 ⟨rfl, a3, c3, j3⟩
      simp only [nx] at c3
      have y3 : f3.get f2.next = some (.cells [encS key, U64 lsn, .bool false, encS [] ] 1) := (by rw [j3 _ (by omega)]; simp (disch := first | omega | simp only [nx]; omega) only [hpl] <;> rfl)
      have p3 : ∀ z, z < h.next → f3.get z = h.get z := fun z hz => (by rw [j3 _ (by omega)]; simp (disch := first | omega | simp only [nx]; omega) only [hpl]; rw [j2 _ (by omega), j1 _ (by omega)]; exact x6 z hz)
      refine ⟨_, rfl, ?_⟩
      refine Oa rfl za rfl <| OSuf.nil <| SQP.normal ?_
      refine V.seq <| V.regP <| OSufP.aop tyOK rfl sm rfl <| OSufP.aop tyOK rfl (zb (hv := bi_leq)) rfl <| OSufP.callP rfl (by simp only [aopnds, lk] <;> rfl) en95 ((must_p _ _).monoJ (by rintro pv g9 ⟨hb, rfl, rfl⟩; exact ⟨hbad (by simp only [decide_eq_false_iff_not] at hb; omega), rfl, by omega, p3⟩)) ?_
      rintro _ _ ⟨hb, rfl, rfl⟩
      refine ⟨_, rfl, ?_⟩
      refine OSufP.nil <| SQP.normal ?_
      refine V.seq <| V.reg <| Oa rfl sm rfl <| Oa rfl (zb (hv := bi_eql)) rfl <| Oa rfl sm rfl <| OSuf.call rfl (by simp only [aopnds, lk] <;> rfl) en93 (rdtext_e a3 m3 ev) ?_
      rintro _ f4 ⟨rfl, a4, c4, j4⟩
      have y4 : f4.get f2.next = some (.cells [encS key, U64 lsn, .bool false, encS [] ] 1) := (by rw [j4 _ (by omega)]; exact y3)
      have z2 : f4.get (h.next + 2) = some (LR ⟨low, high, full, [], []⟩ (.slice b ((recsS i s4).1.map (·.2)).length 0) (.slice none 0 0)) := (by rw [j4 _ (by omega), j3 _ (by omega)]; simp (disch := first | omega | simp only [nx]; omega) only [hpl]; rw [j2 _ (by omega), j1 _ (by omega)]; exact x2)
      have zk : ∀ z, z < g.next → ¬ z = h.next + 1 → f4.get z = g.get z := fun z hz hne => (by rw [j4 _ hne, j3 _ hne]; simp (disch := first | omega | simp only [nx]; omega) only [hpl]; rw [j2 _ hne, j1 _ hne])
      obtain ⟨v', G, ap1, ap2, ap3, ap4, ap5⟩ := sv_oneR (g := (f4.set f2.next (.cells [encS key, U64 lsn, .bool ((del : Int) == 1), encS [] ] 1)).set f2.next (.cells [encS key, U64 lsn, .bool ((del : Int) == 1), encS val] 1)) (x4.mono (by simp only [nx]; omega) (fun z hz he => by have := x4.row he; simp (disch := first | omega | simp only [nx]; omega) only [hpl]; exact zk z hz (by omega))) ⟨key, lsn, ((del : Int) == 1), val⟩ (by simp [recsS_len]; omega) (by simp only [nx]; omega)
      obtain ⟨b', rfl⟩ := sv_form ap2
      simp only [nx] at ap3 ap4
      have nv : ∀ z, z < h.next + 3 → ¬ svRow (.slice b ((recsS i s4).1.map (·.2)).length 0) = some z := fun z hz e => (by have := x4.row e; omega)
      have Gz2 : G.get (h.next + 2) = some (LR ⟨low, high, full, [], []⟩ (.slice b ((recsS i s4).1.map (·.2)).length 0) (.slice none 0 0)) := (by rw [ap4 _ (by omega) (nv _ (by omega))]; simp (disch := first | omega | simp only [nx]; omega) only [hpl]; exact z2)
      refine ⟨_, rfl, ?_⟩
      refine Oa rfl (zf (hv := fa_ok (k := 2) ty27 rfl rfl ty4 rfl rfl)) rfl <| Oa rfl (zs (hv := by simp (disch := first | omega | simp only [nx]; omega) only [aStore, ty4, writeRow, hpl, Value.cells, y4, z2, Gz2, rcl] <;> rfl)) rfl <| Oa rfl (zf (hv := fa_ok (k := 3) ty27 rfl rfl ty9 rfl rfl)) rfl <| Oa rfl (zs (hv := by simp (disch := first | omega | simp only [nx]; omega) only [aStore, ty9, writeRow, hpl, Value.cells, y4, z2, Gz2, rcl] <;> rfl)) rfl <| OSuf.nil <| SQP.normal ?_
      refine V.reg <| Oa rfl (zf (hv := fa_ok (k := 3) ty25 rfl rfl ty23 rfl rfl)) rfl <| Oa rfl (zl (hv := by simp (disch := first | omega | simp only [nx]; omega) only [aLoad, ty23, rowOf, hpl, Value.cells, y4, z2, Gz2, rcl] <;> rfl)) rfl <| Oa rfl (zl (hv := by simp (disch := first | omega | simp only [nx]; omega) only [aLoad, ty27, rowOf, hpl, Value.cells, y4, z2, Gz2, rcl] <;> rfl)) rfl <| Oa rfl (so_buildSlice (by simp only [aparts, lk] <;> rfl) (by simp only [aBuildSlice, ty23, ty27, Value.cells, places, tb65, y4, z2, Gz2, rcl] <;> rfl)) rfl <| Oa rfl (so_append (by simp only [aopnds, lk] <;> rfl) (ap1 _ _ (by simp only [appT, ty23, ty27] <;> rfl) rfl (by decide))) rfl <| Oa rfl (zf (hv := fa_ok (k := 3) ty25 rfl rfl ty23 rfl rfl)) rfl <| Oa rfl (zs (hv := by simp (disch := first | omega | simp only [nx]; omega) only [aStore, ty23, writeRow, hpl, Value.cells, y4, z2, Gz2, rcl] <;> rfl)) rfl <| OSuf.nil <| BQ.normal <| SQP.normal ?_
      refine V.reg <| Oa rfl (zb (hv := bi_w bi_add (by first | (simp only [w2] <;> rfl) | rfl))) rfl <| Oa rfl sm rfl <| OSuf.nil <| ?_
      have hdel : del ≤ 1 := by simp only [decide_eq_true_eq] at hb; omega
      refine LQ.normal (m := m - 1) (L := [(2, P0 h.next), (3, P0 (h.next + 1)), (4, P0 (h.next + 2)), (22, U64 n), (23, U64 ((i + 1 : Nat) : Int))]) (by omega) ?_ ⟨i + 1, .slice b' _ 0, by omega, ⟨?_, zP, ?_, ?_, by simp only [nx]; omega, fun z hz => ?_, ?_⟩, rfl⟩
      · simp only [HasA, Tr.get_put, Nat.reduceEqDiff, reduceIte, and_self]
      · rw [eS, zS (by omega), ap4 _ (by omega) (nv _ (by omega))]; simp (disch := first | omega | simp only [nx]; omega) only [hpl]; exact a4
      · rw [zS (by omega), ap4 _ (by omega) (nv _ (by omega))]; simp (disch := first | omega | simp only [nx]; omega) only [hpl]; rw [zk _ (by omega) (by omega)]; exact x3
      · rw [eS, List.map_append]
        exact ap2.mono (by simp only [nx]; omega) (fun z hz he => zS (by have := ap2.row he; omega))
      · rw [zS (by omega), ap4 _ (by omega) (nv _ (by omega))]; simp (disch := first | omega | simp only [nx]; omega) only [hpl]; rw [zk _ (by omega) (by omega)]; exact x6 z hz
      · rw [eS, List.all_append, x7]; simp [hdel]
    · have : i = n := by omega
      subst this
      refine V.seq <| V.reg <| Ofb rfl (zb (hv := bi_lss)) rfl <| OSuf.nil <| SQP.normal ?_
      refine V.seq <| V.no (by simp only [lk] <;> rfl) <| CWpP.exit <| SQP.exit <| LQ.exit <| BQ.exit <| ?_
      refine NQ.normal (L := [(2, P0 h.next), (3, P0 (h.next + 1)), (4, P0 (h.next + 2))]) ?_ ⟨bv, ⟨x1, x2, x3, x4, x5, x6, x7⟩, rfl⟩
      simp only [HasA, Tr.get_put, Nat.reduceEqDiff, reduceIte, and_self]
  rintro L a' g ha ⟨bv, ⟨x1, x2, x3, x4, x5, x6, x7⟩, rfl⟩
  have ee := rdend_c g _ _ x1
  have hL : leafS l = ⟨low, high, full, (recsS n s4).1.map (·.2), []⟩ := by simp only [leafS, eH]
  have hR : readOK l = (endS (recsS n s4).2 && chk (leafS l)) := by simp only [readOK, eH]; rw [x7, decide_eq_true hn]; rfl
  obtain ⟨b, rfl⟩ := sv_form x4
  cases he : endS (recsS n s4).2 with
  | false =>
    rw [he] at ee hR
    refine SQP.normal <| CWpP.known ha ?_
    simp only [mkA]
    refine V.seq <| V.regP <| OSufP.aop tyOK rfl sm rfl <| OSufP.callD rfl (by simp only [aopnds, lk] <;> rfl) en96 (ee) rfl <| OSufP.aopF tyOK rfl sm (fun _ => rfl) rfl <| OSufP.pass ag rfl <| OSufP.pass ag rfl <| OSufP.aopF tyOK rfl Zp (fun _ => rfl) rfl <| OSufP.callP rfl (by simp only [aopnds, lk] <;> rfl) en95 ((must_p _ _).monoJ (by rintro pv g ⟨hb, rfl, rfl⟩; exact ⟨by rw [hR]; rfl, rfl, by omega, x6⟩)) ?_
    rintro _ _ ⟨hb, rfl, rfl⟩
    refine ⟨_, rfl, ?_⟩
    refine OSufP.nil <| SQP.normal ?_
    refine V.seq <| V.reg <| Oa rfl (zl (hv := by simp (disch := first | omega | simp only [nx]; omega) only [aLoad, ty25, rowOf, hpl, x2, x3, Value.cells] <;> rfl)) rfl <| Oa rfl (zs (hv := by simp (disch := first | omega | simp only [nx]; omega) only [aStore, ty25, writeRow, hpl, x2, x3, Value.cells] <;> rfl)) rfl <| OSuf.nil <| SQP.normal ?_
    refine CWpP.ret <| FQ.ret (by simp (disch := first | omega | simp only [nx]; omega) only [aRet, Tryz.f65, aResults, aResult, lk, Nat.reduceEqDiff, reduceIte, aLoad, rowOf, hpl, x2, x3, Value.cells, places, tb65] <;> rfl) ?_
    cases hb
  | true =>
    rw [he] at ee hR
    have hmay := may'_c g (leafS l) (.slice b ((recsS n s4).1.map (·.2)).length 0) (.slice none 0 0) (by rw [hL]; exact sv_rs x4) ⟨⟨_, _, by rw [hL]; rfl, .inl ⟨rfl, by rw [hL]; rfl, rfl⟩⟩⟩ (by rw [hL]; simp [recsS_len]; omega) (by rw [hL]; simp)
    have x2' : g.get (h.next + 2) = some (LR (leafS l) (.slice b ((recsS n s4).1.map (·.2)).length 0) (.slice none 0 0)) := by rw [hL]; exact x2
    have x3' : g.get h.next = some (.cells [encS [], encS [], U64 0, .slice none 0 0, .slice none 0 0] 1) := x3
    refine SQP.normal <| CWpP.known ha ?_
    simp only [mkA]
    refine V.seq <| V.regP <| OSufP.aop tyOK rfl sm rfl <| OSufP.callD rfl (by simp only [aopnds, lk] <;> rfl) en96 (ee) rfl <| OSufP.aopT tyOK rfl sm (fun _ => rfl) rfl <| OSufP.aop tyOK ag (zl (hv := by simp (disch := first | omega | simp only [nx]; omega) only [aLoad, ty25, rowOf, hpl, x2', x3', Value.cells] <;> rfl)) rfl <| OSufP.callD ag (by simp only [aopnds, lk] <;> rfl) en37 (hmay) rfl <| OSufP.aop tyOK rfl Zp rfl <| OSufP.callP rfl (by simp only [aopnds, lk] <;> rfl) en95 ((must_p _ _).monoJ (by rintro pv g ⟨hb, rfl, rfl⟩; exact ⟨by rw [hR, hb]; rfl, rfl, by omega, x6⟩)) ?_
    rintro _ _ ⟨hb, rfl, rfl⟩
    refine ⟨_, rfl, ?_⟩
    refine OSufP.nil <| SQP.normal ?_
    refine V.seq <| V.reg <| Oa rfl (zl (hv := by simp (disch := first | omega | simp only [nx]; omega) only [aLoad, ty25, rowOf, hpl, x2', x3', Value.cells] <;> rfl)) rfl <| Oa rfl (zs (hv := by simp (disch := first | omega | simp only [nx]; omega) only [aStore, ty25, writeRow, hpl, x2', x3', Value.cells] <;> rfl)) rfl <| OSuf.nil <| SQP.normal ?_
    refine CWpP.ret <| FQ.ret (by simp (disch := first | omega | simp only [nx]; omega) only [aRet, Tryz.f65, aResults, aResult, lk, Nat.reduceEqDiff, reduceIte, aLoad, rowOf, hpl, x2', x3', Value.cells, places, tb65] <;> rfl) ?_
    refine ⟨by rw [hR, hb]; rfl, ⟨_, rfl, ?_⟩, by simp only [nx]; omega, fun z hz => by simp (disch := first | omega | simp only [nx]; omega) only [hpl]; exact x6 z hz⟩
    rw [hL]
    exact x4.mono (by simp) (fun z hz he => zS (by have := x4.row he; omega))
end Go.Proofs.YtebheelmgcggmaaGreat
namespace Go.Proofs.YtebheelmgcggmaaGreat
open Go.Ab Go.Sort
section
variable {ρ : Operand → Option Value} {dst : Option Tmp} {ty : TypeId} {pos : String} {af : Array Edge} {g : Option (Nat × Bool)} {x y : Operand} {h : AHeap} {t : TypeId} {v : Value}
theorem op_neqi (hx : ρ x = some (.iface t v)) (hv : flat v = true) (hy : ρ y = some .nilIface) : OpWp Tryz.prog ⟨dst, .binOp .neq 20 x y 20, ty, pos, af, g⟩ ρ h fun u h' => u = .bool true ∧ h' = h := by
  intro μ ρ' w c cs hρ st
  have e1 : ρ' x = .iface t v := by
    have := hρ x _ hx
    cases hz : ρ' x <;> rw [hz] at this <;> cases this
    rename_i h2; rw [h2.flat_eq hv]
  have e2 : ρ' y = .nilIface := by
    have := hρ y _ hy
    cases hz : ρ' y <;> rw [hz] at this <;> first | rfl | cases this
  refine ⟨.value (.bool true), w, _, .bool true, .bool true, h, μ, w, ?_, rfl, .refl _ _, ⟨rfl, rfl⟩, Ext.refl st, .bool true⟩
  have hu := Go.Ab.run_underlying tyOK ty20 w
  have h1 : (eqGuard .neq 20 x y (.iface t v) .nilIface).run Tryz.prog w = .ok () w := rfl
  have h2 : (Op.equal 20 (.iface t v) .nilIface).run Tryz.prog w = .ok false w := by
    show (Op.equalIn (Op.maxDepth - 1 + 1) 20 (.iface t v) .nilIface).run Tryz.prog w = .ok false w
    rw [Op.equalIn]
    simp only [Sem.run_bind, hu, Result.andThen_ok]
    rfl
  have h3 : (binOp .neq 20 (.iface t v) .nilIface).run Tryz.prog w = .ok (.bool true) w := by
    show (do pure (.bool (!(← Op.equal 20 (.iface t v) .nilIface))) : Sem Value).run Tryz.prog w = _
    simp only [Sem.run_bind, h2, Result.andThen_ok, Sem.run_pure]; rfl
  show (do pure (.value (← (do eqGuard .neq 20 x y (ρ' x) (ρ' y); binOp .neq 20 (ρ' x) (ρ' y)))) : Sem Next).run Tryz.prog w = _
  simp only [e1, e2, Sem.run_bind, h1, h3, Result.andThen_ok, Sem.run_pure]
theorem op_ta {ti : TI} (hx : ρ x = some (.iface t v)) (hv : flat v = true) (ht : T.get t = some ti) (hi : isIface ti.und = false) {t0 : TypeId} : OpWp Tryz.prog ⟨dst, .typeAssert x t0 t true, ty, pos, af, g⟩ ρ h fun u h' => u = .tuple #[v, .bool true] ∧ h' = h := by
  intro μ ρ' w c cs hρ st
  have e1 : ρ' x = .iface t v := by
    have := hρ x _ hx
    cases hz : ρ' x <;> rw [hz] at this <;> cases this
    rename_i h2; rw [h2.flat_eq hv]
  refine ⟨.value (.tuple #[v, .bool true]), w, _, .tuple #[v, .bool true], .tuple #[v, .bool true], h, μ, w, ?_, rfl, .refl _ _, ⟨rfl, rfl⟩, Ext.refl st, .tuple (.cons (.of_flat _ _ hv) (.cons (.bool true) .nil))⟩
  have hu := Go.Ab.run_underlying tyOK ht w
  have : (Instr.typeAssert (.iface t v) t0 t true).run Tryz.prog w = .ok (.tuple #[v, .bool true]) w := by
    unfold Instr.typeAssert
    simp only [Sem.run_bind, hu, Result.andThen_ok]
    cases hd : ti.und <;> rw [hd] at hi <;> first | (cases hi; done) | simp
  simp [execOp, e1, this]
end
theorem GWp.ofa {P : Program} {b : Frame} {D : List Deferred} {nt : Nat} {J : Tr Value → Value → AHeap → Prop} {ops : Array Oper} {o : Oper} {os : List Oper} {a a1 : Tr Value} {h : AHeap} {v : Value} {R : Tr Value → AHeap → Prop} (hg : aguard ops a o = some true) (ho : OpWp P o (aopnd a) h fun u h' => u = v ∧ h' = h) (hp : aput nt a o.dst v = some a1) (t : GSuf P b D nt J ops os a1 h R) : GSuf P b D nt J ops (o :: os) a h R :=
  GSuf.op hg (.of (ho.mono fun u h' hk => by obtain ⟨rfl, rfl⟩ := hk; exact ⟨a1, hp, t⟩))
theorem st_nil (h : AHeap) : aStore T 77 (P0 h.next) (.agg #[]) (h.new (.cells [] 1)) = some ((h.new (.cells [] 1)).set h.next (.cells [] 1)) := by
  have e : (bif Nat.beq (Value.cells (.agg #[])).size 0 then writeRow (h.new (.cells [] 1)) h.next 0 (Value.cells (.agg #[])).toList else none) = some ((h.new (.cells [] 1)).set h.next (.cells [] 1)) := by
    show writeRow (h.new (.cells [] 1)) h.next 0 [] = _
    simp only [writeRow, AHeap.get_new_same]
    rfl
  simp only [aStore, ty77]
  exact e
theorem DefWp.mono {P : Program} {g : FuncId} {caps : List Value} {h : AHeap} {u u' : FrameMode} {K K' : AHeap → Prop} (hd : DefWp P g caps h u u' K) (hk : ∀ g, K g → K' g) : DefWp P g caps h u u' K' :=
  fun μ c' w h1 h2 c cs hu => let ⟨v, h', μ', w', fr, a, r⟩ := hd μ c' w h1 h2 c cs hu; ⟨v, h', μ', w', fr, hk _ a, r⟩
theorem SV.low {h : AHeap} {sz lo lo' : Nat} {vs : List Value} {v : Value} (s : SV h sz lo vs v) (hl : lo' ≤ lo) : SV h sz lo' vs v := by
  cases s with
  | nil => exact .nil
  | some h1 h2 h3 h4 h5 => exact .some h1 (by omega) h3 h4 h5
theorem rec_no (h : AHeap) (q1 q2 : Value) : DefWp Tryz.prog 64 [q1, q2] h .returning .returning fun g => g = h := by
  refine DefWp.code (rv := .nilIface) Tryz.func64 rfl rfl (Nat.le_of_ble_eq_true rfl) (by decide) (by decide) (.inl ⟨rfl, rfl, rfl⟩) fun b => ?_
  simp only [entry]
  refine GWp.seq <| GWp.reg <| GSuf.aop tyOK rfl sm rfl <| GSuf.aop tyOK rfl (v := .bool false) (zb (hv := by simp only [aBin] <;> rfl)) rfl <| GSuf.nil ?_
  refine GWp.cond (t := false) (by simp only [lk] <;> rfl) <| GWp.skip rfl
theorem rec_yes (h : AHeap) (p q : Nat) (vs : List Value) (e : Value) (hp : h.get p = some (.cells vs 1)) (hv : vs.length = 5) (hq : h.get q = some (.cells [e] 1)) (hpq : ¬ p = q) (hp1 : p < h.next) (hq1 : q < h.next) :
    DefWp Tryz.prog 64 [P0 p, P0 q] h (.panicking (pe WR)) (.panicking [{ v := WR, recovered := true }]) fun g => g.get p = some (.cells zlf 1) ∧ g.get q = some (.cells [I64 4] 1) ∧ g.next = h.next + 1 ∧ ∀ z, z < h.next → ¬ z = p → ¬ z = q → g.get z = h.get z := by
  refine DefWp.code (rv := WR) Tryz.func64 rfl rfl (Nat.le_of_ble_eq_true rfl) (by decide) (by decide) (.inr ⟨_, _, rfl, rfl, rfl, rfl⟩) fun b => ?_
  simp only [entry, WR]
  refine GWp.seq <| GWp.reg <| GSuf.aop tyOK rfl sm rfl <| GWp.ofa rfl (op_neqi (by simp only [lk] <;> rfl) rfl (by simp only [lk] <;> rfl)) rfl <| GSuf.nil ?_
  refine GWp.cond (t := true) (by simp only [lk] <;> rfl) ?_
  refine GWp.seq <| GWp.seq <| GWp.reg ?_
  refine GSuf.aop tyOK rfl sm rfl ?_
  refine GWp.ofa rfl (op_ta (by simp only [lk] <;> rfl) rfl ty77 rfl) rfl ?_
  refine GSuf.aop tyOK rfl sm rfl ?_
  refine GSuf.aop tyOK rfl (ze (hv := rfl)) rfl ?_
  refine GSuf.aop tyOK rfl (ze (hv := rfl)) rfl ?_
  refine GSuf.aop tyOK rfl (so_alloc (by simp only [aAlloc, ty77] <;> rfl)) rfl ?_
  refine GSuf.aop tyOK rfl (zs (hv := st_nil h)) rfl ?_
  refine GSuf.aop tyOK rfl za rfl <| GSuf.nil <| GWp.seq <| GWp.reg <| GSuf.aop tyOK rfl sm rfl <| GSuf.aop tyOK rfl Zt rfl <| GSuf.nil ?_
  refine GWp.cond (t := false) (by simp only [lk] <;> rfl) <| GWp.skip <| GWp.reg ?_
  have n1 : ((h.new (.cells [] 1)).set h.next (.cells [] 1)).get p = some (.cells vs 1) := by simp (disch := first | omega | simp only [nx]; omega) only [hpl]; exact hp
  obtain ⟨v1, v2, v3, v4, v5, rfl⟩ : ∃ a b c d e, vs = [a, b, c, d, e] := by
    match vs, hv with
    | [a, b, c, d, e], _ => exact ⟨a, b, c, d, e, rfl⟩
  refine GSuf.aop tyOK rfl (so_build (by simp only [aparts, lk] <;> rfl) (by simp only [aBuild, ty25] <;> rfl)) rfl ?_
  refine GSuf.aop tyOK rfl (zs (hv := by simp (disch := first | omega | simp only [nx]; omega) only [aStore, ty25, writeRow, n1, Value.cells] <;> rfl)) rfl ?_
  have n2 : ∀ o, (((h.new (.cells [] 1)).set h.next (.cells [] 1)).set p o).get q = some (.cells [e] 1) := fun o => by simp (disch := first | omega | simp only [nx]; omega) only [hpl]; exact hq
  refine GSuf.aop tyOK rfl (zs (hv := by simp (disch := first | omega | simp only [nx]; omega) only [aStore, ty33, writeRow, n2, Value.cells] <;> rfl)) rfl <| GSuf.nil ?_
  refine ⟨?_, zP, by simp only [nx], fun z hz h1 h2 => by simp (disch := first | omega | simp only [nx]; omega) only [hpl]⟩
  rw [zS (by omega)]
  exact zP
end Go.Proofs.YtebheelmgcggmaaGreat
namespace Go.Proofs.YtebheelmgcggmaaGreat
open Go.Ab Go.Sort
abbrev LZ : Value := .agg #[encS [], encS [], U64 0, .slice none 0 0, .slice none 0 0]
theorem parse_c (h : AHeap) (l : List UInt8) (hl : l.length ≤ 400000) : FWp Tryz.prog 28 [encS l] h fun u g =>
    ((readOK l = true ∧ ∃ bv, u = .tuple #[LV (leafS l) bv (.slice none 0 0), I64 0] ∧ SV g 4 h.next (fl (leafS l).base) bv) ∨ (readOK l = false ∧ u = .tuple #[LZ, I64 4])) ∧ h.next ≤ g.next ∧ ∀ z, z < h.next → g.get z = h.get z := by
  refine FWp.guard tyOK Tryz.func28 rfl en64 (Nat.le_of_ble_eq_true rfl) (by decide) fun b => ?_
  simp only [entry]
  refine GWp.reg <| GSuf.aop tyOK rfl (so_alloc (by simp only [aAlloc, ty25] <;> rfl)) rfl <| GSuf.aop tyOK rfl (so_alloc (by simp only [aAlloc, ty33] <;> rfl)) rfl <| GSuf.nil ⟨_, (by simp only [aopnds, lk] <;> rfl), fun D => ?_⟩
  refine GWp.reg <| GSuf.aop tyOK rfl sm rfl ?_
  have hr := read_p ((h.new (.cells (Value.cells LZ).toList 1)).new (.cells (Value.cells (I64 0)).toList 1)) l hl
  refine GSuf.op rfl ((OpWpP.fcall rfl (by simp only [aopnds, lk] <;> rfl) en65 (hr.monoJ ?_)).mono ?_)
  · rintro pv g ⟨h1, rfl, h2, h3⟩
    simp only [nx] at h2 h3
    refine DefWp.mono (rec_yes g h.next (h.next + 1) _ _ (by rw [h3 _ (by omega)]; simp (disch := first | omega | simp only [nx]; omega) only [hpl] <;> rfl) rfl (by rw [h3 _ (by omega)]; simp (disch := first | omega | simp only [nx]; omega) only [hpl] <;> rfl) (by omega) (by omega) (by omega)) ?_
    rintro g4 ⟨k1, k2, k3, k4⟩
    have k1' : g4.get h.next = some (.cells [encS [], encS [], U64 0, .slice none 0 0, .slice none 0 0] 1) := k1
    refine ⟨_, (by simp (disch := first | omega | simp only [nx]; omega) only [aRet, Tryz.f28, aResults, aResult, lk, Nat.reduceEqDiff, reduceIte, aLoad, rowOf, hpl, k1', k2, ty25, ty33, Value.cells] <;> rfl), .inr ⟨h1, rfl⟩, by omega, fun z hz => ?_⟩
    rw [k4 z (by omega) (by omega) (by omega), h3 z (by omega)]; simp (disch := first | omega | simp only [nx]; omega) only [hpl]
  · rintro u g ⟨h1, ⟨bv, rfl, hs⟩, h2, h3⟩
    simp only [nx] at h2 h3 hs
    refine ⟨_, rfl, ?_⟩
    have k1 : g.get h.next = some (.cells [encS [], encS [], U64 0, .slice none 0 0, .slice none 0 0] 1) := by rw [h3 _ (by omega)]; simp (disch := first | omega | simp only [nx]; omega) only [hpl] <;> rfl
    have k2 : g.get (h.next + 1) = some (.cells [I64 0] 1) := by rw [h3 _ (by omega)]; simp (disch := first | omega | simp only [nx]; omega) only [hpl] <;> rfl
    obtain ⟨b, rfl⟩ := sv_form hs
    refine GSuf.aop tyOK rfl (zs (hv := by simp (disch := first | omega | simp only [nx]; omega) only [aStore, ty25, writeRow, k1, Value.cells] <;> rfl)) rfl ?_
    have k2' : ∀ o, (g.set h.next o).get (h.next + 1) = some (.cells [I64 0] 1) := fun o => by simp (disch := first | omega | simp only [nx]; omega) only [hpl]; exact k2
    refine GSuf.aop tyOK rfl (zs (hv := by simp (disch := first | omega | simp only [nx]; omega) only [aStore, ty33, writeRow, nx, k2', Value.cells] <;> rfl)) rfl <| GSuf.nil ?_
    refine DefWp.mono (rec_no _ _ _) ?_
    rintro g4 rfl
    refine ⟨_, (by simp (disch := first | omega | simp only [nx]; omega) only [aRet, Tryz.f28, aResults, aResult, lk, Nat.reduceEqDiff, reduceIte, aLoad, rowOf, hpl, ty25, ty33, Value.cells] <;> rfl), .inl ⟨h1, _, rfl, ?_⟩, by simp only [nx]; omega, fun z hz => ?_⟩
    · exact (SV.low hs (by omega)).mono (by simp only [nx]; omega) (fun z hz he => by have := hs.row he; simp (disch := first | omega | simp only [nx]; omega) only [hpl])
    · simp (disch := first | omega | simp only [nx]; omega) only [hpl]; rw [h3 z (by omega)]; simp (disch := first | omega | simp only [nx]; omega) only [hpl]
end Go.Proofs.YtebheelmgcggmaaGreat
namespace Go.Proofs.YtebheelmgcggmaaGreat
open Go.Ab Go.Sort
theorem recS_none : (recS none).2.2 = none := rfl
theorem recsS_none : ∀ (n : Nat), (recsS n none).2 = none
  | 0 => rfl
  | n + 1 => by simp only [recsS, recS_none]; exact recsS_none n
theorem recsS_stuck : ∀ (i j : Nat) (s : Rdr), i ≤ j → (recsS i s).2 = none → (recsS j s).2 = none
  | 0, j, s, _, h => by simp only [recsS] at h; subst h; exact recsS_none j
  | i + 1, 0, s, h, _ => by omega
  | i + 1, j + 1, s, h, h2 => by
    simp only [recsS] at h2 ⊢
    exact recsS_stuck i j _ (by omega) h2
theorem recsS_in : ∀ (i : Nat) (s : Rdr), ∀ x ∈ (recsS i s).1, x.2.key.length ≤ lenS s ∧ x.2.val.length ≤ lenS s
  | 0, s, x, hx => by cases hx
  | i + 1, s, x, hx => by
    simp only [recsS, List.mem_cons] at hx
    rcases hx with rfl | hx
    · simp only [recS]
      refine ⟨textS_len _, Nat.le_trans (textS_len _) (Nat.le_trans (numS_le _) (Nat.le_trans (numS_le _) (textS_le _)))⟩
    · have h1 := recsS_in i _ x hx
      have h2 := recS_le s
      omega
def recE (d : Nat) (r : Rec) : List UInt8 := num r.key.length ++ r.key ++ num r.lsn.toNat ++ num d ++ num r.val.length ++ r.val
def recsE (L : List (Nat × Rec)) : List UInt8 := (L.map fun z => recE z.1 z.2).flatten
theorem numS_inv {x y : List UInt8} {n : Nat} (h : numS (some x) = (n, some y)) : x = num n ++ y := by
  simp only [numS] at h
  split at h
  · rename_i m r e
    simp only [Prod.mk.injEq, Option.some.injEq] at h
    obtain ⟨rfl, rfl⟩ := h
    exact (rd_inv _ _ _ _ e).2.1
  · cases h
theorem numS_fwd {n : Nat} (r : List UInt8) (h : n < 18446744073709551616) : numS (some (num n ++ r)) = (n, some r) := by
  simp only [numS, rd_num n 0 r (by omega) (by simpa using h) (by omega)]
theorem textS_inv {x t y : List UInt8} (h : textS (some x) = (t, some y)) : x = num t.length ++ t ++ y := by
  obtain ⟨n, s, e⟩ : ∃ n s, numS (some x) = (n, s) := ⟨_, _, rfl⟩
  unfold textS at h
  rw [e] at h
  cases s with
  | none => cases h
  | some m =>
    have e2 := numS_inv e
    simp only at h
    split at h
    · cases h
    · rename_i hl
      simp only [Prod.mk.injEq, Option.some.injEq] at h
      obtain ⟨rfl, rfl⟩ := h
      rw [List.length_take, Nat.min_eq_left (by omega), List.append_assoc, List.take_append_drop]
      exact e2
theorem textS_fwd {t : List UInt8} (r : List UInt8) (h : t.length < 18446744073709551616) : textS (some (num t.length ++ t ++ r)) = (t, some r) := by
  unfold textS
  rw [List.append_assoc, numS_fwd _ h]
  simp only
  rw [if_neg (by simp), List.take_left', List.drop_left'] <;> rfl
theorem numS_some {s : Rdr} {n : Nat} {y : List UInt8} (h : numS s = (n, some y)) : ∃ x, s = some x := by
  cases s with
  | none => cases h
  | some x => exact ⟨x, rfl⟩
theorem textS_some {s : Rdr} {t y : List UInt8} (h : textS s = (t, some y)) : ∃ x, s = some x := by
  cases s with
  | none => cases h
  | some x => exact ⟨x, rfl⟩
theorem recS_inv {x y : List UInt8} (h : (recS (some x)).2.2 = some y) : x = recE (recS (some x)).1 (recS (some x)).2.1 ++ y := by
  obtain ⟨key, ra, ek⟩ : ∃ a b, textS (some x) = (a, b) := ⟨_, _, rfl⟩
  obtain ⟨lsn, rb, en⟩ : ∃ a b, numS ra = (a, b) := ⟨_, _, rfl⟩
  obtain ⟨del, rd, ed⟩ : ∃ a b, numS rb = (a, b) := ⟨_, _, rfl⟩
  obtain ⟨val, re, ev⟩ : ∃ a b, textS rd = (a, b) := ⟨_, _, rfl⟩
  have e : recS (some x) = (del, ⟨key, lsn, ((del : Int) == 1), val⟩, re) := by simp only [recS, ek, en, ed, ev]
  rw [e] at h ⊢
  simp only at h
  subst h
  obtain ⟨d, rfl⟩ := textS_some ev
  obtain ⟨c, rfl⟩ := numS_some ed
  obtain ⟨b, rfl⟩ := numS_some en
  rw [textS_inv ek, numS_inv en, numS_inv ed, textS_inv ev]
  simp [recE, List.append_assoc]
structure RdOK (z : Nat × Rec) : Prop where
  k : z.2.key.length < 18446744073709551616
  l : ∃ n : Nat, z.2.lsn = n ∧ n < 18446744073709551616
  v : z.2.val.length < 18446744073709551616
  d : z.2.del = ((z.1 : Int) == 1)
  n : z.1 < 18446744073709551616
theorem recS_fwd {z : Nat × Rec} (y : List UInt8) (g : RdOK z) : recS (some (recE z.1 z.2 ++ y)) = (z.1, z.2, some y) := by
  obtain ⟨d, r⟩ := z
  obtain ⟨h1, ⟨n, h2, h3⟩, h4, h5, h6⟩ := g
  obtain ⟨key, lsn, del, val⟩ := r
  simp only at h1 h2 h3 h4 h5 h6
  subst h2 h5
  have e1 : recE d ⟨key, n, ((d : Int) == 1), val⟩ ++ y = num key.length ++ key ++ (num n ++ (num d ++ (num val.length ++ val ++ y))) := by simp [recE, List.append_assoc]
  simp only [recS]
  rw [e1, textS_fwd _ h1]
  simp only
  rw [numS_fwd _ h3]
  simp only
  rw [numS_fwd _ h6]
  simp only
  rw [textS_fwd _ h4]
theorem recsS_inv : ∀ (n : Nat) {x y : List UInt8}, (recsS n (some x)).2 = some y → x = recsE (recsS n (some x)).1 ++ y
  | 0, x, y, h => by simp only [recsS] at h ⊢; cases h; rfl
  | n + 1, x, y, h => by
    simp only [recsS] at h ⊢
    cases hs : (recS (some x)).2.2 with
    | none => rw [hs, recsS_none] at h; cases h
    | some m =>
      rw [hs] at h
      have h1 := recS_inv hs
      have h2 := recsS_inv n h
      simp only [recsE, List.map_cons, List.flatten_cons, List.append_assoc] at h2 ⊢
      rw [← h2]; exact h1
theorem recsS_fwd : ∀ (L : List (Nat × Rec)) (y : List UInt8), (∀ z ∈ L, RdOK z) → recsS L.length (some (recsE L ++ y)) = (L, some y)
  | [], y, _ => rfl
  | z :: L, y, h => by
    have e : recsE (z :: L) ++ y = recE z.1 z.2 ++ (recsE L ++ y) := by simp [recsE, List.append_assoc]
    rw [e, List.length_cons]
    simp only [recsS]
    rw [recS_fwd _ (h z List.mem_cons_self)]
    simp only
    rw [recsS_fwd L y fun w hw => h w (List.mem_cons_of_mem _ hw)]
theorem recsS_ok : ∀ (n : Nat) (s : Rdr), lenS s ≤ 400000 → ∀ z ∈ (recsS n s).1, RdOK z
  | 0, s, _, z, hz => by cases hz
  | n + 1, s, hs, z, hz => by
    simp only [recsS, List.mem_cons] at hz
    rcases hz with rfl | hz
    · have h1 := recsS_in (n + 1) s (recS s |> fun x => (x.1, x.2.1)) (by simp [recsS])
      refine ⟨by have := h1.1; simp only at this ⊢; omega, ⟨_, rfl, numS_lt _⟩, by have := h1.2; simp only at this ⊢; omega, rfl, numS_lt _⟩
    · exact recsS_ok n _ (Nat.le_trans (recS_le s) hs) z hz
theorem imgR_recs : ∀ (l : List Rec) (s : List UInt8), l.foldl imgR s = s ++ recsE (l.map fun r => (delN r, r))
  | [], s => by simp [recsE]
  | r :: l, s => by
    rw [List.foldl_cons, imgR_recs l]
    simp [recsE, imgR, recE, List.append_assoc]
theorem headS_inv {l y : List UInt8} {low high : List UInt8} {full n : Nat} (h : headS (some l) = (low, high, full, n, some y)) : l = num low.length ++ low ++ num high.length ++ high ++ num full ++ num n ++ y := by
  obtain ⟨a, s1, e1⟩ : ∃ a b, textS (some l) = (a, b) := ⟨_, _, rfl⟩
  obtain ⟨b, s2, e2⟩ : ∃ a b, textS s1 = (a, b) := ⟨_, _, rfl⟩
  obtain ⟨c, s3, e3⟩ : ∃ a b, numS s2 = (a, b) := ⟨_, _, rfl⟩
  obtain ⟨d, s4, e4⟩ : ∃ a b, numS s3 = (a, b) := ⟨_, _, rfl⟩
  simp only [headS, e1, e2, e3, e4, Prod.mk.injEq] at h
  obtain ⟨rfl, rfl, rfl, rfl, rfl⟩ := h
  obtain ⟨m3, rfl⟩ := numS_some e4
  obtain ⟨m2, rfl⟩ := numS_some e3
  obtain ⟨m1, rfl⟩ := textS_some e2
  rw [textS_inv e1, textS_inv e2, numS_inv e3, numS_inv e4]
  simp [List.append_assoc]
end Go.Proofs.YtebheelmgcggmaaGreat
namespace Go.Proofs.YtebheelmgcggmaaGreat
open Go.Ab Go.Sort
def docL (l : List UInt8) : Lf := let a := headS (some l); ⟨a.1, a.2.1, a.2.2.1, (recsS (min a.2.2.2.1 65) a.2.2.2.2).1.map (·.2), []⟩
def docOK (l : List UInt8) : Bool :=
  let a := headS (some l)
  endS (recsS (min a.2.2.2.1 65) a.2.2.2.2).2 && chk (docL l) && decide (imgM (docL l) 0 = l)
theorem rdtext0_e {h : AHeap} {r : Nat} {s s' : Rdr} {t : List UInt8} (hr : h.get r = some (.cells (rc s) 1)) (hl : lenS s ≤ 400000) (e : textS s = (t, s')) : FWp Tryz.prog 66 [P0 r] h fun u h' => u = encS t ∧ h'.get r = some (.cells (rc s') 1) ∧ h'.next = h.next ∧ ∀ z, ¬ z = r → h'.get z = h.get z := by
  have := rdtext0_c h r s hr (by omega); rw [e] at this; exact this
theorem rdnum0_e {h : AHeap} {r : Nat} {s s' : Rdr} {n : Nat} (hr : h.get r = some (.cells (rc s) 1)) (hl : lenS s ≤ 400000) (e : numS s = (n, s')) : FWp Tryz.prog 67 [P0 r] h fun u h' => u = U64 n ∧ h'.get r = some (.cells (rc s') 1) ∧ h'.next = h.next ∧ ∀ z, ¬ z = r → h'.get z = h.get z := by
  have := rdnum0_c h r s hr (by omega); rw [e] at this; exact this
structure DX (h g : AHeap) (low high : List UInt8) (full : Nat) (s4 : Rdr) (i : Nat) (bv : Value) : Prop where
  q : g.get (h.next + 1) = some (.cells (rc (recsS i s4).2) 1)
  p : g.get (h.next + 2) = some (LR ⟨low, high, full, [], []⟩ bv (.slice none 0 0))
  r : g.get h.next = some (.cells zlf 1)
  s : SV g 4 (h.next + 3) (fl ((recsS i s4).1.map (·.2))) bv
  n : h.next + 3 ≤ g.next
  o : ∀ z, z < h.next → g.get z = h.get z
theorem parse0_c (h : AHeap) (l : List UInt8) (hl : l.length ≤ 400000) : FWp Tryz.prog 29 [encS l] h fun u g =>
    ((docOK l = true ∧ ∃ bv, u = .tuple #[LV (docL l) bv (.slice none 0 0), I64 0] ∧ SV g 4 h.next (fl (docL l).base) bv) ∨ (docOK l = false ∧ u = .tuple #[LV ⟨[], [], 0, [], []⟩ (.slice none 0 0) (.slice none 0 0), I64 4])) ∧ h.next ≤ g.next ∧ ∀ z, z < h.next → g.get z = h.get z := by
  have tb29 := And.intro ty22 (And.intro ty23 (And.intro ty25 (And.intro ty27 (And.intro ty4 (And.intro ty82 (ty9))))))
  obtain ⟨low, s1, e1⟩ : ∃ a b, textS (some l) = (a, b) := ⟨_, _, rfl⟩
  obtain ⟨high, s2, e2⟩ : ∃ a b, textS s1 = (a, b) := ⟨_, _, rfl⟩
  obtain ⟨full, s3, e3⟩ : ∃ a b, numS s2 = (a, b) := ⟨_, _, rfl⟩
  obtain ⟨n, s4, e4⟩ : ∃ a b, numS s3 = (a, b) := ⟨_, _, rfl⟩
  have eH : headS (some l) = (low, high, full, n, s4) := by simp only [headS, e1, e2, e3, e4]
  have l0 : lenS (some l) ≤ 400000 := hl
  have l1 : lenS s1 ≤ 400000 := by have := textS_le (some l); rw [e1] at this; exact Nat.le_trans this l0
  have l2 : lenS s2 ≤ 400000 := by have := textS_le s1; rw [e2] at this; exact Nat.le_trans this l1
  have l3 : lenS s3 ≤ 400000 := by have := numS_le s2; rw [e3] at this; exact Nat.le_trans this l2
  have l4 : lenS s4 ≤ 400000 := by have := numS_le s3; rw [e4] at this; exact Nat.le_trans this l3
  have hnn : n < 18446744073709551616 := by have := numS_lt s3; rw [e4] at this; exact this
  have hlow : low.length ≤ 400000 := by have := textS_len (some l); rw [e1] at this; exact Nat.le_trans this l0
  have hhigh : high.length ≤ 400000 := by have := textS_len s1; rw [e2] at this; exact Nat.le_trans this l1
  refine W.enter tyOK Tryz.func29 rfl rfl ?_
  simp only [entry]
  refine Wr <| Oa rfl (so_alloc (by simp only [aAlloc, ty25] <;> rfl)) rfl <| Oa rfl za rfl <| On ?_
  refine Wr <| Oa rfl sm rfl <| Oa rfl (so_build (by simp only [aparts, lk] <;> rfl) (by simp only [aBuild, ty82, Value.cells, places, tb29] <;> rfl)) rfl <| Oa rfl Zx rfl <| Oa rfl za rfl <| On ?_
  refine Wr <| Oa rfl sm rfl <| OSuf.call rfl (by simp only [aopnds, lk] <;> rfl) en66 (rdtext0_e (s := some l) (zQ) l0 e1) ?_
  rintro _ g1 ⟨rfl, q1, n1, k1⟩
  simp only [nx] at n1 k1 q1
  refine ⟨_, rfl, ?_⟩
  refine Oa rfl (so_build (by simp only [aparts, lk] <;> rfl) (by simp only [aBuild, ty25, Value.cells, places, tb29] <;> rfl)) rfl <| Oa rfl (so_alloc (by simp only [aAlloc, ty25] <;> rfl)) rfl <| Oa rfl (zs (hv := by simp (disch := first | omega | simp only [nx]; omega) only [aStore, ty25, writeRow, hpl, Value.cells] <;> rfl)) rfl <| On ?_
  refine Wr <| Oa rfl sm rfl <| OSuf.call rfl (by simp only [aopnds, lk] <;> rfl) en66 (rdtext0_e (by simp (disch := first | omega | simp only [nx]; omega) only [hpl]; exact q1) l1 e2) ?_
  rintro _ g2 ⟨rfl, q2, n2, k2⟩
  simp only [nx] at n2 k2 q2
  have y2 : g2.get g1.next = some (.cells [encS low, encS [], U64 0, .slice none 0 0, .slice none 0 0] 1) := (by rw [k2 _ (by omega)]; simp (disch := first | omega | simp only [nx]; omega) only [hpl] <;> rfl)
  refine ⟨_, rfl, ?_⟩
  refine Oa rfl (zf (hv := fa_ok (k := 1) ty25 rfl rfl ty9 rfl rfl)) rfl <| Oa rfl (zs (hv := by simp (disch := first | omega | simp only [nx]; omega) only [aStore, ty9, writeRow, hpl, Value.cells, y2] <;> rfl)) rfl <| On ?_
  refine Wr <| Oa rfl sm rfl <| OSuf.call rfl (by simp only [aopnds, lk] <;> rfl) en67 (rdnum0_e (by simp (disch := first | omega | simp only [nx]; omega) only [hpl]; exact q2) l2 e3) ?_
  rintro _ g3 ⟨rfl, q3, n3, k3⟩
  simp only [nx] at n3 k3 q3
  have y3 : g3.get g1.next = some (.cells [encS low, encS high, U64 0, .slice none 0 0, .slice none 0 0] 1) := (by rw [k3 _ (by omega)]; simp (disch := first | omega | simp only [nx]; omega) only [hpl] <;> rfl)
  refine ⟨_, rfl, ?_⟩
  refine Oa rfl (zf (hv := fa_ok (k := 2) ty25 rfl rfl ty22 rfl rfl)) rfl <| Oa rfl (zs (hv := by simp (disch := first | omega | simp only [nx]; omega) only [aStore, ty22, writeRow, hpl, Value.cells, y2, y3] <;> rfl)) rfl <| On ?_
  refine Wr <| Oa rfl sm rfl <| OSuf.call rfl (by simp only [aopnds, lk] <;> rfl) en67 (rdnum0_e (by simp (disch := first | omega | simp only [nx]; omega) only [hpl]; exact q3) l3 e4) ?_
  rintro _ g4 ⟨rfl, q4, n4, k4⟩
  simp only [nx] at n4 k4 q4
  refine ⟨_, rfl, ?_⟩
  refine Oa rfl za rfl <| On ?_
  refine W.seq <| Wr <| Oa rfl za rfl <| On ?_
  have n1' : g1.next = h.next + 2 := by omega
  have p4 : g4.get (h.next + 2) = some (LR ⟨low, high, full, [], []⟩ (.slice none 0 0) (.slice none 0 0)) := by rw [k4 _ (by omega), ← n1']; simp (disch := first | omega | simp only [nx]; omega) only [hpl] <;> rfl
  have d4 : ∀ z, z < h.next + 1 → g4.get z = (h.new (.cells zlf 1)).get z := fun z hz => by
    rw [k4 _ (by omega)]; simp (disch := first | omega | simp only [nx]; omega) only [hpl]
    rw [k3 _ (by omega)]; simp (disch := first | omega | simp only [nx]; omega) only [hpl]
    rw [k2 _ (by omega)]; simp (disch := first | omega | simp only [nx]; omega) only [hpl]
    rw [k1 _ (by omega), zN (by simp; omega)]; rfl
  have r4 : g4.get h.next = some (.cells zlf 1) := by rw [d4 _ (by omega)]; exact zQ
  have o4 : ∀ z, z < h.next → g4.get z = h.get z := fun z hz => by rw [d4 _ (by omega)]; simp (disch := first | omega | simp only [nx]; omega) only [hpl]
  obtain ⟨K, hK⟩ : ∃ K, K = min n 65 := ⟨_, rfl⟩
  have hL : docL l = ⟨low, high, full, (recsS K s4).1.map (·.2), []⟩ := by simp only [docL, eH, hK]
  have hR : docOK l = (endS (recsS K s4).2 && chk (docL l) && decide (imgM (docL l) 0 = l)) := by simp only [docOK, eH, hK]
  refine W.cut (fun L g => ∃ (j : Nat) (bv : Value), DX h g low high full s4 j bv ∧ j ≤ K ∧ (j = K ∨ (recsS j s4).2 = none) ∧ L = [(0, encS l), (2, P0 h.next), (3, I64 0), (4, P0 (h.next + 1)), (5, P0 (h.next + 2))]) (W.block (W.loop (fun m L g => ∃ (i : Nat) (bv : Value), m + i = K ∧ DX h g low high full s4 i bv ∧ L = [(0, encS l), (2, P0 h.next), (3, I64 0), (4, P0 (h.next + 1)), (5, P0 (h.next + 2)), (6, U64 n), (7, U64 i)]) (n := K) (L := [(0, encS l), (2, P0 h.next), (3, I64 0), (4, P0 (h.next + 1)), (5, P0 (h.next + 2)), (6, U64 n), (7, U64 ((0 : Nat) : Int))]) ⟨0, .slice none 0 0, rfl, ⟨q4, p4, r4, .nil, by omega, o4⟩, rfl⟩ ?_ ?_)) ?_
  · simp [HasA, Tr.get_put, n1']
  · rintro m L g ⟨i, bv, hm, X, rfl⟩
    simp only [mkA]
    obtain ⟨x1, x2, x3, x4, x5, x6⟩ := X
    have hok := rdok0_c g _ _ x1
    obtain ⟨b, rfl⟩ := sv_form x4
    by_cases hi : (i : Int) < (n : Int)
    · by_cases hi65 : (i : Int) ≤ 64
      · cases hst : (recsS i s4).2 with
        | none =>
          rw [hst] at hok
          refine W.seq <| Wr <| Oa rfl sm rfl <| Oa rfl sm rfl <| Otb rfl (zb (hv := bi_lss)) rfl <| Ot rfl sm rfl rfl <| Oa ag sm rfl <| Otb ag (zb (hv := bi_leq)) rfl <| Ot rfl Zp rfl rfl <| Ot rfl sm rfl rfl <| Oa ag sm rfl <| OSuf.callD ag (by simp only [aopnds, lk] <;> rfl) en68 (hok) rfl <| Of rfl Zp rfl rfl <| On ?_
          refine Wn <| CWp.exit <| SQ.exit <| LQ.exit <| BQ.exit <| ?_
          refine NQ.normal (L := [(0, encS l), (2, P0 h.next), (3, I64 0), (4, P0 (h.next + 1)), (5, P0 (h.next + 2))]) ?_ ⟨i, .slice b _ 0, ⟨x1, x2, x3, x4, x5, x6⟩, by omega, .inr hst, rfl⟩
          simp only [HasA, Tr.get_put, Nat.reduceEqDiff, reduceIte, and_self]
        | some sl =>
          have hst0 := hst
          rw [hst] at hok x1
          obtain ⟨key, ra, ek⟩ : ∃ a b, textS (some sl) = (a, b) := ⟨_, _, rfl⟩
          obtain ⟨lsn, rb, en⟩ : ∃ a b, numS ra = (a, b) := ⟨_, _, rfl⟩
          obtain ⟨del, rd, ed⟩ : ∃ a b, numS rb = (a, b) := ⟨_, _, rfl⟩
          obtain ⟨val, re, ev⟩ : ∃ a b, textS rd = (a, b) := ⟨_, _, rfl⟩
          have m0 : lenS (some sl) ≤ 400000 := by rw [← hst]; exact Nat.le_trans (recsS_le i s4) l4
          have m1 : lenS ra ≤ 400000 := by have := textS_le (some sl); rw [ek] at this; exact Nat.le_trans this m0
          have m2 : lenS rb ≤ 400000 := by have := numS_le ra; rw [en] at this; exact Nat.le_trans this m1
          have m3 : lenS rd ≤ 400000 := by have := numS_le rb; rw [ed] at this; exact Nat.le_trans this m2
          have eR : recS (some sl) = (del, ⟨key, lsn, ((del : Int) == 1), val⟩, re) := by simp only [recS, ek, en, ed, ev]
          have eS : recsS (i + 1) s4 = ((recsS i s4).1 ++ [(del, ⟨key, lsn, ((del : Int) == 1), val⟩)], re) := by rw [recsS_snoc, hst, eR]
          have w2 : IntKind.u64.wrap ((i : Int) + 1) = ((i + 1 : Nat) : Int) := by
            have := wr_u64 (n := i + 1) (by omega); simpa using this
          refine W.seq <| Wr <| Oa rfl sm rfl <| Oa rfl sm rfl <| Ot rfl (zb (hv := bi_lss)) rfl (by first | rfl | assumption | ((simp only [bl, Value.cells, places, tb29]) <;> first | done | assumption | omega) | (simp; done) | (simp; omega)) <| Ot rfl sm rfl rfl <| Oa ag sm rfl <| Ot ag (zb (hv := bi_leq)) rfl (by first | rfl | assumption | ((simp only [bl, Value.cells, places, tb29]) <;> first | done | assumption | omega) | (simp; done) | (simp; omega)) <| Ot rfl Zp rfl rfl <| Ot rfl sm rfl rfl <| Oa ag sm rfl <| OSuf.callD ag (by simp only [aopnds, lk] <;> rfl) en68 (hok) rfl <| Ot rfl Zp rfl rfl <| On ?_
          refine Wy <| CWp.skip <| SQ.normal ?_
          refine W.seq <| W.block <| Wr <| Oa rfl sm rfl <| OSuf.call rfl (by simp only [aopnds, lk] <;> rfl) en66 (rdtext0_e x1 m0 ek) ?_
          rintro _ f1 ⟨rfl, a1, c1, j1⟩
          refine ⟨_, rfl, ?_⟩
          refine Oa rfl (so_build (by simp only [aparts, lk] <;> rfl) (by simp only [aBuild, ty27, Value.cells, places, tb29] <;> rfl)) rfl <| Oa rfl (so_alloc (by simp only [aAlloc, ty27] <;> rfl)) rfl <| Oa rfl (zs (hv := by simp (disch := first | omega | simp only [nx]; omega) only [aStore, ty27, writeRow, hpl, Value.cells] <;> rfl)) rfl <| On ?_
          refine Wr <| Oa rfl sm rfl <| OSuf.call rfl (by simp only [aopnds, lk] <;> rfl) en67 (rdnum0_e (by simp (disch := first | omega | simp only [nx]; omega) only [hpl]; exact a1) m1 en) ?_
          rintro _ f2 ⟨rfl, a2, c2, j2⟩
          simp only [nx] at c2 j2
          have y2 : f2.get f1.next = some (.cells [encS key, U64 0, .bool false, encS [] ] 1) := (by rw [j2 _ (by omega)]; simp (disch := first | omega | simp only [nx]; omega) only [hpl] <;> rfl)
          refine ⟨_, rfl, ?_⟩
          refine Oa rfl (zf (hv := fa_ok (k := 1) ty27 rfl rfl ty22 rfl rfl)) rfl <| Oa rfl (zs (hv := by simp (disch := first | omega | simp only [nx]; omega) only [aStore, ty22, writeRow, hpl, Value.cells, y2] <;> rfl)) rfl <| On ?_
          refine Wr <| Oa rfl sm rfl <| OSuf.call rfl (by simp only [aopnds, lk] <;> rfl) en67 (rdnum0_e (by simp (disch := first | omega | simp only [nx]; omega) only [hpl]; exact a2) m2 ed) ?_
          rintro _ f3 ⟨rfl, a3, c3, j3⟩
          simp only [nx] at c3 j3
          have y3 : f3.get f1.next = some (.cells [encS key, U64 lsn, .bool false, encS [] ] 1) := (by rw [j3 _ (by omega)]; simp (disch := first | omega | simp only [nx]; omega) only [hpl] <;> rfl)
          refine ⟨_, rfl, ?_⟩
          refine Oa rfl (zb (hv := bi_eql)) rfl <| Oa rfl (zf (hv := fa_ok (k := 2) ty27 rfl rfl ty4 rfl rfl)) rfl <| Oa rfl (zs (hv := by simp (disch := first | omega | simp only [nx]; omega) only [aStore, ty4, writeRow, hpl, Value.cells, y2, y3] <;> rfl)) rfl <| On ?_
          refine Wr <| Oa rfl sm rfl <| OSuf.call rfl (by simp only [aopnds, lk] <;> rfl) en66 (rdtext0_e (by simp (disch := first | omega | simp only [nx]; omega) only [hpl]; exact a3) m3 ev) ?_
          rintro _ f4 ⟨rfl, a4, c4, j4⟩
          simp only [nx] at c4 j4
          have y4 : f4.get f1.next = some (.cells [encS key, U64 lsn, .bool ((del : Int) == 1), encS [] ] 1) := (by rw [j4 _ (by omega)]; simp (disch := first | omega | simp only [nx]; omega) only [hpl] <;> rfl)
          have zk : ∀ z, z < g.next → ¬ z = h.next + 1 → f4.get z = g.get z := fun z hz hne => (by rw [j4 _ hne]; simp (disch := first | omega | simp only [nx]; omega) only [hpl]; rw [j3 _ hne]; simp (disch := first | omega | simp only [nx]; omega) only [hpl]; rw [j2 _ hne]; simp (disch := first | omega | simp only [nx]; omega) only [hpl]; rw [j1 _ hne])
          have z2 : f4.get (h.next + 2) = some (LR ⟨low, high, full, [], []⟩ (.slice b ((recsS i s4).1.map (·.2)).length 0) (.slice none 0 0)) := (by rw [zk _ (by omega) (by omega)]; exact x2)
          obtain ⟨v', G, ap1, ap2, ap3, ap4, ap5⟩ := sv_oneR (g := f4.set f1.next (.cells [encS key, U64 lsn, .bool ((del : Int) == 1), encS val] 1)) (x4.mono (by simp only [nx]; omega) (fun z hz he => by have := x4.row he; simp (disch := first | omega | simp only [nx]; omega) only [hpl]; exact zk z hz (by omega))) ⟨key, lsn, ((del : Int) == 1), val⟩ (by simp [recsS_len]; omega) (by simp only [nx]; omega)
          obtain ⟨b', rfl⟩ := sv_form ap2
          simp only [nx] at ap3 ap4
          have nv : ∀ z, z < h.next + 3 → ¬ svRow (.slice b ((recsS i s4).1.map (·.2)).length 0) = some z := fun z hz e => (by have := x4.row e; omega)
          have Gz2 : G.get (h.next + 2) = some (LR ⟨low, high, full, [], []⟩ (.slice b ((recsS i s4).1.map (·.2)).length 0) (.slice none 0 0)) := (by rw [ap4 _ (by omega) (nv _ (by omega))]; simp (disch := first | omega | simp only [nx]; omega) only [hpl]; exact z2)
          refine ⟨_, rfl, ?_⟩
          refine Oa rfl (zf (hv := fa_ok (k := 3) ty27 rfl rfl ty9 rfl rfl)) rfl <| Oa rfl (zs (hv := by simp (disch := first | omega | simp only [nx]; omega) only [aStore, ty9, writeRow, hpl, Value.cells, y2, y3, y4, z2, Gz2, rcl] <;> rfl)) rfl <| On ?_
          refine W.reg <| Oa rfl (zf (hv := fa_ok (k := 3) ty25 rfl rfl ty23 rfl rfl)) rfl <| Oa rfl (zl (hv := by simp (disch := first | omega | simp only [nx]; omega) only [aLoad, ty23, rowOf, hpl, Value.cells, y2, y3, y4, z2, Gz2, rcl] <;> rfl)) rfl <| Oa rfl (zl (hv := by simp (disch := first | omega | simp only [nx]; omega) only [aLoad, ty27, rowOf, hpl, Value.cells, y2, y3, y4, z2, Gz2, rcl] <;> rfl)) rfl <| Oa rfl (so_buildSlice (by simp only [aparts, lk] <;> rfl) (by simp only [aBuildSlice, ty23, ty27, Value.cells, places, tb29, y2, y3, y4, z2, Gz2, rcl] <;> rfl)) rfl <| Oa rfl (so_append (by simp only [aopnds, lk] <;> rfl) (ap1 _ _ (by simp only [appT, ty23, ty27] <;> rfl) rfl (by decide))) rfl <| Oa rfl (zf (hv := fa_ok (k := 3) ty25 rfl rfl ty23 rfl rfl)) rfl <| Oa rfl (zs (hv := by simp (disch := first | omega | simp only [nx]; omega) only [aStore, ty23, writeRow, hpl, Value.cells, y2, y3, y4, z2, Gz2, rcl] <;> rfl)) rfl <| OSuf.nil <| BQ.normal <| SQ.normal ?_
          refine W.reg <| Oa rfl sm rfl <| Oa rfl (zb (hv := bi_w bi_add (by first | (simp only [w2] <;> rfl) | rfl))) rfl <| Oa rfl za rfl <| OSuf.nil <| ?_
          refine LQ.normal (m := m - 1) (L := [(0, encS l), (2, P0 h.next), (3, I64 0), (4, P0 (h.next + 1)), (5, P0 (h.next + 2)), (6, U64 n), (7, U64 ((i + 1 : Nat) : Int))]) (by omega) ?_ ⟨i + 1, .slice b' _ 0, by omega, ⟨?_, zP, ?_, ?_, by simp only [nx]; omega, fun z hz => ?_⟩, rfl⟩
          · simp only [HasA, Tr.get_put, Nat.reduceEqDiff, reduceIte, and_self]
          · rw [eS, zS (by omega), ap4 _ (by omega) (nv _ (by omega))]; simp (disch := first | omega | simp only [nx]; omega) only [hpl]; exact a4
          · rw [zS (by omega), ap4 _ (by omega) (nv _ (by omega))]; simp (disch := first | omega | simp only [nx]; omega) only [hpl]; rw [zk _ (by omega) (by omega)]; exact x3
          · rw [eS, List.map_append]
            exact ap2.mono (by simp only [nx]; omega) (fun z hz he => zS (by have := ap2.row he; omega))
          · rw [zS (by omega), ap4 _ (by omega) (nv _ (by omega))]; simp (disch := first | omega | simp only [nx]; omega) only [hpl]; rw [zk _ (by omega) (by omega)]; exact x6 z hz
      · refine W.seq <| Wr <| Oa rfl sm rfl <| Oa rfl sm rfl <| Otb rfl (zb (hv := bi_lss)) rfl <| Ot rfl sm rfl rfl <| Oa ag sm rfl <| Ofb ag (zb (hv := bi_leq)) rfl <| Of rfl Zp rfl rfl <| Of rfl sm rfl rfl <| Pa ag rfl <| Pa ag rfl <| Of rfl Zp rfl rfl <| On ?_
        refine Wn <| CWp.exit <| SQ.exit <| LQ.exit <| BQ.exit <| ?_
        refine NQ.normal (L := [(0, encS l), (2, P0 h.next), (3, I64 0), (4, P0 (h.next + 1)), (5, P0 (h.next + 2))]) ?_ ⟨i, .slice b _ 0, ⟨x1, x2, x3, x4, x5, x6⟩, by omega, .inl (by omega), rfl⟩
        simp only [HasA, Tr.get_put, Nat.reduceEqDiff, reduceIte, and_self]
    · refine W.seq <| Wr <| Oa rfl sm rfl <| Oa rfl sm rfl <| Ofb rfl (zb (hv := bi_lss)) rfl <| Of rfl sm rfl rfl <| Pa ag rfl <| Pa ag rfl <| Of rfl Zp rfl rfl <| Of rfl sm rfl rfl <| Pa ag rfl <| Pa ag rfl <| Of rfl Zp rfl rfl <| On ?_
      refine Wn <| CWp.exit <| SQ.exit <| LQ.exit <| BQ.exit <| ?_
      refine NQ.normal (L := [(0, encS l), (2, P0 h.next), (3, I64 0), (4, P0 (h.next + 1)), (5, P0 (h.next + 2))]) ?_ ⟨i, .slice b _ 0, ⟨x1, x2, x3, x4, x5, x6⟩, by omega, .inl (by omega), rfl⟩
      simp only [HasA, Tr.get_put, Nat.reduceEqDiff, reduceIte, and_self]
  rintro L a' g ha ⟨j, bv, ⟨x1, x2, x3, x4, x5, x6⟩, hjK, hj, rfl⟩
  have ee := rdend0_c g _ _ x1
  have x3' : g.get h.next = some (.cells [encS [], encS [], U64 0, .slice none 0 0, .slice none 0 0] 1) := x3
  cases he : endS (recsS j s4).2 with
  | false =>
    rw [he] at ee
    have hF : docOK l = false := by
      have : endS (recsS K s4).2 = false := by
        rcases hj with rfl | hj
        · exact he
        · rw [recsS_stuck j K s4 hjK hj]; rfl
      rw [hR, this]; rfl
    refine SQ.normal <| CWp.known ha ?_
    simp only [mkA]
    refine W.seq <| Wr <| Oa rfl sm rfl <| OSuf.callD rfl (by simp only [aopnds, lk] <;> rfl) en69 (ee) rfl <| Ot rfl Zt rfl rfl <| Ot rfl sm rfl rfl <| Pa ag rfl <| Pa ag rfl <| Pa ag rfl <| Ot rfl Zp rfl rfl <| Ot rfl sm rfl rfl <| Pa ag rfl <| Pa ag rfl <| Pa ag rfl <| Pa ag rfl <| Ot rfl Zp rfl rfl <| On ?_
    refine Wy <| Wr <| Oa rfl (so_build (by simp only [aparts, lk] <;> rfl) (by simp only [aBuild, ty25, x3', Value.cells, places, tb29] <;> rfl)) rfl <| Oa rfl (zs (hv := by simp (disch := first | omega | simp only [nx]; omega) only [aStore, ty25, writeRow, hpl, x3', Value.cells] <;> rfl)) rfl <| Oa rfl za rfl <| On ?_
    refine CWp.ret <| SQ.ret <| FQ.ret (by simp (disch := first | omega | simp only [nx]; omega) only [aRet, Tryz.f29, aResults, aResult, lk, Nat.reduceEqDiff, reduceIte, aLoad, rowOf, hpl, x3', Value.cells, places, tb29] <;> rfl) ?_
    exact ⟨.inr ⟨hF, rfl⟩, by simp only [nx]; omega, fun z hz => by simp (disch := first | omega | simp only [nx]; omega) only [hpl]; exact x6 z hz⟩
  | true =>
    have hjK' : j = K := by
      rcases hj with hj | hj
      · exact hj
      · rw [hj] at he; cases he
    subst hjK'
    rw [he] at ee hR
    obtain ⟨b, rfl⟩ := sv_form x4
    have hb : RS g (docL l).base (.slice b ((recsS j s4).1.map (·.2)).length 0) := by rw [hL]; exact sv_rs x4
    have hd : RS g (docL l).deltas (.slice none 0 0) := ⟨⟨_, _, by rw [hL]; rfl, .inl ⟨rfl, by rw [hL]; rfl, rfl⟩⟩⟩
    have lb : LB (docL l) := by
      rw [hL]
      refine ⟨by show low.length < _; omega, by show high.length < _; omega, fun r hr => ?_⟩
      have hr' : r ∈ (recsS j s4).1.map (·.2) := by simpa [Lf.all] using hr
      obtain ⟨x, hx, rfl⟩ := List.mem_map.1 hr'
      have := recsS_in j s4 x hx
      exact ⟨by show _ < _; omega, by show _ < _; omega⟩
    have hlen : (docL l).base.length ≤ 65 := by rw [hL]; simp [recsS_len]; omega
    have hdl : (docL l).deltas.length = 0 := by rw [hL]; rfl
    have hck := check0_c g (docL l) _ _ hb hd (by omega) (by omega) lb
    have x2' : g.get (h.next + 2) = some (LR (docL l) (.slice b ((recsS j s4).1.map (·.2)).length 0) (.slice none 0 0)) := by rw [hL]; exact x2
    cases hc : chk (docL l) with
    | false =>
      rw [hc] at hck hR
      rw [if_neg (by decide)] at hck
      refine SQ.normal <| CWp.known ha ?_
      simp only [mkA]
      refine W.seq <| Wr <| Oa rfl sm rfl <| OSuf.callD rfl (by simp only [aopnds, lk] <;> rfl) en69 (ee) rfl <| Of rfl Zt rfl rfl <| Of rfl sm rfl rfl <| Oa ag (zl (hv := by simp (disch := first | omega | simp only [nx]; omega) only [aLoad, ty25, rowOf, hpl, x2', x3', Value.cells] <;> rfl)) rfl <| OSuf.callD ag (by simp only [aopnds, lk] <;> rfl) en14 (hck) rfl <| Ot ag (zb (hv := bi_neq)) rfl (by first | rfl | assumption | ((simp only [bl, x2', x3', Value.cells, places, tb29]) <;> first | done | assumption | omega) | (simp; done) | (simp; omega)) <| Ot rfl Zp rfl rfl <| Ot rfl sm rfl rfl <| Pa ag rfl <| Pa ag rfl <| Pa ag rfl <| Pa ag rfl <| Ot rfl Zp rfl rfl <| On ?_
      refine Wy <| Wr <| Oa rfl (so_build (by simp only [aparts, lk] <;> rfl) (by simp only [aBuild, ty25, x2', x3', Value.cells, places, tb29] <;> rfl)) rfl <| Oa rfl (zs (hv := by simp (disch := first | omega | simp only [nx]; omega) only [aStore, ty25, writeRow, hpl, x2', x3', Value.cells] <;> rfl)) rfl <| Oa rfl za rfl <| On ?_
      refine CWp.ret <| SQ.ret <| FQ.ret (by simp (disch := first | omega | simp only [nx]; omega) only [aRet, Tryz.f29, aResults, aResult, lk, Nat.reduceEqDiff, reduceIte, aLoad, rowOf, hpl, x2', x3', Value.cells, places, tb29] <;> rfl) ?_
      exact ⟨.inr ⟨hR, rfl⟩, by simp only [nx]; omega, fun z hz => by simp (disch := first | omega | simp only [nx]; omega) only [hpl]; exact x6 z hz⟩
    | true =>
      rw [hc] at hck hR
      rw [if_pos rfl] at hck
      have himg := image0_c g (docL l) _ _ 0 hb hd (by omega) (by omega) lb (by rw [hL]; show (0 : Int) ≤ (full : Int); omega)
      by_cases hi : imgM (docL l) 0 = l
      · rw [decide_eq_true hi] at hR
        rw [hi] at himg
        refine SQ.normal <| CWp.known ha ?_
        simp only [mkA]
        refine W.seq <| Wr <| Oa rfl sm rfl <| OSuf.callD rfl (by simp only [aopnds, lk] <;> rfl) en69 (ee) rfl <| Of rfl Zt rfl rfl <| Of rfl sm rfl rfl <| Oa ag (zl (hv := by simp (disch := first | omega | simp only [nx]; omega) only [aLoad, ty25, rowOf, hpl, x2', x3', Value.cells] <;> rfl)) rfl <| OSuf.callD ag (by simp only [aopnds, lk] <;> rfl) en14 (hck) rfl <| Of ag (zb (hv := bi_neq)) rfl (by first | rfl | assumption | ((simp only [bl, x2', x3', Value.cells, places, tb29]) <;> first | done | assumption | omega) | (simp; done) | (simp; omega)) <| Of rfl Zp rfl rfl <| Of rfl sm rfl rfl <| Oa ag (zl (hv := by simp (disch := first | omega | simp only [nx]; omega) only [aLoad, ty25, rowOf, hpl, x2', x3', Value.cells] <;> rfl)) rfl <| OSuf.callD ag (by simp only [aopnds, lk] <;> rfl) en26 (himg) rfl <| Oa ag sm rfl <| Of ag (zb (hv := bs_neq)) rfl (by simp) <| Of rfl Zp rfl rfl <| On ?_
        refine Wn <| CWp.skip <| SQ.normal ?_
        refine Wr <| Oa rfl (zl (hv := by simp (disch := first | omega | simp only [nx]; omega) only [aLoad, ty25, rowOf, hpl, x2', x3', Value.cells] <;> rfl)) rfl <| Oa rfl (zs (hv := by simp (disch := first | omega | simp only [nx]; omega) only [aStore, ty25, writeRow, hpl, x2', x3', Value.cells] <;> rfl)) rfl <| Oa rfl za rfl <| On ?_
        refine CWp.ret <| FQ.ret (by simp (disch := first | omega | simp only [nx]; omega) only [aRet, Tryz.f29, aResults, aResult, lk, Nat.reduceEqDiff, reduceIte, aLoad, rowOf, hpl, x2', x3', Value.cells, places, tb29] <;> rfl) ?_
        refine ⟨.inl ⟨hR, _, rfl, ?_⟩, by simp only [nx]; omega, fun z hz => by simp (disch := first | omega | simp only [nx]; omega) only [hpl]; exact x6 z hz⟩
        rw [hL]
        exact (SV.low x4 (by omega)).mono (by simp) (fun z hz he => zS (by have := x4.row he; omega))
      · rw [decide_eq_false hi] at hR
        refine SQ.normal <| CWp.known ha ?_
        simp only [mkA]
        refine W.seq <| Wr <| Oa rfl sm rfl <| OSuf.callD rfl (by simp only [aopnds, lk] <;> rfl) en69 (ee) rfl <| Of rfl Zt rfl rfl <| Of rfl sm rfl rfl <| Oa ag (zl (hv := by simp (disch := first | omega | simp only [nx]; omega) only [aLoad, ty25, rowOf, hpl, x2', x3', Value.cells] <;> rfl)) rfl <| OSuf.callD ag (by simp only [aopnds, lk] <;> rfl) en14 (hck) rfl <| Of ag (zb (hv := bi_neq)) rfl (by first | rfl | assumption | ((simp only [bl, x2', x3', Value.cells, places, tb29]) <;> first | done | assumption | omega) | (simp; done) | (simp; omega)) <| Of rfl Zp rfl rfl <| Of rfl sm rfl rfl <| Oa ag (zl (hv := by simp (disch := first | omega | simp only [nx]; omega) only [aLoad, ty25, rowOf, hpl, x2', x3', Value.cells] <;> rfl)) rfl <| OSuf.callD ag (by simp only [aopnds, lk] <;> rfl) en26 (himg) rfl <| Oa ag sm rfl <| Ot ag (zb (hv := bs_neq)) rfl (by simp; exact hi) <| Ot rfl Zp rfl rfl <| On ?_
        refine Wy <| Wr <| Oa rfl (so_build (by simp only [aparts, lk] <;> rfl) (by simp only [aBuild, ty25, x2', x3', Value.cells, places, tb29] <;> rfl)) rfl <| Oa rfl (zs (hv := by simp (disch := first | omega | simp only [nx]; omega) only [aStore, ty25, writeRow, hpl, x2', x3', Value.cells] <;> rfl)) rfl <| Oa rfl za rfl <| On ?_
        refine CWp.ret <| SQ.ret <| FQ.ret (by simp (disch := first | omega | simp only [nx]; omega) only [aRet, Tryz.f29, aResults, aResult, lk, Nat.reduceEqDiff, reduceIte, aLoad, rowOf, hpl, x2', x3', Value.cells, places, tb29] <;> rfl) ?_
        exact ⟨.inr ⟨hR, rfl⟩, by simp only [nx]; omega, fun z hz => by simp (disch := first | omega | simp only [nx]; omega) only [hpl]; exact x6 z hz⟩
end Go.Proofs.YtebheelmgcggmaaGreat
namespace Go.Proofs.YtebheelmgcggmaaGreat
open Go.Ab Go.Sort
theorem img_doc {p : Lf} (hc : chk p = true) (hd : p.deltas = []) : imgM p 0 = img0 p ++ recsE (p.base.map fun r => (delN r, r)) := by
  have hb : p.base.length ≤ 64 := by
    have h := hc
    simp only [chk, Bool.and_eq_true, decide_eq_true_eq] at h
    omega
  have e : foldM p 0 = p := by
    have e1 : foldB 0 p = p.base := by simp [foldB, hd]
    rw [foldM, e1, if_pos ⟨hc, hb⟩, hd]
    cases p; simp_all
  rw [imgM, if_pos hc, e, img, imgR_recs]
theorem both (l : List UInt8) (hl : l.length ≤ 400000) : readOK l = docOK l ∧ (readOK l = true → leafS l = docL l) := by
  obtain ⟨low, high, full, n, s4, eH⟩ : ∃ a b c d e, headS (some l) = (a, b, c, d, e) := ⟨_, _, _, _, _, rfl⟩
  have l4 : lenS s4 ≤ 400000 := by have := headS_le (some l); rw [eH] at this; exact Nat.le_trans this hl
  have hL : leafS l = ⟨low, high, full, (recsS n s4).1.map (·.2), []⟩ := by simp only [leafS, eH]
  have hD : docL l = ⟨low, high, full, (recsS (min n 65) s4).1.map (·.2), []⟩ := by simp only [docL, eH]
  have hR : readOK l = (decide (n ≤ 64) && (recsS n s4).1.all (fun x => decide (x.1 ≤ 1)) && (endS (recsS n s4).2 && chk (leafS l))) := by simp only [readOK, eH]
  have hO : docOK l = (endS (recsS (min n 65) s4).2 && chk (docL l) && decide (imgM (docL l) 0 = l)) := by simp only [docOK, eH]
  by_cases hn : n ≤ 64
  · have hm : min n 65 = n := by omega
    rw [hm] at hD hO
    have hLD : leafS l = docL l := by rw [hL, hD]
    refine ⟨?_, fun _ => hLD⟩
    rw [hR, hO, hLD, decide_eq_true hn, Bool.true_and]
    cases he : endS (recsS n s4).2 with
    | false => simp
    | true =>
      cases hc : chk (docL l) with
      | false => simp
      | true =>
        simp only [Bool.true_and, Bool.and_true]
        have hs : (recsS n s4).2 = some [] := by
          cases hx : (recsS n s4).2 with
          | none => rw [hx] at he; cases he
          | some m => cases m with
            | nil => rfl
            | cons c t => rw [hx] at he; cases he
        obtain ⟨x, rfl⟩ : ∃ x, s4 = some x := by
          cases s4 with
          | none => rw [recsS_none] at hs; cases hs
          | some x => exact ⟨x, rfl⟩
        have h1 := headS_inv eH
        have h2 := recsS_inv n hs
        rw [List.append_nil] at h2
        have h3 : imgM (docL l) 0 = num low.length ++ low ++ num high.length ++ high ++ num full ++ num n ++ recsE ((recsS n (some x)).1.map fun z => (delN z.2, z.2)) := by
          rw [img_doc hc (by rw [hD]), hD]
          simp [img0, recsS_len, Function.comp_def]
        have hok := recsS_ok n (some x) l4
        rw [Bool.eq_iff_iff, List.all_eq_true, decide_eq_true_eq]
        constructor
        · intro hall
          rw [h3]
          conv => rhs; rw [h1, h2]
          congr 2
          refine (List.map_congr_left (g := id) fun z hz => ?_).trans (List.map_id _)
          have hz1 := of_decide_eq_true (hall z hz)
          have hd := (hok z hz).d
          obtain ⟨d, r⟩ := z
          simp only at hz1 hd
          have : delN r = d := by
            simp only [delN, hd]
            by_cases h9 : d = 1
            · subst h9; rfl
            · have : d = 0 := by omega
              subst this; rfl
          simp only [this, id]
        · intro hi z hz
          rw [h3] at hi
          have h4 : recsE ((recsS n (some x)).1.map fun z => (delN z.2, z.2)) = recsE (recsS n (some x)).1 := by
            have h5 := hi.trans (h1.trans (congrArg _ h2))
            exact List.append_cancel_left h5
          have h6 := recsS_fwd ((recsS n (some x)).1.map fun z => (delN z.2, z.2)) [] (by
            intro w hw
            obtain ⟨z, hz, rfl⟩ := List.mem_map.1 hw
            have g := hok z hz
            refine ⟨g.k, g.l, g.v, ?_, ?_⟩
            · simp only [delN]; cases z.2.del <;> rfl
            · simp only [delN]; split <;> omega)
          rw [List.append_nil, h4, ← h2, List.length_map, recsS_len] at h6
          have h7 := congrArg Prod.fst h6
          simp only at h7
          rw [h7] at hz
          obtain ⟨w, _, rfl⟩ := List.mem_map.1 hz
          simp only [delN, decide_eq_true_eq]
          by_cases h9 : w.2.del = true <;> simp [h9]
  · have h1 : readOK l = false := by rw [hR, decide_eq_false hn]; rfl
    refine ⟨?_, fun h => by rw [h1] at h; cases h⟩
    rw [h1, hO]
    have : chk (docL l) = false := by
      cases hc : chk (docL l) with
      | false => rfl
      | true =>
        have h := hc
        simp only [chk, Bool.and_eq_true, decide_eq_true_eq] at h
        have : (docL l).base.length = min n 65 := by rw [hD]; simp [recsS_len]
        omega
    rw [this]; simp
end Go.Proofs.YtebheelmgcggmaaGreat
namespace Go.Proofs.YtebheelmgcggmaaGreat
open Go.Ab Go.Sort
theorem rdv_str {h : AHeap} {n : Nat} {v : Value} (hr : RdV Tryz.prog h (n + 1) 9 v) : ∃ l : List UInt8, v = encS l := by
  unfold RdV at hr
  rw [Tryz.underlying9] at hr
  simp only at hr
  obtain ⟨⟨⟨k⟩⟩, h1, _⟩ := Rd.string Tryz.underlying9 hr
  exact ⟨k, by simpa using h1⟩
theorem reads_c (h : AHeap) (s : List UInt8) : FWp Tryz.prog 4 [encS s] h fun u _ => u = .bool true := by
  have tb4 := And.intro ty25 (And.intro ty3 (ty9))
  obtain ⟨l, hl⟩ : ∃ l, l = s.take 4000 := ⟨_, rfl⟩
  have hll : l.length ≤ 400000 := by rw [hl]; simp; omega
  have e0 : (ByteArray.mk ⟨s⟩).size = s.length := rfl
  obtain ⟨m, hm, hm2⟩ : ∃ m : Nat, (if (4000 : Int) < (s.length : Int) then 4000 else (s.length : Int)) = (m : Int) ∧ m = min s.length 4000 := by
    refine ⟨min s.length 4000, ?_, rfl⟩
    split <;> omega
  have hlm : s.take m = l := by
    rw [hl, hm2]
    rcases Nat.le_total s.length 4000 with h1 | h1
    · rw [Nat.min_eq_left h1, List.take_of_length_le h1, List.take_of_length_le (Nat.le_refl _)]
    · rw [Nat.min_eq_right h1]
  have hsl : ∀ (t : TypeId) (ti : TI) (G : AHeap), T.get t = some ti → ti.und = .string → aSlice T t (encS s) none (some (I64 (m : Int))) none G = some (encS l) := fun t ti G h1 h2 => by
    rw [sl_strh (l := s) h1 h2 (by omega), hlm]
  obtain ⟨hb1, hb2⟩ := both l hll
  refine W.enter tyOK Tryz.func4 rfl rfl ?_
  simp only [entry]
  cases hc : readOK l with
  | true =>
    rw [hc] at hb1
    have hL := hb2 hc
    have pt : ∀ G : AHeap, FWp Tryz.prog 28 [encS l] G fun u g => ∃ b, u = .tuple #[LV (leafS l) (.slice b (leafS l).base.length 0) (.slice none 0 0), I64 0] ∧ SV g 4 G.next (fl (leafS l).base) (.slice b (leafS l).base.length 0) ∧ G.next ≤ g.next ∧ ∀ z, z < G.next → g.get z = G.get z := fun G =>
      (parse_c G l hll).mono fun u g ⟨hu, h1, h2⟩ => by
        rcases hu with ⟨_, bv, rfl, hs⟩ | ⟨hf, _⟩
        · obtain ⟨b, rfl⟩ := sv_form hs
          exact ⟨b, rfl, hs, h1, h2⟩
        · rw [hc] at hf; cases hf
    have dt : ∀ G : AHeap, FWp Tryz.prog 29 [encS l] G fun u g => ∃ b, u = .tuple #[LV (leafS l) (.slice b (leafS l).base.length 0) (.slice none 0 0), I64 0] ∧ SV g 4 G.next (fl (leafS l).base) (.slice b (leafS l).base.length 0) ∧ G.next ≤ g.next ∧ ∀ z, z < G.next → g.get z = G.get z := fun G =>
      (parse0_c G l hll).mono fun u g ⟨hu, h1, h2⟩ => by
        rcases hu with ⟨_, bv, rfl, hs⟩ | ⟨hf, _⟩
        · rw [← hL] at hs ⊢
          obtain ⟨b, rfl⟩ := sv_form hs
          exact ⟨b, rfl, hs, h1, h2⟩
        · rw [← hb1] at hf; cases hf
    have hde : (leafS l).deltas = [] := rfl
    have hbl : (leafS l).base.length ≤ 64 := by
      have h := hc
      simp only [readOK, Bool.and_eq_true] at h
      have h := h.2.2
      simp only [chk, Bool.and_eq_true, decide_eq_true_eq] at h
      omega
    have rn : ∀ G : AHeap, RS G (leafS l).deltas (.slice none 0 0) := fun G => ⟨⟨_, _, rfl, .inl ⟨rfl, rfl, rfl⟩⟩⟩
    refine Wr <| Of rfl za rfl rfl <| On ?_
    refine Wr <| Oa rfl sm rfl <| Oa rfl sm rfl <| Oa rfl (Zn (hv := by simp (disch := first | omega | simp only [nx]; omega) only [aLenOf, ty9, hpl, e0, hm, Value.cells, places, tb4] <;> rfl)) rfl <| Oa rfl (so_min (by simp only [aopnds, lk] <;> rfl)) rfl <| Oa rfl (so_slice (by simp only [lk] <;> rfl) (by simp only [oopnd, lk] <;> rfl) (by simp only [oopnd, lk] <;> rfl) (by simp only [oopnd, lk] <;> rfl) (by rw [hm]; exact hsl _ _ _ ty9 rfl)) rfl <| Oa rfl za rfl <| On ?_
    refine Wr <| Oa rfl sm rfl <| OSuf.call rfl (by simp only [aopnds, lk] <;> rfl) en28 (pt _) ?_
    rintro _ g1 ⟨b1, rfl, s1, n1, k1⟩
    refine ⟨_, rfl, ?_⟩
    refine Oa rfl sm rfl <| Oa rfl (ze (hv := by simp (disch := first | omega | simp only [nx]; omega) only [aExtract, hpl, e0, hm, Value.cells, places, tb4] <;> rfl)) rfl <| Oa rfl (ze (hv := by simp (disch := first | omega | simp only [nx]; omega) only [aExtract, hpl, e0, hm, Value.cells, places, tb4] <;> rfl)) rfl <| Oa rfl (so_alloc (by simp only [aAlloc, ty25] <;> rfl)) rfl <| Oa rfl (zs (hv := by simp (disch := first | omega | simp only [nx]; omega) only [aStore, ty25, writeRow, hpl, e0, hm, Value.cells] <;> rfl)) rfl <| Oa rfl za rfl <| On ?_
    refine Wr <| Oa rfl sm rfl <| OSuf.call rfl (by simp only [aopnds, lk] <;> rfl) en29 (dt _) ?_
    rintro _ g2 ⟨b2, rfl, s2, n2, k2⟩
    simp only [nx] at n2 k2 s2
    have q3 : g2.get g1.next = some (LR (leafS l) (.slice b1 (leafS l).base.length 0) (.slice none 0 0)) := (by rw [k2 _ (by omega)]; simp (disch := first | omega | simp only [nx]; omega) only [hpl] <;> rfl)
    refine ⟨_, rfl, ?_⟩
    refine Oa rfl sm rfl <| Oa rfl (ze (hv := by simp (disch := first | omega | simp only [nx]; omega) only [aExtract, hpl, e0, hm, Value.cells, places, tb4, q3] <;> rfl)) rfl <| Oa rfl (ze (hv := by simp (disch := first | omega | simp only [nx]; omega) only [aExtract, hpl, e0, hm, Value.cells, places, tb4, q3] <;> rfl)) rfl <| Oa rfl (so_alloc (by simp only [aAlloc, ty25] <;> rfl)) rfl <| Oa rfl (zs (hv := by simp (disch := first | omega | simp only [nx]; omega) only [aStore, ty25, writeRow, hpl, e0, hm, Value.cells, q3] <;> rfl)) rfl <| Oa rfl za rfl <| On ?_
    refine Wr <| Oa rfl sm rfl <| Oa rfl sm rfl <| Ot rfl (zb (hv := bi_eql)) rfl (by first | rfl | assumption | ((simp only [bl, e0, hm, Value.cells, places, tb4, q3]) <;> first | done | assumption | omega) | (simp; done) | (simp; omega)) <| Ot rfl sm rfl rfl <| Oa ag (zl (hv := by simp (disch := first | omega | simp only [nx]; omega) only [aLoad, ty25, rowOf, hpl, e0, hm, Value.cells, q3] <;> rfl)) rfl <| Oa ag (zl (hv := by simp (disch := first | omega | simp only [nx]; omega) only [aLoad, ty25, rowOf, hpl, e0, hm, Value.cells, q3] <;> rfl)) rfl <| OSuf.callD ag (by simp only [aopnds, lk] <;> rfl) en15 (same0_c _ (leafS l) _ _ _ _ (by exact sv_rs (s1.mono (by simp only [nx]; omega) (fun z hz he => by simp (disch := first | omega | simp only [nx]; omega) only [hpl]; rw [k2 z (by omega)]; simp (disch := first | omega | simp only [nx]; omega) only [hpl]))) (rn _) (by exact sv_rs (s2.mono (by simp only [nx]; omega) (fun z hz he => by simp (disch := first | omega | simp only [nx]; omega) only [hpl]))) (rn _) (by omega) (by rw [hde]; simp)) rfl <| Ot rfl Zp rfl rfl <| Ot rfl sm rfl rfl <| OSuf.callD ag (by simp only [aopnds, lk] <;> rfl) en27 (works_c _) rfl <| Ot rfl Zp rfl rfl <| Ot rfl za rfl rfl <| On ?_
    refine CWp.ret <| FQ.ret (by simp only [aRet, Tryz.f4, aResults, aResult, lk, Nat.reduceEqDiff, reduceIte] <;> rfl) ?_
    rfl
  | false =>
    rw [hc] at hb1
    have pt : ∀ G : AHeap, FWp Tryz.prog 28 [encS l] G fun u g => u = .tuple #[LV ⟨[], [], 0, [], []⟩ (.slice none 0 0) (.slice none 0 0), I64 4] ∧ G.next ≤ g.next ∧ ∀ z, z < G.next → g.get z = G.get z := fun G =>
      (parse_c G l hll).mono fun u g ⟨hu, h1, h2⟩ => by
        rcases hu with ⟨hf, _⟩ | ⟨_, rfl⟩
        · rw [hc] at hf; cases hf
        · exact ⟨rfl, h1, h2⟩
    have dt : ∀ G : AHeap, FWp Tryz.prog 29 [encS l] G fun u g => u = .tuple #[LV ⟨[], [], 0, [], []⟩ (.slice none 0 0) (.slice none 0 0), I64 4] ∧ G.next ≤ g.next ∧ ∀ z, z < G.next → g.get z = G.get z := fun G =>
      (parse0_c G l hll).mono fun u g ⟨hu, h1, h2⟩ => by
        rcases hu with ⟨hf, _⟩ | ⟨_, rfl⟩
        · rw [← hb1] at hf; cases hf
        · exact ⟨rfl, h1, h2⟩
    have rn : ∀ G : AHeap, RS G [] (.slice none 0 0) := fun G => ⟨⟨_, _, rfl, .inl ⟨rfl, rfl, rfl⟩⟩⟩
    refine Wr <| Of rfl za rfl rfl <| On ?_
    refine Wr <| Oa rfl sm rfl <| Oa rfl sm rfl <| Oa rfl (Zn (hv := by simp (disch := first | omega | simp only [nx]; omega) only [aLenOf, ty9, hpl, e0, hm, Value.cells, places, tb4] <;> rfl)) rfl <| Oa rfl (so_min (by simp only [aopnds, lk] <;> rfl)) rfl <| Oa rfl (so_slice (by simp only [lk] <;> rfl) (by simp only [oopnd, lk] <;> rfl) (by simp only [oopnd, lk] <;> rfl) (by simp only [oopnd, lk] <;> rfl) (by rw [hm]; exact hsl _ _ _ ty9 rfl)) rfl <| Oa rfl za rfl <| On ?_
    refine Wr <| Oa rfl sm rfl <| OSuf.call rfl (by simp only [aopnds, lk] <;> rfl) en28 (pt _) ?_
    rintro _ g1 ⟨rfl, n1, k1⟩
    refine ⟨_, rfl, ?_⟩
    refine Oa rfl sm rfl <| Oa rfl (ze (hv := by simp (disch := first | omega | simp only [nx]; omega) only [aExtract, hpl, e0, hm, Value.cells, places, tb4] <;> rfl)) rfl <| Oa rfl (ze (hv := by simp (disch := first | omega | simp only [nx]; omega) only [aExtract, hpl, e0, hm, Value.cells, places, tb4] <;> rfl)) rfl <| Oa rfl (so_alloc (by simp only [aAlloc, ty25] <;> rfl)) rfl <| Oa rfl (zs (hv := by simp (disch := first | omega | simp only [nx]; omega) only [aStore, ty25, writeRow, hpl, e0, hm, Value.cells] <;> rfl)) rfl <| Oa rfl za rfl <| On ?_
    refine Wr <| Oa rfl sm rfl <| OSuf.call rfl (by simp only [aopnds, lk] <;> rfl) en29 (dt _) ?_
    rintro _ g2 ⟨rfl, n2, k2⟩
    simp only [nx] at n2 k2
    have q3 : g2.get g1.next = some (LR ⟨[], [], 0, [], [] ⟩ (.slice none 0 0) (.slice none 0 0)) := (by rw [k2 _ (by omega)]; simp (disch := first | omega | simp only [nx]; omega) only [hpl] <;> rfl)
    refine ⟨_, rfl, ?_⟩
    refine Oa rfl sm rfl <| Oa rfl (ze (hv := by simp (disch := first | omega | simp only [nx]; omega) only [aExtract, hpl, e0, hm, Value.cells, places, tb4, q3] <;> rfl)) rfl <| Oa rfl (ze (hv := by simp (disch := first | omega | simp only [nx]; omega) only [aExtract, hpl, e0, hm, Value.cells, places, tb4, q3] <;> rfl)) rfl <| Oa rfl (so_alloc (by simp only [aAlloc, ty25] <;> rfl)) rfl <| Oa rfl (zs (hv := by simp (disch := first | omega | simp only [nx]; omega) only [aStore, ty25, writeRow, hpl, e0, hm, Value.cells, q3] <;> rfl)) rfl <| Oa rfl za rfl <| On ?_
    refine Wr <| Oa rfl sm rfl <| Oa rfl sm rfl <| Ot rfl (zb (hv := bi_eql)) rfl (by first | rfl | assumption | ((simp only [bl, e0, hm, Value.cells, places, tb4, q3]) <;> first | done | assumption | omega) | (simp; done) | (simp; omega)) <| Ot rfl sm rfl rfl <| Oa ag (zl (hv := by simp (disch := first | omega | simp only [nx]; omega) only [aLoad, ty25, rowOf, hpl, e0, hm, Value.cells, q3] <;> rfl)) rfl <| Oa ag (zl (hv := by simp (disch := first | omega | simp only [nx]; omega) only [aLoad, ty25, rowOf, hpl, e0, hm, Value.cells, q3] <;> rfl)) rfl <| OSuf.callD ag (by simp only [aopnds, lk] <;> rfl) en15 (same0_c _ ⟨[], [], 0, [], [] ⟩ _ _ _ _ (rn _) (rn _) (rn _) (rn _) (by simp) (by simp)) rfl <| Ot rfl Zp rfl rfl <| Ot rfl sm rfl rfl <| OSuf.callD ag (by simp only [aopnds, lk] <;> rfl) en27 (works_c _) rfl <| Ot rfl Zp rfl rfl <| Ot rfl za rfl rfl <| On ?_
    refine CWp.ret <| FQ.ret (by simp only [aRet, Tryz.f4, aResults, aResult, lk, Nat.reduceEqDiff, reduceIte] <;> rfl) ?_
    rfl
end Go.Proofs.YtebheelmgcggmaaGreat
