/-
  Merged: RhH, RhI, RhJ, KnB.
-/
import Derived.Test.YtebheelmgcggmaaGreatMp
import Derived.Test.YtebheelmgcggmaaGreatMa
import Derived.Test.YtebheelmgcggmaaGreatAb48
namespace Go.Proofs.YtebheelmgcggmaaGreat
open Go.Ab Go.Sort
set_option linter.unusedSimpArgs false
set_option linter.unusedVariables false
set_option maxRecDepth 10000
set_option maxHeartbeats 4000000
structure RX (h g : AHeap) (low high : List UInt8) (full : Nat) (s4 : Rdr) (i : Nat) (bv : Value) : Prop where
  q : g.get (h.next + 1) = some (.cells (rc (recsS i s4).2) 1)
  p : g.get (h.next + 2) = some (LR ⟨low, high, full, [], []⟩ bv (.slice none 0 0))
  r : g.get h.next = some (.cells zlf 1)
  s : SV g 4 (h.next + 3) (fl ((recsS i s4).1.map (·.2))) bv
  n : h.next + 3 ≤ g.next
  o : ∀ z, z < h.next → g.get z = h.get z
  d : (recsS i s4).1.all (fun x => decide (x.1 ≤ 1)) = true
theorem read_p (h : AHeap) (l : List UInt8) (hl : l.length ≤ 400000) : FWpP Tryz.prog 65 [encS l] h (fun u g => readOK l = true ∧ (∃ bv, u = LV (leafS l) bv (.slice none 0 0) ∧ SV g 4 (h.next + 3) (fl (leafS l).base) bv) ∧ h.next ≤ g.next ∧ ∀ z, z < h.next → g.get z = h.get z)
    fun pv g => readOK l = false ∧ pv = WR ∧ h.next ≤ g.next ∧ ∀ z, z < h.next → g.get z = h.get z := by
  have tb65 := And.intro ty23 (And.intro ty25 (And.intro ty27 (And.intro ty4 (ty9))))
  obtain ⟨low, s1, e1⟩ : ∃ a b, textS (some l) = (a, b) := ⟨_, _, rfl⟩
  obtain ⟨high, s2, e2⟩ : ∃ a b, textS s1 = (a, b) := ⟨_, _, rfl⟩
  obtain ⟨full, s3, e3⟩ : ∃ a b, numS s2 = (a, b) := ⟨_, _, rfl⟩
  obtain ⟨n, s4, e4⟩ : ∃ a b, numS s3 = (a, b) := ⟨_, _, rfl⟩
  have eH : headS (some l) = (low, high, full, n, s4) := by simp only [headS, e1, e2, e3, e4]
  have l0 : lenS (some l) ≤ 400000 := hl
  have l1 : lenS s1 ≤ 400000 := by have := textS_le (some l); rw [e1] at this; exact Nat.le_trans this l0
  have l2 : lenS s2 ≤ 400000 := by have := textS_le s1; rw [e2] at this; exact Nat.le_trans this l1
  have l3 : lenS s3 ≤ 400000 := by have := numS_le s2; rw [e3] at this; exact Nat.le_trans this l2
  have l4 : lenS s4 ≤ 400000 := by have := numS_le s3; rw [e4] at this; exact Nat.le_trans this l3
  refine V.enter tyOK Tryz.func65 rfl rfl ?_
  simp only [entry]
  refine V.seq <| V.reg <| OSuf.aop tyOK rfl (so_alloc (by simp only [aAlloc, ty25] <;> rfl)) rfl <| OSuf.nil <| SQP.normal ?_
  refine V.seq <| V.reg <| OSuf.aop tyOK rfl sm rfl <| OSuf.call rfl (by simp only [aopnds, lk] <;> rfl) en92 (rdnew_c _ l) ?_
  rintro _ _ ⟨rfl, rfl⟩
  refine ⟨_, rfl, ?_⟩
  refine OSuf.aop tyOK rfl za rfl <| OSuf.nil <| SQP.normal ?_
  refine V.seq <| V.reg <| OSuf.aop tyOK rfl sm rfl <| OSuf.call rfl (by simp only [aopnds, lk] <;> rfl) en93 (rdtext_e (s := some l) (AHeap.get_new_same _ _) l0 e1) ?_
  rintro _ g1 ⟨rfl, q1, n1, k1⟩
  refine ⟨_, rfl, ?_⟩
  refine OSuf.aop tyOK rfl sm rfl <| OSuf.call rfl (by simp only [aopnds, lk] <;> rfl) en93 (rdtext_e q1 l1 e2) ?_
  rintro _ g2 ⟨rfl, q2, n2, k2⟩
  refine ⟨_, rfl, ?_⟩
  refine OSuf.aop tyOK rfl sm rfl <| OSuf.call rfl (by simp only [aopnds, lk] <;> rfl) en94 (rdnum_e q2 l2 e3) ?_
  rintro _ g3 ⟨rfl, q3, n3, k3⟩
  simp only [nx] at n1 n2 n3 k1 k2 k3 q3
  have n3' : g3.next = h.next + 2 := by omega
  have r3 : g3.get h.next = some (.cells zlf 1) := (by rw [k3 _ (by omega), k2 _ (by omega), k1 _ (by omega)]; simp (disch := first | assumption | omega | (simp only [nx] <;> omega) | fail) only [hpl] <;> rfl)
  have o3 : ∀ z, z < h.next → g3.get z = h.get z := fun z hz => (by rw [k3 _ (by omega), k2 _ (by omega), k1 _ (by omega)]; simp (disch := first | assumption | omega | (simp only [nx] <;> omega) | fail) only [hpl])
  clear k1 k2 k3
  refine ⟨_, rfl, ?_⟩
  refine OSuf.aop tyOK rfl (so_build (by simp only [aparts, lk] <;> rfl) (by simp only [aBuild, ty25, Value.cells, places, tb65] <;> first | rfl | (simp only [tyall] <;> rfl) | (simp [tyall] <;> rfl))) rfl <| OSuf.aop tyOK rfl (so_alloc (by simp only [aAlloc, ty25] <;> rfl)) rfl <| OSuf.aop tyOK rfl (zs (hv := by simp (disch := first | assumption | omega | (simp only [nx] <;> omega) | fail) only [aStore, ty25, writeRow, hpl, Value.cells] <;> rfl)) rfl <| OSuf.nil <| SQP.normal ?_
  refine V.seq <| V.reg <| OSuf.aop tyOK rfl sm rfl <| OSuf.call rfl (by simp only [aopnds, lk] <;> rfl) en94 (rdnum_e (by simp (disch := first | assumption | omega | (simp only [nx] <;> omega) | fail) only [hpl]; exact q3) l3 e4) ?_
  rintro _ g4 ⟨rfl, q4, n4, k4⟩
  simp only [nx] at n4 k4 q4
  have n4' : g4.next = h.next + 3 := by omega
  have p4 : g4.get (h.next + 2) = some (LR ⟨low, high, full, [], []⟩ (.slice none 0 0) (.slice none 0 0)) := (by rw [k4 _ (by omega), show h.next + 2 = g3.next by omega]; simp (disch := first | assumption | omega | (simp only [nx] <;> omega) | fail) only [hpl] <;> rfl)
  have r4 : g4.get h.next = some (.cells zlf 1) := (by rw [k4 _ (by omega)]; simp (disch := first | assumption | omega | (simp only [nx] <;> omega) | fail) only [hpl]; exact r3)
  have o4 : ∀ z, z < h.next → g4.get z = h.get z := fun z hz => (by rw [k4 _ (by omega)]; simp (disch := first | assumption | omega | (simp only [nx] <;> omega) | fail) only [hpl]; exact o3 z hz)
  clear k4 o3 r3
  refine ⟨_, rfl, ?_⟩
  refine OSuf.aop tyOK rfl za rfl <| OSuf.nil <| SQP.normal ?_
  refine V.seq <| V.regP <| OSufP.aop tyOK rfl sm rfl <| OSufP.aop tyOK rfl (zb (hv := bi_leq)) rfl <| OSufP.callP rfl (by simp only [aopnds, lk] <;> rfl) en95 ((must_p _ _).monoJ (by rintro pv g ⟨hb, rfl, rfl⟩; exact ⟨(by simp only [decide_eq_false_iff_not] at hb; simp only [readOK, eH]; rw [decide_eq_false (by omega)]; rfl), rfl, by omega, o4⟩)) ?_
  rintro _ _ ⟨hb, rfl, rfl⟩
  refine ⟨_, rfl, ?_⟩
  refine OSufP.nil <| SQP.normal ?_
  refine V.seq <| V.seq <| V.reg <| OSuf.aop tyOK rfl sm rfl <| OSuf.aop tyOK rfl sm rfl <| OSuf.nil <| SQP.normal ?_
  -- leaf: loop
  have hn : n ≤ 64 := by simp only [decide_eq_true_eq] at hb; omega
  have hle := recsS_len
  refine V.cut (fun L g => ∃ bv, RX h g low high full s4 n bv ∧ L = [(2, P0 h.next), (3, P0 (h.next + 1)), (4, P0 (h.next + 2))]) (V.block (V.loop (fun m L g => ∃ (i : Nat) (bv : Value), m + i = n ∧ RX h g low high full s4 i bv ∧ L = [(2, P0 h.next), (3, P0 (h.next + 1)), (4, P0 (h.next + 2)), (22, U64 n), (23, U64 i)]) (n := n) (L := [(2, P0 h.next), (3, P0 (h.next + 1)), (4, P0 (h.next + 2)), (22, U64 n), (23, U64 ((0 : Nat) : Int))]) ⟨0, .slice none 0 0, rfl, ⟨q4, p4, r4, .nil, by omega, o4, rfl⟩, rfl⟩ ?_ ?_)) ?_
  · simp [HasA, Tr.get_put, n3']
  · rintro m L g ⟨i, bv, hm, X, rfl⟩
    simp only [mkA]
    obtain ⟨x1, x2, x3, x4, x5, x6, x7⟩ := X
    by_cases hi : (i : Int) < (n : Int)
    · have hi' : i < n := by omega
      obtain ⟨b, rfl⟩ := sv_form x4
      generalize hst : (recsS i s4).2 = st at x1
      obtain ⟨key, ra, ek⟩ : ∃ a b, textS st = (a, b) := ⟨_, _, rfl⟩
      obtain ⟨lsn, rb, en⟩ : ∃ a b, numS ra = (a, b) := ⟨_, _, rfl⟩
      obtain ⟨del, rd, ed⟩ : ∃ a b, numS rb = (a, b) := ⟨_, _, rfl⟩
      obtain ⟨val, re, ev⟩ : ∃ a b, textS rd = (a, b) := ⟨_, _, rfl⟩
      have m0 : lenS st ≤ 400000 := by rw [← hst]; exact Nat.le_trans (recsS_le i s4) l4
      have m1 : lenS ra ≤ 400000 := by have := textS_le st; rw [ek] at this; exact Nat.le_trans this m0
      have m2 : lenS rb ≤ 400000 := by have := numS_le ra; rw [en] at this; exact Nat.le_trans this m1
      have m3 : lenS rd ≤ 400000 := by have := numS_le rb; rw [ed] at this; exact Nat.le_trans this m2
      have eR : recS st = (del, ⟨key, lsn, ((del : Int) == 1), val⟩, re) := by simp only [recS, ek, en, ed, ev]
      have eS : recsS (i + 1) s4 = ((recsS i s4).1 ++ [(del, ⟨key, lsn, ((del : Int) == 1), val⟩)], re) := by rw [recsS_snoc, hst, eR]
      have w2 : IntKind.u64.wrap ((i : Int) + 1) = ((i + 1 : Nat) : Int) := by
        have := wr_u64 (n := i + 1) (by omega); simpa using this
      have hbad : 1 < del → readOK l = false := fun h9 => by
        have hmem : (recsS n s4).1.all (fun x => decide (x.1 ≤ 1)) = false := by
          rw [← Bool.not_eq_true, List.all_eq_true]
          intro hall
          have := recsS_mem (i + 1) n s4 (by omega) (del, ⟨key, lsn, ((del : Int) == 1), val⟩) (by rw [eS]; simp)
          have := hall _ this
          simp only [decide_eq_true_eq] at this; omega
        simp only [readOK, eH]; rw [hmem]; simp
      refine V.seq <| V.reg <| OSuf.aopT tyOK rfl (zb (hv := bi_lss)) (fun _ => rfl) (by first | rfl | assumption | ((simp only [bl, Value.cells, places, tb65]) <;> first | done | assumption | omega) | (simp; done) | (simp; omega)) <| OSuf.nil <| SQP.normal ?_
      refine V.seq <| V.yes (by simp only [lk] <;> rfl) <| CWpP.skip <| SQP.normal ?_
      refine V.seq <| V.block <| V.seq <| V.reg <| OSuf.aop tyOK rfl sm rfl <| OSuf.call rfl (by simp only [aopnds, lk] <;> rfl) en93 (rdtext_e x1 m0 ek) ?_
      rintro _ f1 ⟨rfl, a1, c1, j1⟩
      refine ⟨_, rfl, ?_⟩
      refine OSuf.aop tyOK rfl sm rfl <| OSuf.call rfl (by simp only [aopnds, lk] <;> rfl) en94 (rdnum_e a1 m1 en) ?_
      rintro _ f2 ⟨rfl, a2, c2, j2⟩
      refine ⟨_, rfl, ?_⟩
      refine OSuf.aop tyOK rfl (so_build (by simp only [aparts, lk] <;> rfl) (by simp only [aBuild, ty27, Value.cells, places, tb65] <;> first | rfl | (simp only [tyall] <;> rfl) | (simp [tyall] <;> rfl))) rfl <| OSuf.aop tyOK rfl (so_alloc (by simp only [aAlloc, ty27] <;> rfl)) rfl <| OSuf.aop tyOK rfl (zs (hv := by simp (disch := first | assumption | omega | (simp only [nx] <;> omega) | fail) only [aStore, ty27, writeRow, hpl, Value.cells] <;> rfl)) rfl <| OSuf.nil <| SQP.normal ?_
      refine V.seq <| V.reg <| OSuf.aop tyOK rfl sm rfl <| OSuf.call rfl (by simp only [aopnds, lk] <;> rfl) en94 (rdnum_e (by simp (disch := first | assumption | omega | (simp only [nx] <;> omega) | fail) only [hpl]; exact a2) m2 ed) ?_
      rintro _ f3 ⟨rfl, a3, c3, j3⟩
      simp only [nx] at c3
      have y3 : f3.get f2.next = some (.cells [encS key, U64 lsn, .bool false, encS [] ] 1) := (by rw [j3 _ (by omega)]; simp (disch := first | assumption | omega | (simp only [nx] <;> omega) | fail) only [hpl] <;> rfl)
      have p3 : ∀ z, z < h.next → f3.get z = h.get z := fun z hz => (by rw [j3 _ (by omega)]; simp (disch := first | assumption | omega | (simp only [nx] <;> omega) | fail) only [hpl]; rw [j2 _ (by omega), j1 _ (by omega)]; exact x6 z hz)
      refine ⟨_, rfl, ?_⟩
      refine OSuf.aop tyOK rfl za rfl <| OSuf.nil <| SQP.normal ?_
      refine V.seq <| V.regP <| OSufP.aop tyOK rfl sm rfl <| OSufP.aop tyOK rfl (zb (hv := bi_leq)) rfl <| OSufP.callP rfl (by simp only [aopnds, lk] <;> rfl) en95 ((must_p _ _).monoJ (by rintro pv g9 ⟨hb, rfl, rfl⟩; exact ⟨hbad (by simp only [decide_eq_false_iff_not] at hb; omega), rfl, by omega, p3⟩)) ?_
      rintro _ _ ⟨hb, rfl, rfl⟩
      refine ⟨_, rfl, ?_⟩
      refine OSufP.nil <| SQP.normal ?_
      refine V.seq <| V.reg <| OSuf.aop tyOK rfl sm rfl <| OSuf.aop tyOK rfl (zb (hv := bi_eql)) rfl <| OSuf.aop tyOK rfl sm rfl <| OSuf.call rfl (by simp only [aopnds, lk] <;> rfl) en93 (rdtext_e a3 m3 ev) ?_
      rintro _ f4 ⟨rfl, a4, c4, j4⟩
      have y4 : f4.get f2.next = some (.cells [encS key, U64 lsn, .bool false, encS [] ] 1) := (by rw [j4 _ (by omega)]; exact y3)
      have z2 : f4.get (h.next + 2) = some (LR ⟨low, high, full, [], []⟩ (.slice b ((recsS i s4).1.map (·.2)).length 0) (.slice none 0 0)) := (by rw [j4 _ (by omega), j3 _ (by omega)]; simp (disch := first | assumption | omega | (simp only [nx] <;> omega) | fail) only [hpl]; rw [j2 _ (by omega), j1 _ (by omega)]; exact x2)
      have zk : ∀ z, z < g.next → ¬ z = h.next + 1 → f4.get z = g.get z := fun z hz hne => (by rw [j4 _ hne, j3 _ hne]; simp (disch := first | assumption | omega | (simp only [nx] <;> omega) | fail) only [hpl]; rw [j2 _ hne, j1 _ hne])
      obtain ⟨v', G, ap1, ap2, ap3, ap4, ap5⟩ := sv_oneR (g := (f4.set f2.next (.cells [encS key, U64 lsn, .bool ((del : Int) == 1), encS [] ] 1)).set f2.next (.cells [encS key, U64 lsn, .bool ((del : Int) == 1), encS val] 1)) (x4.mono (by simp only [nx]; omega) (fun z hz he => by have := x4.row he; simp (disch := first | assumption | omega | (simp only [nx] <;> omega) | fail) only [hpl]; exact zk z hz (by omega))) ⟨key, lsn, ((del : Int) == 1), val⟩ (by simp [recsS_len]; omega) (by simp only [nx]; omega)
      obtain ⟨b', rfl⟩ := sv_form ap2
      simp only [nx] at ap3 ap4
      have nv : ∀ z, z < h.next + 3 → ¬ svRow (.slice b ((recsS i s4).1.map (·.2)).length 0) = some z := fun z hz e => (by have := x4.row e; omega)
      have Gz2 : G.get (h.next + 2) = some (LR ⟨low, high, full, [], []⟩ (.slice b ((recsS i s4).1.map (·.2)).length 0) (.slice none 0 0)) := (by rw [ap4 _ (by omega) (nv _ (by omega))]; simp (disch := first | assumption | omega | (simp only [nx] <;> omega) | fail) only [hpl]; exact z2)
      refine ⟨_, rfl, ?_⟩
      refine OSuf.aop tyOK rfl (zf (hv := fa_ok (k := 2) ty27 rfl rfl ty4 rfl rfl)) rfl <| OSuf.aop tyOK rfl (zs (hv := by simp (disch := first | assumption | omega | (simp only [nx] <;> omega) | fail) only [aStore, ty4, writeRow, hpl, Value.cells, y4, z2, Gz2, rcl] <;> rfl)) rfl <| OSuf.aop tyOK rfl (zf (hv := fa_ok (k := 3) ty27 rfl rfl ty9 rfl rfl)) rfl <| OSuf.aop tyOK rfl (zs (hv := by simp (disch := first | assumption | omega | (simp only [nx] <;> omega) | fail) only [aStore, ty9, writeRow, hpl, Value.cells, y4, z2, Gz2, rcl] <;> rfl)) rfl <| OSuf.nil <| SQP.normal ?_
      refine V.reg <| OSuf.aop tyOK rfl (zf (hv := fa_ok (k := 3) ty25 rfl rfl ty23 rfl rfl)) rfl <| OSuf.aop tyOK rfl (zl (hv := by simp (disch := first | assumption | omega | (simp only [nx] <;> omega) | fail) only [aLoad, ty23, rowOf, hpl, Value.cells, y4, z2, Gz2, rcl] <;> rfl)) rfl <| OSuf.aop tyOK rfl (zl (hv := by simp (disch := first | assumption | omega | (simp only [nx] <;> omega) | fail) only [aLoad, ty27, rowOf, hpl, Value.cells, y4, z2, Gz2, rcl] <;> rfl)) rfl <| OSuf.aop tyOK rfl (so_buildSlice (by simp only [aparts, lk] <;> rfl) (by simp only [aBuildSlice, ty23, ty27, Value.cells, places, tb65, y4, z2, Gz2, rcl] <;> first | rfl | (simp only [tyall] <;> rfl) | (simp [tyall] <;> rfl))) rfl <| OSuf.aop tyOK rfl (so_append (by simp only [aopnds, lk] <;> rfl) (ap1 _ _ (by simp only [appT, ty23, ty27] <;> rfl) rfl (by decide))) rfl <| OSuf.aop tyOK rfl (zf (hv := fa_ok (k := 3) ty25 rfl rfl ty23 rfl rfl)) rfl <| OSuf.aop tyOK rfl (zs (hv := by simp (disch := first | assumption | omega | (simp only [nx] <;> omega) | fail) only [aStore, ty23, writeRow, hpl, Value.cells, y4, z2, Gz2, rcl] <;> rfl)) rfl <| OSuf.nil <| BQ.normal <| SQP.normal ?_
      refine V.reg <| OSuf.aop tyOK rfl (zb (hv := bi_w bi_add (by first | (simp only [w2] <;> rfl) | rfl))) rfl <| OSuf.aop tyOK rfl sm rfl <| OSuf.nil <| ?_
      -- leaf: round
      have hdel : del ≤ 1 := by simp only [decide_eq_true_eq] at hb; omega
      refine LQ.normal (m := m - 1) (L := [(2, P0 h.next), (3, P0 (h.next + 1)), (4, P0 (h.next + 2)), (22, U64 n), (23, U64 ((i + 1 : Nat) : Int))]) (by omega) ?_ ⟨i + 1, .slice b' _ 0, by omega, ⟨?_, AHeap.get_set_same _ _ _, ?_, ?_, by simp only [nx]; omega, fun z hz => ?_, ?_⟩, rfl⟩
      · simp only [HasA, Tr.get_put, Nat.reduceEqDiff, reduceIte, and_self]
      · rw [eS, AHeap.get_set_ne (by omega), ap4 _ (by omega) (nv _ (by omega))]; simp (disch := first | assumption | omega | (simp only [nx] <;> omega) | fail) only [hpl]; exact a4
      · rw [AHeap.get_set_ne (by omega), ap4 _ (by omega) (nv _ (by omega))]; simp (disch := first | assumption | omega | (simp only [nx] <;> omega) | fail) only [hpl]; rw [zk _ (by omega) (by omega)]; exact x3
      · rw [eS, List.map_append]
        exact ap2.mono (by simp only [nx]; omega) (fun z hz he => AHeap.get_set_ne (by have := ap2.row he; omega))
      · rw [AHeap.get_set_ne (by omega), ap4 _ (by omega) (nv _ (by omega))]; simp (disch := first | assumption | omega | (simp only [nx] <;> omega) | fail) only [hpl]; rw [zk _ (by omega) (by omega)]; exact x6 z hz
      · rw [eS, List.all_append, x7]; simp [hdel]
    · have : i = n := by omega
      subst this
      refine V.seq <| V.reg <| OSuf.aopF tyOK rfl (zb (hv := bi_lss)) (fun _ => rfl) (by first | rfl | assumption | ((simp only [bl]) <;> first | done | assumption | omega) | (simp; done) | (simp; omega)) <| OSuf.nil <| SQP.normal ?_
      refine V.seq <| V.no (by simp only [lk] <;> rfl) <| CWpP.exit <| SQP.exit <| LQ.exit <| BQ.exit <| ?_
      -- leaf: cut
      refine NQ.normal (L := [(2, P0 h.next), (3, P0 (h.next + 1)), (4, P0 (h.next + 2))]) ?_ ⟨bv, ⟨x1, x2, x3, x4, x5, x6, x7⟩, rfl⟩
      simp only [HasA, Tr.get_put, Nat.reduceEqDiff, reduceIte, and_self]
  rintro L a' g ha ⟨bv, ⟨x1, x2, x3, x4, x5, x6, x7⟩, rfl⟩
  have ee := rdend_c g _ _ x1
  have hL : leafS l = ⟨low, high, full, (recsS n s4).1.map (·.2), []⟩ := by simp only [leafS, eH]
  have hR : readOK l = (endS (recsS n s4).2 && chk (leafS l)) := by simp only [readOK, eH]; rw [x7, decide_eq_true hn]; rfl
  obtain ⟨b, rfl⟩ := sv_form x4
  cases he : endS (recsS n s4).2 with
  | false =>
    rw [he] at ee hR
    refine SQP.normal <| CWpP.known ha ?_
    simp only [mkA]
    refine V.seq <| V.regP <| OSufP.aop tyOK rfl sm rfl <| OSufP.callD rfl (by simp only [aopnds, lk] <;> rfl) en96 (ee) rfl <| OSufP.aopF tyOK rfl sm (fun _ => rfl) rfl <| OSufP.pass ag rfl <| OSufP.pass ag rfl <| OSufP.aopF tyOK rfl (so_pick (by simp only [lk] <;> rfl) (by simp only [lk, cond_true, cond_false] <;> rfl)) (fun _ => rfl) rfl <| OSufP.callP rfl (by simp only [aopnds, lk] <;> rfl) en95 ((must_p _ _).monoJ (by rintro pv g ⟨hb, rfl, rfl⟩; exact ⟨by rw [hR]; rfl, rfl, by omega, x6⟩)) ?_
    rintro _ _ ⟨hb, rfl, rfl⟩
    refine ⟨_, rfl, ?_⟩
    refine OSufP.nil <| SQP.normal ?_
    refine V.seq <| V.reg <| OSuf.aop tyOK rfl (zl (hv := by simp (disch := first | assumption | omega | (simp only [nx] <;> omega) | fail) only [aLoad, ty25, rowOf, hpl, x2, x3, Value.cells] <;> rfl)) rfl <| OSuf.aop tyOK rfl (zs (hv := by simp (disch := first | assumption | omega | (simp only [nx] <;> omega) | fail) only [aStore, ty25, writeRow, hpl, x2, x3, Value.cells] <;> rfl)) rfl <| OSuf.nil <| SQP.normal ?_
    refine CWpP.ret <| FQ.ret (by simp (disch := first | assumption | omega | (simp only [nx] <;> omega) | fail) only [aRet, Tryz.f65, aResults, aResult, lk, Nat.reduceEqDiff, reduceIte, aLoad, rowOf, hpl, x2, x3, Value.cells, places, tb65] <;> first | rfl | (simp only [tyall] <;> rfl) | (simp [tyall] <;> rfl)) ?_
    -- leaf: end
    cases hb
  | true =>
    rw [he] at ee hR
    have hmay := may'_c g (leafS l) (.slice b ((recsS n s4).1.map (·.2)).length 0) (.slice none 0 0) (by rw [hL]; exact sv_rs x4) ⟨⟨_, _, by rw [hL]; rfl, .inl ⟨rfl, by rw [hL]; rfl, rfl⟩⟩⟩ (by rw [hL]; simp [recsS_len]; omega) (by rw [hL]; simp)
    have x2' : g.get (h.next + 2) = some (LR (leafS l) (.slice b ((recsS n s4).1.map (·.2)).length 0) (.slice none 0 0)) := by rw [hL]; exact x2
    have x3' : g.get h.next = some (.cells [encS [], encS [], U64 0, .slice none 0 0, .slice none 0 0] 1) := x3
    refine SQP.normal <| CWpP.known ha ?_
    simp only [mkA]
    refine V.seq <| V.regP <| OSufP.aop tyOK rfl sm rfl <| OSufP.callD rfl (by simp only [aopnds, lk] <;> rfl) en96 (ee) rfl <| OSufP.aopT tyOK rfl sm (fun _ => rfl) rfl <| OSufP.aop tyOK ag (zl (hv := by simp (disch := first | assumption | omega | (simp only [nx] <;> omega) | fail) only [aLoad, ty25, rowOf, hpl, x2', x3', Value.cells] <;> rfl)) rfl <| OSufP.callD ag (by simp only [aopnds, lk] <;> rfl) en37 (hmay) rfl <| OSufP.aop tyOK rfl (so_pick (by simp only [lk] <;> rfl) (by simp only [lk, cond_true, cond_false] <;> rfl)) rfl <| OSufP.callP rfl (by simp only [aopnds, lk] <;> rfl) en95 ((must_p _ _).monoJ (by rintro pv g ⟨hb, rfl, rfl⟩; exact ⟨by rw [hR, hb]; rfl, rfl, by omega, x6⟩)) ?_
    rintro _ _ ⟨hb, rfl, rfl⟩
    refine ⟨_, rfl, ?_⟩
    refine OSufP.nil <| SQP.normal ?_
    refine V.seq <| V.reg <| OSuf.aop tyOK rfl (zl (hv := by simp (disch := first | assumption | omega | (simp only [nx] <;> omega) | fail) only [aLoad, ty25, rowOf, hpl, x2', x3', Value.cells] <;> rfl)) rfl <| OSuf.aop tyOK rfl (zs (hv := by simp (disch := first | assumption | omega | (simp only [nx] <;> omega) | fail) only [aStore, ty25, writeRow, hpl, x2', x3', Value.cells] <;> rfl)) rfl <| OSuf.nil <| SQP.normal ?_
    refine CWpP.ret <| FQ.ret (by simp (disch := first | assumption | omega | (simp only [nx] <;> omega) | fail) only [aRet, Tryz.f65, aResults, aResult, lk, Nat.reduceEqDiff, reduceIte, aLoad, rowOf, hpl, x2', x3', Value.cells, places, tb65] <;> first | rfl | (simp only [tyall] <;> rfl) | (simp [tyall] <;> rfl)) ?_
    -- leaf: end
    refine ⟨by rw [hR, hb]; rfl, ⟨_, rfl, ?_⟩, by simp only [nx]; omega, fun z hz => by simp (disch := first | assumption | omega | (simp only [nx] <;> omega) | fail) only [hpl]; exact x6 z hz⟩
    rw [hL]
    exact x4.mono (by simp) (fun z hz he => AHeap.get_set_ne (by have := x4.row he; omega))
end Go.Proofs.YtebheelmgcggmaaGreat
namespace Go.Proofs.YtebheelmgcggmaaGreat
open Go.Ab Go.Sort
set_option linter.unusedSimpArgs false
set_option linter.unusedVariables false
set_option maxRecDepth 10000
set_option maxHeartbeats 4000000
section
variable {ρ : Operand → Option Value} {dst : Option Tmp} {ty : TypeId} {pos : String} {af : Array Edge} {g : Option (Nat × Bool)} {x y : Operand} {h : AHeap} {t : TypeId} {v : Value}
theorem op_neqi (hx : ρ x = some (.iface t v)) (hv : flat v = true) (hy : ρ y = some .nilIface) : OpWp Tryz.prog ⟨dst, .binOp .neq 20 x y 20, ty, pos, af, g⟩ ρ h fun u h' => u = .bool true ∧ h' = h := by
  intro μ ρ' w c cs hρ st
  have e1 : ρ' x = .iface t v := by
    have := hρ x _ hx
    cases hz : ρ' x <;> rw [hz] at this <;> cases this
    rename_i h2; rw [h2.flat_eq hv]
  have e2 : ρ' y = .nilIface := by
    have := hρ y _ hy
    cases hz : ρ' y <;> rw [hz] at this <;> first | rfl | cases this
  refine ⟨.value (.bool true), w, _, .bool true, .bool true, h, μ, w, ?_, rfl, .refl _ _, ⟨rfl, rfl⟩, Ext.refl st, .bool true⟩
  have hu := Go.Ab.run_underlying tyOK ty20 w
  have h1 : (eqGuard .neq 20 x y (.iface t v) .nilIface).run Tryz.prog w = .ok () w := rfl
  have h2 : (Op.equal 20 (.iface t v) .nilIface).run Tryz.prog w = .ok false w := by
    show (Op.equalIn (Op.maxDepth - 1 + 1) 20 (.iface t v) .nilIface).run Tryz.prog w = .ok false w
    rw [Op.equalIn]
    simp only [Sem.run_bind, hu, Result.andThen_ok]
    rfl
  have h3 : (binOp .neq 20 (.iface t v) .nilIface).run Tryz.prog w = .ok (.bool true) w := by
    show (do pure (.bool (!(← Op.equal 20 (.iface t v) .nilIface))) : Sem Value).run Tryz.prog w = _
    simp only [Sem.run_bind, h2, Result.andThen_ok, Sem.run_pure]; rfl
  show (do pure (.value (← (do eqGuard .neq 20 x y (ρ' x) (ρ' y); binOp .neq 20 (ρ' x) (ρ' y)))) : Sem Next).run Tryz.prog w = _
  simp only [e1, e2, Sem.run_bind, h1, h3, Result.andThen_ok, Sem.run_pure]
theorem op_ta {ti : TI} (hx : ρ x = some (.iface t v)) (hv : flat v = true) (ht : T.get t = some ti) (hi : isIface ti.und = false) {t0 : TypeId} : OpWp Tryz.prog ⟨dst, .typeAssert x t0 t true, ty, pos, af, g⟩ ρ h fun u h' => u = .tuple #[v, .bool true] ∧ h' = h := by
  intro μ ρ' w c cs hρ st
  have e1 : ρ' x = .iface t v := by
    have := hρ x _ hx
    cases hz : ρ' x <;> rw [hz] at this <;> cases this
    rename_i h2; rw [h2.flat_eq hv]
  refine ⟨.value (.tuple #[v, .bool true]), w, _, .tuple #[v, .bool true], .tuple #[v, .bool true], h, μ, w, ?_, rfl, .refl _ _, ⟨rfl, rfl⟩, Ext.refl st, .tuple (.cons (.of_flat _ _ hv) (.cons (.bool true) .nil))⟩
  have hu := Go.Ab.run_underlying tyOK ht w
  have : (Instr.typeAssert (.iface t v) t0 t true).run Tryz.prog w = .ok (.tuple #[v, .bool true]) w := by
    unfold Instr.typeAssert
    simp only [Sem.run_bind, hu, Result.andThen_ok]
    cases hd : ti.und <;> rw [hd] at hi <;> first | (cases hi; done) | simp
  simp [execOp, e1, this]
end
theorem GWp.ofa {P : Program} {b : Frame} {D : List Deferred} {nt : Nat} {J : Tr Value → Value → AHeap → Prop} {ops : Array Oper} {o : Oper} {os : List Oper} {a a1 : Tr Value} {h : AHeap} {v : Value} {R : Tr Value → AHeap → Prop} (hg : aguard ops a o = some true) (ho : OpWp P o (aopnd a) h fun u h' => u = v ∧ h' = h) (hp : aput nt a o.dst v = some a1) (t : GSuf P b D nt J ops os a1 h R) : GSuf P b D nt J ops (o :: os) a h R :=
  GSuf.op hg (.of (ho.mono fun u h' hk => by obtain ⟨rfl, rfl⟩ := hk; exact ⟨a1, hp, t⟩))
theorem st_nil (h : AHeap) : aStore T 77 (P0 h.next) (.agg #[]) (h.new (.cells [] 1)) = some ((h.new (.cells [] 1)).set h.next (.cells [] 1)) := by
  have e : (bif Nat.beq (Value.cells (.agg #[])).size 0 then writeRow (h.new (.cells [] 1)) h.next 0 (Value.cells (.agg #[])).toList else none) = some ((h.new (.cells [] 1)).set h.next (.cells [] 1)) := by
    show writeRow (h.new (.cells [] 1)) h.next 0 [] = _
    simp only [writeRow, AHeap.get_new_same]
    rfl
  simp only [aStore, ty77]
  exact e
theorem DefWp.mono {P : Program} {g : FuncId} {caps : List Value} {h : AHeap} {u u' : FrameMode} {K K' : AHeap → Prop} (hd : DefWp P g caps h u u' K) (hk : ∀ g, K g → K' g) : DefWp P g caps h u u' K' :=
  fun μ c' w h1 h2 c cs hu => let ⟨v, h', μ', w', fr, a, r⟩ := hd μ c' w h1 h2 c cs hu; ⟨v, h', μ', w', fr, hk _ a, r⟩
theorem SV.low {h : AHeap} {sz lo lo' : Nat} {vs : List Value} {v : Value} (s : SV h sz lo vs v) (hl : lo' ≤ lo) : SV h sz lo' vs v := by
  cases s with
  | nil => exact .nil
  | some h1 h2 h3 h4 h5 => exact .some h1 (by omega) h3 h4 h5
theorem rec_no (h : AHeap) (q1 q2 : Value) : DefWp Tryz.prog 64 [q1, q2] h .returning .returning fun g => g = h := by
  refine DefWp.code (rv := .nilIface) Tryz.func64 rfl rfl (Nat.le_of_ble_eq_true rfl) (by decide) (by decide) (.inl ⟨rfl, rfl, rfl⟩) fun b => ?_
  simp only [entry]
  refine GWp.seq <| GWp.reg <| GSuf.aop tyOK rfl sm rfl <| GSuf.aop tyOK rfl (v := .bool false) (zb (hv := by simp only [aBin] <;> rfl)) rfl <| GSuf.nil ?_
  refine GWp.cond (t := false) (by simp only [lk] <;> rfl) <| GWp.skip rfl
theorem rec_yes (h : AHeap) (p q : Nat) (vs : List Value) (e : Value) (hp : h.get p = some (.cells vs 1)) (hv : vs.length = 5) (hq : h.get q = some (.cells [e] 1)) (hpq : ¬ p = q) (hp1 : p < h.next) (hq1 : q < h.next) :
    DefWp Tryz.prog 64 [P0 p, P0 q] h (.panicking (pe WR)) (.panicking [{ v := WR, recovered := true }]) fun g => g.get p = some (.cells zlf 1) ∧ g.get q = some (.cells [I64 4] 1) ∧ g.next = h.next + 1 ∧ ∀ z, z < h.next → ¬ z = p → ¬ z = q → g.get z = h.get z := by
  refine DefWp.code (rv := WR) Tryz.func64 rfl rfl (Nat.le_of_ble_eq_true rfl) (by decide) (by decide) (.inr ⟨_, _, rfl, rfl, rfl, rfl⟩) fun b => ?_
  simp only [entry, WR]
  refine GWp.seq <| GWp.reg <| GSuf.aop tyOK rfl sm rfl <| GWp.ofa rfl (op_neqi (by simp only [lk] <;> rfl) rfl (by simp only [lk] <;> rfl)) rfl <| GSuf.nil ?_
  refine GWp.cond (t := true) (by simp only [lk] <;> rfl) ?_
  refine GWp.seq <| GWp.seq <| GWp.reg ?_
  refine GSuf.aop tyOK rfl sm rfl ?_
  refine GWp.ofa rfl (op_ta (by simp only [lk] <;> rfl) rfl ty77 rfl) rfl ?_
  refine GSuf.aop tyOK rfl sm rfl ?_
  refine GSuf.aop tyOK rfl (ze (hv := rfl)) rfl ?_
  refine GSuf.aop tyOK rfl (ze (hv := rfl)) rfl ?_
  refine GSuf.aop tyOK rfl (so_alloc (by simp only [aAlloc, ty77] <;> rfl)) rfl ?_
  refine GSuf.aop tyOK rfl (zs (hv := st_nil h)) rfl ?_
  refine GSuf.aop tyOK rfl za rfl <| GSuf.nil <| GWp.seq <| GWp.reg <| GSuf.aop tyOK rfl sm rfl <| GSuf.aop tyOK rfl (so_not (by simp only [lk] <;> rfl)) rfl <| GSuf.nil ?_
  refine GWp.cond (t := false) (by simp only [lk] <;> rfl) <| GWp.skip <| GWp.reg ?_
  have n1 : ((h.new (.cells [] 1)).set h.next (.cells [] 1)).get p = some (.cells vs 1) := by simp (disch := first | assumption | omega | (simp only [nx] <;> omega) | fail) only [hpl]; exact hp
  obtain ⟨v1, v2, v3, v4, v5, rfl⟩ : ∃ a b c d e, vs = [a, b, c, d, e] := by
    match vs, hv with
    | [a, b, c, d, e], _ => exact ⟨a, b, c, d, e, rfl⟩
  refine GSuf.aop tyOK rfl (so_build (by simp only [aparts, lk] <;> rfl) (by simp only [aBuild, ty25] <;> first | rfl | (simp only [places, tyall, Value.cells] <;> rfl) | (simp [tyall] <;> rfl))) rfl ?_
  refine GSuf.aop tyOK rfl (zs (hv := by simp (disch := first | assumption | omega | (simp only [nx] <;> omega) | fail) only [aStore, ty25, writeRow, n1, Value.cells] <;> rfl)) rfl ?_
  have n2 : ∀ o, (((h.new (.cells [] 1)).set h.next (.cells [] 1)).set p o).get q = some (.cells [e] 1) := fun o => by simp (disch := first | assumption | omega | (simp only [nx] <;> omega) | fail) only [hpl]; exact hq
  refine GSuf.aop tyOK rfl (zs (hv := by simp (disch := first | assumption | omega | (simp only [nx] <;> omega) | fail) only [aStore, ty33, writeRow, n2, Value.cells] <;> rfl)) rfl <| GSuf.nil ?_
  refine ⟨?_, AHeap.get_set_same _ _ _, by simp only [nx], fun z hz h1 h2 => by simp (disch := first | assumption | omega | (simp only [nx] <;> omega) | fail) only [hpl]⟩
  rw [AHeap.get_set_ne (by omega)]
  exact AHeap.get_set_same _ _ _
end Go.Proofs.YtebheelmgcggmaaGreat
namespace Go.Proofs.YtebheelmgcggmaaGreat
open Go.Ab Go.Sort
set_option linter.unusedSimpArgs false
set_option linter.unusedVariables false
set_option maxRecDepth 10000
set_option maxHeartbeats 4000000
noncomputable abbrev LZ : Value := .agg #[encS [], encS [], U64 0, .slice none 0 0, .slice none 0 0]
theorem parse_c (h : AHeap) (l : List UInt8) (hl : l.length ≤ 400000) : FWp Tryz.prog 28 [encS l] h fun u g =>
    ((readOK l = true ∧ ∃ bv, u = .tuple #[LV (leafS l) bv (.slice none 0 0), I64 0] ∧ SV g 4 h.next (fl (leafS l).base) bv) ∨ (readOK l = false ∧ u = .tuple #[LZ, I64 4])) ∧ h.next ≤ g.next ∧ ∀ z, z < h.next → g.get z = h.get z := by
  refine FWp.guard tyOK Tryz.func28 rfl en64 (Nat.le_of_ble_eq_true rfl) (by decide) fun b => ?_
  simp only [entry]
  refine GWp.reg <| GSuf.aop tyOK rfl (so_alloc (by simp only [aAlloc, ty25] <;> rfl)) rfl <| GSuf.aop tyOK rfl (so_alloc (by simp only [aAlloc, ty33] <;> rfl)) rfl <| GSuf.nil ⟨_, (by simp only [aopnds, lk] <;> rfl), fun D => ?_⟩
  refine GWp.reg <| GSuf.aop tyOK rfl sm rfl ?_
  have hr := read_p ((h.new (.cells (Value.cells LZ).toList 1)).new (.cells (Value.cells (I64 0)).toList 1)) l hl
  refine GSuf.op rfl ((OpWpP.fcall rfl (by simp only [aopnds, lk] <;> rfl) en65 (hr.monoJ ?_)).mono ?_)
  · rintro pv g ⟨h1, rfl, h2, h3⟩
    simp only [nx] at h2 h3
    refine DefWp.mono (rec_yes g h.next (h.next + 1) _ _ (by rw [h3 _ (by omega)]; simp (disch := first | assumption | omega | (simp only [nx] <;> omega) | fail) only [hpl] <;> rfl) rfl (by rw [h3 _ (by omega)]; simp (disch := first | assumption | omega | (simp only [nx] <;> omega) | fail) only [hpl] <;> rfl) (by omega) (by omega) (by omega)) ?_
    rintro g4 ⟨k1, k2, k3, k4⟩
    have k1' : g4.get h.next = some (.cells [encS [], encS [], U64 0, .slice none 0 0, .slice none 0 0] 1) := k1
    refine ⟨_, (by simp (disch := first | assumption | omega | (simp only [nx] <;> omega) | fail) only [aRet, Tryz.f28, aResults, aResult, lk, Nat.reduceEqDiff, reduceIte, aLoad, rowOf, hpl, k1', k2, ty25, ty33, Value.cells] <;> first | rfl | (simp only [places, tyall, Value.cells] <;> rfl) | (simp [tyall] <;> rfl)), .inr ⟨h1, rfl⟩, by omega, fun z hz => ?_⟩
    rw [k4 z (by omega) (by omega) (by omega), h3 z (by omega)]; simp (disch := first | assumption | omega | (simp only [nx] <;> omega) | fail) only [hpl]
  · rintro u g ⟨h1, ⟨bv, rfl, hs⟩, h2, h3⟩
    simp only [nx] at h2 h3 hs
    refine ⟨_, rfl, ?_⟩
    have k1 : g.get h.next = some (.cells [encS [], encS [], U64 0, .slice none 0 0, .slice none 0 0] 1) := by rw [h3 _ (by omega)]; simp (disch := first | assumption | omega | (simp only [nx] <;> omega) | fail) only [hpl] <;> rfl
    have k2 : g.get (h.next + 1) = some (.cells [I64 0] 1) := by rw [h3 _ (by omega)]; simp (disch := first | assumption | omega | (simp only [nx] <;> omega) | fail) only [hpl] <;> rfl
    obtain ⟨b, rfl⟩ := sv_form hs
    refine GSuf.aop tyOK rfl (zs (hv := by simp (disch := first | assumption | omega | (simp only [nx] <;> omega) | fail) only [aStore, ty25, writeRow, k1, Value.cells] <;> rfl)) rfl ?_
    have k2' : ∀ o, (g.set h.next o).get (h.next + 1) = some (.cells [I64 0] 1) := fun o => by simp (disch := first | assumption | omega | (simp only [nx] <;> omega) | fail) only [hpl]; exact k2
    refine GSuf.aop tyOK rfl (zs (hv := by simp (disch := first | assumption | omega | (simp only [nx] <;> omega) | fail) only [aStore, ty33, writeRow, nx, k2', Value.cells] <;> rfl)) rfl <| GSuf.nil ?_
    refine DefWp.mono (rec_no _ _ _) ?_
    rintro g4 rfl
    refine ⟨_, (by simp (disch := first | assumption | omega | (simp only [nx] <;> omega) | fail) only [aRet, Tryz.f28, aResults, aResult, lk, Nat.reduceEqDiff, reduceIte, aLoad, rowOf, hpl, ty25, ty33, Value.cells] <;> first | rfl | (simp only [places, tyall, Value.cells] <;> rfl) | (simp [tyall] <;> rfl)), .inl ⟨h1, _, rfl, ?_⟩, by simp only [nx]; omega, fun z hz => ?_⟩
    · exact (SV.low hs (by omega)).mono (by simp only [nx]; omega) (fun z hz he => by have := hs.row he; simp (disch := first | assumption | omega | (simp only [nx] <;> omega) | fail) only [hpl])
    · simp (disch := first | assumption | omega | (simp only [nx] <;> omega) | fail) only [hpl]; rw [h3 z (by omega)]; simp (disch := first | assumption | omega | (simp only [nx] <;> omega) | fail) only [hpl]
end Go.Proofs.YtebheelmgcggmaaGreat
namespace Go.Proofs.YtebheelmgcggmaaGreat
open Go.Ab
set_option linter.unusedSimpArgs false
set_option linter.unusedVariables false
set_option maxRecDepth 1000000
noncomputable def knA : List UInt8 := [0, 0, 0, 1, 1, 97, 1, 2, 0]
noncomputable def knB : List UInt8 := [0, 0, 0, 0]
noncomputable def parseS (f : FuncId) (args : List Value) (h : AHeap) : Option (Value × AHeap) :=
  bif Nat.beq f 28 then match args with
    | [v] => bif veq v (encS knA) then some (.tuple #[LZ, I64 4], h) else bif veq v (encS knB) then some (.tuple #[LZ, I64 0], h) else none
    | _ => none
  else none
theorem knA_no : readOK knA = false := by kernel_rfl
theorem knB_yes : readOK knB = true := by kernel_rfl
theorem knB_leaf : leafS knB = ⟨[], [], 0, [], []⟩ := by kernel_rfl
theorem bvZ (n : Nat) (k : Int) : BV n (.tuple #[LZ, I64 k]) := ⟨fun _ => none, .tuple #[LZ, I64 k], .tuple (.cons (.agg (LRel.of_flat1 _ _ rfl)) (.cons (.of_flat _ _ rfl) .nil))⟩
theorem parseS_ok {f : FuncId} {args : List Value} {h h' : AHeap} {v : Value} (hk : parseS f args h = some (v, h')) : (∃ fn, Entered Tryz.prog f fn) ∧ FWp Tryz.prog f args h fun x y => x = v ∧ y = h' := by
  unfold parseS at hk
  cases hf : Nat.beq f 28
  · rw [hf, cond_false] at hk; cases hk
  · rw [hf, cond_true] at hk
    obtain rfl := Nat.eq_of_beq_eq_true hf
    refine ⟨⟨_, en28⟩, ?_⟩
    split at hk
    · rename_i u
      cases h1 : veq u (encS knA)
      · rw [h1, cond_false] at hk
        cases h2 : veq u (encS knB)
        · rw [h2, cond_false] at hk; cases hk
        · rw [h2, cond_true] at hk
          cases hk
          have := veq_eq h2
          subst this
          refine FWp.gcs (bvZ _ _) ((parse_c h knB (by decide)).mono ?_)
          rintro x y ⟨h3 | h3, _, h4⟩
          · obtain ⟨_, bv, rfl, hs⟩ := h3
            rw [knB_leaf] at hs ⊢
            have e : bv = .slice none 0 0 := by
              cases hs with
              | nil => rfl
              | some _ _ _ _ h9 => exact (h9 rfl).elim
            subst e
            exact ⟨rfl, fun r o hr ho => by rw [h4 r hr]; exact ho⟩
          · rw [knB_yes] at h3; cases h3.1
      · rw [h1, cond_true] at hk
        cases hk
        have := veq_eq h1
        subst this
        refine FWp.gcs (bvZ _ _) ((parse_c h knA (by decide)).mono ?_)
        rintro x y ⟨h3 | h3, _, h4⟩
        · rw [knA_no] at h3; cases h3.1
        · exact ⟨h3.2, fun r o hr ho => by rw [h4 r hr]; exact ho⟩
    · cases hk
noncomputable def worksS (f : FuncId) (args : List Value) (h : AHeap) : Option (Value × AHeap) :=
  bif Nat.beq f 27 then match args with
    | [] => some (.bool true, h)
    | _ => none
  else none
theorem worksS_ok {f : FuncId} {args : List Value} {h h' : AHeap} {v : Value} (hk : worksS f args h = some (v, h')) : (∃ fn, Entered Tryz.prog f fn) ∧ FWp Tryz.prog f args h fun x y => x = v ∧ y = h' := by
  unfold worksS at hk
  cases hf : Nat.beq f 27
  · rw [hf, cond_false] at hk; cases hk
  · rw [hf, cond_true] at hk
    obtain rfl := Nat.eq_of_beq_eq_true hf
    refine ⟨⟨_, en27⟩, ?_⟩
    cases args with
    | nil => cases hk; exact works_c h
    | cons a l => cases hk
noncomputable def envQ : Env := { envP with S := fun f args h => match worksS f args h with | some r => some r | none => match parseS f args h with | some r => some r | none => envP.S f args h }
theorem envQ_ok : EnvOK envQ := ⟨envP_ok.ty, envP_ok.mix, envP_ok.fn, fun f args h v h' hk => by
  change (match worksS f args h with | some r => some r | none => match parseS f args h with | some r => some r | none => envP.S f args h) = some (v, h') at hk
  split at hk
  · rename_i r hr
    cases hk
    exact worksS_ok hr
  · split at hk
    · rename_i r hr
      cases hk
      exact parseS_ok hr
    · exact envP_ok.sum f args h v h' hk⟩
end Go.Proofs.YtebheelmgcggmaaGreat
