/-
  Merged: TableJ, TableI, TablePl.
-/
import Derived.Test.YtldhcjfhlfgleaaTableM
import Derived.Test.YtldhcjfhlfgleaaTableW
namespace Go.Proofs.Ytldhcjfhlfgleaa
open Go.Ab Go.Sort
set_option linter.unusedSimpArgs false
set_option linter.unusedVariables false
set_option maxRecDepth 10000
set_option maxHeartbeats 8000000

theorem keysD_eq {D : List RR} (hs : D.Pairwise fun a b => ltStr a.key b.key = true) {A : List Rec} (hp : (D.map RR.rc).Perm A) (lo hi : List UInt8) : (D.map RR.key).filter (inR lo hi) = keysR lo hi A := by
  refine SortS.sorted_one ?_ ?_ (SortS.sortL_sorted _)
  · refine List.Perm.trans ?_ (SortS.sortL_perm _).symm
    have := (hp.map Rec.key).filter (inR lo hi)
    rw [List.map_map] at this; exact this
  · have h1 : (D.map RR.key).Pairwise fun a b => ltStr a b = true := List.pairwise_map.2 hs
    exact (h1.filter _).imp fun h => leS_of_lt h
structure KR (h g : AHeap) (ks : List (List UInt8)) (v : Value) : Prop where
  next : h.next ≤ g.next
  sv : SV g 1 h.next (encL ks) v
  old : ∀ z, z < h.next → g.get z = h.get z
theorem keysr_all (h : AHeap) (s : Nat) (x : Option Nat) (fl : Int) (D : List RR) (hB : RF h s x fl D) (lo hi : List UInt8) (hlo : lo.length < 9223372036854775808) (hhi : hi.length < 9223372036854775808) (hD : ∀ d ∈ D, d.key.length < 9223372036854775808) (hl : D.length ≤ 100000) :
    FWp Try.prog 34 [P0 s, encS lo, encS hi] h fun u h' => KR h h' ((D.map RR.key).filter (inR lo hi)) u := by
  obtain ⟨b, hsv, hSV, hxx, hrow⟩ := hB.val
  have hlt := hB.lt
  refine W.enter tyOK Try.func34 rfl rfl ?_
  simp only [entry]
  refine W.seq <| W.reg <| OSuf.aop tyOK rfl (so_assign (by simp only [lk] <;> rfl)) rfl <| OSuf.nil <| SQ.normal ?_
  refine W.seq <| W.reg <| OSuf.aop tyOK rfl (so_assign (by simp only [lk] <;> rfl)) rfl <| OSuf.nil <| SQ.normal ?_
  refine W.seq <| W.seq <| W.reg <| OSuf.aop tyOK rfl (so_assign (by simp only [lk] <;> rfl)) rfl <| OSuf.nil <| SQ.normal ?_
  -- leaf: loop
  refine W.cut (fun L h' => ∃ v, KR h h' ((D.map RR.key).filter (inR lo hi)) v ∧ L = [(7, v)]) (W.block (W.loop (fun m L h' => ∃ (i : Nat) (v : Value), m + i = D.length ∧ KR h h' (((D.take i).map RR.key).filter (inR lo hi)) v ∧ L = [(0, P0 s), (1, encS lo), (2, encS hi), (7, v), (8, I64 i)]) (n := D.length) ⟨0, _, by omega, ⟨Nat.le_refl _, .nil, fun _ _ => rfl⟩, rfl⟩ ?_ ?_)) ?_
  · simp [HasA, Tr.get_put]
  · rintro m L g ⟨i, v, hi2, K, rfl⟩
    simp only [mkA]
    have w2 : IntKind.i64.wrap ((i : Int) + 1) = ((i + 1 : Nat) : Int) := by rw [wrap_i64 (by omega) (by omega)]; omega
    obtain ⟨k1, k2, k3⟩ := K
    have hsg : g.get s = some (.cells [.slice b D.length 0, U64 fl] 1) := by rw [k3 s hlt]; exact hsv
    by_cases hlt2 : (i : Int) < (D.length : Int)
    · obtain ⟨d, hd⟩ : ∃ d, D[i]? = some d := ⟨D[i]'(by omega), by simp⟩
      obtain ⟨y, rfl, y1, y2, y3, y4⟩ := hrow i (by omega)
      have y4' : g.get y = some (.cells (flatR D) 4) := by rw [k3 y y1]; exact y4
      have hb : (0 ≤ (i : Int) ∧ (i : Int) < (D.length : Int)) := by omega
      have c0 : (flatR D)[i * 4]? = some (encS d.key) := flatR_get 0 hd (by omega)
      have hdl := hD d (List.mem_of_getElem? hd)
      have hl1 := less_c g d.key lo hdl hlo
      have hl2 := less_c g d.key hi hdl hhi
      have htk : ((D.take (i + 1)).map RR.key).filter (inR lo hi) = ((D.take i).map RR.key).filter (inR lo hi) ++ (if inR lo hi d.key then [d.key] else []) := by
        rw [List.take_add_one, hd]
        simp only [Option.toList_some, List.map_append, List.filter_append, List.map_cons, List.map_nil, List.filter_cons, List.filter_nil]
      have hout : inR lo hi d.key = false → KR h g (((D.take (i + 1)).map RR.key).filter (inR lo hi)) v := fun hin => by
        rw [htk, hin]; simp only [Bool.false_eq_true, if_false, List.append_nil]; exact ⟨k1, k2, k3⟩
      have hvl : (encL (((D.take i).map RR.key).filter (inR lo hi))).length = vLen v * 1 := by obtain ⟨_, _, h9, _⟩ := k2.form; exact h9
      have hfl : (((D.take i).map RR.key).filter (inR lo hi)).length ≤ i := by
        have := List.length_filter_le (inR lo hi) ((D.take i).map RR.key)
        simp only [List.length_map, List.length_take] at this
        omega
      simp only [encL, List.length_map] at hvl
      have hsv2 : SV (g.new (.cells [encS d.key] 1)) 1 h.next (encL (((D.take i).map RR.key).filter (inR lo hi))) v := k2.mono (by simp) fun z hz _ => AHeap.get_new_ne (by omega)
      obtain ⟨v2, h1, ap1, ap2, ap3, ap4, ap5, ap6, ap7⟩ := ap_any (k := 1) (x := .slice (some ⟨g.next, 0, none⟩) 1 2) hsv2 rfl (B := [encS d.key]) (aCells_of (vs := [encS d.key]) (by simp only [rowOf, AHeap.get_new_same]) (Nat.le_refl _) rfl) rfl rfl (by omega) (by simp only [nx]; omega)
      simp only [nx] at ap3 ap4
      have hin2 : inR lo hi d.key = true → KR h h1 (((D.take (i + 1)).map RR.key).filter (inR lo hi)) v2 := fun hin => by
        rw [htk, hin]; simp only [if_true]
        refine ⟨by omega, by rw [encL_append]; exact ap2, fun z hz => ?_⟩
        rw [ap5 z (by simp only [nx]; omega) (fun hv => by have := (k2.row hv).1; omega), AHeap.get_new_ne (by omega)]
        exact k3 z hz
      cases hA1 : ltStr d.key lo with
      | true =>
        rw [hA1] at hl1
        refine W.seq <| W.seq <| W.reg <| OSuf.aop tyOK rfl sm rfl <| OSuf.aop tyOK rfl sm rfl <| OSuf.aop tyOK rfl (so_nilCheck (by simp only [lk] <;> rfl)) rfl <| OSuf.aop tyOK rfl (so_fieldAddr (by simp only [lk] <;> rfl) (fa_ok (k := 0) ty29 rfl rfl ty26 rfl rfl)) rfl <| OSuf.aop tyOK rfl (so_load (by simp only [lk] <;> rfl) (by simp (disch := first | assumption | omega | (simp only [nx] <;> omega) | fail) only [aLoad, ty26, rowOf, hpl, hsg, hb, sb, y4', c0] <;> rfl)) rfl <| OSuf.aop tyOK rfl (so_len (by simp only [aopnds, lk] <;> rfl) (by simp (disch := first | assumption | omega | (simp only [nx] <;> omega) | fail) only [aLenOf, ty26, hpl, hsg, hb, sb, y4', c0] <;> rfl)) rfl <| OSuf.aopT tyOK rfl (so_bin (by simp only [lk] <;> rfl) (by simp only [lk] <;> rfl) bi_lss) (fun _ => rfl) (by first | rfl | assumption | ((simp only [bl, hsg, hb, sb, y4', c0]) <;> first | done | assumption | omega) | (simp; done) | (simp; omega)) <| OSuf.nil <| SQ.normal ?_
        refine W.yes (by simp only [lk] <;> rfl) <| CWp.skip <| SQ.normal ?_
        refine W.seq <| W.block <| W.seq <| W.reg <| OSuf.aop tyOK rfl sm rfl <| OSuf.aop tyOK rfl (so_nilCheck (by simp only [lk] <;> rfl)) rfl <| OSuf.aop tyOK rfl (so_fieldAddr (by simp only [lk] <;> rfl) (fa_ok (k := 0) ty29 rfl rfl ty26 rfl rfl)) rfl <| OSuf.aop tyOK rfl (so_load (by simp only [lk] <;> rfl) (by simp (disch := first | assumption | omega | (simp only [nx] <;> omega) | fail) only [aLoad, ty26, rowOf, hpl, hsg, hb, sb, y4', c0] <;> rfl)) rfl <| OSuf.aop tyOK rfl sm rfl <| OSuf.aop tyOK rfl (so_indexAddr (by simp only [lk] <;> rfl) (by simp only [lk] <;> rfl) (by simp (disch := first | assumption | omega | (simp only [nx] <;> omega) | fail) only [aIndexAddr, ty26, ty41, hpl, hsg, hb, sb, y4', c0] <;> rfl)) rfl <| OSuf.aop tyOK rfl (so_fieldAddr (by simp only [lk] <;> rfl) (fa_ok (k := 0) ty41 rfl rfl ty9 rfl rfl)) rfl <| OSuf.aop tyOK rfl (so_load (by simp only [lk] <;> rfl) (by simp (disch := first | assumption | omega | (simp only [nx] <;> omega) | fail) only [aLoad, ty9, rowOf, hpl, hsg, hb, sb, y4', c0] <;> rfl)) rfl <| OSuf.aop tyOK rfl (so_assign (by simp only [lk] <;> rfl)) rfl <| OSuf.nil <| SQ.normal ?_
        refine W.seq <| W.reg <| OSuf.aop tyOK rfl sm rfl <| OSuf.aop tyOK rfl sm rfl <| OSuf.callD rfl (by simp only [aopnds, lk] <;> rfl) en37 (hl1) rfl <| OSuf.aopF tyOK rfl (so_not (by simp only [lk] <;> rfl)) (fun _ => rfl) rfl <| OSuf.aopF tyOK rfl sm (fun _ => rfl) rfl <| OSuf.pass ag rfl <| OSuf.pass ag rfl <| OSuf.pass ag rfl <| OSuf.pass (aguard_un rfl rfl (by simp only [lk] <;> rfl)) rfl <| OSuf.pass (aguard_un rfl rfl (by simp only [lk] <;> rfl)) rfl <| OSuf.pass (aguard_un rfl rfl (by simp only [lk] <;> rfl)) rfl <| OSuf.pass ag rfl <| OSuf.aopF tyOK rfl (so_pick (by simp only [lk] <;> rfl) (by simp only [lk, cond_true, cond_false] <;> rfl)) (fun _ => rfl) rfl <| OSuf.nil <| SQ.normal ?_
        refine W.no (by simp only [lk] <;> rfl) <| CWp.skip <| BQ.normal <| SQ.normal ?_
        refine W.reg <| OSuf.aop tyOK rfl sm rfl <| OSuf.aop tyOK rfl (so_bin (by simp only [lk] <;> rfl) (by simp only [lk] <;> rfl) (bi_w bi_add (by first | (simp only [w2] <;> rfl) | rfl))) rfl <| OSuf.aop tyOK rfl (so_assign (by simp only [lk] <;> rfl)) rfl <| OSuf.nil <| ?_
        -- leaf: round
        refine LQ.normal (m := m - 1) (L := [(0, P0 s), (1, encS lo), (2, encS hi), (7, v), (8, I64 ((i + 1 : Nat) : Int))]) (by omega) ?_ ⟨i + 1, v, by omega, hout (by simp [inR, hA1]), rfl⟩
        simp only [HasA, Tr.get_put, Nat.reduceEqDiff, reduceIte, w2, and_self]
      | false =>
        rw [hA1] at hl1
        by_cases hh : hi = []
        · have b2 : ((ByteArray.toList ⟨⟨hi⟩⟩) == (ByteArray.toList ⟨#[]⟩)) = true := by rw [str_nil]; simp [hh]
          refine W.seq <| W.seq <| W.reg <| OSuf.aop tyOK rfl sm rfl <| OSuf.aop tyOK rfl sm rfl <| OSuf.aop tyOK rfl (so_nilCheck (by simp only [lk] <;> rfl)) rfl <| OSuf.aop tyOK rfl (so_fieldAddr (by simp only [lk] <;> rfl) (fa_ok (k := 0) ty29 rfl rfl ty26 rfl rfl)) rfl <| OSuf.aop tyOK rfl (so_load (by simp only [lk] <;> rfl) (by simp (disch := first | assumption | omega | (simp only [nx] <;> omega) | fail) only [aLoad, ty26, rowOf, hpl, hsg, hb, sb, y4', c0, places, ty26, ty29, ty41, ty60, ty9] <;> rfl)) rfl <| OSuf.aop tyOK rfl (so_len (by simp only [aopnds, lk] <;> rfl) (by simp (disch := first | assumption | omega | (simp only [nx] <;> omega) | fail) only [aLenOf, ty26, hpl, hsg, hb, sb, y4', c0, places, ty26, ty29, ty41, ty60, ty9] <;> rfl)) rfl <| OSuf.aopT tyOK rfl (so_bin (by simp only [lk] <;> rfl) (by simp only [lk] <;> rfl) bi_lss) (fun _ => rfl) (by first | rfl | assumption | ((simp only [bl, hsg, hb, sb, y4', c0, places, ty26, ty29, ty41, ty60, ty9]) <;> first | done | assumption | omega) | (simp; done) | (simp; omega)) <| OSuf.nil <| SQ.normal ?_
          refine W.yes (by simp only [lk] <;> rfl) <| CWp.skip <| SQ.normal ?_
          refine W.seq <| W.block <| W.seq <| W.reg <| OSuf.aop tyOK rfl sm rfl <| OSuf.aop tyOK rfl (so_nilCheck (by simp only [lk] <;> rfl)) rfl <| OSuf.aop tyOK rfl (so_fieldAddr (by simp only [lk] <;> rfl) (fa_ok (k := 0) ty29 rfl rfl ty26 rfl rfl)) rfl <| OSuf.aop tyOK rfl (so_load (by simp only [lk] <;> rfl) (by simp (disch := first | assumption | omega | (simp only [nx] <;> omega) | fail) only [aLoad, ty26, rowOf, hpl, hsg, hb, sb, y4', c0, places, ty26, ty29, ty41, ty60, ty9] <;> rfl)) rfl <| OSuf.aop tyOK rfl sm rfl <| OSuf.aop tyOK rfl (so_indexAddr (by simp only [lk] <;> rfl) (by simp only [lk] <;> rfl) (by simp (disch := first | assumption | omega | (simp only [nx] <;> omega) | fail) only [aIndexAddr, ty26, ty41, hpl, hsg, hb, sb, y4', c0, places, ty26, ty29, ty41, ty60, ty9] <;> rfl)) rfl <| OSuf.aop tyOK rfl (so_fieldAddr (by simp only [lk] <;> rfl) (fa_ok (k := 0) ty41 rfl rfl ty9 rfl rfl)) rfl <| OSuf.aop tyOK rfl (so_load (by simp only [lk] <;> rfl) (by simp (disch := first | assumption | omega | (simp only [nx] <;> omega) | fail) only [aLoad, ty9, rowOf, hpl, hsg, hb, sb, y4', c0, places, ty26, ty29, ty41, ty60, ty9] <;> rfl)) rfl <| OSuf.aop tyOK rfl (so_assign (by simp only [lk] <;> rfl)) rfl <| OSuf.nil <| SQ.normal ?_
          refine W.seq <| W.reg <| OSuf.aop tyOK rfl sm rfl <| OSuf.aop tyOK rfl sm rfl <| OSuf.callD rfl (by simp only [aopnds, lk] <;> rfl) en37 (hl1) rfl <| OSuf.aopT tyOK rfl (so_not (by simp only [lk] <;> rfl)) (fun _ => rfl) rfl <| OSuf.aopT tyOK rfl sm (fun _ => rfl) rfl <| OSuf.aop tyOK ag sm rfl <| OSuf.aopT tyOK ag (so_bin (by simp only [lk] <;> rfl) (by simp only [lk] <;> rfl) bs_eql) (fun _ => rfl) (b2) <| OSuf.aopT tyOK ag sm (fun _ => rfl) rfl <| OSuf.pass ag rfl <| OSuf.pass ag rfl <| OSuf.pass ag rfl <| OSuf.aopT tyOK ag (so_pick (by simp only [lk] <;> rfl) (by simp only [lk, cond_true, cond_false] <;> rfl)) (fun _ => rfl) rfl <| OSuf.aopT tyOK rfl (so_pick (by simp only [lk] <;> rfl) (by simp only [lk, cond_true, cond_false] <;> rfl)) (fun _ => rfl) rfl <| OSuf.nil <| SQ.normal ?_
          refine W.yes (by simp only [lk] <;> rfl) <| W.reg <| OSuf.aop tyOK rfl sm rfl <| OSuf.aop tyOK rfl sm rfl <| OSuf.aop tyOK rfl (so_buildSlice (by simp only [aparts, lk] <;> rfl) (by simp (disch := first | assumption | omega | (simp only [nx] <;> omega) | fail) only [aBuildSlice, ty60, ty9, hpl, hsg, hb, sb, y4', c0, places, ty26, ty29, ty41, ty60, ty9] <;> rfl)) rfl <| OSuf.aop tyOK rfl (so_append (by simp only [aopnds, lk] <;> rfl) (ap1 _ _ (by simp only [appT, ty60, ty9] <;> rfl) rfl (by decide))) rfl <| OSuf.aop tyOK rfl (so_assign (by simp only [lk] <;> rfl)) rfl <| OSuf.nil <| BQ.normal <| SQ.normal ?_
          refine W.reg <| OSuf.aop tyOK rfl sm rfl <| OSuf.aop tyOK rfl (so_bin (by simp only [lk] <;> rfl) (by simp only [lk] <;> rfl) (bi_w bi_add (by first | (simp only [w2] <;> rfl) | rfl))) rfl <| OSuf.aop tyOK rfl (so_assign (by simp only [lk] <;> rfl)) rfl <| OSuf.nil <| ?_
          -- leaf: round
          refine LQ.normal (m := m - 1) (L := [(0, P0 s), (1, encS lo), (2, encS hi), (7, v2), (8, I64 ((i + 1 : Nat) : Int))]) (by omega) ?_ ⟨i + 1, v2, by omega, hin2 (by simp [inR, hA1, hh]), rfl⟩
          simp only [HasA, Tr.get_put, Nat.reduceEqDiff, reduceIte, w2, and_self]
        · have b2 : ((ByteArray.toList ⟨⟨hi⟩⟩) == (ByteArray.toList ⟨#[]⟩)) = false := by rw [str_nil]; simp [hh]
          cases hB1 : ltStr d.key hi with
          | true =>
            rw [hB1] at hl2
            refine W.seq <| W.seq <| W.reg <| OSuf.aop tyOK rfl sm rfl <| OSuf.aop tyOK rfl sm rfl <| OSuf.aop tyOK rfl (so_nilCheck (by simp only [lk] <;> rfl)) rfl <| OSuf.aop tyOK rfl (so_fieldAddr (by simp only [lk] <;> rfl) (fa_ok (k := 0) ty29 rfl rfl ty26 rfl rfl)) rfl <| OSuf.aop tyOK rfl (so_load (by simp only [lk] <;> rfl) (by simp (disch := first | assumption | omega | (simp only [nx] <;> omega) | fail) only [aLoad, ty26, rowOf, hpl, hsg, hb, sb, y4', c0, places, ty26, ty29, ty41, ty60, ty9] <;> rfl)) rfl <| OSuf.aop tyOK rfl (so_len (by simp only [aopnds, lk] <;> rfl) (by simp (disch := first | assumption | omega | (simp only [nx] <;> omega) | fail) only [aLenOf, ty26, hpl, hsg, hb, sb, y4', c0, places, ty26, ty29, ty41, ty60, ty9] <;> rfl)) rfl <| OSuf.aopT tyOK rfl (so_bin (by simp only [lk] <;> rfl) (by simp only [lk] <;> rfl) bi_lss) (fun _ => rfl) (by first | rfl | assumption | ((simp only [bl, hsg, hb, sb, y4', c0, places, ty26, ty29, ty41, ty60, ty9]) <;> first | done | assumption | omega) | (simp; done) | (simp; omega)) <| OSuf.nil <| SQ.normal ?_
            refine W.yes (by simp only [lk] <;> rfl) <| CWp.skip <| SQ.normal ?_
            refine W.seq <| W.block <| W.seq <| W.reg <| OSuf.aop tyOK rfl sm rfl <| OSuf.aop tyOK rfl (so_nilCheck (by simp only [lk] <;> rfl)) rfl <| OSuf.aop tyOK rfl (so_fieldAddr (by simp only [lk] <;> rfl) (fa_ok (k := 0) ty29 rfl rfl ty26 rfl rfl)) rfl <| OSuf.aop tyOK rfl (so_load (by simp only [lk] <;> rfl) (by simp (disch := first | assumption | omega | (simp only [nx] <;> omega) | fail) only [aLoad, ty26, rowOf, hpl, hsg, hb, sb, y4', c0, places, ty26, ty29, ty41, ty60, ty9] <;> rfl)) rfl <| OSuf.aop tyOK rfl sm rfl <| OSuf.aop tyOK rfl (so_indexAddr (by simp only [lk] <;> rfl) (by simp only [lk] <;> rfl) (by simp (disch := first | assumption | omega | (simp only [nx] <;> omega) | fail) only [aIndexAddr, ty26, ty41, hpl, hsg, hb, sb, y4', c0, places, ty26, ty29, ty41, ty60, ty9] <;> rfl)) rfl <| OSuf.aop tyOK rfl (so_fieldAddr (by simp only [lk] <;> rfl) (fa_ok (k := 0) ty41 rfl rfl ty9 rfl rfl)) rfl <| OSuf.aop tyOK rfl (so_load (by simp only [lk] <;> rfl) (by simp (disch := first | assumption | omega | (simp only [nx] <;> omega) | fail) only [aLoad, ty9, rowOf, hpl, hsg, hb, sb, y4', c0, places, ty26, ty29, ty41, ty60, ty9] <;> rfl)) rfl <| OSuf.aop tyOK rfl (so_assign (by simp only [lk] <;> rfl)) rfl <| OSuf.nil <| SQ.normal ?_
            refine W.seq <| W.reg <| OSuf.aop tyOK rfl sm rfl <| OSuf.aop tyOK rfl sm rfl <| OSuf.callD rfl (by simp only [aopnds, lk] <;> rfl) en37 (hl1) rfl <| OSuf.aopT tyOK rfl (so_not (by simp only [lk] <;> rfl)) (fun _ => rfl) rfl <| OSuf.aopT tyOK rfl sm (fun _ => rfl) rfl <| OSuf.aop tyOK ag sm rfl <| OSuf.aopF tyOK ag (so_bin (by simp only [lk] <;> rfl) (by simp only [lk] <;> rfl) bs_eql) (fun _ => rfl) (b2) <| OSuf.aopF tyOK ag sm (fun _ => rfl) rfl <| OSuf.aop tyOK ag sm rfl <| OSuf.aop tyOK ag sm rfl <| OSuf.callD ag (by simp only [aopnds, lk] <;> rfl) en37 (hl2) rfl <| OSuf.aopT tyOK ag (so_pick (by simp only [lk] <;> rfl) (by simp only [lk, cond_true, cond_false] <;> rfl)) (fun _ => rfl) rfl <| OSuf.aopT tyOK rfl (so_pick (by simp only [lk] <;> rfl) (by simp only [lk, cond_true, cond_false] <;> rfl)) (fun _ => rfl) rfl <| OSuf.nil <| SQ.normal ?_
            refine W.yes (by simp only [lk] <;> rfl) <| W.reg <| OSuf.aop tyOK rfl sm rfl <| OSuf.aop tyOK rfl sm rfl <| OSuf.aop tyOK rfl (so_buildSlice (by simp only [aparts, lk] <;> rfl) (by simp (disch := first | assumption | omega | (simp only [nx] <;> omega) | fail) only [aBuildSlice, ty60, ty9, hpl, hsg, hb, sb, y4', c0, places, ty26, ty29, ty41, ty60, ty9] <;> rfl)) rfl <| OSuf.aop tyOK rfl (so_append (by simp only [aopnds, lk] <;> rfl) (ap1 _ _ (by simp only [appT, ty60, ty9] <;> rfl) rfl (by decide))) rfl <| OSuf.aop tyOK rfl (so_assign (by simp only [lk] <;> rfl)) rfl <| OSuf.nil <| BQ.normal <| SQ.normal ?_
            refine W.reg <| OSuf.aop tyOK rfl sm rfl <| OSuf.aop tyOK rfl (so_bin (by simp only [lk] <;> rfl) (by simp only [lk] <;> rfl) (bi_w bi_add (by first | (simp only [w2] <;> rfl) | rfl))) rfl <| OSuf.aop tyOK rfl (so_assign (by simp only [lk] <;> rfl)) rfl <| OSuf.nil <| ?_
            -- leaf: round
            refine LQ.normal (m := m - 1) (L := [(0, P0 s), (1, encS lo), (2, encS hi), (7, v2), (8, I64 ((i + 1 : Nat) : Int))]) (by omega) ?_ ⟨i + 1, v2, by omega, hin2 (by simp [inR, hA1, hB1]), rfl⟩
            simp only [HasA, Tr.get_put, Nat.reduceEqDiff, reduceIte, w2, and_self]
          | false =>
            rw [hB1] at hl2
            refine W.seq <| W.seq <| W.reg <| OSuf.aop tyOK rfl sm rfl <| OSuf.aop tyOK rfl sm rfl <| OSuf.aop tyOK rfl (so_nilCheck (by simp only [lk] <;> rfl)) rfl <| OSuf.aop tyOK rfl (so_fieldAddr (by simp only [lk] <;> rfl) (fa_ok (k := 0) ty29 rfl rfl ty26 rfl rfl)) rfl <| OSuf.aop tyOK rfl (so_load (by simp only [lk] <;> rfl) (by simp (disch := first | assumption | omega | (simp only [nx] <;> omega) | fail) only [aLoad, ty26, rowOf, hpl, hsg, hb, sb, y4', c0, places, ty26, ty29, ty41, ty60, ty9] <;> rfl)) rfl <| OSuf.aop tyOK rfl (so_len (by simp only [aopnds, lk] <;> rfl) (by simp (disch := first | assumption | omega | (simp only [nx] <;> omega) | fail) only [aLenOf, ty26, hpl, hsg, hb, sb, y4', c0, places, ty26, ty29, ty41, ty60, ty9] <;> rfl)) rfl <| OSuf.aopT tyOK rfl (so_bin (by simp only [lk] <;> rfl) (by simp only [lk] <;> rfl) bi_lss) (fun _ => rfl) (by first | rfl | assumption | ((simp only [bl, hsg, hb, sb, y4', c0, places, ty26, ty29, ty41, ty60, ty9]) <;> first | done | assumption | omega) | (simp; done) | (simp; omega)) <| OSuf.nil <| SQ.normal ?_
            refine W.yes (by simp only [lk] <;> rfl) <| CWp.skip <| SQ.normal ?_
            refine W.seq <| W.block <| W.seq <| W.reg <| OSuf.aop tyOK rfl sm rfl <| OSuf.aop tyOK rfl (so_nilCheck (by simp only [lk] <;> rfl)) rfl <| OSuf.aop tyOK rfl (so_fieldAddr (by simp only [lk] <;> rfl) (fa_ok (k := 0) ty29 rfl rfl ty26 rfl rfl)) rfl <| OSuf.aop tyOK rfl (so_load (by simp only [lk] <;> rfl) (by simp (disch := first | assumption | omega | (simp only [nx] <;> omega) | fail) only [aLoad, ty26, rowOf, hpl, hsg, hb, sb, y4', c0, places, ty26, ty29, ty41, ty60, ty9] <;> rfl)) rfl <| OSuf.aop tyOK rfl sm rfl <| OSuf.aop tyOK rfl (so_indexAddr (by simp only [lk] <;> rfl) (by simp only [lk] <;> rfl) (by simp (disch := first | assumption | omega | (simp only [nx] <;> omega) | fail) only [aIndexAddr, ty26, ty41, hpl, hsg, hb, sb, y4', c0, places, ty26, ty29, ty41, ty60, ty9] <;> rfl)) rfl <| OSuf.aop tyOK rfl (so_fieldAddr (by simp only [lk] <;> rfl) (fa_ok (k := 0) ty41 rfl rfl ty9 rfl rfl)) rfl <| OSuf.aop tyOK rfl (so_load (by simp only [lk] <;> rfl) (by simp (disch := first | assumption | omega | (simp only [nx] <;> omega) | fail) only [aLoad, ty9, rowOf, hpl, hsg, hb, sb, y4', c0, places, ty26, ty29, ty41, ty60, ty9] <;> rfl)) rfl <| OSuf.aop tyOK rfl (so_assign (by simp only [lk] <;> rfl)) rfl <| OSuf.nil <| SQ.normal ?_
            refine W.seq <| W.reg <| OSuf.aop tyOK rfl sm rfl <| OSuf.aop tyOK rfl sm rfl <| OSuf.callD rfl (by simp only [aopnds, lk] <;> rfl) en37 (hl1) rfl <| OSuf.aopT tyOK rfl (so_not (by simp only [lk] <;> rfl)) (fun _ => rfl) rfl <| OSuf.aopT tyOK rfl sm (fun _ => rfl) rfl <| OSuf.aop tyOK ag sm rfl <| OSuf.aopF tyOK ag (so_bin (by simp only [lk] <;> rfl) (by simp only [lk] <;> rfl) bs_eql) (fun _ => rfl) (b2) <| OSuf.aopF tyOK ag sm (fun _ => rfl) rfl <| OSuf.aop tyOK ag sm rfl <| OSuf.aop tyOK ag sm rfl <| OSuf.callD ag (by simp only [aopnds, lk] <;> rfl) en37 (hl2) rfl <| OSuf.aopF tyOK ag (so_pick (by simp only [lk] <;> rfl) (by simp only [lk, cond_true, cond_false] <;> rfl)) (fun _ => rfl) rfl <| OSuf.aopF tyOK rfl (so_pick (by simp only [lk] <;> rfl) (by simp only [lk, cond_true, cond_false] <;> rfl)) (fun _ => rfl) rfl <| OSuf.nil <| SQ.normal ?_
            refine W.no (by simp only [lk] <;> rfl) <| CWp.skip <| BQ.normal <| SQ.normal ?_
            refine W.reg <| OSuf.aop tyOK rfl sm rfl <| OSuf.aop tyOK rfl (so_bin (by simp only [lk] <;> rfl) (by simp only [lk] <;> rfl) (bi_w bi_add (by first | (simp only [w2] <;> rfl) | rfl))) rfl <| OSuf.aop tyOK rfl (so_assign (by simp only [lk] <;> rfl)) rfl <| OSuf.nil <| ?_
            -- leaf: round
            refine LQ.normal (m := m - 1) (L := [(0, P0 s), (1, encS lo), (2, encS hi), (7, v), (8, I64 ((i + 1 : Nat) : Int))]) (by omega) ?_ ⟨i + 1, v, by omega, hout (by simp [inR, hA1, hB1, hh]), rfl⟩
            simp only [HasA, Tr.get_put, Nat.reduceEqDiff, reduceIte, w2, and_self]
    · refine W.seq <| W.seq <| W.reg <| OSuf.aop tyOK rfl sm rfl <| OSuf.aop tyOK rfl sm rfl <| OSuf.aop tyOK rfl (so_nilCheck (by simp only [lk] <;> rfl)) rfl <| OSuf.aop tyOK rfl (so_fieldAddr (by simp only [lk] <;> rfl) (fa_ok (k := 0) ty29 rfl rfl ty26 rfl rfl)) rfl <| OSuf.aop tyOK rfl (so_load (by simp only [lk] <;> rfl) (by simp (disch := first | assumption | omega | (simp only [nx] <;> omega) | fail) only [aLoad, ty26, rowOf, hpl, hsg] <;> rfl)) rfl <| OSuf.aop tyOK rfl (so_len (by simp only [aopnds, lk] <;> rfl) (by simp (disch := first | assumption | omega | (simp only [nx] <;> omega) | fail) only [aLenOf, ty26, hpl, hsg] <;> rfl)) rfl <| OSuf.aopF tyOK rfl (so_bin (by simp only [lk] <;> rfl) (by simp only [lk] <;> rfl) bi_lss) (fun _ => rfl) (by first | rfl | assumption | ((simp only [bl, hsg]) <;> first | done | assumption | omega) | (simp; done) | (simp; omega)) <| OSuf.nil <| SQ.normal ?_
      refine W.no (by simp only [lk] <;> rfl) <| CWp.exit <| SQ.exit <| LQ.exit <| BQ.exit <| ?_
      -- leaf: cut
      refine NQ.normal (L := [(7, v)]) ?_ ⟨v, ?_, rfl⟩
      · simp only [HasA, Tr.get_put, Nat.reduceEqDiff, reduceIte, and_self]
      · have e : D.take i = D := List.take_of_length_le (by omega)
        rw [e] at k2; exact ⟨k1, k2, k3⟩
  rintro L a' g ha ⟨v, K, rfl⟩
  refine SQ.normal <| CWp.known ha ?_
  simp only [mkA]
  refine W.seq <| W.reg <| OSuf.aop tyOK rfl sm rfl <| OSuf.aop tyOK rfl (so_assign (by simp only [lk] <;> rfl)) rfl <| OSuf.nil <| SQ.normal ?_
  refine CWp.ret <| FQ.ret (by simp only [aRet, Try.f34, aResults, aResult, lk, Nat.reduceEqDiff, reduceIte] <;> rfl) ?_
  -- leaf: end
  exact K
theorem keysr_x (h : AHeap) (s : Nat) (x : Option Nat) (fl : Int) (D : List RR) (A : List Rec) (hB : RF h s x fl D) (hp : (D.map RR.rc).Perm A) (lo hi : List UInt8) (hlo : lo.length < 9223372036854775808) (hhi : hi.length < 9223372036854775808) (hD : ∀ d ∈ D, d.key.length < 9223372036854775808) (hl : D.length ≤ 100000) :
    ∃ b H, FWp Try.prog 34 [P0 s, encS lo, encS hi] h (fun u h' => u = .slice b (keysR lo hi A).length 0 ∧ h' = H) ∧ StrB H (keysR lo hi A) b ∧ h.next ≤ H.next ∧ (∀ z, z < h.next → H.get z = h.get z) := by
  have hall := keysr_all h s x fl D hB lo hi hlo hhi hD hl
  rw [keysD_eq hB.sorted hp lo hi] at hall
  by_cases hn : keysR lo hi A = []
  · rw [hn] at hall ⊢
    refine ⟨none, h, FWp.gcs (.flat rfl) (hall.mono ?_), ⟨fun i hi => by simp at hi⟩, Nat.le_refl _, fun _ _ => rfl⟩
    rintro u h' ⟨k1, k2, k3⟩
    exact ⟨k2.empty rfl, fun z o hz ho => by rw [k3 z hz]; exact ho⟩
  · refine ⟨some ⟨h.next, 0, none⟩, h.new (.cells (encL (keysR lo hi A)) 1), FWp.gcNew (fun v hv => ?_) (hall.mono ?_), ⟨fun i hi => ⟨_, rfl, by simp, AHeap.get_new_same _ _⟩⟩, by simp, fun z hz => AHeap.get_new_ne (by omega)⟩
    · obtain ⟨y, _, rfl⟩ := List.mem_map.1 hv
      exact .flat rfl
    · rintro u h' ⟨k1, k2, k3⟩
      obtain ⟨b, e1, e2, e3⟩ := k2.form
      obtain ⟨y, rfl, _, f2, f3, f4⟩ := e3 (fun e => hn (List.map_eq_nil_iff.1 e))
      have e4 : vLen u = (keysR lo hi A).length := by simp [encL] at e2; exact e2.symm
      exact ⟨y, by rw [e1, e4], f2, f4, fun z o hz ho => by rw [k3 z hz]; exact ho⟩

/-! Both, side by side. -/
structure PS (h0 h : AHeap) (r s : Nat) (x : Option Nat) (fl : Int) (M : TM) (A : List Rec) (D : List RR) : Prop where
  tb : TB h r fl M A
  rf : RF h s x fl D
  perm : (D.map RR.rc).Perm A
  sr : ¬ s = r ∧ s ∉ M.rows
  xr : ∀ y, x = some y → ¬ y = r ∧ y ∉ M.rows
  nt : h0.next ≤ r ∧ ∀ z ∈ M.rows, h0.next ≤ z
  nr : h0.next ≤ s ∧ ∀ y, x = some y → h0.next ≤ y
  old : ∀ z, z < h0.next → h.get z = h0.get z
  next : h0.next ≤ h.next
theorem PS.garb {h0 h h' : AHeap} {r s : Nat} {x : Option Nat} {fl : Int} {M : TM} {A : List Rec} {D : List RR} (S : PS h0 h r s x fl M A D) (hn : h.next ≤ h'.next) (hk : ∀ z, z < h.next → h'.get z = h.get z) : PS h0 h' r s x fl M A D :=
  ⟨S.tb.mono hn hk, S.rf.mono hn hk, S.perm, S.sr, S.xr, S.nt, S.nr, fun z hz => by rw [hk z (Nat.lt_of_lt_of_le hz S.next)]; exact S.old z hz, Nat.le_trans S.next hn⟩
/-- Both do the same. -/
theorem PS.op {h0 h h1 h2 : AHeap} {r s : Nat} {x x' : Option Nat} {fl fl1 fl' : Int} {M M' : TM} {A A' : List Rec} {D D' : List RR} (S : PS h0 h r s x fl M A D) (t : TB h1 r fl' M' A') (f : FrT h h1 r M M') (hr : RF h1 s x fl1 D → RF h2 s x' fl' D') (hf : FrR h1 h2 s x x') (hp : (D'.map RR.rc).Perm A')
    (he : RF h1 s x fl D → RF h1 s x fl1 D) : PS h0 h2 r s x' fl' M' A' D' := by
  have hs := S.rf.lt
  obtain ⟨_, ⟨v, hv1, hv2, hv3⟩, hsx, _, _⟩ := S.rf
  have rl : ∀ z ∈ M.rows, z < h.next := fun z hz => (row_of S.tb.ta hz).1
  have rf1 : RF h1 s x fl D := S.rf.keep f.next (f.old s hs S.sr.1 S.sr.2) (fun y hy => f.old y (hsx y hy).2 (S.xr y hy).1 (S.xr y hy).2) fun y w hy hg => f.old y hy (fun e => by (rw [e, S.tb.ta.row] at hg; simp at hg)) fun h9 => by
    obtain ⟨_, w', hw'⟩ := row_of S.tb.ta h9
    rw [hw'] at hg; simp at hg
  have rf2 := hr (he rf1)
  have rl1 : ∀ z ∈ M'.rows, z < h1.next := fun z hz => (row_of t.ta hz).1
  have sr' : ¬ s = r ∧ s ∉ M'.rows := ⟨S.sr.1, fun h9 => by
    rcases f.rows s h9 with h8 | h8
    · exact S.sr.2 h8
    · omega⟩
  have xr1 : ∀ y, x = some y → ¬ y = r ∧ y ∉ M'.rows := fun y hy => ⟨(S.xr y hy).1, fun h9 => by
    rcases f.rows y h9 with h8 | h8
    · exact (S.xr y hy).2 h8
    · have := (hsx y hy).2; omega⟩
  have hlt1 := t.ta.lt
  obtain ⟨_, ⟨w1, hw1, hw2, hw3⟩, hwx, _, _⟩ := rf1
  have tb2 : TB h2 r fl' M' A' := by
    refine ⟨t.ta.keep hf.next (hf.old r hlt1 (fun e => S.sr.1 e.symm) (fun e => (S.xr r e).1 rfl)) (fun z hz => hf.old z (rl1 z hz) (fun e => sr'.2 (by rw [← e]; exact hz)) (fun e => (xr1 z e).2 hz)) (fun y w hy hg => hf.old y hy (fun e => by (rw [e, hw1] at hg; simp at hg)) fun e => ?_), t.perm⟩
    obtain ⟨_, _, hg4, _, _⟩ := hw2.row (hw3.trans e)
    rw [hg4] at hg; simp at hg
  have hnx := S.next
  have fn := f.next
  refine ⟨tb2, rf2, hp, sr', fun y hy => ?_, ⟨S.nt.1, fun z hz => ?_⟩, ⟨S.nr.1, fun y hy => ?_⟩, fun z hz => ?_, by have := hf.next; omega⟩
  · rcases hf.new with h9 | h9
    · exact xr1 y (by rw [← h9]; exact hy)
    · have := h9 y hy
      exact ⟨by omega, fun h8 => by have := rl1 y h8; omega⟩
  · rcases f.rows z hz with h8 | h8
    · exact S.nt.2 z h8
    · omega
  · rcases hf.new with h9 | h9
    · exact S.nr.2 y (by rw [← h9]; exact hy)
    · have := h9 y hy; omega
  · rw [hf.old z (by omega) (by have := S.nr.1; omega) (fun e => by have := S.nr.2 z e; omega), f.old z (by omega) (by have := S.nt.1; omega) (fun h9 => by have := S.nt.2 z h9; omega)]
    exact S.old z hz

theorem getR_perm {A B : List Rec} (hp : A.Perm B) (hn : (A.map Rec.key).Nodup) (k : List UInt8) : getR k A = getR k B := by
  have hn2 : (B.map Rec.key).Nodup := (hp.map Rec.key).nodup_iff.1 hn
  cases h1 : getR k A with
  | some x => exact (find_nodup hn2 (hp.mem_iff.1 (getR_key h1).1) (getR_key h1).2).symm
  | none =>
    cases h2 : getR k B with
    | none => rfl
    | some y =>
      have := find_nodup hn (hp.mem_iff.2 (getR_key h2).1) (getR_key h2).2
      rw [h1] at this; cases this
theorem sametab_c (h : AHeap) (r s : Nat) (x : Option Nat) (fl : Int) (M : TM) (A : List Rec) (D : List RR) (hB : TB h r fl M A) (hR : RF h s x fl D) (hp : (D.map RR.rc).Perm A) (k hi : List UInt8) (hk : k.length < 9223372036854775808) (hhi : hi.length < 9223372036854775808)
    (hv : ∀ y ∈ A, y.V.length ≤ 1000000) (hD : ∀ d ∈ D, d.key.length < 9223372036854775808) (hl : D.length ≤ 100000) :
    FWp Try.prog 16 [P0 r, P0 s, encS k, encS hi] h fun u h' => u = .bool true ∧ h' = h := by
  have hAl : A.length = D.length := by rw [← hp.length_eq, List.length_map]
  have hMl : M.all.length = D.length := by
    have := hB.perm.length_eq
    simp only [List.length_map] at this; omega
  have hslt := hR.lt
  obtain ⟨y, yb, yc, H1, p1, p2, p3, p4, p5⟩ := row_x h r fl M A hB k hk hv
  obtain ⟨g1, hg1⟩ : ∃ g1, g1 = (H1.new (.cells [encS [], U64 0, .bool false, .slice none 0 0] 1)).set H1.next (.cells [encS y.key, U64 y.rts, .bool y.here, .slice yb y.V.length yc] 1) := ⟨_, rfl⟩
  have n1 : g1.next = H1.next + 1 := by rw [hg1]; rfl
  have o1 : ∀ z, z < H1.next → g1.get z = H1.get z := fun z hz => by rw [hg1]; simp (disch := first | assumption | omega | (simp only [nx] <;> omega) | fail) only [hpl]
  have z1 : g1.get H1.next = some (.cells [encS y.key, U64 y.rts, .bool y.here, .slice yb y.V.length yc] 1) := by rw [hg1]; simp (disch := first | assumption | omega | (simp only [nx] <;> omega) | fail) only [hpl]
  have oh1 : ∀ z, z < h.next → g1.get z = h.get z := fun z hz => by rw [o1 z (by omega), p4 z hz]
  have hR1 := hR.mono (h' := g1) (by omega) oh1
  obtain ⟨w, wb, wc, q1, q2, q3⟩ := row_r g1 s x fl D hR1 k hk hD (by omega)
  rw [getR_perm hp (sorted_nodup hR.sorted) k] at q1 q3
  have hwy : w = y := by rw [q3, p5]
  subst hwy
  obtain ⟨g2, hg2⟩ : ∃ g2, g2 = (g1.new (.cells [encS [], U64 0, .bool false, .slice none 0 0] 1)).set g1.next (.cells [encS w.key, U64 w.rts, .bool w.here, .slice wb w.V.length wc] 1) := ⟨_, rfl⟩
  have n2 : g2.next = g1.next + 1 := by rw [hg2]; rfl
  have o2 : ∀ z, z < g1.next → g2.get z = g1.get z := fun z hz => by rw [hg2]; simp (disch := first | assumption | omega | (simp only [nx] <;> omega) | fail) only [hpl]
  have z2 : g2.get (H1.next + 1) = some (.cells [encS w.key, U64 w.rts, .bool w.here, .slice wb w.V.length wc] 1) := by rw [← n1, hg2]; simp (disch := first | assumption | omega | (simp only [nx] <;> omega) | fail) only [hpl]
  have z12 : g2.get H1.next = some (.cells [encS w.key, U64 w.rts, .bool w.here, .slice yb w.V.length yc] 1) := by rw [o2 _ (by omega)]; exact z1
  have oh2 : ∀ z, z < h.next → g2.get z = h.get z := fun z hz => by rw [o2 z (by omega), oh1 z hz]
  have hB2 := hB.mono (h' := g2) (by omega) oh2
  have hR2 := hR.mono (h' := g2) (by omega) oh2
  have av1 : AVs g2 w.V (.slice yb w.V.length yc) := avo_avs (avo_mono p2 (by omega) fun a b ha _ => by rw [o2 a (by omega), o1 a ha])
  have av2 : AVs g2 w.V (.slice wb w.V.length wc) := avo_avs (avo_mono q2 (by omega) fun a b ha _ => o2 a ha)
  have hwV : w.V.length ≤ 1000000 := by
    rw [p5]
    cases hgr : getR k A with
    | none => simp
    | some z => exact hv z (getR_key hgr).1
  have hsame := same_c g2 w.V _ _ av1 av2 hwV
  have hfl := floor_c g2 r fl M hB2.ta
  have hle := len_c g2 r fl M hB2.ta
  rw [hMl] at hle
  obtain ⟨b1, H3, k1, k2, k3, k4, _⟩ := keys_x g2 r fl M A hB2 k hi (by omega)
  have hR3 := hR2.mono (h' := H3) k3 k4
  obtain ⟨b2, H4, j1, j2, j3, j4⟩ := keysr_x H3 s x fl D A hR3 hp k hi hk hhi hD hl
  have hkl := keysR_len k hi A
  have htx := texts_c H4 _ _ b1 b2 0 0 (k2.mono j3 j4) j2 (by omega) (by omega)
  rw [decide_eq_true (rfl : keysR k hi A = keysR k hi A)] at htx
  obtain ⟨b, hsv, _, _, _⟩ := hR2.val
  have hsv1 : H1.get s = some (.cells [.slice b D.length 0, U64 fl] 1) := by rw [← o1 s (by omega), ← o2 s (by omega)]; exact hsv
  have hsv3 : H3.get s = some (.cells [.slice b D.length 0, U64 fl] 1) := by rw [k4 s (by omega)]; exact hsv
  have hsv4 : H4.get s = some (.cells [.slice b D.length 0, U64 fl] 1) := by rw [j4 s (by omega)]; exact hsv3
  have z13 : H3.get H1.next = some (.cells [encS w.key, U64 w.rts, .bool w.here, .slice yb w.V.length yc] 1) := by rw [k4 _ (by omega)]; exact z12
  have z14 : H4.get H1.next = some (.cells [encS w.key, U64 w.rts, .bool w.here, .slice yb w.V.length yc] 1) := by rw [j4 _ (by omega)]; exact z13
  have z23 : H3.get (H1.next + 1) = some (.cells [encS w.key, U64 w.rts, .bool w.here, .slice wb w.V.length wc] 1) := by rw [k4 _ (by omega)]; exact z2
  have z24 : H4.get (H1.next + 1) = some (.cells [encS w.key, U64 w.rts, .bool w.here, .slice wb w.V.length wc] 1) := by rw [j4 _ (by omega)]; exact z23
  have b33 : ((ByteArray.toList ⟨⟨w.key⟩⟩) == (ByteArray.toList ⟨⟨w.key⟩⟩)) = true := by rw [str_eq]; simp
  obtain ⟨bb, hbb⟩ : ∃ bb, bb = (getR k A).isSome := ⟨_, rfl⟩
  rw [← hbb] at p1 q1
  have hfin : ∀ z, z < h.next → H4.get z = h.get z := fun z hz => by rw [j4 z (by omega), k4 z (by omega), oh2 z hz]
  subst hg2 hg1
  refine FWp.gcs (.flat rfl) (W.enter tyOK Try.func16 rfl rfl ?_)
  simp only [entry]
  refine W.seq <| W.reg <| OSuf.aopF tyOK rfl (so_assign (by simp only [lk] <;> rfl)) (fun _ => rfl) rfl <| OSuf.nil <| SQ.normal ?_
  refine W.seq <| W.reg <| OSuf.aop tyOK rfl sm rfl <| OSuf.aop tyOK rfl sm rfl <| OSuf.callD rfl (by simp only [aopnds, lk] <;> rfl) en20 (p1) rfl <| OSuf.aop tyOK rfl sm rfl <| OSuf.aop tyOK rfl (so_extract (by simp only [lk] <;> rfl) (by simp (disch := first | assumption | omega | (simp only [nx] <;> omega) | fail) only [aExtract, hpl, Value.cells, places, ty26, ty27, ty29, ty31, ty39, ty4, ty41, ty9, z2, z12, z13, z14, z23, z24, hsv1, hsv, hsv3, hsv4] <;> rfl)) rfl <| OSuf.aop tyOK rfl (so_extract (by simp only [lk] <;> rfl) (by simp (disch := first | assumption | omega | (simp only [nx] <;> omega) | fail) only [aExtract, hpl, Value.cells, places, ty26, ty27, ty29, ty31, ty39, ty4, ty41, ty9, z2, z12, z13, z14, z23, z24, hsv1, hsv, hsv3, hsv4] <;> rfl)) rfl <| OSuf.aop tyOK rfl (so_alloc (by simp only [aAlloc, ty39] <;> rfl)) rfl <| OSuf.aop tyOK rfl (so_store (by simp only [lk] <;> rfl) (by simp only [lk] <;> rfl) (by simp (disch := first | assumption | omega | (simp only [nx] <;> omega) | fail) only [aStore, ty39, writeRow, hpl, Value.cells, places, ty26, ty27, ty29, ty31, ty39, ty4, ty41, ty9, z2, z12, z13, z14, z23, z24, hsv1, hsv, hsv3, hsv4] <;> rfl)) rfl <| OSuf.aop tyOK rfl (so_assign (by simp only [lk] <;> rfl)) rfl <| OSuf.nil <| SQ.normal ?_
  refine W.seq <| W.reg <| OSuf.aop tyOK rfl sm rfl <| OSuf.aop tyOK rfl sm rfl <| OSuf.callD rfl (by simp only [aopnds, lk] <;> rfl) en32 (q1) rfl <| OSuf.aop tyOK rfl sm rfl <| OSuf.aop tyOK rfl (so_extract (by simp only [lk] <;> rfl) (by simp (disch := first | assumption | omega | (simp only [nx] <;> omega) | fail) only [aExtract, hpl, Value.cells, places, ty26, ty27, ty29, ty31, ty39, ty4, ty41, ty9, z2, z12, z13, z14, z23, z24, hsv1, hsv, hsv3, hsv4] <;> rfl)) rfl <| OSuf.aop tyOK rfl (so_extract (by simp only [lk] <;> rfl) (by simp (disch := first | assumption | omega | (simp only [nx] <;> omega) | fail) only [aExtract, hpl, Value.cells, places, ty26, ty27, ty29, ty31, ty39, ty4, ty41, ty9, z2, z12, z13, z14, z23, z24, hsv1, hsv, hsv3, hsv4] <;> rfl)) rfl <| OSuf.aop tyOK rfl (so_alloc (by simp only [aAlloc, ty41] <;> rfl)) rfl <| OSuf.aop tyOK rfl (so_store (by simp only [lk] <;> rfl) (by simp only [lk] <;> rfl) (by simp (disch := first | assumption | omega | (simp only [nx] <;> omega) | fail) only [aStore, ty41, writeRow, hpl, Value.cells, places, ty26, ty27, ty29, ty31, ty39, ty4, ty41, ty9, z2, z12, z13, z14, z23, z24, hsv1, hsv, hsv3, hsv4] <;> rfl)) rfl <| OSuf.aop tyOK rfl (so_assign (by simp only [lk] <;> rfl)) rfl <| OSuf.nil <| SQ.normal ?_
  refine W.seq <| CWp.sqd tyOK mixed (ms := [0, 0, 3, 7, 15, 31, 15, 79, 255, 511, 1023, 2047, 4095, 2047, 10239, 32767, 65535, 131071, 262143, 524287, 262143, 1310719, 4194303, 8388607, 16777215, 33554431, 67108863, 33554431, 167772159, 536870911, 1073741823, 2147483647, 4294967295, 8589934591, 4294967295, 21474836479, 55834574847, 124554051583, 274877906943, 549755813887, 1099511627775, 2199023255551, 4398046511103, 2199023255551, 10995116277759, 28587302322175, 63771674411007, 134140418588671, 281474976710655, 562949953421311, 1125899906842623, 2251799813685247, 2251799813685247, 2251799813685247, 18014398509481983, 2251799813685247, 2251799813685247, 2251799813685247, 288230376151711743, 576460752303423487, 1152921504606846975, 2305843009213693951]) (by kernel_rfl) (
      .free rfl rfl sm rfl <| .free rfl rfl sm rfl <| .free rfl rfl (so_bw (so_bin (by simp only [lk] <;> rfl) (by simp only [lk] <;> rfl) (bb_eql tyOK ty4 rfl)) (b' := true) (by simp)) rfl <| .free rfl rfl sm rfl <| .free ag rfl (so_fieldAddr (by simp only [lk] <;> rfl) (fa_ok (k := 0) ty39 rfl rfl ty9 rfl rfl)) rfl <| .read ag rfl (so_load (by simp only [lk] <;> rfl) (by simp (disch := first | assumption | omega | (simp only [nx] <;> omega) | fail) only [aLoad, ty9, rowOf, hpl, Value.cells, places, ty26, ty27, ty29, ty31, ty39, ty4, ty41, ty9, z2, z12, z13, z14, z23, z24, hsv1, hsv, hsv3, hsv4] <;> rfl)) (by first | rfl | (simp [veq, veq1, veqs]; done) | (simp [veq, veq1, veqs, splice]; done)) trivial rfl <| .free ag rfl (so_fieldAddr (by simp only [lk] <;> rfl) (fa_ok (k := 0) ty41 rfl rfl ty9 rfl rfl)) rfl <| .read ag rfl (so_load (by simp only [lk] <;> rfl) (by simp (disch := first | assumption | omega | (simp only [nx] <;> omega) | fail) only [aLoad, ty9, rowOf, hpl, Value.cells, places, ty26, ty27, ty29, ty31, ty39, ty4, ty41, ty9, z2, z12, z13, z14, z23, z24, hsv1, hsv, hsv3, hsv4] <;> rfl)) (by first | rfl | (simp [veq, veq1, veqs]; done) | (simp [veq, veq1, veqs, splice]; done)) trivial rfl <| .free ag rfl (so_bw (so_bin (by simp only [lk] <;> rfl) (by simp only [lk] <;> rfl) bs_eql) (b' := true) (b33)) rfl <| .free rfl rfl (so_pick (by simp only [lk] <;> rfl) (by simp only [lk, cond_true, cond_false] <;> rfl)) rfl <| .free rfl rfl sm rfl <| .free ag rfl (so_fieldAddr (by simp only [lk] <;> rfl) (fa_ok (k := 1) ty39 rfl rfl ty27 rfl rfl)) rfl <| .read ag rfl (so_load (by simp only [lk] <;> rfl) (by simp (disch := first | assumption | omega | (simp only [nx] <;> omega) | fail) only [aLoad, ty27, rowOf, hpl, Value.cells, places, ty26, ty27, ty29, ty31, ty39, ty4, ty41, ty9, z2, z12, z13, z14, z23, z24, hsv1, hsv, hsv3, hsv4] <;> rfl)) (by first | rfl | (simp [veq, veq1, veqs]; done) | (simp [veq, veq1, veqs, splice]; done)) trivial rfl <| .free ag rfl (so_fieldAddr (by simp only [lk] <;> rfl) (fa_ok (k := 1) ty41 rfl rfl ty27 rfl rfl)) rfl <| .read ag rfl (so_load (by simp only [lk] <;> rfl) (by simp (disch := first | assumption | omega | (simp only [nx] <;> omega) | fail) only [aLoad, ty27, rowOf, hpl, Value.cells, places, ty26, ty27, ty29, ty31, ty39, ty4, ty41, ty9, z2, z12, z13, z14, z23, z24, hsv1, hsv, hsv3, hsv4] <;> rfl)) (by first | rfl | (simp [veq, veq1, veqs]; done) | (simp [veq, veq1, veqs, splice]; done)) trivial rfl <| .free ag rfl (so_bw (so_bin (by simp only [lk] <;> rfl) (by simp only [lk] <;> rfl) bi_eql) (b' := true) (by simp)) rfl <| .free rfl rfl (so_pick (by simp only [lk] <;> rfl) (by simp only [lk, cond_true, cond_false] <;> rfl)) rfl <| .free rfl rfl sm rfl <| .free ag rfl (so_fieldAddr (by simp only [lk] <;> rfl) (fa_ok (k := 2) ty39 rfl rfl ty4 rfl rfl)) rfl <| .read ag rfl (so_load (by simp only [lk] <;> rfl) (by simp (disch := first | assumption | omega | (simp only [nx] <;> omega) | fail) only [aLoad, ty4, rowOf, hpl, Value.cells, places, ty26, ty27, ty29, ty31, ty39, ty4, ty41, ty9, z2, z12, z13, z14, z23, z24, hsv1, hsv, hsv3, hsv4] <;> rfl)) (by first | rfl | (simp [veq, veq1, veqs]; done) | (simp [veq, veq1, veqs, splice]; done)) trivial rfl <| .free ag rfl (so_fieldAddr (by simp only [lk] <;> rfl) (fa_ok (k := 2) ty41 rfl rfl ty4 rfl rfl)) rfl <| .read ag rfl (so_load (by simp only [lk] <;> rfl) (by simp (disch := first | assumption | omega | (simp only [nx] <;> omega) | fail) only [aLoad, ty4, rowOf, hpl, Value.cells, places, ty26, ty27, ty29, ty31, ty39, ty4, ty41, ty9, z2, z12, z13, z14, z23, z24, hsv1, hsv, hsv3, hsv4] <;> rfl)) (by first | rfl | (simp [veq, veq1, veqs]; done) | (simp [veq, veq1, veqs, splice]; done)) trivial rfl <| .free ag rfl (so_bw (so_bin (by simp only [lk] <;> rfl) (by simp only [lk] <;> rfl) (bb_eql tyOK ty4 rfl)) (b' := true) (by simp)) rfl <| .free rfl rfl (so_pick (by simp only [lk] <;> rfl) (by simp only [lk, cond_true, cond_false] <;> rfl)) rfl <| .free rfl rfl sm rfl <| .free ag rfl (so_fieldAddr (by simp only [lk] <;> rfl) (fa_ok (k := 3) ty39 rfl rfl ty31 rfl rfl)) rfl <| .read ag rfl (so_load (by simp only [lk] <;> rfl) (by simp (disch := first | assumption | omega | (simp only [nx] <;> omega) | fail) only [aLoad, ty31, rowOf, hpl, Value.cells, places, ty26, ty27, ty29, ty31, ty39, ty4, ty41, ty9, z2, z12, z13, z14, z23, z24, hsv1, hsv, hsv3, hsv4] <;> rfl)) (by first | rfl | (simp [veq, veq1, veqs]; done) | (simp [veq, veq1, veqs, splice]; done)) trivial rfl <| .free ag rfl (so_fieldAddr (by simp only [lk] <;> rfl) (fa_ok (k := 3) ty41 rfl rfl ty31 rfl rfl)) rfl <| .read ag rfl (so_load (by simp only [lk] <;> rfl) (by simp (disch := first | assumption | omega | (simp only [nx] <;> omega) | fail) only [aLoad, ty31, rowOf, hpl, Value.cells, places, ty26, ty27, ty29, ty31, ty39, ty4, ty41, ty9, z2, z12, z13, z14, z23, z24, hsv1, hsv, hsv3, hsv4] <;> rfl)) (by first | rfl | (simp [veq, veq1, veqs]; done) | (simp [veq, veq1, veqs, splice]; done)) trivial rfl <| .call ag rfl (fcallO (by simp only [aopnds, lk] <;> rfl) en33 (hsame)) rfl ⟨.inl rfl, .inl rfl, .inl rfl, .inl rfl, .inl rfl, .inl rfl, .inl rfl, .inl rfl, trivial⟩ rfl <| .free rfl rfl (so_pick (by simp only [lk] <;> rfl) (by simp only [lk, cond_true, cond_false] <;> rfl)) rfl <| .free rfl rfl sm rfl <| .free ag rfl sm rfl <| .call ag rfl (fcallO (by simp only [aopnds, lk] <;> rfl) en19 (hfl)) rfl ⟨.inl rfl, .inl rfl, .inl rfl, .inl rfl, .inl rfl, .inl rfl, .inl rfl, .inl rfl, trivial⟩ rfl <| .free ag rfl sm rfl <| .free ag rfl (so_nilCheck (by simp only [lk] <;> rfl)) rfl <| .free ag rfl (so_fieldAddr (by simp only [lk] <;> rfl) (fa_ok (k := 1) ty29 rfl rfl ty27 rfl rfl)) rfl <| .read ag rfl (so_load (by simp only [lk] <;> rfl) (by simp (disch := first | assumption | omega | (simp only [nx] <;> omega) | fail) only [aLoad, ty27, rowOf, hpl, Value.cells, places, ty26, ty27, ty29, ty31, ty39, ty4, ty41, ty9, z2, z12, z13, z14, z23, z24, hsv1, hsv, hsv3, hsv4] <;> rfl)) (by first | rfl | (simp [veq, veq1, veqs]; done) | (simp [veq, veq1, veqs, splice]; done)) ⟨.inr (so_load (by simp only [lk] <;> rfl) (by simp (disch := first | assumption | omega | (simp only [nx] <;> omega) | fail) only [aLoad, ty27, rowOf, hpl, Value.cells, places, ty26, ty27, ty29, ty31, ty39, ty4, ty41, ty9, z2, z12, z13, z14, z23, z24, hsv1, hsv, hsv3, hsv4] <;> rfl)), .inl rfl, trivial⟩ rfl <| .free ag rfl (so_bw (so_bin (by simp only [lk] <;> rfl) (by simp only [lk] <;> rfl) bi_eql) (b' := true) (by simp)) rfl <| .free rfl rfl (so_pick (by simp only [lk] <;> rfl) (by simp only [lk, cond_true, cond_false] <;> rfl)) rfl <| .free rfl rfl sm rfl <| .free ag rfl sm rfl <| .call ag rfl (fcallO (by simp only [aopnds, lk] <;> rfl) en21 (hle)) rfl ⟨.inl rfl, .inl rfl, .inl rfl, .inl rfl, .inl rfl, .inl rfl, .inl rfl, .inl rfl, .inl rfl, trivial⟩ rfl <| .free ag rfl sm rfl <| .free ag rfl (so_nilCheck (by simp only [lk] <;> rfl)) rfl <| .free ag rfl (so_fieldAddr (by simp only [lk] <;> rfl) (fa_ok (k := 0) ty29 rfl rfl ty26 rfl rfl)) rfl <| .read ag rfl (so_load (by simp only [lk] <;> rfl) (by simp (disch := first | assumption | omega | (simp only [nx] <;> omega) | fail) only [aLoad, ty26, rowOf, hpl, Value.cells, places, ty26, ty27, ty29, ty31, ty39, ty4, ty41, ty9, z2, z12, z13, z14, z23, z24, hsv1, hsv, hsv3, hsv4] <;> rfl)) (by first | rfl | (simp [veq, veq1, veqs]; done) | (simp [veq, veq1, veqs, splice]; done)) ⟨.inr (so_load (by simp only [lk] <;> rfl) (by simp (disch := first | assumption | omega | (simp only [nx] <;> omega) | fail) only [aLoad, ty26, rowOf, hpl, Value.cells, places, ty26, ty27, ty29, ty31, ty39, ty4, ty41, ty9, z2, z12, z13, z14, z23, z24, hsv1, hsv, hsv3, hsv4] <;> rfl)), .inl rfl, .inl rfl, trivial⟩ rfl <| .read ag rfl (so_len (by simp only [aopnds, lk] <;> rfl) (by simp (disch := first | assumption | omega | (simp only [nx] <;> omega) | fail) only [aLenOf, ty26, hpl, Value.cells, places, ty26, ty27, ty29, ty31, ty39, ty4, ty41, ty9, z2, z12, z13, z14, z23, z24, hsv1, hsv, hsv3, hsv4] <;> rfl)) (by first | rfl | (simp [veq, veq1, veqs]; done) | (simp [veq, veq1, veqs, splice]; done)) ⟨.inr (so_len (by simp only [aopnds, lk] <;> rfl) (by simp (disch := first | assumption | omega | (simp only [nx] <;> omega) | fail) only [aLenOf, ty26, hpl, Value.cells, places, ty26, ty27, ty29, ty31, ty39, ty4, ty41, ty9, z2, z12, z13, z14, z23, z24, hsv1, hsv, hsv3, hsv4] <;> rfl)), .inl rfl, .inl rfl, trivial⟩ rfl <| .free ag rfl (so_bw (so_bin (by simp only [lk] <;> rfl) (by simp only [lk] <;> rfl) bi_eql) (b' := true) (by simp)) rfl <| .free rfl rfl (so_pick (by simp only [lk] <;> rfl) (by simp only [lk, cond_true, cond_false] <;> rfl)) rfl <| .free rfl rfl sm rfl <| .free ag rfl sm rfl <| .free ag rfl sm rfl <| .free ag rfl sm rfl <| .call ag rfl (fcallO (by simp only [aopnds, lk] <;> rfl) en23 (k1)) rfl ⟨.inl rfl, .inl rfl, .inl rfl, .inl rfl, .inl rfl, .inl rfl, .inl rfl, .inl rfl, .inl rfl, .inl rfl, .inl rfl, trivial⟩ rfl <| .free ag rfl sm rfl <| .free ag rfl sm rfl <| .free ag rfl sm rfl <| .call ag rfl (fcallO (by simp only [aopnds, lk] <;> rfl) en34 (j1)) rfl ⟨.inl rfl, .inl rfl, .inl rfl, .inl rfl, .inl rfl, .inl rfl, .inl rfl, .inl rfl, .inl rfl, .inl rfl, .inl rfl, trivial⟩ rfl <| .call ag rfl (fcallO (by simp only [aopnds, lk] <;> rfl) en22 (htx)) rfl ⟨.inl rfl, .inl rfl, .inl rfl, .inl rfl, .inl rfl, .inl rfl, .inl rfl, .inl rfl, .inl rfl, .inl rfl, .inl rfl, trivial⟩ rfl <| .free rfl rfl (so_pick (by simp only [lk] <;> rfl) (by simp only [lk, cond_true, cond_false] <;> rfl)) rfl <| .free rfl rfl (so_assign (by simp only [lk] <;> rfl)) rfl <| .nil) <| SQ.normal ?_
  refine CWp.ret <| FQ.ret (by simp only [aRet, Try.f16, aResults, aResult, lk, Nat.reduceEqDiff, reduceIte] <;> rfl) ?_
  -- leaf: end
  exact ⟨rfl, fun z o hz ho => by rw [hfin z hz]; exact ho⟩

/-! Acts. -/
structure Act where
  what : Int
  key : List UInt8
  ts : Int
  here : Bool
  vers : Value
  V : List Vr
def Act.cs (x : Act) : List Value := [I64 x.what, encS x.key, U64 x.ts, .bool x.here, x.vers]
def flatA (l : List Act) : List Value := (l.map Act.cs).flatten
structure ActsAt (h : AHeap) (b : Option Addr) (l : List Act) : Prop where
  len : l.length ≤ maxLen
  ok : ∀ x ∈ l, x.key.length < 9223372036854775808 ∧ AVs h x.V x.vers ∧ ∃ b, x.vers = .slice b x.V.length 0
  at_ : l ≠ [] → ∃ r, b = some ⟨r, 0, none⟩ ∧ r < h.next ∧ h.get r = some (.ro (flatA l))
theorem flatA_get {l : List Act} {i j : Nat} {x : Act} (hx : l[i]? = some x) (hj : j < 5) : (flatA l)[i * 5 + j]? = x.cs[j]? :=
  flatten_get (fun y hy => by obtain ⟨z, _, rfl⟩ := List.mem_map.1 hy; rfl) (by simp [hx]) hj
theorem flatA_length (l : List Act) : (flatA l).length = l.length * 5 := by
  induction l with
  | nil => rfl
  | cons a l ih =>
    simp only [flatA, List.map_cons, List.flatten_cons, List.length_append, List.length_cons] at ih ⊢
    rw [ih]; simp [Act.cs]; omega
theorem flatA_drop : ∀ {l : List Act} {i : Nat} {x : Act}, l[i]? = some x → ((flatA l).drop (i * 5)).take 5 = x.cs
  | [], i, x, h => by simp at h
  | y :: l, 0, x, h => by simp at h; subst h; rfl
  | y :: l, i + 1, x, h => by
    have e : (i + 1) * 5 = i * 5 + 5 := by omega
    simp only [List.getElem?_cons_succ] at h
    rw [e]
    show ((y.cs ++ flatA l).drop (i * 5 + 5)).take 5 = x.cs
    rw [Nat.add_comm, ← List.drop_drop]
    exact flatA_drop h
theorem flatA_cell {l : List Act} {i : Nat} {x : Act} (hx : l[i]? = some x) : cellsOf (flatA l) (i * 5) 5 = some x.cs := by
  have hi := (List.getElem?_eq_some_iff.1 hx).1
  rw [cellsOf_mk (by rw [flatA_length]; omega), flatA_drop hx]
theorem RdV.vers {h : AHeap} {n : Nat} {v : Value} (hr : RdV Try.prog h (n + 3) 31 v) : ∃ (b : Option Addr) (V : List Vr), v = .slice b V.length 0 ∧ AVs h V v := by
  obtain ⟨b, vss, rfl, h1, h2, h3⟩ := RdV.recs Try.underlying31 hr
  have key : ∃ V : List Vr, vss = V.map Vr.cs ∧ vss.flatten = flatV V := by
    clear h1 h3 hr
    induction vss with
    | nil => exact ⟨[], rfl, rfl⟩
    | cons v vss ih =>
      obtain ⟨l, e1, e2⟩ := ih fun x hx => h2 x (List.mem_cons_of_mem _ hx)
      obtain ⟨_, g⟩ := h2 v List.mem_cons_self
      obtain ⟨fss, g1, g2, g3⟩ := Rd.fields Try.underlying57 g
      match fss, g2 with
      | [a, b, c, d, e], _ =>
        obtain ⟨_, x1⟩ := g3 0 _ a rfl rfl
        obtain ⟨_, x2⟩ := g3 1 _ b rfl rfl
        obtain ⟨_, x3⟩ := g3 2 _ c rfl rfl
        obtain ⟨_, x4⟩ := g3 3 _ d rfl rfl
        obtain ⟨_, x5⟩ := g3 4 _ e rfl rfl
        obtain ⟨i, rfl, w1⟩ := Rd.int Try.underlying27 x1
        obtain ⟨j, rfl, w2⟩ := Rd.int Try.underlying27 x2
        obtain ⟨o, rfl⟩ := Rd.bool Try.underlying4 x3
        obtain ⟨s, rfl, _⟩ := Rd.string Try.underlying9 x4
        obtain ⟨p, rfl⟩ := Rd.bool Try.underlying4 x5
        exact ⟨⟨i, j, o, s, p⟩ :: l, by rw [g1, e1]; rfl, by rw [List.flatten_cons, e2, g1]; rfl⟩
  obtain ⟨V, e1, e2⟩ := key
  have hlen : vss.length = V.length := by rw [e1]; simp
  rw [hlen]
  refine ⟨b, V, rfl, ?_⟩
  by_cases hV : V = []
  · subst hV
    cases b with
    | none => exact .nil
    | some a =>
      -- a slice of none that is somewhere
      obtain ⟨y, off, sp⟩ := a
      have hr' := hr
      unfold RdV at hr'
      rw [Try.underlying31] at hr'
      simp only at hr'
      unfold Rd at hr'
      rw [Try.underlying31] at hr'
      simp only at hr'
      rcases hr' with h9 | ⟨r9, vss9, h9, _⟩
      · simp at h9
      · simp at h9
        obtain ⟨⟨rfl, rfl, rfl⟩, _⟩ := h9
        exact .emp
  · obtain ⟨r, rfl, h4, h5⟩ := h3 (fun e => hV (by rw [e] at hlen; exact List.length_eq_zero_iff.1 hlen.symm))
    exact .some (vs := vss.flatten) hV h4 (by simp only [rowOf, h5]) (by rw [e2]; exact cellsOf_all (flatV_length V))
theorem RdV.acts {h : AHeap} {v : Value} (hr : RdV Try.prog h 8 22 v) : ∃ (b : Option Addr) (l : List Act), v = .slice b l.length 0 ∧ ActsAt h b l := by
  obtain ⟨b, vss, rfl, h1, h2, h3⟩ := RdV.recs Try.underlying22 hr
  have key : ∃ l : List Act, vss = l.map Act.cs ∧ ∀ x ∈ l, x.key.length < 9223372036854775808 ∧ AVs h x.V x.vers ∧ ∃ b, x.vers = .slice b x.V.length 0 := by
    clear h1 h3 hr
    induction vss with
    | nil => exact ⟨[], rfl, by simp⟩
    | cons v vss ih =>
      obtain ⟨l, e1, e2⟩ := ih fun x hx => h2 x (List.mem_cons_of_mem _ hx)
      obtain ⟨_, g⟩ := h2 v List.mem_cons_self
      obtain ⟨fss, g1, g2, g3⟩ := Rd.fields Try.underlying33 g
      match fss, g2 with
      | [a, b, c, d, e], _ =>
        obtain ⟨_, x1⟩ := g3 0 _ a rfl rfl
        obtain ⟨_, x2⟩ := g3 1 _ b rfl rfl
        obtain ⟨_, x3⟩ := g3 2 _ c rfl rfl
        obtain ⟨_, x4⟩ := g3 3 _ d rfl rfl
        obtain ⟨hel, x5⟩ := g3 4 _ e rfl rfl
        obtain ⟨i, rfl, w1⟩ := Rd.int Try.underlying3 x1
        obtain ⟨s, rfl, ws⟩ := Rd.string Try.underlying9 x2
        obtain ⟨j, rfl, w2⟩ := Rd.int Try.underlying27 x3
        obtain ⟨o, rfl⟩ := Rd.bool Try.underlying4 x4
        have hel1 : e.length = 1 := hel.trans (by kernel_rfl)
        match e, hel1 with
        | [w], _ =>
          have hw : RdV Try.prog h 6 31 w := by
            unfold RdV
            rw [Try.underlying31]
            exact x5
          obtain ⟨vb, V, hv1, hv2⟩ := RdV.vers hw
          obtain ⟨⟨sl⟩⟩ := s
          refine ⟨⟨i, sl, j, o, w, V⟩ :: l, by rw [g1, e1]; rfl, fun x hx => ?_⟩
          cases hx with
          | head => exact ⟨by have : sl.length ≤ maxLen := ws; simp only [maxLen] at this; show sl.length < _; omega, hv2, vb, hv1⟩
          | tail _ hx => exact e2 x hx
  obtain ⟨l, rfl, h4⟩ := key
  refine ⟨b, l, by simp, by simpa using h1, h4, fun hn => h3 (by simpa using hn)⟩
theorem flatV_app : ∀ a b : List Vr, flatV (a ++ b) = flatV a ++ flatV b
  | [], b => rfl
  | x :: a, b => by simp only [flatV, List.cons_append, flatV_app a b, List.append_assoc]
/-- The first ten versions. -/
theorem cut_x {h : AHeap} {V : List Vr} {b : Option Addr} (hs : AVs h V (.slice b V.length 0)) :
    ∃ b', (∀ H : AHeap, aSlice T 31 (.slice b V.length 0) none (some (I64 (if 10 < (V.length : Int) then 10 else (V.length : Int)))) none H = some (.slice b' (V.take 10).length 0)) ∧ AVs h (V.take 10) (.slice b' (V.take 10).length 0) := by
  have hm : (if 10 < (V.length : Int) then (10 : Int) else (V.length : Int)) = ((V.take 10).length : Int) := by
    rw [List.length_take]; split <;> omega
  rw [hm]
  have hle : (V.take 10).length ≤ V.length := by rw [List.length_take]; omega
  have hbd : bounds V.length V.length none (some (I64 ((V.take 10).length : Int))) none = some (0, (V.take 10).length, V.length) := bounds_hi hle
  generalize hv : Value.slice b V.length 0 = v at hs ⊢
  cases hs with
  | nil => exact ⟨none, fun H => sl_0 ty31 rfl ty57 hbd, .nil⟩
  | @emp y off c =>
    injection hv with e1 e2 e3
    subst e3
    exact ⟨some ⟨y, off, none⟩, fun H => by simp only [aSlice, ty31, ty57]; rfl, .emp⟩
  | @some _ y off c vs hne hy hg hc =>
    injection hv with e1 e2 e3
    subst e3
    refine ⟨some ⟨y, off, none⟩, fun H => ?_, ?_⟩
    · simp only [aSlice, ty31, ty57, hbd]; rfl
    · have hne' : V.take 10 ≠ [] := fun e => hne (by
        cases V with
        | nil => rfl
        | cons a l => simp at e)
      refine .some hne' hy hg ?_
      obtain ⟨c1, c2, c3⟩ := cellsOf_some hc
      have h5 := flatV_length (V.take 10)
      rw [cellsOf_mk (by omega)]
      have e9 : flatV (V.take 10) = (flatV V).take ((V.take 10).length * 5) := by
        have e8 : flatV V = flatV (V.take 10) ++ flatV (V.drop 10) := by rw [← flatV_app, List.take_append_drop]
        rw [e8, List.take_left' (by rw [h5])]
      rw [e9, c2, List.take_take, Nat.min_eq_left (by omega)]
structure Recs (A : List Rec) (i : Nat) : Prop where
  len : A.length ≤ i
  v : ∀ x ∈ A, x.V.length ≤ 10 ∧ okKey x.key
theorem setR_congr {x : Rec} {A B : List Rec} (hp : A.Perm B) (hn : (A.map Rec.key).Nodup) : (setR x A).Perm (setR x B) := by
  have hg := getR_perm hp hn x.key
  cases h1 : getR x.key A with
  | some y => rw [setR, h1, setR, ← hg, h1]; exact hp.map _
  | none => rw [setR, h1, setR, ← hg, h1]; exact .cons _ hp
theorem touchR_perm {k : List UInt8} {ts fl : Int} {A B : List Rec} (hp : A.Perm B) (hn : (A.map Rec.key).Nodup) : (touchR k ts fl A).Perm (touchR k ts fl B) := by
  have hg := getR_perm hp hn k
  cases h1 : getR k A with
  | some y => rw [touchR, h1, touchR, ← hg, h1]; exact setR_congr hp hn
  | none =>
    rw [touchR, h1, touchR, ← hg, h1]; simp only
    split
    · exact setR_congr hp hn
    · exact hp
theorem PS.rf1 {h0 h h1 : AHeap} {r s : Nat} {x : Option Nat} {fl : Int} {M M' : TM} {A : List Rec} {D : List RR} (S : PS h0 h r s x fl M A D) (f : FrT h h1 r M M') : RF h1 s x fl D :=
  S.rf.keep f.next (f.old s S.rf.lt S.sr.1 S.sr.2) (fun y hy => f.old y (S.rf.sx y hy).2 (S.xr y hy).1 (S.xr y hy).2) fun y w hy hg => f.old y hy (fun e => by (rw [e, S.tb.ta.row] at hg; simp at hg)) fun h9 => by
    obtain ⟨_, w', hw'⟩ := row_of S.tb.ta h9
    rw [hw'] at hg; simp at hg
theorem plays_c (h : AHeap) (n : Int) (b : Option Addr) (l : List Act) (hb : ActsAt h b l) : FWp Try.prog 3 [.slice b l.length 0, I64 n] h fun u h' => u = .bool true := by
  refine W.enter tyOK Try.func3 rfl rfl ?_
  simp only [entry]
  by_cases hn : n < 1 ∨ n > 64
  · by_cases h1 : n < 1
    · have d1 : decide (n < 1) = true := decide_eq_true h1
      refine W.seq <| W.reg <| OSuf.aopF tyOK rfl (so_assign (by simp only [lk] <;> rfl)) (fun _ => rfl) rfl <| OSuf.nil <| SQ.normal ?_
      refine W.seq <| W.reg <| OSuf.aop tyOK rfl sm rfl <| OSuf.callD rfl (by simp only [aopnds, lk] <;> rfl) en8 (new_none _ n hn) rfl <| OSuf.aop tyOK rfl (so_build (by simp only [aparts, lk] <;> rfl) (by simp (disch := first | assumption | omega | (simp only [nx] <;> omega) | fail) only [aBuild, ty29, hpl, places, ty22, ty23, ty27, ty29, ty3, ty31, ty33, ty39, ty4, ty41, ty57, ty9, Value.cells] <;> rfl)) rfl <| OSuf.aop tyOK rfl (so_box (by simp only [lk] <;> rfl)) rfl <| OSuf.aop tyOK rfl (so_assign (by simp only [lk] <;> rfl)) rfl <| OSuf.aop tyOK rfl (so_assign (by simp only [lk] <;> rfl)) rfl <| OSuf.nil <| SQ.normal ?_
      refine W.seq <| W.seq <| W.reg <| OSuf.aop tyOK rfl sm rfl <| OSuf.aopT tyOK rfl (so_bin (by simp only [lk] <;> rfl) (by simp only [lk] <;> rfl) bi_lss) (fun _ => rfl) (d1) <| OSuf.aopT tyOK rfl sm (fun _ => rfl) rfl <| OSuf.pass ag rfl <| OSuf.pass ag rfl <| OSuf.aopT tyOK rfl (so_pick (by simp only [lk] <;> rfl) (by simp only [lk, cond_true, cond_false] <;> rfl)) (fun _ => rfl) rfl <| OSuf.aopT tyOK rfl sm (fun _ => rfl) rfl <| OSuf.pass ag rfl <| OSuf.pass ag rfl <| OSuf.aopT tyOK rfl (so_pick (by simp only [lk] <;> rfl) (by simp only [lk, cond_true, cond_false] <;> rfl)) (fun _ => rfl) rfl <| OSuf.nil <| SQ.normal ?_
      refine W.yes (by simp only [lk] <;> rfl) <| W.seq <| W.reg <| OSuf.aop tyOK rfl sm rfl <| OSuf.aopT tyOK rfl (so_bin (by simp only [lk] <;> rfl) (by simp only [lk] <;> rfl) (bi_nil0 tyOK ⟨_, _, ty23, rfl⟩)) (fun _ => rfl) rfl <| OSuf.aopT tyOK rfl sm (fun _ => rfl) rfl <| OSuf.aop tyOK ag sm rfl <| OSuf.aopT tyOK ag (so_bin (by simp only [lk] <;> rfl) (by simp only [lk] <;> rfl) bi_lss) (fun _ => rfl) (d1) <| OSuf.aopT tyOK ag sm (fun _ => rfl) rfl <| OSuf.pass ag rfl <| OSuf.pass ag rfl <| OSuf.aopT tyOK ag (so_pick (by simp only [lk] <;> rfl) (by simp only [lk, cond_true, cond_false] <;> rfl)) (fun _ => rfl) rfl <| OSuf.aopT tyOK rfl (so_pick (by simp only [lk] <;> rfl) (by simp only [lk, cond_true, cond_false] <;> rfl)) (fun _ => rfl) rfl <| OSuf.aopT tyOK rfl sm (fun _ => rfl) rfl <| OSuf.callD ag (by simp only [aopnds, lk] <;> rfl) en9 (works_c _) rfl <| OSuf.aopT tyOK rfl (so_pick (by simp only [lk] <;> rfl) (by simp only [lk, cond_true, cond_false] <;> rfl)) (fun _ => rfl) rfl <| OSuf.aopT tyOK rfl (so_assign (by simp only [lk] <;> rfl)) (fun _ => rfl) rfl <| OSuf.nil <| SQ.normal ?_
      refine CWp.ret <| SQ.ret <| FQ.ret (by simp only [aRet, Try.f3, aResults, aResult, lk, Nat.reduceEqDiff, reduceIte] <;> rfl) ?_
      -- leaf: end
      rfl
    · have d1 : decide (n < 1) = false := decide_eq_false h1
      have d2 : decide (n > 64) = true := decide_eq_true (by omega)
      refine W.seq <| W.reg <| OSuf.aopF tyOK rfl (so_assign (by simp only [lk] <;> rfl)) (fun _ => rfl) rfl <| OSuf.nil <| SQ.normal ?_
      refine W.seq <| W.reg <| OSuf.aop tyOK rfl sm rfl <| OSuf.callD rfl (by simp only [aopnds, lk] <;> rfl) en8 (new_none _ n hn) rfl <| OSuf.aop tyOK rfl (so_build (by simp only [aparts, lk] <;> rfl) (by simp (disch := first | assumption | omega | (simp only [nx] <;> omega) | fail) only [aBuild, ty29, hpl, places, ty22, ty23, ty27, ty29, ty3, ty31, ty33, ty39, ty4, ty41, ty57, ty9, Value.cells] <;> rfl)) rfl <| OSuf.aop tyOK rfl (so_box (by simp only [lk] <;> rfl)) rfl <| OSuf.aop tyOK rfl (so_assign (by simp only [lk] <;> rfl)) rfl <| OSuf.aop tyOK rfl (so_assign (by simp only [lk] <;> rfl)) rfl <| OSuf.nil <| SQ.normal ?_
      refine W.seq <| W.seq <| W.reg <| OSuf.aop tyOK rfl sm rfl <| OSuf.aopF tyOK rfl (so_bin (by simp only [lk] <;> rfl) (by simp only [lk] <;> rfl) bi_lss) (fun _ => rfl) (d1) <| OSuf.aopF tyOK rfl sm (fun _ => rfl) rfl <| OSuf.aop tyOK ag sm rfl <| OSuf.aopT tyOK ag (so_bin (by simp only [lk] <;> rfl) (by simp only [lk] <;> rfl) bi_gtr) (fun _ => rfl) (d2) <| OSuf.aopT tyOK rfl (so_pick (by simp only [lk] <;> rfl) (by simp only [lk, cond_true, cond_false] <;> rfl)) (fun _ => rfl) rfl <| OSuf.aopT tyOK rfl sm (fun _ => rfl) rfl <| OSuf.pass ag rfl <| OSuf.pass ag rfl <| OSuf.aopT tyOK rfl (so_pick (by simp only [lk] <;> rfl) (by simp only [lk, cond_true, cond_false] <;> rfl)) (fun _ => rfl) rfl <| OSuf.nil <| SQ.normal ?_
      refine W.yes (by simp only [lk] <;> rfl) <| W.seq <| W.reg <| OSuf.aop tyOK rfl sm rfl <| OSuf.aopT tyOK rfl (so_bin (by simp only [lk] <;> rfl) (by simp only [lk] <;> rfl) (bi_nil0 tyOK ⟨_, _, ty23, rfl⟩)) (fun _ => rfl) rfl <| OSuf.aopT tyOK rfl sm (fun _ => rfl) rfl <| OSuf.aop tyOK ag sm rfl <| OSuf.aopF tyOK ag (so_bin (by simp only [lk] <;> rfl) (by simp only [lk] <;> rfl) bi_lss) (fun _ => rfl) (d1) <| OSuf.aopF tyOK ag sm (fun _ => rfl) rfl <| OSuf.aop tyOK ag sm rfl <| OSuf.aopT tyOK ag (so_bin (by simp only [lk] <;> rfl) (by simp only [lk] <;> rfl) bi_gtr) (fun _ => rfl) (d2) <| OSuf.aopT tyOK ag (so_pick (by simp only [lk] <;> rfl) (by simp only [lk, cond_true, cond_false] <;> rfl)) (fun _ => rfl) rfl <| OSuf.aopT tyOK rfl (so_pick (by simp only [lk] <;> rfl) (by simp only [lk, cond_true, cond_false] <;> rfl)) (fun _ => rfl) rfl <| OSuf.aopT tyOK rfl sm (fun _ => rfl) rfl <| OSuf.callD ag (by simp only [aopnds, lk] <;> rfl) en9 (works_c _) rfl <| OSuf.aopT tyOK rfl (so_pick (by simp only [lk] <;> rfl) (by simp only [lk, cond_true, cond_false] <;> rfl)) (fun _ => rfl) rfl <| OSuf.aopT tyOK rfl (so_assign (by simp only [lk] <;> rfl)) (fun _ => rfl) rfl <| OSuf.nil <| SQ.normal ?_
      refine CWp.ret <| SQ.ret <| FQ.ret (by simp only [aRet, Try.f3, aResults, aResult, lk, Nat.reduceEqDiff, reduceIte] <;> rfl) ?_
      -- leaf: end
      rfl
  · obtain ⟨m, rfl⟩ := Int.eq_ofNat_of_zero_le (a := n) (by omega)
    have d1 : decide ((m : Int) < 1) = false := decide_eq_false (by omega)
    have d2 : decide ((m : Int) > 64) = false := decide_eq_false (by omega)
    refine W.seq <| W.reg <| OSuf.aopF tyOK rfl (so_assign (by simp only [lk] <;> rfl)) (fun _ => rfl) rfl <| OSuf.nil <| SQ.normal ?_
    refine W.seq <| W.reg <| OSuf.aop tyOK rfl sm rfl <| OSuf.callD rfl (by simp only [aopnds, lk] <;> rfl) en8 (new_c _ m (by omega) (by omega)) rfl <| OSuf.aop tyOK rfl (so_build (by simp only [aparts, lk] <;> rfl) (by simp (disch := first | assumption | omega | (simp only [nx] <;> omega) | fail) only [aBuild, ty29, hpl, places, ty22, ty23, ty27, ty29, ty3, ty31, ty33, ty39, ty4, ty41, ty57, ty9, Value.cells] <;> rfl)) rfl <| OSuf.aop tyOK rfl (so_box (by simp only [lk] <;> rfl)) rfl <| OSuf.aop tyOK rfl (so_assign (by simp only [lk] <;> rfl)) rfl <| OSuf.aop tyOK rfl (so_assign (by simp only [lk] <;> rfl)) rfl <| OSuf.nil <| SQ.normal ?_
    refine W.seq <| W.seq <| W.reg <| OSuf.aop tyOK rfl sm rfl <| OSuf.aopF tyOK rfl (so_bin (by simp only [lk] <;> rfl) (by simp only [lk] <;> rfl) bi_lss) (fun _ => rfl) (d1) <| OSuf.aopF tyOK rfl sm (fun _ => rfl) rfl <| OSuf.aop tyOK ag sm rfl <| OSuf.aopF tyOK ag (so_bin (by simp only [lk] <;> rfl) (by simp only [lk] <;> rfl) bi_gtr) (fun _ => rfl) (d2) <| OSuf.aopF tyOK rfl (so_pick (by simp only [lk] <;> rfl) (by simp only [lk, cond_true, cond_false] <;> rfl)) (fun _ => rfl) rfl <| OSuf.aopF tyOK rfl sm (fun _ => rfl) rfl <| OSuf.aop tyOK ag sm rfl <| OSuf.aopF tyOK ag (so_bin (by simp only [lk] <;> rfl) (by simp only [lk] <;> rfl) (bi_nil ⟨_, _, ty23, rfl⟩)) (fun _ => rfl) rfl <| OSuf.aopF tyOK rfl (so_pick (by simp only [lk] <;> rfl) (by simp only [lk, cond_true, cond_false] <;> rfl)) (fun _ => rfl) rfl <| OSuf.nil <| SQ.normal ?_
    refine W.no (by simp only [lk] <;> rfl) <| CWp.skip <| SQ.normal ?_
    refine W.seq <| W.seq <| W.reg <| OSuf.aop tyOK rfl (so_assign (by simp only [lk] <;> rfl)) rfl <| OSuf.nil <| SQ.normal ?_
    -- leaf: loop
    have hS0 : PS h (((h.new (.cells (List.replicate m (.pointer none)) 1)).new (.cells [.slice (some ⟨h.next, 0, none⟩) m (m + 1), U64 0, I64 0] 1)).new (.cells [.slice none 0 0, U64 0] 1)) (h.next + 1) (h.next + 2) none 0 ⟨h.next, m, List.replicate m []⟩ [] [] := by
      have hta := new_ta h m (by omega) (by omega)
      refine ⟨TB.mono ⟨hta, by rw [TM.all, all_rep]; exact .refl _⟩ (by simp) (fun z hz => AHeap.get_new_ne (by simp at hz ⊢; omega)), ⟨by simp, ⟨_, AHeap.get_new_at (by simp), .nil, rfl⟩, (fun y hy => by cases hy), (fun d hd => by cases hd), .nil⟩, .refl _, ⟨by omega, ?_⟩, (fun y hy => by cases hy), ⟨by omega, fun z hz => ?_⟩, ⟨by omega, (fun y hy => by cases hy)⟩, fun z hz => ?_, by simp only [nx]; omega⟩
      · simp [TM.rows, TM.all, all_rep]
      · simp [TM.rows, TM.all, all_rep] at hz; omega
      · simp (disch := first | assumption | omega | (simp only [nx] <;> omega) | fail) only [hpl]
    refine W.cut (fun L h' => L = []) (W.block (W.loop (fun q L h' => ∃ (i : Nat) (x : Option Nat) (fl : Int) (M : TM) (A : List Rec) (D : List RR), i ≤ 100 ∧ i ≤ l.length ∧ q + i = 100 ∧ PS h h' (h.next + 1) (h.next + 2) x fl M A D ∧ Recs A i ∧ L = [(0, .slice b l.length 0), (5, P0 (h.next + 1)), (6, P0 (h.next + 2)), (7, I64 i)]) (n := 100) ⟨0, none, 0, _, _, _, by omega, by omega, by omega, hS0, ⟨by simp, by simp⟩, rfl⟩ ?_ ?_)) ?_
    · simp [HasA, Tr.get_put]
    · clear hS0
      rintro q L h1 ⟨i, x, fl, M, A, D, hi100, hil, hq, S, hA, rfl⟩
      simp only [mkA]
      have v2 : IntKind.i64.wrap ((i : Int) + 1) = ((i + 1 : Nat) : Int) := by rw [wrap_i64 (by omega) (by omega)]; omega
      by_cases hlt : (i : Int) < (l.length : Int)
      · by_cases h100 : (i : Int) < 100
        · obtain ⟨a, ha⟩ : ∃ a, l[i]? = some a := ⟨l[i]'(by omega), by simp⟩
          obtain ⟨r0, rfl, hr0, hg0⟩ := hb.at_ (fun e => by rw [e] at ha; simp at ha)
          obtain ⟨ka, va, vb, hvb⟩ := hb.ok a (List.mem_of_getElem? ha)
          have hg : h1.get r0 = some (.ro (flatA l)) := by rw [S.old r0 hr0]; exact hg0
          have hc : (0 ≤ (i : Int) ∧ (i : Int) < (l.length : Int)) := by omega
          have hcell := flatA_cell ha
          rw [Act.cs, hvb] at hcell
          rw [hvb] at va
          obtain ⟨cb, cx1, cx2⟩ := cut_x va
          have e1 : [I64 a.what, encS a.key, U64 a.ts, .bool a.here, .slice vb a.V.length 0].toArray = #[I64 a.what, encS a.key, U64 a.ts, .bool a.here, .slice vb a.V.length 0] := rfl
          refine W.seq <| W.seq <| W.reg <| OSuf.aop tyOK rfl sm rfl <| OSuf.aop tyOK rfl sm rfl <| OSuf.aop tyOK rfl (so_len (by simp only [aopnds, lk] <;> rfl) (by simp (disch := first | assumption | omega | (simp only [nx] <;> omega) | fail) only [aLenOf, ty22, hpl, hg, hc, sb, hcell, e1, Option.map_some, cond_true, places, ty22, ty23, ty27, ty29, ty3, ty31, ty33, ty39, ty4, ty41, ty57, ty9, Value.cells] <;> rfl)) rfl <| OSuf.aopT tyOK rfl (so_bin (by simp only [lk] <;> rfl) (by simp only [lk] <;> rfl) bi_lss) (fun _ => rfl) (by first | rfl | assumption | ((simp only [bl, hg, hc, sb, hcell, e1, Option.map_some, cond_true, places, ty22, ty23, ty27, ty29, ty3, ty31, ty33, ty39, ty4, ty41, ty57, ty9, Value.cells]) <;> first | done | assumption | omega) | (simp; done) | (simp; omega)) <| OSuf.aopT tyOK rfl sm (fun _ => rfl) rfl <| OSuf.aop tyOK ag sm rfl <| OSuf.aopT tyOK ag (so_bin (by simp only [lk] <;> rfl) (by simp only [lk] <;> rfl) bi_lss) (fun _ => rfl) (by first | rfl | assumption | ((simp only [bl, hg, hc, sb, hcell, e1, Option.map_some, cond_true, places, ty22, ty23, ty27, ty29, ty3, ty31, ty33, ty39, ty4, ty41, ty57, ty9, Value.cells]) <;> first | done | assumption | omega) | (simp; done) | (simp; omega)) <| OSuf.aopT tyOK rfl (so_pick (by simp only [lk] <;> rfl) (by simp only [lk, cond_true, cond_false] <;> rfl)) (fun _ => rfl) rfl <| OSuf.nil <| SQ.normal ?_
          refine W.yes (by simp only [lk] <;> rfl) <| CWp.skip <| SQ.normal ?_
          refine W.seq <| W.block <| W.seq <| W.reg <| OSuf.aop tyOK rfl sm rfl <| OSuf.aop tyOK rfl sm rfl <| OSuf.aop tyOK rfl (so_indexAddr (by simp only [lk] <;> rfl) (by simp only [lk] <;> rfl) (by simp (disch := first | assumption | omega | (simp only [nx] <;> omega) | fail) only [aIndexAddr, ty22, ty33, hpl, hg, hc, sb, hcell, e1, Option.map_some, cond_true, places, ty22, ty23, ty27, ty29, ty3, ty31, ty33, ty39, ty4, ty41, ty57, ty9, Value.cells] <;> rfl)) rfl <| OSuf.aop tyOK rfl (so_load (by simp only [lk] <;> rfl) (by simp (disch := first | assumption | omega | (simp only [nx] <;> omega) | fail) only [aLoad, ty33, rowOf, hpl, hg, hc, sb, hcell, e1, Option.map_some, cond_true, places, ty22, ty23, ty27, ty29, ty3, ty31, ty33, ty39, ty4, ty41, ty57, ty9, Value.cells] <;> rfl)) rfl <| OSuf.aop tyOK rfl (so_alloc (by simp only [aAlloc, ty33] <;> rfl)) rfl <| OSuf.aop tyOK rfl (so_store (by simp only [lk] <;> rfl) (by simp only [lk] <;> rfl) (by simp (disch := first | assumption | omega | (simp only [nx] <;> omega) | fail) only [aStore, ty33, writeRow, hpl, hg, hc, sb, hcell, e1, Option.map_some, cond_true, places, ty22, ty23, ty27, ty29, ty3, ty31, ty33, ty39, ty4, ty41, ty57, ty9, Value.cells] <;> rfl)) rfl <| OSuf.nil <| SQ.normal ?_
          refine W.seq <| W.reg <| OSuf.aop tyOK rfl (so_fieldAddr (by simp only [lk] <;> rfl) (fa_ok (k := 4) ty33 rfl rfl ty31 rfl rfl)) rfl <| OSuf.aop tyOK rfl (so_load (by simp only [lk] <;> rfl) (by simp (disch := first | assumption | omega | (simp only [nx] <;> omega) | fail) only [aLoad, ty31, rowOf, hpl, hg, hc, sb, hcell, e1, Option.map_some, cond_true, places, ty22, ty23, ty27, ty29, ty3, ty31, ty33, ty39, ty4, ty41, ty57, ty9, Value.cells] <;> rfl)) rfl <| OSuf.aop tyOK rfl (so_fieldAddr (by simp only [lk] <;> rfl) (fa_ok (k := 4) ty33 rfl rfl ty31 rfl rfl)) rfl <| OSuf.aop tyOK rfl (so_load (by simp only [lk] <;> rfl) (by simp (disch := first | assumption | omega | (simp only [nx] <;> omega) | fail) only [aLoad, ty31, rowOf, hpl, hg, hc, sb, hcell, e1, Option.map_some, cond_true, places, ty22, ty23, ty27, ty29, ty3, ty31, ty33, ty39, ty4, ty41, ty57, ty9, Value.cells] <;> rfl)) rfl <| OSuf.aop tyOK rfl (so_len (by simp only [aopnds, lk] <;> rfl) (by simp (disch := first | assumption | omega | (simp only [nx] <;> omega) | fail) only [aLenOf, ty31, hpl, hg, hc, sb, hcell, e1, Option.map_some, cond_true, places, ty22, ty23, ty27, ty29, ty3, ty31, ty33, ty39, ty4, ty41, ty57, ty9, Value.cells] <;> rfl)) rfl <| OSuf.aop tyOK rfl (so_min (by simp only [aopnds, lk] <;> rfl)) rfl <| OSuf.aop tyOK rfl (so_slice (by simp only [lk] <;> rfl) (by simp only [oopnd, lk] <;> rfl) (by simp only [oopnd, lk] <;> rfl) (by simp only [oopnd, lk] <;> rfl) (cx1 _)) rfl <| OSuf.aop tyOK rfl (so_assign (by simp only [lk] <;> rfl)) rfl <| OSuf.nil <| SQ.normal ?_
          refine W.seq <| ?_
          -- leaf: upto
          -- the act, in a box; what it hands on
          obtain ⟨g, hg9⟩ : ∃ g, g = (h1.new (.cells [I64 0, encS [], U64 0, .bool false, .slice none 0 0] 1)).set h1.next (.cells [I64 a.what, encS a.key, U64 a.ts, .bool a.here, .slice vb a.V.length 0] 1) := ⟨_, rfl⟩
          have gn : g.next = h1.next + 1 := by rw [hg9]; rfl
          have go : ∀ z, z < h1.next → g.get z = h1.get z := fun z hz => by rw [hg9]; simp (disch := first | assumption | omega | (simp only [nx] <;> omega) | fail) only [hpl]
          have ga : g.get h1.next = some (.cells [I64 a.what, encS a.key, U64 a.ts, .bool a.here, .slice vb a.V.length 0] 1) := by rw [hg9]; simp (disch := first | assumption | omega | (simp only [nx] <;> omega) | fail) only [hpl]
          have Sg := S.garb (h' := g) (by omega) go
          have hlenD : D.length = A.length := by rw [← S.perm.length_eq, List.length_map]
          have hokD : ∀ d ∈ D, okKey d.key := fun d hd => (hA.v d.rc (S.perm.mem_iff.1 (List.mem_map.2 ⟨d, hd, rfl⟩))).2
          have hAl := hA.len
          have hkk : getR a.key (D.map RR.rc) = getR a.key A := getR_perm S.perm (sorted_nodup S.rf.sorted) a.key
          have hrl : ∀ z ∈ M.rows, z < h1.next := fun z hz => (row_of S.tb.ta hz).1
          have hr1 := S.tb.ta.lt
          have hs1 := S.rf.lt
          have hx1 : ∀ y, x = some y → y < h1.next := fun y hy => (S.rf.sx y hy).2
          refine W.cut (fun L h2 => ∃ (x' : Option Nat) (fl' : Int) (M' : TM) (A' : List Rec) (D' : List RR), PS h h2 (h.next + 1) (h.next + 2) x' fl' M' A' D' ∧ Recs A' (i + 1) ∧ h2.get h1.next = some (.cells [I64 a.what, encS a.key, U64 a.ts, .bool a.here, .slice vb a.V.length 0] 1) ∧ h1.next < h2.next ∧ L = [(0, .slice (some ⟨r0, 0, none⟩) l.length 0), (5, P0 (h.next + 1)), (6, P0 (h.next + 2)), (7, I64 i), (8, P0 h1.next)]) ?_ ?_
          · -- what stays of the box
            have keepA : ∀ {H1 : AHeap} {M' : TM}, FrT g H1 (h.next + 1) M M' → H1.get h1.next = some (.cells [I64 a.what, encS a.key, U64 a.ts, .bool a.here, .slice vb a.V.length 0] 1) := fun f => by
              rw [f.old _ (by omega) (by omega) (fun h9 => by have := hrl _ h9; omega)]; exact ga
            have keepB : ∀ {H1 H2 : AHeap} {x' : Option Nat}, h1.next < H1.next → H1.get h1.next = some (.cells [I64 a.what, encS a.key, U64 a.ts, .bool a.here, .slice vb a.V.length 0] 1) → FrR H1 H2 (h.next + 2) x x' → H2.get h1.next = some (.cells [I64 a.what, encS a.key, U64 a.ts, .bool a.here, .slice vb a.V.length 0] 1) := fun hn hg f => by
              rw [f.old _ hn (by omega) (fun e => by have := hx1 _ e; omega)]; exact hg
            by_cases hT : a.what = 2 ∨ a.what = 3
            · obtain ⟨H1, M', t1, t2, t3⟩ := touch_c g _ fl M A Sg.tb a.key ka a.ts (by omega)
              have rf1 : RF H1 (h.next + 2) x fl D := Sg.rf1 t3
              obtain ⟨H2, x', D', u1, u2, u3, u4⟩ := touch_r H1 _ x fl D rf1 a.key ka a.ts hokD (by omega)
              have n1 := t3.next
              have n2 := u4.next
              have gA1 := keepA t3
              have gA2 := keepB (by omega) gA1 u4
              have hp2 : (D'.map RR.rc).Perm (touchR a.key a.ts fl A) := u3.trans (touchR_perm S.perm (sorted_nodup S.rf.sorted))
              have S2 := PS.op (fl1 := fl) Sg t2 t3 (fun _ => u2) u4 hp2 (fun h => h)
              have hR2 : Recs (touchR a.key a.ts fl A) (i + 1) := ⟨Nat.le_trans (touchR_length _ _ _ _) (by omega), touchR_all _ hA.v (fun x hx => hA.v x hx) (fun ho => ⟨by simp, ho⟩)⟩
              by_cases h2 : a.what = 2
              · have d3 : (a.what == 2) = true := by simp [h2]
                subst hg9
                refine W.seq <| W.reg <| OSuf.aop tyOK rfl (so_fieldAddr (by simp only [lk] <;> rfl) (fa_ok (k := 0) ty33 rfl rfl ty3 rfl rfl)) rfl <| OSuf.aop tyOK rfl (so_load (by simp only [lk] <;> rfl) (by simp (disch := first | assumption | omega | (simp only [nx] <;> omega) | fail) only [aLoad, ty3, rowOf, hpl, places, ty22, ty23, ty27, ty29, ty3, ty31, ty33, ty39, ty4, ty41, ty57, ty9, Value.cells, gA1] <;> rfl)) rfl <| OSuf.nil <| SQ.normal ?_
                refine W.block <| W.seq <| W.seq <| W.reg <| OSuf.aopT tyOK rfl (so_bin (by simp only [lk] <;> rfl) (by simp only [lk] <;> rfl) bi_eql) (fun _ => rfl) (d3) <| OSuf.aopT tyOK rfl (so_assign (by simp only [lk] <;> rfl)) (fun _ => rfl) rfl <| OSuf.nil <| SQ.normal ?_
                refine W.yes (by simp only [lk] <;> rfl) <| CWp.skip <| SQ.normal ?_
                refine W.yes (by simp only [lk] <;> rfl) <| W.seq <| W.reg <| OSuf.aop tyOK rfl sm rfl <| OSuf.aop tyOK rfl (so_fieldAddr (by simp only [lk] <;> rfl) (fa_ok (k := 1) ty33 rfl rfl ty9 rfl rfl)) rfl <| OSuf.aop tyOK rfl (so_load (by simp only [lk] <;> rfl) (by simp (disch := first | assumption | omega | (simp only [nx] <;> omega) | fail) only [aLoad, ty9, rowOf, hpl, places, ty22, ty23, ty27, ty29, ty3, ty31, ty33, ty39, ty4, ty41, ty57, ty9, Value.cells, gA1] <;> rfl)) rfl <| OSuf.aop tyOK rfl (so_fieldAddr (by simp only [lk] <;> rfl) (fa_ok (k := 2) ty33 rfl rfl ty27 rfl rfl)) rfl <| OSuf.aop tyOK rfl (so_load (by simp only [lk] <;> rfl) (by simp (disch := first | assumption | omega | (simp only [nx] <;> omega) | fail) only [aLoad, ty27, rowOf, hpl, places, ty22, ty23, ty27, ty29, ty3, ty31, ty33, ty39, ty4, ty41, ty57, ty9, Value.cells, gA1] <;> rfl)) rfl <| OSuf.callD rfl (by simp only [aopnds, lk] <;> rfl) en10 (t1) rfl <| OSuf.nil <| SQ.normal ?_
                refine W.reg <| OSuf.aop tyOK rfl sm rfl <| OSuf.aop tyOK rfl (so_fieldAddr (by simp only [lk] <;> rfl) (fa_ok (k := 1) ty33 rfl rfl ty9 rfl rfl)) rfl <| OSuf.aop tyOK rfl (so_load (by simp only [lk] <;> rfl) (by simp (disch := first | assumption | omega | (simp only [nx] <;> omega) | fail) only [aLoad, ty9, rowOf, hpl, places, ty22, ty23, ty27, ty29, ty3, ty31, ty33, ty39, ty4, ty41, ty57, ty9, Value.cells, gA1] <;> rfl)) rfl <| OSuf.aop tyOK rfl (so_fieldAddr (by simp only [lk] <;> rfl) (fa_ok (k := 2) ty33 rfl rfl ty27 rfl rfl)) rfl <| OSuf.aop tyOK rfl (so_load (by simp only [lk] <;> rfl) (by simp (disch := first | assumption | omega | (simp only [nx] <;> omega) | fail) only [aLoad, ty27, rowOf, hpl, places, ty22, ty23, ty27, ty29, ty3, ty31, ty33, ty39, ty4, ty41, ty57, ty9, Value.cells, gA1] <;> rfl)) rfl <| OSuf.callD rfl (by simp only [aopnds, lk] <;> rfl) en11 (u1) rfl <| OSuf.nil <| BQ.normal <| ?_
                -- leaf: cut
                refine NQ.normal (L := [(0, .slice (some ⟨r0, 0, none⟩) l.length 0), (5, P0 (h.next + 1)), (6, P0 (h.next + 2)), (7, I64 i), (8, P0 h1.next)]) ?_ ⟨x', fl, M', _, D', S2, hR2, gA2, by omega, rfl⟩
                simp only [HasA, Tr.get_put, Nat.reduceEqDiff, reduceIte, and_self] <;> first | done | trivial | exact ⟨rfl, trivial⟩
              · have d3 : (a.what == 2) = false := by simp [h2]
                have d4 : (a.what == 3) = true := by rcases hT with h9 | h9; exact absurd h9 h2; simp [h9]
                subst hg9
                refine W.seq <| W.reg <| OSuf.aop tyOK rfl (so_fieldAddr (by simp only [lk] <;> rfl) (fa_ok (k := 0) ty33 rfl rfl ty3 rfl rfl)) rfl <| OSuf.aop tyOK rfl (so_load (by simp only [lk] <;> rfl) (by simp (disch := first | assumption | omega | (simp only [nx] <;> omega) | fail) only [aLoad, ty3, rowOf, hpl, places, ty22, ty23, ty27, ty29, ty3, ty31, ty33, ty39, ty4, ty41, ty57, ty9, Value.cells, gA1] <;> rfl)) rfl <| OSuf.nil <| SQ.normal ?_
                refine W.block <| W.seq <| W.seq <| W.reg <| OSuf.aopF tyOK rfl (so_bin (by simp only [lk] <;> rfl) (by simp only [lk] <;> rfl) bi_eql) (fun _ => rfl) (d3) <| OSuf.aopF tyOK rfl (so_assign (by simp only [lk] <;> rfl)) (fun _ => rfl) rfl <| OSuf.nil <| SQ.normal ?_
                refine W.no (by simp only [lk] <;> rfl) <| W.reg <| OSuf.aopT tyOK rfl (so_bin (by simp only [lk] <;> rfl) (by simp only [lk] <;> rfl) bi_eql) (fun _ => rfl) (d4) <| OSuf.aopT tyOK rfl (so_assign (by simp only [lk] <;> rfl)) (fun _ => rfl) rfl <| OSuf.nil <| SQ.normal ?_
                refine W.yes (by simp only [lk] <;> rfl) <| W.seq <| W.reg <| OSuf.aop tyOK rfl sm rfl <| OSuf.aop tyOK rfl (so_fieldAddr (by simp only [lk] <;> rfl) (fa_ok (k := 1) ty33 rfl rfl ty9 rfl rfl)) rfl <| OSuf.aop tyOK rfl (so_load (by simp only [lk] <;> rfl) (by simp (disch := first | assumption | omega | (simp only [nx] <;> omega) | fail) only [aLoad, ty9, rowOf, hpl, places, ty22, ty23, ty27, ty29, ty3, ty31, ty33, ty39, ty4, ty41, ty57, ty9, Value.cells, gA1] <;> rfl)) rfl <| OSuf.aop tyOK rfl (so_fieldAddr (by simp only [lk] <;> rfl) (fa_ok (k := 2) ty33 rfl rfl ty27 rfl rfl)) rfl <| OSuf.aop tyOK rfl (so_load (by simp only [lk] <;> rfl) (by simp (disch := first | assumption | omega | (simp only [nx] <;> omega) | fail) only [aLoad, ty27, rowOf, hpl, places, ty22, ty23, ty27, ty29, ty3, ty31, ty33, ty39, ty4, ty41, ty57, ty9, Value.cells, gA1] <;> rfl)) rfl <| OSuf.callD rfl (by simp only [aopnds, lk] <;> rfl) en10 (t1) rfl <| OSuf.nil <| SQ.normal ?_
                refine W.reg <| OSuf.aop tyOK rfl sm rfl <| OSuf.aop tyOK rfl (so_fieldAddr (by simp only [lk] <;> rfl) (fa_ok (k := 1) ty33 rfl rfl ty9 rfl rfl)) rfl <| OSuf.aop tyOK rfl (so_load (by simp only [lk] <;> rfl) (by simp (disch := first | assumption | omega | (simp only [nx] <;> omega) | fail) only [aLoad, ty9, rowOf, hpl, places, ty22, ty23, ty27, ty29, ty3, ty31, ty33, ty39, ty4, ty41, ty57, ty9, Value.cells, gA1] <;> rfl)) rfl <| OSuf.aop tyOK rfl (so_fieldAddr (by simp only [lk] <;> rfl) (fa_ok (k := 2) ty33 rfl rfl ty27 rfl rfl)) rfl <| OSuf.aop tyOK rfl (so_load (by simp only [lk] <;> rfl) (by simp (disch := first | assumption | omega | (simp only [nx] <;> omega) | fail) only [aLoad, ty27, rowOf, hpl, places, ty22, ty23, ty27, ty29, ty3, ty31, ty33, ty39, ty4, ty41, ty57, ty9, Value.cells, gA1] <;> rfl)) rfl <| OSuf.callD rfl (by simp only [aopnds, lk] <;> rfl) en11 (u1) rfl <| OSuf.nil <| BQ.normal <| ?_
                -- leaf: cut
                refine NQ.normal (L := [(0, .slice (some ⟨r0, 0, none⟩) l.length 0), (5, P0 (h.next + 1)), (6, P0 (h.next + 2)), (7, I64 i), (8, P0 h1.next)]) ?_ ⟨x', fl, M', _, D', S2, hR2, gA2, by omega, rfl⟩
                simp only [HasA, Tr.get_put, Nat.reduceEqDiff, reduceIte, and_self] <;> first | done | trivial | exact ⟨rfl, trivial⟩
            · have d3 : (a.what == 2) = false := by have : ¬ a.what = 2 := fun e => hT (.inl e); simp [this]
              have d4 : (a.what == 3) = false := by have : ¬ a.what = 3 := fun e => hT (.inr e); simp [this]
              by_cases h4 : a.what = 4
              · have d5 : (a.what == 4) = true := by simp [h4]
                obtain ⟨H1, M', t1, t2, t3⟩ := evict_x g _ fl M A Sg.tb a.key ka (by omega)
                have rf1 : RF H1 (h.next + 2) x fl D := Sg.rf1 t3
                obtain ⟨H2, x', D', u1, u2, u3, u4⟩ := evict_r H1 _ x fl D rf1 a.key ka hokD (by omega)
                have ec : evCode a.key (D.map RR.rc) = evCode a.key A := by rw [evCode, evCode, hkk]
                have ef : evFl fl a.key (D.map RR.rc) = evFl fl a.key A := by rw [evFl, evFl, hkk]
                rw [ec] at u1
                rw [ef] at u2
                have n1 := t3.next
                have n2 := u4.next
                have gA1 := keepA t3
                have gA2 := keepB (by omega) gA1 u4
                have hp2 : (D'.map RR.rc).Perm (delR a.key A) := u3.trans (S.perm.filter _)
                have S2 := PS.op (fl1 := fl) Sg t2 t3 (fun _ => u2) u4 hp2 (fun h => h)
                have hR2 : Recs (delR a.key A) (i + 1) := ⟨Nat.le_succ_of_le (Nat.le_trans (delR_length _ _) hAl), fun z hz => hA.v z (delR_mem hz)⟩
                obtain ⟨ec1, hec1⟩ : ∃ e, e = evCode a.key A := ⟨_, rfl⟩
                rw [← hec1] at t1 u1
                subst hg9
                refine W.seq <| W.reg <| OSuf.aop tyOK rfl (so_fieldAddr (by simp only [lk] <;> rfl) (fa_ok (k := 0) ty33 rfl rfl ty3 rfl rfl)) rfl <| OSuf.aop tyOK rfl (so_load (by simp only [lk] <;> rfl) (by simp (disch := first | assumption | omega | (simp only [nx] <;> omega) | fail) only [aLoad, ty3, rowOf, hpl, places, ty22, ty23, ty27, ty29, ty3, ty31, ty33, ty39, ty4, ty41, ty57, ty9, Value.cells, gA1, gA2] <;> rfl)) rfl <| OSuf.nil <| SQ.normal ?_
                refine W.block <| W.seq <| W.seq <| W.reg <| OSuf.aopF tyOK rfl (so_bin (by simp only [lk] <;> rfl) (by simp only [lk] <;> rfl) bi_eql) (fun _ => rfl) (d3) <| OSuf.aopF tyOK rfl (so_assign (by simp only [lk] <;> rfl)) (fun _ => rfl) rfl <| OSuf.nil <| SQ.normal ?_
                refine W.no (by simp only [lk] <;> rfl) <| W.reg <| OSuf.aopF tyOK rfl (so_bin (by simp only [lk] <;> rfl) (by simp only [lk] <;> rfl) bi_eql) (fun _ => rfl) (d4) <| OSuf.aopF tyOK rfl (so_assign (by simp only [lk] <;> rfl)) (fun _ => rfl) rfl <| OSuf.nil <| SQ.normal ?_
                refine W.no (by simp only [lk] <;> rfl) <| W.seq <| W.reg <| OSuf.aopT tyOK rfl (so_bin (by simp only [lk] <;> rfl) (by simp only [lk] <;> rfl) bi_eql) (fun _ => rfl) (d5) <| OSuf.aopT tyOK rfl (so_assign (by simp only [lk] <;> rfl)) (fun _ => rfl) rfl <| OSuf.nil <| SQ.normal ?_
                refine W.yes (by simp only [lk] <;> rfl) <| W.seq <| CWp.sqd tyOK mixed (ms := [0, 0, 2, 7, 0, 0, 32, 127, 255]) (by kernel_rfl) (
                    .free rfl rfl sm rfl <| .free rfl rfl (so_fieldAddr (by simp only [lk] <;> rfl) (fa_ok (k := 1) ty33 rfl rfl ty9 rfl rfl)) rfl <| .read rfl rfl (so_load (by simp only [lk] <;> rfl) (by simp (disch := first | assumption | omega | (simp only [nx] <;> omega) | fail) only [aLoad, ty9, rowOf, hpl, places, ty22, ty23, ty27, ty29, ty3, ty31, ty33, ty39, ty4, ty41, ty57, ty9, Value.cells, gA1, gA2] <;> rfl)) (by first | rfl | (simp [veq, veq1, veqs]; done) | (simp [veq, veq1, veqs, splice]; done)) trivial rfl <| .call rfl rfl (fcallO (by simp only [aopnds, lk] <;> rfl) en12 (t1)) rfl ⟨.inl rfl, trivial⟩ rfl <| .free rfl rfl sm rfl <| .free rfl rfl (so_fieldAddr (by simp only [lk] <;> rfl) (fa_ok (k := 1) ty33 rfl rfl ty9 rfl rfl)) rfl <| .read rfl rfl (so_load (by simp only [lk] <;> rfl) (by simp (disch := first | assumption | omega | (simp only [nx] <;> omega) | fail) only [aLoad, ty9, rowOf, hpl, places, ty22, ty23, ty27, ty29, ty3, ty31, ty33, ty39, ty4, ty41, ty57, ty9, Value.cells, gA1, gA2] <;> rfl)) (by first | rfl | (simp [veq, veq1, veqs]; done) | (simp [veq, veq1, veqs, splice]; done)) ⟨.inr (so_load (by simp only [lk] <;> rfl) (by simp (disch := first | assumption | omega | (simp only [nx] <;> omega) | fail) only [aLoad, ty9, rowOf, hpl, places, ty22, ty23, ty27, ty29, ty3, ty31, ty33, ty39, ty4, ty41, ty57, ty9, Value.cells, gA1, gA2] <;> rfl)), trivial⟩ rfl <| .call rfl rfl (fcallO (by simp only [aopnds, lk] <;> rfl) en13 (u1)) rfl ⟨.inl rfl, .inl rfl, trivial⟩ rfl <| .free rfl rfl (so_bw (so_bin (by simp only [lk] <;> rfl) (by simp only [lk] <;> rfl) bi_neq) (b' := false) (by simp)) rfl <| .nil) <| SQ.normal ?_
                refine W.no (by simp only [lk] <;> rfl) <| CWp.skip <| BQ.normal <| ?_
                -- leaf: cut
                refine NQ.normal (L := [(0, .slice (some ⟨r0, 0, none⟩) l.length 0), (5, P0 (h.next + 1)), (6, P0 (h.next + 2)), (7, I64 i), (8, P0 h1.next)]) ?_ ⟨x', _, M', _, D', S2, hR2, gA2, by omega, rfl⟩
                simp only [HasA, Tr.get_put, Nat.reduceEqDiff, reduceIte, and_self] <;> first | done | trivial | exact ⟨rfl, trivial⟩
              · have d5 : (a.what == 4) = false := by simp [h4]
                have hV10 : (a.V.take 10).length ≤ 10 := by rw [List.length_take]; omega
                have avg : AVs g (a.V.take 10) (.slice cb (a.V.take 10).length 0) := avs_mono cx2 Sg.next Sg.old
                by_cases hok : okKey a.key ∧ Ris (a.V.take 10)
                · obtain ⟨H1, M', t1, t2, t3⟩ := set_c g _ fl M A Sg.tb a.key a.ts a.here (a.V.take 10) _ avg (by omega) hok.1 hok.2 (by omega)
                  have rf1 : RF H1 (h.next + 2) x fl D := Sg.rf1 t3
                  have old1 : ∀ z, z < h.next → H1.get z = h.get z := fun z hz => by
                    rw [t3.old z (by have := S.next; omega) (by omega) (fun h9 => by have := S.nt.2 z h9; omega)]; exact Sg.old z hz
                  have av1 : AVs H1 (a.V.take 10) (.slice cb (a.V.take 10).length 0) := avs_mono cx2 (by have := S.next; have := t3.next; omega) old1
                  obtain ⟨H2, x', D', u1, u2, u3, u4⟩ := set_r H1 _ x fl D rf1 a.key a.ts a.here (a.V.take 10) _ av1 (by omega) hok.1 hok.2 (fun d hd => by have := (hokD d hd).2; omega) (by omega)
                  have n1 := t3.next
                  have n2 := u4.next
                  have gA1 := keepA t3
                  have gA2 := keepB (by omega) gA1 u4
                  have hp2 : (D'.map RR.rc).Perm (setR ⟨a.key, a.ts, a.here, a.V.take 10⟩ A) := u3.trans (setR_congr S.perm (sorted_nodup S.rf.sorted))
                  have S2 := PS.op (fl1 := fl) Sg t2 t3 (fun _ => u2) u4 hp2 (fun h => h)
                  have hR2 : Recs (setR ⟨a.key, a.ts, a.here, a.V.take 10⟩ A) (i + 1) := ⟨Nat.le_trans (setR_length _ _) (by omega), fun z hz => by
                    rcases setR_mem hz with h9 | h9
                    · rw [h9]; exact ⟨hV10, hok.1⟩
                    · exact hA.v z h9⟩
                  subst hg9
                  refine W.seq <| W.reg <| OSuf.aop tyOK rfl (so_fieldAddr (by simp only [lk] <;> rfl) (fa_ok (k := 0) ty33 rfl rfl ty3 rfl rfl)) rfl <| OSuf.aop tyOK rfl (so_load (by simp only [lk] <;> rfl) (by simp (disch := first | assumption | omega | (simp only [nx] <;> omega) | fail) only [aLoad, ty3, rowOf, hpl, places, ty22, ty23, ty27, ty29, ty3, ty31, ty33, ty39, ty4, ty41, ty57, ty9, Value.cells, gA1, gA2] <;> rfl)) rfl <| OSuf.nil <| SQ.normal ?_
                  refine W.block <| W.seq <| W.seq <| W.reg <| OSuf.aopF tyOK rfl (so_bin (by simp only [lk] <;> rfl) (by simp only [lk] <;> rfl) bi_eql) (fun _ => rfl) (d3) <| OSuf.aopF tyOK rfl (so_assign (by simp only [lk] <;> rfl)) (fun _ => rfl) rfl <| OSuf.nil <| SQ.normal ?_
                  refine W.no (by simp only [lk] <;> rfl) <| W.reg <| OSuf.aopF tyOK rfl (so_bin (by simp only [lk] <;> rfl) (by simp only [lk] <;> rfl) bi_eql) (fun _ => rfl) (d4) <| OSuf.aopF tyOK rfl (so_assign (by simp only [lk] <;> rfl)) (fun _ => rfl) rfl <| OSuf.nil <| SQ.normal ?_
                  refine W.no (by simp only [lk] <;> rfl) <| W.seq <| W.reg <| OSuf.aopF tyOK rfl (so_bin (by simp only [lk] <;> rfl) (by simp only [lk] <;> rfl) bi_eql) (fun _ => rfl) (d5) <| OSuf.aopF tyOK rfl (so_assign (by simp only [lk] <;> rfl)) (fun _ => rfl) rfl <| OSuf.nil <| SQ.normal ?_
                  refine W.no (by simp only [lk] <;> rfl) <| W.seq <| CWp.sqd tyOK mixed (ms := [0, 0, 2, 0, 8, 0, 32, 0, 254, 511, 0, 0, 2048, 0, 8192, 0, 32768, 0, 260096, 524287, 1048575]) (by kernel_rfl) (
                      .free rfl rfl sm rfl <| .free rfl rfl (so_fieldAddr (by simp only [lk] <;> rfl) (fa_ok (k := 1) ty33 rfl rfl ty9 rfl rfl)) rfl <| .read rfl rfl (so_load (by simp only [lk] <;> rfl) (by simp (disch := first | assumption | omega | (simp only [nx] <;> omega) | fail) only [aLoad, ty9, rowOf, hpl, places, ty22, ty23, ty27, ty29, ty3, ty31, ty33, ty39, ty4, ty41, ty57, ty9, Value.cells, gA1, gA2] <;> rfl)) (by first | rfl | (simp [veq, veq1, veqs]; done) | (simp [veq, veq1, veqs, splice]; done)) trivial rfl <| .free rfl rfl (so_fieldAddr (by simp only [lk] <;> rfl) (fa_ok (k := 2) ty33 rfl rfl ty27 rfl rfl)) rfl <| .read rfl rfl (so_load (by simp only [lk] <;> rfl) (by simp (disch := first | assumption | omega | (simp only [nx] <;> omega) | fail) only [aLoad, ty27, rowOf, hpl, places, ty22, ty23, ty27, ty29, ty3, ty31, ty33, ty39, ty4, ty41, ty57, ty9, Value.cells, gA1, gA2] <;> rfl)) (by first | rfl | (simp [veq, veq1, veqs]; done) | (simp [veq, veq1, veqs, splice]; done)) trivial rfl <| .free rfl rfl (so_fieldAddr (by simp only [lk] <;> rfl) (fa_ok (k := 3) ty33 rfl rfl ty4 rfl rfl)) rfl <| .read rfl rfl (so_load (by simp only [lk] <;> rfl) (by simp (disch := first | assumption | omega | (simp only [nx] <;> omega) | fail) only [aLoad, ty4, rowOf, hpl, places, ty22, ty23, ty27, ty29, ty3, ty31, ty33, ty39, ty4, ty41, ty57, ty9, Value.cells, gA1, gA2] <;> rfl)) (by first | rfl | (simp [veq, veq1, veqs]; done) | (simp [veq, veq1, veqs, splice]; done)) trivial rfl <| .free rfl rfl sm rfl <| .free rfl rfl (so_build (by simp only [aparts, lk] <;> rfl) (by simp (disch := first | assumption | omega | (simp only [nx] <;> omega) | fail) only [aBuild, ty39, hpl, places, ty22, ty23, ty27, ty29, ty3, ty31, ty33, ty39, ty4, ty41, ty57, ty9, Value.cells, gA1, gA2] <;> rfl)) rfl <| .call rfl rfl (fcallO (by simp only [aopnds, lk] <;> rfl) en14 (t1)) rfl ⟨.inl rfl, .inl rfl, .inl rfl, trivial⟩ rfl <| .free rfl rfl sm rfl <| .free rfl rfl (so_fieldAddr (by simp only [lk] <;> rfl) (fa_ok (k := 1) ty33 rfl rfl ty9 rfl rfl)) rfl <| .read rfl rfl (so_load (by simp only [lk] <;> rfl) (by simp (disch := first | assumption | omega | (simp only [nx] <;> omega) | fail) only [aLoad, ty9, rowOf, hpl, places, ty22, ty23, ty27, ty29, ty3, ty31, ty33, ty39, ty4, ty41, ty57, ty9, Value.cells, gA1, gA2] <;> rfl)) (by first | rfl | (simp [veq, veq1, veqs]; done) | (simp [veq, veq1, veqs, splice]; done)) ⟨.inr (so_load (by simp only [lk] <;> rfl) (by simp (disch := first | assumption | omega | (simp only [nx] <;> omega) | fail) only [aLoad, ty9, rowOf, hpl, places, ty22, ty23, ty27, ty29, ty3, ty31, ty33, ty39, ty4, ty41, ty57, ty9, Value.cells, gA1, gA2] <;> rfl)), trivial⟩ rfl <| .free rfl rfl (so_fieldAddr (by simp only [lk] <;> rfl) (fa_ok (k := 2) ty33 rfl rfl ty27 rfl rfl)) rfl <| .read rfl rfl (so_load (by simp only [lk] <;> rfl) (by simp (disch := first | assumption | omega | (simp only [nx] <;> omega) | fail) only [aLoad, ty27, rowOf, hpl, places, ty22, ty23, ty27, ty29, ty3, ty31, ty33, ty39, ty4, ty41, ty57, ty9, Value.cells, gA1, gA2] <;> rfl)) (by first | rfl | (simp [veq, veq1, veqs]; done) | (simp [veq, veq1, veqs, splice]; done)) ⟨.inr (so_load (by simp only [lk] <;> rfl) (by simp (disch := first | assumption | omega | (simp only [nx] <;> omega) | fail) only [aLoad, ty27, rowOf, hpl, places, ty22, ty23, ty27, ty29, ty3, ty31, ty33, ty39, ty4, ty41, ty57, ty9, Value.cells, gA1, gA2] <;> rfl)), trivial⟩ rfl <| .free rfl rfl (so_fieldAddr (by simp only [lk] <;> rfl) (fa_ok (k := 3) ty33 rfl rfl ty4 rfl rfl)) rfl <| .read rfl rfl (so_load (by simp only [lk] <;> rfl) (by simp (disch := first | assumption | omega | (simp only [nx] <;> omega) | fail) only [aLoad, ty4, rowOf, hpl, places, ty22, ty23, ty27, ty29, ty3, ty31, ty33, ty39, ty4, ty41, ty57, ty9, Value.cells, gA1, gA2] <;> rfl)) (by first | rfl | (simp [veq, veq1, veqs]; done) | (simp [veq, veq1, veqs, splice]; done)) ⟨.inr (so_load (by simp only [lk] <;> rfl) (by simp (disch := first | assumption | omega | (simp only [nx] <;> omega) | fail) only [aLoad, ty4, rowOf, hpl, places, ty22, ty23, ty27, ty29, ty3, ty31, ty33, ty39, ty4, ty41, ty57, ty9, Value.cells, gA1, gA2] <;> rfl)), trivial⟩ rfl <| .free rfl rfl sm rfl <| .free rfl rfl (so_build (by simp only [aparts, lk] <;> rfl) (by simp (disch := first | assumption | omega | (simp only [nx] <;> omega) | fail) only [aBuild, ty41, hpl, places, ty22, ty23, ty27, ty29, ty3, ty31, ty33, ty39, ty4, ty41, ty57, ty9, Value.cells, gA1, gA2] <;> rfl)) rfl <| .call rfl rfl (fcallO (by simp only [aopnds, lk] <;> rfl) en15 (u1)) rfl ⟨.inl rfl, .inl rfl, .inl rfl, .inl rfl, .inl rfl, .inl rfl, trivial⟩ rfl <| .free rfl rfl (so_bw (so_bin (by simp only [lk] <;> rfl) (by simp only [lk] <;> rfl) bi_neq) (b' := false) (by decide)) rfl <| .nil) <| SQ.normal ?_
                  refine W.no (by simp only [lk] <;> rfl) <| CWp.skip <| BQ.normal <| ?_
                  -- leaf: cut
                  refine NQ.normal (L := [(0, .slice (some ⟨r0, 0, none⟩) l.length 0), (5, P0 (h.next + 1)), (6, P0 (h.next + 2)), (7, I64 i), (8, P0 h1.next)]) ?_ ⟨x', fl, M', _, D', S2, hR2, gA2, by omega, rfl⟩
                  simp only [HasA, Tr.get_put, Nat.reduceEqDiff, reduceIte, and_self] <;> first | done | trivial | exact ⟨rfl, trivial⟩
                · have t1 := set_arg g (h.next + 1) a.key a.ts a.here (a.V.take 10) _ avg (by omega) hok
                  have u1 := setr_arg g (h.next + 2) a.key a.ts a.here (a.V.take 10) _ avg (by omega) hok
                  subst hg9
                  refine W.seq <| W.reg <| OSuf.aop tyOK rfl (so_fieldAddr (by simp only [lk] <;> rfl) (fa_ok (k := 0) ty33 rfl rfl ty3 rfl rfl)) rfl <| OSuf.aop tyOK rfl (so_load (by simp only [lk] <;> rfl) (by simp (disch := first | assumption | omega | (simp only [nx] <;> omega) | fail) only [aLoad, ty3, rowOf, hpl, places, ty22, ty23, ty27, ty29, ty3, ty31, ty33, ty39, ty4, ty41, ty57, ty9, Value.cells] <;> rfl)) rfl <| OSuf.nil <| SQ.normal ?_
                  refine W.block <| W.seq <| W.seq <| W.reg <| OSuf.aopF tyOK rfl (so_bin (by simp only [lk] <;> rfl) (by simp only [lk] <;> rfl) bi_eql) (fun _ => rfl) (d3) <| OSuf.aopF tyOK rfl (so_assign (by simp only [lk] <;> rfl)) (fun _ => rfl) rfl <| OSuf.nil <| SQ.normal ?_
                  refine W.no (by simp only [lk] <;> rfl) <| W.reg <| OSuf.aopF tyOK rfl (so_bin (by simp only [lk] <;> rfl) (by simp only [lk] <;> rfl) bi_eql) (fun _ => rfl) (d4) <| OSuf.aopF tyOK rfl (so_assign (by simp only [lk] <;> rfl)) (fun _ => rfl) rfl <| OSuf.nil <| SQ.normal ?_
                  refine W.no (by simp only [lk] <;> rfl) <| W.seq <| W.reg <| OSuf.aopF tyOK rfl (so_bin (by simp only [lk] <;> rfl) (by simp only [lk] <;> rfl) bi_eql) (fun _ => rfl) (d5) <| OSuf.aopF tyOK rfl (so_assign (by simp only [lk] <;> rfl)) (fun _ => rfl) rfl <| OSuf.nil <| SQ.normal ?_
                  refine W.no (by simp only [lk] <;> rfl) <| W.seq <| CWp.sqd tyOK mixed (ms := [0, 0, 2, 0, 8, 0, 32, 0, 254, 511, 0, 0, 2048, 0, 8192, 0, 32768, 0, 260096, 524287, 1048575]) (by kernel_rfl) (
                      .free rfl rfl sm rfl <| .free rfl rfl (so_fieldAddr (by simp only [lk] <;> rfl) (fa_ok (k := 1) ty33 rfl rfl ty9 rfl rfl)) rfl <| .read rfl rfl (so_load (by simp only [lk] <;> rfl) (by simp (disch := first | assumption | omega | (simp only [nx] <;> omega) | fail) only [aLoad, ty9, rowOf, hpl, places, ty22, ty23, ty27, ty29, ty3, ty31, ty33, ty39, ty4, ty41, ty57, ty9, Value.cells] <;> rfl)) (by first | rfl | (simp [veq, veq1, veqs]; done) | (simp [veq, veq1, veqs, splice]; done)) trivial rfl <| .free rfl rfl (so_fieldAddr (by simp only [lk] <;> rfl) (fa_ok (k := 2) ty33 rfl rfl ty27 rfl rfl)) rfl <| .read rfl rfl (so_load (by simp only [lk] <;> rfl) (by simp (disch := first | assumption | omega | (simp only [nx] <;> omega) | fail) only [aLoad, ty27, rowOf, hpl, places, ty22, ty23, ty27, ty29, ty3, ty31, ty33, ty39, ty4, ty41, ty57, ty9, Value.cells] <;> rfl)) (by first | rfl | (simp [veq, veq1, veqs]; done) | (simp [veq, veq1, veqs, splice]; done)) trivial rfl <| .free rfl rfl (so_fieldAddr (by simp only [lk] <;> rfl) (fa_ok (k := 3) ty33 rfl rfl ty4 rfl rfl)) rfl <| .read rfl rfl (so_load (by simp only [lk] <;> rfl) (by simp (disch := first | assumption | omega | (simp only [nx] <;> omega) | fail) only [aLoad, ty4, rowOf, hpl, places, ty22, ty23, ty27, ty29, ty3, ty31, ty33, ty39, ty4, ty41, ty57, ty9, Value.cells] <;> rfl)) (by first | rfl | (simp [veq, veq1, veqs]; done) | (simp [veq, veq1, veqs, splice]; done)) trivial rfl <| .free rfl rfl sm rfl <| .free rfl rfl (so_build (by simp only [aparts, lk] <;> rfl) (by simp (disch := first | assumption | omega | (simp only [nx] <;> omega) | fail) only [aBuild, ty39, hpl, places, ty22, ty23, ty27, ty29, ty3, ty31, ty33, ty39, ty4, ty41, ty57, ty9, Value.cells] <;> rfl)) rfl <| .call rfl rfl (fcallO (by simp only [aopnds, lk] <;> rfl) en14 (t1)) rfl ⟨.inl rfl, .inl rfl, .inl rfl, trivial⟩ rfl <| .free rfl rfl sm rfl <| .free rfl rfl (so_fieldAddr (by simp only [lk] <;> rfl) (fa_ok (k := 1) ty33 rfl rfl ty9 rfl rfl)) rfl <| .read rfl rfl (so_load (by simp only [lk] <;> rfl) (by simp (disch := first | assumption | omega | (simp only [nx] <;> omega) | fail) only [aLoad, ty9, rowOf, hpl, places, ty22, ty23, ty27, ty29, ty3, ty31, ty33, ty39, ty4, ty41, ty57, ty9, Value.cells] <;> rfl)) (by first | rfl | (simp [veq, veq1, veqs]; done) | (simp [veq, veq1, veqs, splice]; done)) ⟨.inr (so_load (by simp only [lk] <;> rfl) (by simp (disch := first | assumption | omega | (simp only [nx] <;> omega) | fail) only [aLoad, ty9, rowOf, hpl, places, ty22, ty23, ty27, ty29, ty3, ty31, ty33, ty39, ty4, ty41, ty57, ty9, Value.cells] <;> rfl)), trivial⟩ rfl <| .free rfl rfl (so_fieldAddr (by simp only [lk] <;> rfl) (fa_ok (k := 2) ty33 rfl rfl ty27 rfl rfl)) rfl <| .read rfl rfl (so_load (by simp only [lk] <;> rfl) (by simp (disch := first | assumption | omega | (simp only [nx] <;> omega) | fail) only [aLoad, ty27, rowOf, hpl, places, ty22, ty23, ty27, ty29, ty3, ty31, ty33, ty39, ty4, ty41, ty57, ty9, Value.cells] <;> rfl)) (by first | rfl | (simp [veq, veq1, veqs]; done) | (simp [veq, veq1, veqs, splice]; done)) ⟨.inr (so_load (by simp only [lk] <;> rfl) (by simp (disch := first | assumption | omega | (simp only [nx] <;> omega) | fail) only [aLoad, ty27, rowOf, hpl, places, ty22, ty23, ty27, ty29, ty3, ty31, ty33, ty39, ty4, ty41, ty57, ty9, Value.cells] <;> rfl)), trivial⟩ rfl <| .free rfl rfl (so_fieldAddr (by simp only [lk] <;> rfl) (fa_ok (k := 3) ty33 rfl rfl ty4 rfl rfl)) rfl <| .read rfl rfl (so_load (by simp only [lk] <;> rfl) (by simp (disch := first | assumption | omega | (simp only [nx] <;> omega) | fail) only [aLoad, ty4, rowOf, hpl, places, ty22, ty23, ty27, ty29, ty3, ty31, ty33, ty39, ty4, ty41, ty57, ty9, Value.cells] <;> rfl)) (by first | rfl | (simp [veq, veq1, veqs]; done) | (simp [veq, veq1, veqs, splice]; done)) ⟨.inr (so_load (by simp only [lk] <;> rfl) (by simp (disch := first | assumption | omega | (simp only [nx] <;> omega) | fail) only [aLoad, ty4, rowOf, hpl, places, ty22, ty23, ty27, ty29, ty3, ty31, ty33, ty39, ty4, ty41, ty57, ty9, Value.cells] <;> rfl)), trivial⟩ rfl <| .free rfl rfl sm rfl <| .free rfl rfl (so_build (by simp only [aparts, lk] <;> rfl) (by simp (disch := first | assumption | omega | (simp only [nx] <;> omega) | fail) only [aBuild, ty41, hpl, places, ty22, ty23, ty27, ty29, ty3, ty31, ty33, ty39, ty4, ty41, ty57, ty9, Value.cells] <;> rfl)) rfl <| .call rfl rfl (fcallO (by simp only [aopnds, lk] <;> rfl) en15 (u1)) rfl ⟨.inl rfl, .inl rfl, .inl rfl, .inl rfl, .inl rfl, .inl rfl, trivial⟩ rfl <| .free rfl rfl (so_bw (so_bin (by simp only [lk] <;> rfl) (by simp only [lk] <;> rfl) bi_neq) (b' := false) (by decide)) rfl <| .nil) <| SQ.normal ?_
                  refine W.no (by simp only [lk] <;> rfl) <| CWp.skip <| BQ.normal <| ?_
                  -- leaf: cut
                  refine NQ.normal (L := [(0, .slice (some ⟨r0, 0, none⟩) l.length 0), (5, P0 (h.next + 1)), (6, P0 (h.next + 2)), (7, I64 i), (8, P0 h1.next)]) ?_ ⟨x, fl, M, A, D, Sg, ⟨by omega, hA.v⟩, ga, by omega, rfl⟩
                  simp only [HasA, Tr.get_put, Nat.reduceEqDiff, reduceIte, and_self] <;> first | done | trivial | exact ⟨rfl, trivial⟩
          · clear Sg S hg
            rintro L a' h2 ha' ⟨x', fl', M', A', D', S', hA', gA, hlt2, rfl⟩
            have ha := ha'
            have hlenD' : D'.length = A'.length := by rw [← S'.perm.length_eq, List.length_map]
            have hokD' : ∀ d ∈ D', d.key.length < 9223372036854775808 := fun d hd => by have := (hA'.v d.rc (S'.perm.mem_iff.1 (List.mem_map.2 ⟨d, hd, rfl⟩))).2.2; show d.rc.key.length < _; omega
            have hAl' := hA'.len
            have hv' : ∀ y ∈ A', y.V.length ≤ 1000000 := fun y hy => by have := (hA'.v y hy).1; omega
            have hg : h2.get r0 = some (.ro (flatA l)) := by rw [S'.old r0 hr0]; exact hg0
            obtain ⟨c, hc2⟩ : ∃ c, l[i / 2]? = some c := ⟨l[i / 2]'(by omega), by simp⟩
            obtain ⟨kc, _, _⟩ := hb.ok c (List.mem_of_getElem? hc2)
            have hcc : (0 ≤ ((i / 2 : Nat) : Int) ∧ ((i / 2 : Nat) : Int) < (l.length : Int)) := by omega
            have c1 : (flatA l)[i / 2 * 5 + 1]? = some (encS c.key) := flatA_get (j := 1) hc2 (by omega)
            have w9 : IntKind.i64.wrap ((i : Int).tdiv 2) = ((i / 2 : Nat) : Int) := by
              have e : (i : Int).tdiv 2 = ((i / 2 : Nat) : Int) := by rw [Int.tdiv_eq_ediv_of_nonneg (by omega)]; omega
              rw [e, wrap_i64 (by omega) (by omega)]
            have s1 := sametab_c h2 _ _ x' fl' M' A' D' S'.tb S'.rf S'.perm a.key [] ka (by simp) hv' hokD' (by omega)
            have s2 := sametab_c h2 _ _ x' fl' M' A' D' S'.tb S'.rf S'.perm c.key a.key kc ka hv' hokD' (by omega)
            have s3 := sametab_c h2 _ _ x' fl' M' A' D' S'.tb S'.rf S'.perm [] a.key (by simp) ka hv' hokD' (by omega)
            refine SQ.normal <| CWp.known ha ?_
            simp only [mkA]
            refine W.seq <| W.regD tyOK mixed (by kernel_rfl) <| SqW.aop rfl sm rfl <| SqW.aop rfl sm rfl <| SqW.aop rfl (so_fieldAddr (by simp only [lk] <;> rfl) (fa_ok (k := 1) ty33 rfl rfl ty9 rfl rfl)) rfl <| SqW.aop rfl (so_load (by simp only [lk] <;> rfl) (by simp (disch := first | assumption | omega | (simp only [nx] <;> omega) | fail) only [aLoad, ty9, rowOf, hpl, hg, gA, hcc, sb, c1, places, ty22, ty23, ty27, ty29, ty3, ty31, ty33, ty39, ty4, ty41, ty57, ty9, Value.cells] <;> rfl)) rfl <| SqW.callD rfl (by simp only [aopnds, lk] <;> rfl) en16 (s1) rfl <| SqW.aopF rfl (so_not (by simp only [lk] <;> rfl)) (fun _ => rfl) rfl <| SqW.aopF rfl sm (fun _ => rfl) rfl <| SqW.aop ag sm rfl <| SqW.aop ag sm rfl <| SqW.aop ag sm rfl <| SqW.aop ag sm rfl <| SqW.aop ag (so_bin (by simp only [lk] <;> rfl) (by simp only [lk] <;> rfl) (bi_w (bi_quo (by decide)) (by first | (simp only [v2, w9] <;> rfl) | rfl))) rfl <| SqW.aop ag (so_indexAddr (by simp only [lk] <;> rfl) (by simp only [lk] <;> rfl) (by simp (disch := first | assumption | omega | (simp only [nx] <;> omega) | fail) only [aIndexAddr, ty22, ty33, hpl, hg, gA, hcc, sb, c1, places, ty22, ty23, ty27, ty29, ty3, ty31, ty33, ty39, ty4, ty41, ty57, ty9, Value.cells] <;> rfl)) rfl <| SqW.aop ag (so_fieldAddr (by simp only [lk] <;> rfl) (fa_ok (k := 1) ty33 rfl rfl ty9 rfl rfl)) rfl <| SqW.aop ag (so_load (by simp only [lk] <;> rfl) (by simp (disch := first | assumption | omega | (simp only [nx] <;> omega) | fail) only [aLoad, ty9, rowOf, hpl, hg, gA, hcc, sb, c1, places, ty22, ty23, ty27, ty29, ty3, ty31, ty33, ty39, ty4, ty41, ty57, ty9, Value.cells] <;> rfl)) rfl <| SqW.aop ag (so_fieldAddr (by simp only [lk] <;> rfl) (fa_ok (k := 1) ty33 rfl rfl ty9 rfl rfl)) rfl <| SqW.aop ag (so_load (by simp only [lk] <;> rfl) (by simp (disch := first | assumption | omega | (simp only [nx] <;> omega) | fail) only [aLoad, ty9, rowOf, hpl, hg, gA, hcc, sb, c1, places, ty22, ty23, ty27, ty29, ty3, ty31, ty33, ty39, ty4, ty41, ty57, ty9, Value.cells] <;> rfl)) rfl <| SqW.callD ag (by simp only [aopnds, lk] <;> rfl) en16 (s2) rfl <| SqW.aopF ag (so_not (by simp only [lk] <;> rfl)) (fun _ => rfl) rfl <| SqW.aopF rfl (so_pick (by simp only [lk] <;> rfl) (by simp only [lk, cond_true, cond_false] <;> rfl)) (fun _ => rfl) rfl <| SqW.aopF rfl sm (fun _ => rfl) rfl <| SqW.aop ag sm rfl <| SqW.aop ag sm rfl <| SqW.aop ag (so_fieldAddr (by simp only [lk] <;> rfl) (fa_ok (k := 1) ty33 rfl rfl ty9 rfl rfl)) rfl <| SqW.aop ag (so_load (by simp only [lk] <;> rfl) (by simp (disch := first | assumption | omega | (simp only [nx] <;> omega) | fail) only [aLoad, ty9, rowOf, hpl, hg, gA, hcc, sb, c1, places, ty22, ty23, ty27, ty29, ty3, ty31, ty33, ty39, ty4, ty41, ty57, ty9, Value.cells] <;> rfl)) rfl <| SqW.callD ag (by simp only [aopnds, lk] <;> rfl) en16 (s3) rfl <| SqW.aopF ag (so_not (by simp only [lk] <;> rfl)) (fun _ => rfl) rfl <| SqW.aopF rfl (so_pick (by simp only [lk] <;> rfl) (by simp only [lk, cond_true, cond_false] <;> rfl)) (fun _ => rfl) rfl <| SqW.nil <| SQ.normal ?_
            refine W.no (by simp only [lk] <;> rfl) <| CWp.skip <| BQ.normal <| SQ.normal ?_
            refine W.reg <| OSuf.aop tyOK rfl sm rfl <| OSuf.aop tyOK rfl (so_bin (by simp only [lk] <;> rfl) (by simp only [lk] <;> rfl) (bi_w bi_add (by first | (simp only [v2, w9] <;> rfl) | rfl))) rfl <| OSuf.aop tyOK rfl (so_assign (by simp only [lk] <;> rfl)) rfl <| OSuf.nil <| ?_
            -- leaf: round
            refine LQ.normal (m := q - 1) (L := [(0, .slice (some ⟨r0, 0, none⟩) l.length 0), (5, P0 (h.next + 1)), (6, P0 (h.next + 2)), (7, I64 ((i + 1 : Nat) : Int))]) (by omega) ?_ ⟨i + 1, x', fl', M', A', D', by omega, by omega, by omega, S', hA', rfl⟩
            simp only [HasA, Tr.get_put, Nat.reduceEqDiff, reduceIte, v2, and_self]
        · refine W.seq <| W.seq <| W.reg <| OSuf.aop tyOK rfl sm rfl <| OSuf.aop tyOK rfl sm rfl <| OSuf.aop tyOK rfl (so_len (by simp only [aopnds, lk] <;> rfl) (by simp (disch := first | assumption | omega | (simp only [nx] <;> omega) | fail) only [aLenOf, ty22, hpl] <;> rfl)) rfl <| OSuf.aopT tyOK rfl (so_bin (by simp only [lk] <;> rfl) (by simp only [lk] <;> rfl) bi_lss) (fun _ => rfl) (by first | rfl | assumption | ((simp only [bl]) <;> first | done | assumption | omega) | (simp; done) | (simp; omega)) <| OSuf.aopT tyOK rfl sm (fun _ => rfl) rfl <| OSuf.aop tyOK ag sm rfl <| OSuf.aopF tyOK ag (so_bin (by simp only [lk] <;> rfl) (by simp only [lk] <;> rfl) bi_lss) (fun _ => rfl) (by first | rfl | assumption | ((simp only [bl]) <;> first | done | assumption | omega) | (simp; done) | (simp; omega)) <| OSuf.aopF tyOK rfl (so_pick (by simp only [lk] <;> rfl) (by simp only [lk, cond_true, cond_false] <;> rfl)) (fun _ => rfl) rfl <| OSuf.nil <| SQ.normal ?_
          refine W.no (by simp only [lk] <;> rfl) <| CWp.exit <| SQ.exit <| LQ.exit <| BQ.exit <| ?_
          -- leaf: cut
          exact NQ.normal (L := []) trivial rfl
      · refine W.seq <| W.seq <| W.reg <| OSuf.aop tyOK rfl sm rfl <| OSuf.aop tyOK rfl sm rfl <| OSuf.aop tyOK rfl (so_len (by simp only [aopnds, lk] <;> rfl) (by simp (disch := first | assumption | omega | (simp only [nx] <;> omega) | fail) only [aLenOf, ty22, hpl] <;> rfl)) rfl <| OSuf.aopF tyOK rfl (so_bin (by simp only [lk] <;> rfl) (by simp only [lk] <;> rfl) bi_lss) (fun _ => rfl) (by first | rfl | assumption | ((simp only [bl]) <;> first | done | assumption | omega) | (simp; done) | (simp; omega)) <| OSuf.aopF tyOK rfl sm (fun _ => rfl) rfl <| OSuf.pass ag rfl <| OSuf.pass ag rfl <| OSuf.aopF tyOK rfl (so_pick (by simp only [lk] <;> rfl) (by simp only [lk, cond_true, cond_false] <;> rfl)) (fun _ => rfl) rfl <| OSuf.nil <| SQ.normal ?_
        refine W.no (by simp only [lk] <;> rfl) <| CWp.exit <| SQ.exit <| LQ.exit <| BQ.exit <| ?_
        -- leaf: cut
        exact NQ.normal (L := []) trivial rfl
    rintro L a' h' ha rfl
    refine SQ.normal <| CWp.known ha ?_
    simp only [mkA]
    refine W.seq <| W.reg <| OSuf.callD rfl (by simp only [aopnds, lk] <;> rfl) en9 (works_c _) rfl <| OSuf.aopT tyOK rfl (so_assign (by simp only [lk] <;> rfl)) (fun _ => rfl) rfl <| OSuf.nil <| SQ.normal ?_
    refine CWp.ret <| FQ.ret (by simp only [aRet, Try.f3, aResults, aResult, lk, Nat.reduceEqDiff, reduceIte] <;> rfl) ?_
    -- leaf: end
    rfl
end Go.Proofs.Ytldhcjfhlfgleaa
