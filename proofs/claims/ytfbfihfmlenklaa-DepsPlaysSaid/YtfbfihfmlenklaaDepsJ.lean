/-
  Merged: DepsI, DepsJ.
-/
import Derived.Test.YtfbfihfmlenklaaDepsH
namespace Go.Proofs.Ytfbfihfmlenklaa
open Go.Ab
set_option linter.unusedSimpArgs false
set_option linter.unusedVariables false
set_option maxRecDepth 10000
set_option maxHeartbeats 8000000

theorem goner_c (h0 : AHeap) (s : Nat) (x : Option Nat) (D : List T3) (hB : RD h0 s x D) (hl : D.length ≤ 1000) (ts : Int) :
    FWp Try.prog 17 [P0 s, U64 ts] h0 fun u h' => ∃ (Wk G : List Int) (lv : Value), (∀ y, y ∈ Wk ↔ RchD D ts y) ∧ G.Pairwise (· < ·) ∧ (∀ y, y ∈ G ↔ y ∈ Wk ∧ ¬ y = ts) ∧ G.length ≤ 2000 ∧
      SV h' 3 h0.next (flatT (D.filter (kpW Wk))) lv ∧ h'.get s = some (.cells [lv] 1) ∧ SV h' 1 h0.next (G.map (Value.int .u64)) u ∧ (∀ y, svRow lv = some y → ¬ svRow u = some y) ∧ h0.next ≤ h'.next ∧ ∀ z, z < h0.next → ¬ s = z → h'.get z = h0.get z := by
  obtain ⟨b, hv, hat⟩ := hB.val
  have hlt := hB.lt
  refine W.enter tyOK Try.func17 rfl rfl ?_
  simp only [entry]
  refine W.seq <| W.reg <| OSuf.aop tyOK rfl (so_assign (by simp only [lk] <;> rfl)) rfl <| OSuf.nil <| SQ.normal ?_
  refine W.seq <| W.reg <| OSuf.aop tyOK rfl sm rfl <| OSuf.aop tyOK rfl (so_buildSlice (by simp only [aparts, lk] <;> rfl) (by simp (disch := first | assumption | omega | (simp only [nx] <;> omega) | fail) only [aBuildSlice, ty36, ty29, hpl, places, ty26, ty28, ty29, ty36, ty4, ty63, Value.cells] <;> rfl)) rfl <| OSuf.aop tyOK rfl (so_assign (by simp only [lk] <;> rfl)) rfl <| OSuf.nil <| SQ.normal ?_
  refine W.seq <| W.seq <| W.reg <| OSuf.aop tyOK rfl (so_assign (by simp only [lk] <;> rfl)) rfl <| OSuf.nil <| SQ.normal ?_
  -- leaf: loop
  refine W.cut (fun L h => ∃ (Wk : List Int) (g c : Nat), W1 D ts Wk ∧ Dn D Wk Wk.length ∧ WA h0 h Wk g c ∧ (∀ z, z < h0.next → h.get z = h0.get z) ∧ L = [(0, P0 s), (5, .slice (some ⟨g, 0, none⟩) Wk.length c)]) (W.block (W.loop (fun n L h => ∃ (i : Nat) (Wk : List Int) (g c : Nat), n + i = D.length + 1 ∧ i ≤ Wk.length ∧ W1 D ts Wk ∧ Dn D Wk i ∧ WA h0 h Wk g c ∧ (∀ z, z < h0.next → h.get z = h0.get z) ∧ L = [(0, P0 s), (5, .slice (some ⟨g, 0, none⟩) Wk.length c), (6, I64 i)]) (n := D.length + 1)
    ⟨0, [ts], h0.next, 2, by omega, by simp, ⟨rfl, by simp, fun y hy => by simp at hy; subst hy; exact .refl, fun y hy => by simp at hy; exact .inl hy⟩, fun j y hj => absurd hj (Nat.not_lt_zero _), ⟨.inr rfl, Nat.le_refl _, by simp only [nx]; omega, by rw [AHeap.get_new_at (by omega)]; rfl⟩, fun z hz => by simp (disch := first | assumption | omega | (simp only [nx] <;> omega) | fail) only [hpl], rfl⟩ ?_ ?_)) ?_
  · simp [HasA, Tr.get_put]
  · rintro n L h ⟨i, Wk, g, c, hn, hiW, hW, hD, hA, hk, rfl⟩
    simp only [mkA]
    have hWl := hW.len
    have w2 : IntKind.i64.wrap ((i : Int) + 1) = ((i + 1 : Nat) : Int) := by rw [wrap_i64 (by omega) (by omega)]; omega
    by_cases hi : (i : Int) < (Wk.length : Int)
    · obtain ⟨gi, hgi⟩ : ∃ gi, Wk[i]? = some gi := ⟨Wk[i]'(by omega), by simp⟩
      refine W.seq <| W.seq <| W.reg <| OSuf.aop tyOK rfl sm rfl <| OSuf.aop tyOK rfl sm rfl <| OSuf.aop tyOK rfl (so_len (by simp only [aopnds, lk] <;> rfl) (by simp (disch := first | assumption | omega | (simp only [nx] <;> omega) | fail) only [aLenOf, ty36, hpl] <;> rfl)) rfl <| OSuf.aopT tyOK rfl (so_bin (by simp only [lk] <;> rfl) (by simp only [lk] <;> rfl) bi_lss) (fun _ => rfl) (by first | rfl | assumption | ((simp only [bl]) <;> first | done | assumption | omega) | (simp; done) | (simp; omega)) <| OSuf.nil <| SQ.normal ?_
      refine W.yes (by simp only [lk] <;> rfl) <| CWp.skip <| SQ.normal ?_
      refine W.seq <| W.block <| W.seq <| W.reg <| OSuf.aop tyOK rfl (so_assign (by simp only [lk] <;> rfl)) rfl <| OSuf.nil <| SQ.normal ?_
      -- leaf: loop
      refine W.cut (fun L h => ∃ (Wk : List Int) (g c : Nat), i < Wk.length ∧ W1 D ts Wk ∧ Dn D Wk (i + 1) ∧ WA h0 h Wk g c ∧ (∀ z, z < h0.next → h.get z = h0.get z) ∧ L = [(0, P0 s), (5, .slice (some ⟨g, 0, none⟩) Wk.length c), (6, I64 i)]) (W.block (W.loop (fun n L h => ∃ (k : Nat) (Wk : List Int) (g c : Nat), n + k = D.length ∧ Wk[i]? = some gi ∧ W1 D ts Wk ∧ Dn D Wk i ∧ Dk D Wk gi k ∧ WA h0 h Wk g c ∧ (∀ z, z < h0.next → h.get z = h0.get z) ∧ L = [(0, P0 s), (5, .slice (some ⟨g, 0, none⟩) Wk.length c), (6, I64 i), (7, I64 k)]) (n := D.length)
        ⟨0, Wk, g, c, by omega, hgi, hW, hD, fun t ht => by simp at ht, hA, hk, rfl⟩ ?_ ?_)) ?_
      · simp [HasA, Tr.get_put]
      · clear hW hD hA hk hgi hWl hi hiW Wk g c h
        rintro m L h ⟨k, Wk, g, c, hm, hgi, hW, hD, hDk, hA, hk, rfl⟩
        simp only [mkA]
        have hWl := hW.len
        have hiW := (List.getElem?_eq_some_iff.1 hgi).1
        have w3 : IntKind.i64.wrap ((k : Int) + 1) = ((k + 1 : Nat) : Int) := by rw [wrap_i64 (by omega) (by omega)]; omega
        have hv' : h.get s = some (.cells [.slice b D.length 0] 1) := by rw [hk s hlt]; exact hv
        by_cases hkk : (k : Int) < (D.length : Int)
        · obtain ⟨t, ht⟩ : ∃ t, D[k]? = some t := ⟨D[k]'(by omega), by simp⟩
          obtain ⟨y, rfl, y1, y2, y3, y4⟩ := hat k (by omega)
          have y4' : h.get y = some (.cells (flatT D) 3) := by rw [hk y y1]; exact y4
          have hc : (0 ≤ (k : Int) ∧ (k : Int) < (D.length : Int)) := by omega
          have hci : (0 ≤ (i : Int) ∧ (i : Int) < (Wk.length : Int)) := by omega
          have tc0 : (flatT D)[k * 3]? = some (U64 t.1.1) := flatT_get 0 ht (by omega)
          have tc0' : (flatT D)[k * 3 + 0]? = some (U64 t.1.1) := flatT_get 0 ht (by omega)
          have tc1 : (flatT D)[k * 3 + 1]? = some (U64 t.1.2) := flatT_get 1 ht (by omega)
          have tc2 : (flatT D)[k * 3 + 2]? = some (.bool t.2) := flatT_get 2 ht (by omega)
          have hrow := hA.row
          have hgg : (Wk.map (Value.int .u64))[i]? = some (.int .u64 gi) := by simp [hgi]
          have htD := List.mem_of_getElem? ht
          have keep : (t.2 = true → t.1.2 = gi → t.1.1 ∈ Wk) → ∃ (k2 : Nat) (W2 : List Int) (g2 c2 : Nat), m - 1 + k2 = D.length ∧ W2[i]? = some gi ∧ W1 D ts W2 ∧ Dn D W2 i ∧ Dk D W2 gi k2 ∧ WA h0 h W2 g2 c2 ∧ (∀ z, z < h0.next → h.get z = h0.get z) ∧ [(0, P0 s), (5, .slice (some ⟨g, 0, none⟩) Wk.length c), (6, I64 i), (7, I64 ((k + 1 : Nat) : Int))] = [(0, P0 s), (5, .slice (some ⟨g2, 0, none⟩) W2.length c2), (6, I64 i), (7, I64 k2)] :=
            fun e => ⟨k + 1, Wk, g, c, by omega, hgi, hW, hD, hDk.next ht e, hA, hk, rfl⟩
          cases h2 : t.2
          · refine W.seq <| W.seq <| W.reg <| OSuf.aop tyOK rfl sm rfl <| OSuf.aop tyOK rfl sm rfl <| OSuf.aop tyOK rfl (so_nilCheck (by simp only [lk] <;> rfl)) rfl <| OSuf.aop tyOK rfl (so_fieldAddr (by simp only [lk] <;> rfl) (fa_ok (k := 0) ty28 rfl rfl ty26 rfl rfl)) rfl <| OSuf.aop tyOK rfl (so_load (by simp only [lk] <;> rfl) (by simp (disch := first | assumption | omega | (simp only [nx] <;> omega) | fail) only [aLoad, ty26, rowOf, hpl, hv', hc, sb, y4', tc2] <;> rfl)) rfl <| OSuf.aop tyOK rfl (so_len (by simp only [aopnds, lk] <;> rfl) (by simp (disch := first | assumption | omega | (simp only [nx] <;> omega) | fail) only [aLenOf, ty26, hpl, hv', hc, sb, y4', tc2] <;> rfl)) rfl <| OSuf.aopT tyOK rfl (so_bin (by simp only [lk] <;> rfl) (by simp only [lk] <;> rfl) bi_lss) (fun _ => rfl) (by first | rfl | assumption | ((simp only [bl, hv', hc, sb, y4', tc2]) <;> first | done | assumption | omega) | (simp; done) | (simp; omega)) <| OSuf.nil <| SQ.normal ?_
            refine W.yes (by simp only [lk] <;> rfl) <| CWp.skip <| SQ.normal ?_
            refine W.seq <| W.block <| W.seq <| W.regD tyOK mixed (by kernel_rfl) <| SqW.aop rfl sm rfl <| SqW.aop rfl (so_nilCheck (by simp only [lk] <;> rfl)) rfl <| SqW.aop rfl (so_fieldAddr (by simp only [lk] <;> rfl) (fa_ok (k := 0) ty28 rfl rfl ty26 rfl rfl)) rfl <| SqW.aop rfl (so_load (by simp only [lk] <;> rfl) (by simp (disch := first | assumption | omega | (simp only [nx] <;> omega) | fail) only [aLoad, ty26, rowOf, hpl, hv', hc, sb, y4', tc2] <;> rfl)) rfl <| SqW.aop rfl sm rfl <| SqW.aop rfl (so_indexAddr (by simp only [lk] <;> rfl) (by simp only [lk] <;> rfl) (by simp (disch := first | assumption | omega | (simp only [nx] <;> omega) | fail) only [aIndexAddr, ty26, ty63, hpl, hv', hc, sb, y4', tc2] <;> rfl)) rfl <| SqW.aop rfl (so_fieldAddr (by simp only [lk] <;> rfl) (fa_ok (k := 2) ty63 rfl rfl ty4 rfl rfl)) rfl <| SqW.aopF rfl (so_load (by simp only [lk] <;> rfl) (by simp (disch := first | assumption | omega | (simp only [nx] <;> omega) | fail) only [aLoad, ty4, rowOf, hpl, hv', hc, sb, y4', tc2] <;> rfl)) (fun _ => rfl) (h2) <| SqW.aopF rfl sm (fun _ => rfl) rfl <| SqW.pass ag rfl <| SqW.pass ag rfl <| SqW.pass ag rfl <| SqW.pass ag rfl <| SqW.pass ag rfl <| SqW.pass ag rfl <| SqW.pass ag rfl <| SqW.pass ag rfl <| SqW.pass ag rfl <| SqW.pass ag rfl <| SqW.pass ag rfl <| SqW.pass ag rfl <| SqW.pass ag rfl <| SqW.aopF rfl (so_pick (by simp only [lk] <;> rfl) (by simp only [lk, cond_true, cond_false] <;> rfl)) (fun _ => rfl) rfl <| SqW.aopF rfl sm (fun _ => rfl) rfl <| SqW.pass ag rfl <| SqW.pass ag rfl <| SqW.pass ag rfl <| SqW.pass ag rfl <| SqW.pass ag rfl <| SqW.pass ag rfl <| SqW.pass ag rfl <| SqW.pass ag rfl <| SqW.pass ag rfl <| SqW.pass ag rfl <| SqW.pass ag rfl <| SqW.aopF rfl (so_pick (by simp only [lk] <;> rfl) (by simp only [lk, cond_true, cond_false] <;> rfl)) (fun _ => rfl) rfl <| SqW.nil <| SQ.normal ?_
            refine W.no (by simp only [lk] <;> rfl) <| CWp.skip <| BQ.normal <| SQ.normal ?_
            refine W.reg <| OSuf.aop tyOK rfl sm rfl <| OSuf.aop tyOK rfl (so_bin (by simp only [lk] <;> rfl) (by simp only [lk] <;> rfl) (bi_w bi_add (by first | (simp only [w3] <;> rfl) | rfl))) rfl <| OSuf.aop tyOK rfl (so_assign (by simp only [lk] <;> rfl)) rfl <| OSuf.nil <| ?_
            -- leaf: round
            refine LQ.normal (m := m - 1) (L := [(0, P0 s), (5, .slice (some ⟨g, 0, none⟩) Wk.length c), (6, I64 i), (7, I64 ((k + 1 : Nat) : Int))]) (by omega) ?_ (keep fun e => by rw [h2] at e; cases e)
            simp only [HasA, Tr.get_put, Nat.reduceEqDiff, reduceIte, w3, and_self]
          · by_cases he : t.1.2 = gi
            · by_cases hin : t.1.1 ∈ Wk
              · refine W.seq <| W.seq <| W.reg <| OSuf.aop tyOK rfl sm rfl <| OSuf.aop tyOK rfl sm rfl <| OSuf.aop tyOK rfl (so_nilCheck (by simp only [lk] <;> rfl)) rfl <| OSuf.aop tyOK rfl (so_fieldAddr (by simp only [lk] <;> rfl) (fa_ok (k := 0) ty28 rfl rfl ty26 rfl rfl)) rfl <| OSuf.aop tyOK rfl (so_load (by simp only [lk] <;> rfl) (by simp (disch := first | assumption | omega | (simp only [nx] <;> omega) | fail) only [aLoad, ty26, rowOf, hpl, hv', hc, hci, sb, y4', tc0, tc0', tc1, tc2, hrow, hgg] <;> rfl)) rfl <| OSuf.aop tyOK rfl (so_len (by simp only [aopnds, lk] <;> rfl) (by simp (disch := first | assumption | omega | (simp only [nx] <;> omega) | fail) only [aLenOf, ty26, hpl, hv', hc, hci, sb, y4', tc0, tc0', tc1, tc2, hrow, hgg] <;> rfl)) rfl <| OSuf.aopT tyOK rfl (so_bin (by simp only [lk] <;> rfl) (by simp only [lk] <;> rfl) bi_lss) (fun _ => rfl) (by first | rfl | assumption | ((simp only [bl, hv', hc, hci, sb, y4', tc0, tc0', tc1, tc2, hrow, hgg]) <;> first | done | assumption | omega) | (simp; done) | (simp; omega)) <| OSuf.nil <| SQ.normal ?_
                refine W.yes (by simp only [lk] <;> rfl) <| CWp.skip <| SQ.normal ?_
                refine W.seq <| W.block <| W.seq <| W.regD tyOK mixed (by kernel_rfl) <| SqW.aop rfl sm rfl <| SqW.aop rfl (so_nilCheck (by simp only [lk] <;> rfl)) rfl <| SqW.aop rfl (so_fieldAddr (by simp only [lk] <;> rfl) (fa_ok (k := 0) ty28 rfl rfl ty26 rfl rfl)) rfl <| SqW.aop rfl (so_load (by simp only [lk] <;> rfl) (by simp (disch := first | assumption | omega | (simp only [nx] <;> omega) | fail) only [aLoad, ty26, rowOf, hpl, hv', hc, hci, sb, y4', tc0, tc0', tc1, tc2, hrow, hgg] <;> rfl)) rfl <| SqW.aop rfl sm rfl <| SqW.aop rfl (so_indexAddr (by simp only [lk] <;> rfl) (by simp only [lk] <;> rfl) (by simp (disch := first | assumption | omega | (simp only [nx] <;> omega) | fail) only [aIndexAddr, ty26, ty63, hpl, hv', hc, hci, sb, y4', tc0, tc0', tc1, tc2, hrow, hgg] <;> rfl)) rfl <| SqW.aop rfl (so_fieldAddr (by simp only [lk] <;> rfl) (fa_ok (k := 2) ty63 rfl rfl ty4 rfl rfl)) rfl <| SqW.aopT rfl (so_load (by simp only [lk] <;> rfl) (by simp (disch := first | assumption | omega | (simp only [nx] <;> omega) | fail) only [aLoad, ty4, rowOf, hpl, hv', hc, hci, sb, y4', tc0, tc0', tc1, tc2, hrow, hgg] <;> rfl)) (fun _ => rfl) (h2) <| SqW.aopT rfl sm (fun _ => rfl) rfl <| SqW.aop ag sm rfl <| SqW.aop ag (so_nilCheck (by simp only [lk] <;> rfl)) rfl <| SqW.aop ag (so_fieldAddr (by simp only [lk] <;> rfl) (fa_ok (k := 0) ty28 rfl rfl ty26 rfl rfl)) rfl <| SqW.aop ag (so_load (by simp only [lk] <;> rfl) (by simp (disch := first | assumption | omega | (simp only [nx] <;> omega) | fail) only [aLoad, ty26, rowOf, hpl, hv', hc, hci, sb, y4', tc0, tc0', tc1, tc2, hrow, hgg] <;> rfl)) rfl <| SqW.aop ag sm rfl <| SqW.aop ag (so_indexAddr (by simp only [lk] <;> rfl) (by simp only [lk] <;> rfl) (by simp (disch := first | assumption | omega | (simp only [nx] <;> omega) | fail) only [aIndexAddr, ty26, ty63, hpl, hv', hc, hci, sb, y4', tc0, tc0', tc1, tc2, hrow, hgg] <;> rfl)) rfl <| SqW.aop ag (so_fieldAddr (by simp only [lk] <;> rfl) (fa_ok (k := 1) ty63 rfl rfl ty29 rfl rfl)) rfl <| SqW.aop ag (so_load (by simp only [lk] <;> rfl) (by simp (disch := first | assumption | omega | (simp only [nx] <;> omega) | fail) only [aLoad, ty29, rowOf, hpl, hv', hc, hci, sb, y4', tc0, tc0', tc1, tc2, hrow, hgg] <;> rfl)) rfl <| SqW.aop ag sm rfl <| SqW.aop ag sm rfl <| SqW.aop ag (so_indexAddr (by simp only [lk] <;> rfl) (by simp only [lk] <;> rfl) (by simp (disch := first | assumption | omega | (simp only [nx] <;> omega) | fail) only [aIndexAddr, ty36, ty29, hpl, hv', hc, hci, sb, y4', tc0, tc0', tc1, tc2, hrow, hgg] <;> rfl)) rfl <| SqW.aop ag (so_load (by simp only [lk] <;> rfl) (by simp (disch := first | assumption | omega | (simp only [nx] <;> omega) | fail) only [aLoad, ty29, rowOf, hpl, hv', hc, hci, sb, y4', tc0, tc0', tc1, tc2, hrow, hgg] <;> rfl)) rfl <| SqW.aopT ag (so_bin (by simp only [lk] <;> rfl) (by simp only [lk] <;> rfl) bi_eql) (fun _ => rfl) (by first | rfl | assumption | ((simp only [bl, hv', hc, hci, sb, y4', tc0, tc0', tc1, tc2, hrow, hgg]) <;> first | done | assumption | omega) | (simp; done) | (simp; omega)) <| SqW.aopT rfl (so_pick (by simp only [lk] <;> rfl) (by simp only [lk, cond_true, cond_false] <;> rfl)) (fun _ => rfl) rfl <| SqW.aopT rfl sm (fun _ => rfl) rfl <| SqW.aop ag sm rfl <| SqW.aop ag sm rfl <| SqW.aop ag (so_nilCheck (by simp only [lk] <;> rfl)) rfl <| SqW.aop ag (so_fieldAddr (by simp only [lk] <;> rfl) (fa_ok (k := 0) ty28 rfl rfl ty26 rfl rfl)) rfl <| SqW.aop ag (so_load (by simp only [lk] <;> rfl) (by simp (disch := first | assumption | omega | (simp only [nx] <;> omega) | fail) only [aLoad, ty26, rowOf, hpl, hv', hc, hci, sb, y4', tc0, tc0', tc1, tc2, hrow, hgg] <;> rfl)) rfl <| SqW.aop ag sm rfl <| SqW.aop ag (so_indexAddr (by simp only [lk] <;> rfl) (by simp only [lk] <;> rfl) (by simp (disch := first | assumption | omega | (simp only [nx] <;> omega) | fail) only [aIndexAddr, ty26, ty63, hpl, hv', hc, hci, sb, y4', tc0, tc0', tc1, tc2, hrow, hgg] <;> rfl)) rfl <| SqW.aop ag (so_fieldAddr (by simp only [lk] <;> rfl) (fa_ok (k := 0) ty63 rfl rfl ty29 rfl rfl)) rfl <| SqW.aop ag (so_load (by simp only [lk] <;> rfl) (by simp (disch := first | assumption | omega | (simp only [nx] <;> omega) | fail) only [aLoad, ty29, rowOf, hpl, hv', hc, hci, sb, y4', tc0, tc0', tc1, tc2, hrow, hgg] <;> rfl)) rfl <| SqW.callD ag (by simp only [aopnds, lk] <;> rfl) en32 (has_in hA.ints (by omega) hin) rfl <| SqW.aopF ag (so_not (by simp only [lk] <;> rfl)) (fun _ => rfl) rfl <| SqW.aopF rfl (so_pick (by simp only [lk] <;> rfl) (by simp only [lk, cond_true, cond_false] <;> rfl)) (fun _ => rfl) rfl <| SqW.nil <| SQ.normal ?_
                refine W.no (by simp only [lk] <;> rfl) <| CWp.skip <| BQ.normal <| SQ.normal ?_
                refine W.reg <| OSuf.aop tyOK rfl sm rfl <| OSuf.aop tyOK rfl (so_bin (by simp only [lk] <;> rfl) (by simp only [lk] <;> rfl) (bi_w bi_add (by first | (simp only [w3] <;> rfl) | rfl))) rfl <| OSuf.aop tyOK rfl (so_assign (by simp only [lk] <;> rfl)) rfl <| OSuf.nil <| ?_
                -- leaf: round
                refine LQ.normal (m := m - 1) (L := [(0, P0 s), (5, .slice (some ⟨g, 0, none⟩) Wk.length c), (6, I64 i), (7, I64 ((k + 1 : Nat) : Int))]) (by omega) ?_ (keep fun _ _ => hin)
                simp only [HasA, Tr.get_put, Nat.reduceEqDiff, reduceIte, w3, and_self]
              · have hA1 : WA h0 (h.new (.cells [Value.int .u64 t.1.1] 1)) Wk g c := ⟨hA.cap, hA.lo, by have := hA.lt; simp only [nx]; omega, by have := hA.lt; simp (disch := first | assumption | omega | (simp only [nx] <;> omega) | fail) only [hpl]; exact hA.row⟩
                obtain ⟨h1, e1, hA2, n1, k1⟩ := hA1.app (n := t.1.1) (by omega) (.slice (some ⟨h.next, 0, none⟩) 1 2) rfl (aCells_part (vs := [Value.int .u64 t.1.1]) (by simp (disch := first | assumption | omega | (simp only [nx] <;> omega) | fail) only [rowOf, hpl]) (Nat.le_refl _) rfl)
                simp only [nx] at n1 hA2 e1
                have hglt := hA.lt
                have hglo := hA.lo
                refine W.seq <| W.seq <| W.reg <| OSuf.aop tyOK rfl sm rfl <| OSuf.aop tyOK rfl sm rfl <| OSuf.aop tyOK rfl (so_nilCheck (by simp only [lk] <;> rfl)) rfl <| OSuf.aop tyOK rfl (so_fieldAddr (by simp only [lk] <;> rfl) (fa_ok (k := 0) ty28 rfl rfl ty26 rfl rfl)) rfl <| OSuf.aop tyOK rfl (so_load (by simp only [lk] <;> rfl) (by simp (disch := first | assumption | omega | (simp only [nx] <;> omega) | fail) only [aLoad, ty26, rowOf, hpl, hv', hc, hci, sb, y4', tc0, tc0', tc1, tc2, hrow, hgg, Value.cells] <;> rfl)) rfl <| OSuf.aop tyOK rfl (so_len (by simp only [aopnds, lk] <;> rfl) (by simp (disch := first | assumption | omega | (simp only [nx] <;> omega) | fail) only [aLenOf, ty26, hpl, hv', hc, hci, sb, y4', tc0, tc0', tc1, tc2, hrow, hgg, Value.cells] <;> rfl)) rfl <| OSuf.aopT tyOK rfl (so_bin (by simp only [lk] <;> rfl) (by simp only [lk] <;> rfl) bi_lss) (fun _ => rfl) (by first | rfl | assumption | ((simp only [bl, hv', hc, hci, sb, y4', tc0, tc0', tc1, tc2, hrow, hgg, Value.cells]) <;> first | done | assumption | omega) | (simp; done) | (simp; omega)) <| OSuf.nil <| SQ.normal ?_
                refine W.yes (by simp only [lk] <;> rfl) <| CWp.skip <| SQ.normal ?_
                refine W.seq <| W.block <| W.seq <| W.regD tyOK mixed (by kernel_rfl) <| SqW.aop rfl sm rfl <| SqW.aop rfl (so_nilCheck (by simp only [lk] <;> rfl)) rfl <| SqW.aop rfl (so_fieldAddr (by simp only [lk] <;> rfl) (fa_ok (k := 0) ty28 rfl rfl ty26 rfl rfl)) rfl <| SqW.aop rfl (so_load (by simp only [lk] <;> rfl) (by simp (disch := first | assumption | omega | (simp only [nx] <;> omega) | fail) only [aLoad, ty26, rowOf, hpl, hv', hc, hci, sb, y4', tc0, tc0', tc1, tc2, hrow, hgg, Value.cells] <;> rfl)) rfl <| SqW.aop rfl sm rfl <| SqW.aop rfl (so_indexAddr (by simp only [lk] <;> rfl) (by simp only [lk] <;> rfl) (by simp (disch := first | assumption | omega | (simp only [nx] <;> omega) | fail) only [aIndexAddr, ty26, ty63, hpl, hv', hc, hci, sb, y4', tc0, tc0', tc1, tc2, hrow, hgg, Value.cells] <;> rfl)) rfl <| SqW.aop rfl (so_fieldAddr (by simp only [lk] <;> rfl) (fa_ok (k := 2) ty63 rfl rfl ty4 rfl rfl)) rfl <| SqW.aopT rfl (so_load (by simp only [lk] <;> rfl) (by simp (disch := first | assumption | omega | (simp only [nx] <;> omega) | fail) only [aLoad, ty4, rowOf, hpl, hv', hc, hci, sb, y4', tc0, tc0', tc1, tc2, hrow, hgg, Value.cells] <;> rfl)) (fun _ => rfl) (h2) <| SqW.aopT rfl sm (fun _ => rfl) rfl <| SqW.aop ag sm rfl <| SqW.aop ag (so_nilCheck (by simp only [lk] <;> rfl)) rfl <| SqW.aop ag (so_fieldAddr (by simp only [lk] <;> rfl) (fa_ok (k := 0) ty28 rfl rfl ty26 rfl rfl)) rfl <| SqW.aop ag (so_load (by simp only [lk] <;> rfl) (by simp (disch := first | assumption | omega | (simp only [nx] <;> omega) | fail) only [aLoad, ty26, rowOf, hpl, hv', hc, hci, sb, y4', tc0, tc0', tc1, tc2, hrow, hgg, Value.cells] <;> rfl)) rfl <| SqW.aop ag sm rfl <| SqW.aop ag (so_indexAddr (by simp only [lk] <;> rfl) (by simp only [lk] <;> rfl) (by simp (disch := first | assumption | omega | (simp only [nx] <;> omega) | fail) only [aIndexAddr, ty26, ty63, hpl, hv', hc, hci, sb, y4', tc0, tc0', tc1, tc2, hrow, hgg, Value.cells] <;> rfl)) rfl <| SqW.aop ag (so_fieldAddr (by simp only [lk] <;> rfl) (fa_ok (k := 1) ty63 rfl rfl ty29 rfl rfl)) rfl <| SqW.aop ag (so_load (by simp only [lk] <;> rfl) (by simp (disch := first | assumption | omega | (simp only [nx] <;> omega) | fail) only [aLoad, ty29, rowOf, hpl, hv', hc, hci, sb, y4', tc0, tc0', tc1, tc2, hrow, hgg, Value.cells] <;> rfl)) rfl <| SqW.aop ag sm rfl <| SqW.aop ag sm rfl <| SqW.aop ag (so_indexAddr (by simp only [lk] <;> rfl) (by simp only [lk] <;> rfl) (by simp (disch := first | assumption | omega | (simp only [nx] <;> omega) | fail) only [aIndexAddr, ty36, ty29, hpl, hv', hc, hci, sb, y4', tc0, tc0', tc1, tc2, hrow, hgg, Value.cells] <;> rfl)) rfl <| SqW.aop ag (so_load (by simp only [lk] <;> rfl) (by simp (disch := first | assumption | omega | (simp only [nx] <;> omega) | fail) only [aLoad, ty29, rowOf, hpl, hv', hc, hci, sb, y4', tc0, tc0', tc1, tc2, hrow, hgg, Value.cells] <;> rfl)) rfl <| SqW.aopT ag (so_bin (by simp only [lk] <;> rfl) (by simp only [lk] <;> rfl) bi_eql) (fun _ => rfl) (by first | rfl | assumption | ((simp only [bl, hv', hc, hci, sb, y4', tc0, tc0', tc1, tc2, hrow, hgg, Value.cells]) <;> first | done | assumption | omega) | (simp; done) | (simp; omega)) <| SqW.aopT rfl (so_pick (by simp only [lk] <;> rfl) (by simp only [lk, cond_true, cond_false] <;> rfl)) (fun _ => rfl) rfl <| SqW.aopT rfl sm (fun _ => rfl) rfl <| SqW.aop ag sm rfl <| SqW.aop ag sm rfl <| SqW.aop ag (so_nilCheck (by simp only [lk] <;> rfl)) rfl <| SqW.aop ag (so_fieldAddr (by simp only [lk] <;> rfl) (fa_ok (k := 0) ty28 rfl rfl ty26 rfl rfl)) rfl <| SqW.aop ag (so_load (by simp only [lk] <;> rfl) (by simp (disch := first | assumption | omega | (simp only [nx] <;> omega) | fail) only [aLoad, ty26, rowOf, hpl, hv', hc, hci, sb, y4', tc0, tc0', tc1, tc2, hrow, hgg, Value.cells] <;> rfl)) rfl <| SqW.aop ag sm rfl <| SqW.aop ag (so_indexAddr (by simp only [lk] <;> rfl) (by simp only [lk] <;> rfl) (by simp (disch := first | assumption | omega | (simp only [nx] <;> omega) | fail) only [aIndexAddr, ty26, ty63, hpl, hv', hc, hci, sb, y4', tc0, tc0', tc1, tc2, hrow, hgg, Value.cells] <;> rfl)) rfl <| SqW.aop ag (so_fieldAddr (by simp only [lk] <;> rfl) (fa_ok (k := 0) ty63 rfl rfl ty29 rfl rfl)) rfl <| SqW.aop ag (so_load (by simp only [lk] <;> rfl) (by simp (disch := first | assumption | omega | (simp only [nx] <;> omega) | fail) only [aLoad, ty29, rowOf, hpl, hv', hc, hci, sb, y4', tc0, tc0', tc1, tc2, hrow, hgg, Value.cells] <;> rfl)) rfl <| SqW.callD ag (by simp only [aopnds, lk] <;> rfl) en32 (has_out hA.ints (by omega) hin) rfl <| SqW.aopT ag (so_not (by simp only [lk] <;> rfl)) (fun _ => rfl) rfl <| SqW.aopT rfl (so_pick (by simp only [lk] <;> rfl) (by simp only [lk, cond_true, cond_false] <;> rfl)) (fun _ => rfl) rfl <| SqW.nil <| SQ.normal ?_
                refine W.yes (by simp only [lk] <;> rfl) <| W.reg <| OSuf.aop tyOK rfl sm rfl <| OSuf.aop tyOK rfl sm rfl <| OSuf.aop tyOK rfl (so_nilCheck (by simp only [lk] <;> rfl)) rfl <| OSuf.aop tyOK rfl (so_fieldAddr (by simp only [lk] <;> rfl) (fa_ok (k := 0) ty28 rfl rfl ty26 rfl rfl)) rfl <| OSuf.aop tyOK rfl (so_load (by simp only [lk] <;> rfl) (by simp (disch := first | assumption | omega | (simp only [nx] <;> omega) | fail) only [aLoad, ty26, rowOf, hpl, hv', hc, hci, sb, y4', tc0, tc0', tc1, tc2, hrow, hgg, Value.cells] <;> rfl)) rfl <| OSuf.aop tyOK rfl sm rfl <| OSuf.aop tyOK rfl (so_indexAddr (by simp only [lk] <;> rfl) (by simp only [lk] <;> rfl) (by simp (disch := first | assumption | omega | (simp only [nx] <;> omega) | fail) only [aIndexAddr, ty26, ty63, hpl, hv', hc, hci, sb, y4', tc0, tc0', tc1, tc2, hrow, hgg, Value.cells] <;> rfl)) rfl <| OSuf.aop tyOK rfl (so_fieldAddr (by simp only [lk] <;> rfl) (fa_ok (k := 0) ty63 rfl rfl ty29 rfl rfl)) rfl <| OSuf.aop tyOK rfl (so_load (by simp only [lk] <;> rfl) (by simp (disch := first | assumption | omega | (simp only [nx] <;> omega) | fail) only [aLoad, ty29, rowOf, hpl, hv', hc, hci, sb, y4', tc0, tc0', tc1, tc2, hrow, hgg, Value.cells] <;> rfl)) rfl <| OSuf.aop tyOK rfl (so_buildSlice (by simp only [aparts, lk] <;> rfl) (by simp (disch := first | assumption | omega | (simp only [nx] <;> omega) | fail) only [aBuildSlice, ty36, ty29, hpl, hv', hc, hci, sb, y4', tc0, tc0', tc1, tc2, hrow, hgg, Value.cells] <;> rfl)) rfl <| OSuf.aop tyOK rfl (so_append (by simp only [aopnds, lk] <;> rfl) (e1 _ _ (by simp only [appT, ty36, ty29] <;> rfl) rfl (by decide))) rfl <| OSuf.aop tyOK rfl (so_assign (by simp only [lk] <;> rfl)) rfl <| OSuf.nil <| BQ.normal <| SQ.normal ?_
                refine W.reg <| OSuf.aop tyOK rfl sm rfl <| OSuf.aop tyOK rfl (so_bin (by simp only [lk] <;> rfl) (by simp only [lk] <;> rfl) (bi_w bi_add (by first | (simp only [w3] <;> rfl) | rfl))) rfl <| OSuf.aop tyOK rfl (so_assign (by simp only [lk] <;> rfl)) rfl <| OSuf.nil <| ?_
                -- leaf: round
                refine LQ.normal (m := m - 1) (L := [(0, P0 s), (5, .slice (some ⟨h.next + 1, 0, none⟩) (Wk.length + 1) 0), (6, I64 i), (7, I64 ((k + 1 : Nat) : Int))]) (by omega) ?_ ⟨k + 1, Wk ++ [t.1.1], h.next + 1, 0, by omega, by rw [List.getElem?_append_left hiW]; exact hgi, hW.add hin ?_ ⟨t, htD, rfl⟩, hD.add (by omega), hDk.add.next ht (fun _ _ => List.mem_append.2 (.inr (List.mem_singleton.2 rfl))), hA2, fun z hz => ?_, by simp⟩
                · simp only [HasA, Tr.get_put, Nat.reduceEqDiff, reduceIte, w3, and_self]
                · exact .step (by rw [he]; exact hW.re gi (List.mem_of_getElem? hgi)) htD h2
                · rw [k1 z hz]; simp (disch := first | assumption | omega | (simp only [nx] <;> omega) | fail) only [hpl]; exact hk z hz
            · refine W.seq <| W.seq <| W.reg <| OSuf.aop tyOK rfl sm rfl <| OSuf.aop tyOK rfl sm rfl <| OSuf.aop tyOK rfl (so_nilCheck (by simp only [lk] <;> rfl)) rfl <| OSuf.aop tyOK rfl (so_fieldAddr (by simp only [lk] <;> rfl) (fa_ok (k := 0) ty28 rfl rfl ty26 rfl rfl)) rfl <| OSuf.aop tyOK rfl (so_load (by simp only [lk] <;> rfl) (by simp (disch := first | assumption | omega | (simp only [nx] <;> omega) | fail) only [aLoad, ty26, rowOf, hpl, hv', hc, hci, sb, y4', tc1, tc2, hrow, hgg] <;> rfl)) rfl <| OSuf.aop tyOK rfl (so_len (by simp only [aopnds, lk] <;> rfl) (by simp (disch := first | assumption | omega | (simp only [nx] <;> omega) | fail) only [aLenOf, ty26, hpl, hv', hc, hci, sb, y4', tc1, tc2, hrow, hgg] <;> rfl)) rfl <| OSuf.aopT tyOK rfl (so_bin (by simp only [lk] <;> rfl) (by simp only [lk] <;> rfl) bi_lss) (fun _ => rfl) (by first | rfl | assumption | ((simp only [bl, hv', hc, hci, sb, y4', tc1, tc2, hrow, hgg]) <;> first | done | assumption | omega) | (simp; done) | (simp; omega)) <| OSuf.nil <| SQ.normal ?_
              refine W.yes (by simp only [lk] <;> rfl) <| CWp.skip <| SQ.normal ?_
              refine W.seq <| W.block <| W.seq <| W.regD tyOK mixed (by kernel_rfl) <| SqW.aop rfl sm rfl <| SqW.aop rfl (so_nilCheck (by simp only [lk] <;> rfl)) rfl <| SqW.aop rfl (so_fieldAddr (by simp only [lk] <;> rfl) (fa_ok (k := 0) ty28 rfl rfl ty26 rfl rfl)) rfl <| SqW.aop rfl (so_load (by simp only [lk] <;> rfl) (by simp (disch := first | assumption | omega | (simp only [nx] <;> omega) | fail) only [aLoad, ty26, rowOf, hpl, hv', hc, hci, sb, y4', tc1, tc2, hrow, hgg] <;> rfl)) rfl <| SqW.aop rfl sm rfl <| SqW.aop rfl (so_indexAddr (by simp only [lk] <;> rfl) (by simp only [lk] <;> rfl) (by simp (disch := first | assumption | omega | (simp only [nx] <;> omega) | fail) only [aIndexAddr, ty26, ty63, hpl, hv', hc, hci, sb, y4', tc1, tc2, hrow, hgg] <;> rfl)) rfl <| SqW.aop rfl (so_fieldAddr (by simp only [lk] <;> rfl) (fa_ok (k := 2) ty63 rfl rfl ty4 rfl rfl)) rfl <| SqW.aopT rfl (so_load (by simp only [lk] <;> rfl) (by simp (disch := first | assumption | omega | (simp only [nx] <;> omega) | fail) only [aLoad, ty4, rowOf, hpl, hv', hc, hci, sb, y4', tc1, tc2, hrow, hgg] <;> rfl)) (fun _ => rfl) (h2) <| SqW.aopT rfl sm (fun _ => rfl) rfl <| SqW.aop ag sm rfl <| SqW.aop ag (so_nilCheck (by simp only [lk] <;> rfl)) rfl <| SqW.aop ag (so_fieldAddr (by simp only [lk] <;> rfl) (fa_ok (k := 0) ty28 rfl rfl ty26 rfl rfl)) rfl <| SqW.aop ag (so_load (by simp only [lk] <;> rfl) (by simp (disch := first | assumption | omega | (simp only [nx] <;> omega) | fail) only [aLoad, ty26, rowOf, hpl, hv', hc, hci, sb, y4', tc1, tc2, hrow, hgg] <;> rfl)) rfl <| SqW.aop ag sm rfl <| SqW.aop ag (so_indexAddr (by simp only [lk] <;> rfl) (by simp only [lk] <;> rfl) (by simp (disch := first | assumption | omega | (simp only [nx] <;> omega) | fail) only [aIndexAddr, ty26, ty63, hpl, hv', hc, hci, sb, y4', tc1, tc2, hrow, hgg] <;> rfl)) rfl <| SqW.aop ag (so_fieldAddr (by simp only [lk] <;> rfl) (fa_ok (k := 1) ty63 rfl rfl ty29 rfl rfl)) rfl <| SqW.aop ag (so_load (by simp only [lk] <;> rfl) (by simp (disch := first | assumption | omega | (simp only [nx] <;> omega) | fail) only [aLoad, ty29, rowOf, hpl, hv', hc, hci, sb, y4', tc1, tc2, hrow, hgg] <;> rfl)) rfl <| SqW.aop ag sm rfl <| SqW.aop ag sm rfl <| SqW.aop ag (so_indexAddr (by simp only [lk] <;> rfl) (by simp only [lk] <;> rfl) (by simp (disch := first | assumption | omega | (simp only [nx] <;> omega) | fail) only [aIndexAddr, ty36, ty29, hpl, hv', hc, hci, sb, y4', tc1, tc2, hrow, hgg] <;> rfl)) rfl <| SqW.aop ag (so_load (by simp only [lk] <;> rfl) (by simp (disch := first | assumption | omega | (simp only [nx] <;> omega) | fail) only [aLoad, ty29, rowOf, hpl, hv', hc, hci, sb, y4', tc1, tc2, hrow, hgg] <;> rfl)) rfl <| SqW.aopF ag (so_bin (by simp only [lk] <;> rfl) (by simp only [lk] <;> rfl) bi_eql) (fun _ => rfl) (by first | rfl | assumption | ((simp only [bl, hv', hc, hci, sb, y4', tc1, tc2, hrow, hgg]) <;> first | done | assumption | omega) | (simp; done) | (simp; omega)) <| SqW.aopF rfl (so_pick (by simp only [lk] <;> rfl) (by simp only [lk, cond_true, cond_false] <;> rfl)) (fun _ => rfl) rfl <| SqW.aopF rfl sm (fun _ => rfl) rfl <| SqW.pass ag rfl <| SqW.pass ag rfl <| SqW.pass ag rfl <| SqW.pass ag rfl <| SqW.pass ag rfl <| SqW.pass ag rfl <| SqW.pass ag rfl <| SqW.pass ag rfl <| SqW.pass ag rfl <| SqW.pass ag rfl <| SqW.pass ag rfl <| SqW.aopF rfl (so_pick (by simp only [lk] <;> rfl) (by simp only [lk, cond_true, cond_false] <;> rfl)) (fun _ => rfl) rfl <| SqW.nil <| SQ.normal ?_
              refine W.no (by simp only [lk] <;> rfl) <| CWp.skip <| BQ.normal <| SQ.normal ?_
              refine W.reg <| OSuf.aop tyOK rfl sm rfl <| OSuf.aop tyOK rfl (so_bin (by simp only [lk] <;> rfl) (by simp only [lk] <;> rfl) (bi_w bi_add (by first | (simp only [w3] <;> rfl) | rfl))) rfl <| OSuf.aop tyOK rfl (so_assign (by simp only [lk] <;> rfl)) rfl <| OSuf.nil <| ?_
              -- leaf: round
              refine LQ.normal (m := m - 1) (L := [(0, P0 s), (5, .slice (some ⟨g, 0, none⟩) Wk.length c), (6, I64 i), (7, I64 ((k + 1 : Nat) : Int))]) (by omega) ?_ (keep fun _ e => (he e).elim)
              simp only [HasA, Tr.get_put, Nat.reduceEqDiff, reduceIte, w3, and_self]
        · refine W.seq <| W.seq <| W.reg <| OSuf.aop tyOK rfl sm rfl <| OSuf.aop tyOK rfl sm rfl <| OSuf.aop tyOK rfl (so_nilCheck (by simp only [lk] <;> rfl)) rfl <| OSuf.aop tyOK rfl (so_fieldAddr (by simp only [lk] <;> rfl) (fa_ok (k := 0) ty28 rfl rfl ty26 rfl rfl)) rfl <| OSuf.aop tyOK rfl (so_load (by simp only [lk] <;> rfl) (by simp (disch := first | assumption | omega | (simp only [nx] <;> omega) | fail) only [aLoad, ty26, rowOf, hpl, hv'] <;> rfl)) rfl <| OSuf.aop tyOK rfl (so_len (by simp only [aopnds, lk] <;> rfl) (by simp (disch := first | assumption | omega | (simp only [nx] <;> omega) | fail) only [aLenOf, ty26, hpl, hv'] <;> rfl)) rfl <| OSuf.aopF tyOK rfl (so_bin (by simp only [lk] <;> rfl) (by simp only [lk] <;> rfl) bi_lss) (fun _ => rfl) (by first | rfl | assumption | ((simp only [bl, hv']) <;> first | done | assumption | omega) | (simp; done) | (simp; omega)) <| OSuf.nil <| SQ.normal ?_
          refine W.no (by simp only [lk] <;> rfl) <| CWp.exit <| SQ.exit <| LQ.exit <| BQ.exit <| ?_
          -- leaf: cut
          have : k = D.length := by omega
          subst this
          refine NQ.normal (L := [(0, P0 s), (5, .slice (some ⟨g, 0, none⟩) Wk.length c), (6, I64 i)]) ?_ ⟨Wk, g, c, hiW, hW, hD.next hgi hDk, hA, hk, rfl⟩
          simp only [HasA, Tr.get_put, Nat.reduceEqDiff, reduceIte, and_self]
      clear hW hD hA hk hgi hWl hi hiW Wk g c h
      rintro L a' h ha ⟨Wk, g, c, hiW, hW, hD, hA, hk, rfl⟩
      have hWl := hW.len
      refine BQ.normal <| SQ.normal <| CWp.known ha ?_
      simp only [mkA]
      refine W.reg <| OSuf.aop tyOK rfl sm rfl <| OSuf.aop tyOK rfl (so_bin (by simp only [lk] <;> rfl) (by simp only [lk] <;> rfl) (bi_w bi_add (by first | (simp only [w2] <;> rfl) | rfl))) rfl <| OSuf.aop tyOK rfl (so_assign (by simp only [lk] <;> rfl)) rfl <| OSuf.nil <| ?_
      -- leaf: round
      refine LQ.normal (m := n - 1) (L := [(0, P0 s), (5, .slice (some ⟨g, 0, none⟩) Wk.length c), (6, I64 ((i + 1 : Nat) : Int))]) (by omega) ?_ ⟨i + 1, Wk, g, c, by omega, by omega, hW, hD, hA, hk, rfl⟩
      simp only [HasA, Tr.get_put, Nat.reduceEqDiff, reduceIte, w2, and_self]
    · refine W.seq <| W.seq <| W.reg <| OSuf.aop tyOK rfl sm rfl <| OSuf.aop tyOK rfl sm rfl <| OSuf.aop tyOK rfl (so_len (by simp only [aopnds, lk] <;> rfl) (by simp (disch := first | assumption | omega | (simp only [nx] <;> omega) | fail) only [aLenOf, ty36, hpl] <;> rfl)) rfl <| OSuf.aopF tyOK rfl (so_bin (by simp only [lk] <;> rfl) (by simp only [lk] <;> rfl) bi_lss) (fun _ => rfl) (by first | rfl | assumption | ((simp only [bl]) <;> first | done | assumption | omega) | (simp; done) | (simp; omega)) <| OSuf.nil <| SQ.normal ?_
      refine W.no (by simp only [lk] <;> rfl) <| CWp.exit <| SQ.exit <| LQ.exit <| BQ.exit <| ?_
      -- leaf: cut
      have : i = Wk.length := by omega
      subst this
      refine NQ.normal (L := [(0, P0 s), (5, .slice (some ⟨g, 0, none⟩) Wk.length c)]) ?_ ⟨Wk, g, c, hW, hD, hA, hk, rfl⟩
      simp only [HasA, Tr.get_put, Nat.reduceEqDiff, reduceIte, and_self]
  rintro L a' hA0 ha ⟨Wk, g, c, hW, hD, hA, hk, rfl⟩
  have hWl := hW.len
  have hgl := hA.lt
  have hglo := hA.lo
  have hrow := hA.row
  have hvA : hA0.get s = some (.cells [.slice b D.length 0] 1) := by rw [hk s hlt]; exact hv
  refine SQ.normal <| CWp.known ha ?_
  simp only [mkA]
  refine W.seq <| W.reg <| OSuf.aop tyOK rfl (so_assign (by simp only [lk] <;> rfl)) rfl <| OSuf.nil <| SQ.normal ?_
  refine W.seq <| W.seq <| W.reg <| OSuf.aop tyOK rfl (so_assign (by simp only [lk] <;> rfl)) rfl <| OSuf.nil <| SQ.normal ?_
  -- leaf: loop
  refine W.cut (fun L h => ∃ lv, SV h 3 hA0.next (flatT (D.filter (kpW Wk))) lv ∧ hA0.next ≤ h.next ∧ (∀ z, z < hA0.next → h.get z = hA0.get z) ∧ L = [(0, P0 s), (5, .slice (some ⟨g, 0, none⟩) Wk.length c), (8, lv)]) (W.block (W.loop (fun n L h => ∃ (i : Nat) (lv : Value), n + i = D.length ∧ SV h 3 hA0.next (flatT ((D.take i).filter (kpW Wk))) lv ∧ hA0.next ≤ h.next ∧ (∀ z, z < hA0.next → h.get z = hA0.get z) ∧ vLen lv ≤ i ∧ L = [(0, P0 s), (5, .slice (some ⟨g, 0, none⟩) Wk.length c), (8, lv), (9, I64 i)]) (n := D.length)
    ⟨0, _, by omega, .nil, Nat.le_refl _, fun _ _ => rfl, by simp [vLen], rfl⟩ ?_ ?_)) ?_
  · simp [HasA, Tr.get_put]
  · clear ha
    rintro n L h ⟨i, lv, hn, hsv, hnx, hk2, hvl, rfl⟩
    simp only [mkA]
    have w2 : IntKind.i64.wrap ((i : Int) + 1) = ((i + 1 : Nat) : Int) := by rw [wrap_i64 (by omega) (by omega)]; omega
    have hv' : h.get s = some (.cells [.slice b D.length 0] 1) := by rw [hk2 s (by omega)]; exact hvA
    have hWI : IntsB h Wk (some ⟨g, 0, none⟩) := ⟨fun j hj => ⟨g, rfl, by omega, by rw [hk2 g hgl]; exact hrow⟩⟩
    by_cases hi : (i : Int) < (D.length : Int)
    · obtain ⟨t, ht⟩ : ∃ t, D[i]? = some t := ⟨D[i]'(by omega), by simp⟩
      obtain ⟨y, rfl, y1, y2, y3, y4⟩ := hat i (by omega)
      have y4' : h.get y = some (.cells (flatT D) 3) := by rw [hk2 y (by omega), hk y y1]; exact y4
      have hc : (0 ≤ (i : Int) ∧ (i : Int) < (D.length : Int)) := by omega
      have hcell := flatT_cell ht
      simp only [t3cs] at hcell
      have tc0 : (flatT D)[i * 3]? = some (U64 t.1.1) := flatT_get 0 ht (by omega)
      have tc0' : (flatT D)[i * 3 + 0]? = some (U64 t.1.1) := flatT_get 0 ht (by omega)
      have tc1 : (flatT D)[i * 3 + 1]? = some (U64 t.1.2) := flatT_get 1 ht (by omega)
      have htk : (D.take (i + 1)).filter (kpW Wk) = (D.take i).filter (kpW Wk) ++ (if kpW Wk t = true then [t] else []) := by
        rw [List.take_add_one, ht, List.filter_append]
        cases hkp : kpW Wk t <;> simp [hkp]
      have keep : kpW Wk t = false → ∃ (i2 : Nat) (lv2 : Value), n - 1 + i2 = D.length ∧ SV h 3 hA0.next (flatT ((D.take i2).filter (kpW Wk))) lv2 ∧ hA0.next ≤ h.next ∧ (∀ z, z < hA0.next → h.get z = hA0.get z) ∧ vLen lv2 ≤ i2 ∧ [(0, P0 s), (5, .slice (some ⟨g, 0, none⟩) Wk.length c), (8, lv), (9, I64 ((i + 1 : Nat) : Int))] = [(0, P0 s), (5, .slice (some ⟨g, 0, none⟩) Wk.length c), (8, lv2), (9, I64 i2)] := fun e => by
        rw [if_neg (by rw [e]; decide), List.append_nil] at htk
        exact ⟨i + 1, lv, by omega, by rw [htk]; exact hsv, hnx, hk2, by omega, rfl⟩
      by_cases h1 : t.1.1 ∈ Wk
      · refine W.seq <| W.seq <| W.reg <| OSuf.aop tyOK rfl sm rfl <| OSuf.aop tyOK rfl sm rfl <| OSuf.aop tyOK rfl (so_nilCheck (by simp only [lk] <;> rfl)) rfl <| OSuf.aop tyOK rfl (so_fieldAddr (by simp only [lk] <;> rfl) (fa_ok (k := 0) ty28 rfl rfl ty26 rfl rfl)) rfl <| OSuf.aop tyOK rfl (so_load (by simp only [lk] <;> rfl) (by simp (disch := first | assumption | omega | (simp only [nx] <;> omega) | fail) only [aLoad, ty26, rowOf, hpl, hv', hc, sb, y4', tc0, tc0'] <;> rfl)) rfl <| OSuf.aop tyOK rfl (so_len (by simp only [aopnds, lk] <;> rfl) (by simp (disch := first | assumption | omega | (simp only [nx] <;> omega) | fail) only [aLenOf, ty26, hpl, hv', hc, sb, y4', tc0, tc0'] <;> rfl)) rfl <| OSuf.aopT tyOK rfl (so_bin (by simp only [lk] <;> rfl) (by simp only [lk] <;> rfl) bi_lss) (fun _ => rfl) (by first | rfl | assumption | ((simp only [bl, hv', hc, sb, y4', tc0, tc0']) <;> first | done | assumption | omega) | (simp; done) | (simp; omega)) <| OSuf.nil <| SQ.normal ?_
        refine W.yes (by simp only [lk] <;> rfl) <| CWp.skip <| SQ.normal ?_
        refine W.seq <| W.block <| W.seq <| W.reg <| OSuf.aop tyOK rfl sm rfl <| OSuf.aop tyOK rfl sm rfl <| OSuf.aop tyOK rfl (so_nilCheck (by simp only [lk] <;> rfl)) rfl <| OSuf.aop tyOK rfl (so_fieldAddr (by simp only [lk] <;> rfl) (fa_ok (k := 0) ty28 rfl rfl ty26 rfl rfl)) rfl <| OSuf.aop tyOK rfl (so_load (by simp only [lk] <;> rfl) (by simp (disch := first | assumption | omega | (simp only [nx] <;> omega) | fail) only [aLoad, ty26, rowOf, hpl, hv', hc, sb, y4', tc0, tc0'] <;> rfl)) rfl <| OSuf.aop tyOK rfl sm rfl <| OSuf.aop tyOK rfl (so_indexAddr (by simp only [lk] <;> rfl) (by simp only [lk] <;> rfl) (by simp (disch := first | assumption | omega | (simp only [nx] <;> omega) | fail) only [aIndexAddr, ty26, ty63, hpl, hv', hc, sb, y4', tc0, tc0'] <;> rfl)) rfl <| OSuf.aop tyOK rfl (so_fieldAddr (by simp only [lk] <;> rfl) (fa_ok (k := 0) ty63 rfl rfl ty29 rfl rfl)) rfl <| OSuf.aop tyOK rfl (so_load (by simp only [lk] <;> rfl) (by simp (disch := first | assumption | omega | (simp only [nx] <;> omega) | fail) only [aLoad, ty29, rowOf, hpl, hv', hc, sb, y4', tc0, tc0'] <;> rfl)) rfl <| OSuf.callD rfl (by simp only [aopnds, lk] <;> rfl) en32 (has_in hWI (by omega) h1) rfl <| OSuf.aopF tyOK rfl (so_not (by simp only [lk] <;> rfl)) (fun _ => rfl) rfl <| OSuf.aopF tyOK rfl sm (fun _ => rfl) rfl <| OSuf.pass ag rfl <| OSuf.pass ag rfl <| OSuf.pass ag rfl <| OSuf.pass ag rfl <| OSuf.pass ag rfl <| OSuf.pass ag rfl <| OSuf.pass ag rfl <| OSuf.pass ag rfl <| OSuf.pass ag rfl <| OSuf.pass ag rfl <| OSuf.pass ag rfl <| OSuf.aopF tyOK rfl (so_pick (by simp only [lk] <;> rfl) (by simp only [lk, cond_true, cond_false] <;> rfl)) (fun _ => rfl) rfl <| OSuf.nil <| SQ.normal ?_
        refine W.no (by simp only [lk] <;> rfl) <| CWp.skip <| BQ.normal <| SQ.normal ?_
        refine W.reg <| OSuf.aop tyOK rfl sm rfl <| OSuf.aop tyOK rfl (so_bin (by simp only [lk] <;> rfl) (by simp only [lk] <;> rfl) (bi_w bi_add (by first | (simp only [w2] <;> rfl) | rfl))) rfl <| OSuf.aop tyOK rfl (so_assign (by simp only [lk] <;> rfl)) rfl <| OSuf.nil <| ?_
        -- leaf: round
        refine LQ.normal (m := n - 1) (L := [(0, P0 s), (5, .slice (some ⟨g, 0, none⟩) Wk.length c), (8, lv), (9, I64 ((i + 1 : Nat) : Int))]) (by omega) ?_ (keep (by simp [kpW, h1]))
        simp only [HasA, Tr.get_put, Nat.reduceEqDiff, reduceIte, w2, and_self]
      · by_cases h2 : t.1.2 ∈ Wk
        · refine W.seq <| W.seq <| W.reg <| OSuf.aop tyOK rfl sm rfl <| OSuf.aop tyOK rfl sm rfl <| OSuf.aop tyOK rfl (so_nilCheck (by simp only [lk] <;> rfl)) rfl <| OSuf.aop tyOK rfl (so_fieldAddr (by simp only [lk] <;> rfl) (fa_ok (k := 0) ty28 rfl rfl ty26 rfl rfl)) rfl <| OSuf.aop tyOK rfl (so_load (by simp only [lk] <;> rfl) (by simp (disch := first | assumption | omega | (simp only [nx] <;> omega) | fail) only [aLoad, ty26, rowOf, hpl, hv', hc, sb, y4', tc0, tc0', tc1] <;> rfl)) rfl <| OSuf.aop tyOK rfl (so_len (by simp only [aopnds, lk] <;> rfl) (by simp (disch := first | assumption | omega | (simp only [nx] <;> omega) | fail) only [aLenOf, ty26, hpl, hv', hc, sb, y4', tc0, tc0', tc1] <;> rfl)) rfl <| OSuf.aopT tyOK rfl (so_bin (by simp only [lk] <;> rfl) (by simp only [lk] <;> rfl) bi_lss) (fun _ => rfl) (by first | rfl | assumption | ((simp only [bl, hv', hc, sb, y4', tc0, tc0', tc1]) <;> first | done | assumption | omega) | (simp; done) | (simp; omega)) <| OSuf.nil <| SQ.normal ?_
          refine W.yes (by simp only [lk] <;> rfl) <| CWp.skip <| SQ.normal ?_
          refine W.seq <| W.block <| W.seq <| W.reg <| OSuf.aop tyOK rfl sm rfl <| OSuf.aop tyOK rfl sm rfl <| OSuf.aop tyOK rfl (so_nilCheck (by simp only [lk] <;> rfl)) rfl <| OSuf.aop tyOK rfl (so_fieldAddr (by simp only [lk] <;> rfl) (fa_ok (k := 0) ty28 rfl rfl ty26 rfl rfl)) rfl <| OSuf.aop tyOK rfl (so_load (by simp only [lk] <;> rfl) (by simp (disch := first | assumption | omega | (simp only [nx] <;> omega) | fail) only [aLoad, ty26, rowOf, hpl, hv', hc, sb, y4', tc0, tc0', tc1] <;> rfl)) rfl <| OSuf.aop tyOK rfl sm rfl <| OSuf.aop tyOK rfl (so_indexAddr (by simp only [lk] <;> rfl) (by simp only [lk] <;> rfl) (by simp (disch := first | assumption | omega | (simp only [nx] <;> omega) | fail) only [aIndexAddr, ty26, ty63, hpl, hv', hc, sb, y4', tc0, tc0', tc1] <;> rfl)) rfl <| OSuf.aop tyOK rfl (so_fieldAddr (by simp only [lk] <;> rfl) (fa_ok (k := 0) ty63 rfl rfl ty29 rfl rfl)) rfl <| OSuf.aop tyOK rfl (so_load (by simp only [lk] <;> rfl) (by simp (disch := first | assumption | omega | (simp only [nx] <;> omega) | fail) only [aLoad, ty29, rowOf, hpl, hv', hc, sb, y4', tc0, tc0', tc1] <;> rfl)) rfl <| OSuf.callD rfl (by simp only [aopnds, lk] <;> rfl) en32 (has_out hWI (by omega) h1) rfl <| OSuf.aopT tyOK rfl (so_not (by simp only [lk] <;> rfl)) (fun _ => rfl) rfl <| OSuf.aopT tyOK rfl sm (fun _ => rfl) rfl <| OSuf.aop tyOK ag sm rfl <| OSuf.aop tyOK ag sm rfl <| OSuf.aop tyOK ag (so_nilCheck (by simp only [lk] <;> rfl)) rfl <| OSuf.aop tyOK ag (so_fieldAddr (by simp only [lk] <;> rfl) (fa_ok (k := 0) ty28 rfl rfl ty26 rfl rfl)) rfl <| OSuf.aop tyOK ag (so_load (by simp only [lk] <;> rfl) (by simp (disch := first | assumption | omega | (simp only [nx] <;> omega) | fail) only [aLoad, ty26, rowOf, hpl, hv', hc, sb, y4', tc0, tc0', tc1] <;> rfl)) rfl <| OSuf.aop tyOK ag sm rfl <| OSuf.aop tyOK ag (so_indexAddr (by simp only [lk] <;> rfl) (by simp only [lk] <;> rfl) (by simp (disch := first | assumption | omega | (simp only [nx] <;> omega) | fail) only [aIndexAddr, ty26, ty63, hpl, hv', hc, sb, y4', tc0, tc0', tc1] <;> rfl)) rfl <| OSuf.aop tyOK ag (so_fieldAddr (by simp only [lk] <;> rfl) (fa_ok (k := 1) ty63 rfl rfl ty29 rfl rfl)) rfl <| OSuf.aop tyOK ag (so_load (by simp only [lk] <;> rfl) (by simp (disch := first | assumption | omega | (simp only [nx] <;> omega) | fail) only [aLoad, ty29, rowOf, hpl, hv', hc, sb, y4', tc0, tc0', tc1] <;> rfl)) rfl <| OSuf.callD ag (by simp only [aopnds, lk] <;> rfl) en32 (has_in hWI (by omega) h2) rfl <| OSuf.aopF tyOK ag (so_not (by simp only [lk] <;> rfl)) (fun _ => rfl) rfl <| OSuf.aopF tyOK rfl (so_pick (by simp only [lk] <;> rfl) (by simp only [lk, cond_true, cond_false] <;> rfl)) (fun _ => rfl) rfl <| OSuf.nil <| SQ.normal ?_
          refine W.no (by simp only [lk] <;> rfl) <| CWp.skip <| BQ.normal <| SQ.normal ?_
          refine W.reg <| OSuf.aop tyOK rfl sm rfl <| OSuf.aop tyOK rfl (so_bin (by simp only [lk] <;> rfl) (by simp only [lk] <;> rfl) (bi_w bi_add (by first | (simp only [w2] <;> rfl) | rfl))) rfl <| OSuf.aop tyOK rfl (so_assign (by simp only [lk] <;> rfl)) rfl <| OSuf.nil <| ?_
          -- leaf: round
          refine LQ.normal (m := n - 1) (L := [(0, P0 s), (5, .slice (some ⟨g, 0, none⟩) Wk.length c), (8, lv), (9, I64 ((i + 1 : Nat) : Int))]) (by omega) ?_ (keep (by simp [kpW, h2]))
          simp only [HasA, Tr.get_put, Nat.reduceEqDiff, reduceIte, w2, and_self]
        · rw [if_pos (by simp [kpW, h1, h2])] at htk
          have hsv2 : SV (h.new (.cells (t3cs t) 3)) 3 hA0.next (flatT ((D.take i).filter (kpW Wk))) lv := hsv.mono (by simp only [nx]; omega) (fun z hz _ => by simp (disch := first | assumption | omega | (simp only [nx] <;> omega) | fail) only [hpl])
          obtain ⟨v', h1', e1, s1, n1, n1', k1, r1, l1⟩ := ap_any (k := 1) (x := .slice (some ⟨h.next, 0, none⟩) 1 2) hsv2 rfl (B := t3cs t) (aCells_part (vs := t3cs t) (by simp (disch := first | assumption | omega | (simp only [nx] <;> omega) | fail) only [rowOf, hpl]) (Nat.le_refl _) rfl) rfl rfl (by omega) (by simp only [nx]; omega)
          simp only [nx] at n1 n1'
          refine W.seq <| W.seq <| W.reg <| OSuf.aop tyOK rfl sm rfl <| OSuf.aop tyOK rfl sm rfl <| OSuf.aop tyOK rfl (so_nilCheck (by simp only [lk] <;> rfl)) rfl <| OSuf.aop tyOK rfl (so_fieldAddr (by simp only [lk] <;> rfl) (fa_ok (k := 0) ty28 rfl rfl ty26 rfl rfl)) rfl <| OSuf.aop tyOK rfl (so_load (by simp only [lk] <;> rfl) (by simp (disch := first | assumption | omega | (simp only [nx] <;> omega) | fail) only [aLoad, ty26, rowOf, hpl, hv', hc, sb, y4', tc0, tc0', tc1, hcell, Value.cells, t3cs] <;> rfl)) rfl <| OSuf.aop tyOK rfl (so_len (by simp only [aopnds, lk] <;> rfl) (by simp (disch := first | assumption | omega | (simp only [nx] <;> omega) | fail) only [aLenOf, ty26, hpl, hv', hc, sb, y4', tc0, tc0', tc1, hcell, Value.cells, t3cs] <;> rfl)) rfl <| OSuf.aopT tyOK rfl (so_bin (by simp only [lk] <;> rfl) (by simp only [lk] <;> rfl) bi_lss) (fun _ => rfl) (by first | rfl | assumption | ((simp only [bl, hv', hc, sb, y4', tc0, tc0', tc1, hcell, Value.cells, t3cs]) <;> first | done | assumption | omega) | (simp; done) | (simp; omega)) <| OSuf.nil <| SQ.normal ?_
          refine W.yes (by simp only [lk] <;> rfl) <| CWp.skip <| SQ.normal ?_
          refine W.seq <| W.block <| W.seq <| W.reg <| OSuf.aop tyOK rfl sm rfl <| OSuf.aop tyOK rfl sm rfl <| OSuf.aop tyOK rfl (so_nilCheck (by simp only [lk] <;> rfl)) rfl <| OSuf.aop tyOK rfl (so_fieldAddr (by simp only [lk] <;> rfl) (fa_ok (k := 0) ty28 rfl rfl ty26 rfl rfl)) rfl <| OSuf.aop tyOK rfl (so_load (by simp only [lk] <;> rfl) (by simp (disch := first | assumption | omega | (simp only [nx] <;> omega) | fail) only [aLoad, ty26, rowOf, hpl, hv', hc, sb, y4', tc0, tc0', tc1, hcell, Value.cells, t3cs] <;> rfl)) rfl <| OSuf.aop tyOK rfl sm rfl <| OSuf.aop tyOK rfl (so_indexAddr (by simp only [lk] <;> rfl) (by simp only [lk] <;> rfl) (by simp (disch := first | assumption | omega | (simp only [nx] <;> omega) | fail) only [aIndexAddr, ty26, ty63, hpl, hv', hc, sb, y4', tc0, tc0', tc1, hcell, Value.cells, t3cs] <;> rfl)) rfl <| OSuf.aop tyOK rfl (so_fieldAddr (by simp only [lk] <;> rfl) (fa_ok (k := 0) ty63 rfl rfl ty29 rfl rfl)) rfl <| OSuf.aop tyOK rfl (so_load (by simp only [lk] <;> rfl) (by simp (disch := first | assumption | omega | (simp only [nx] <;> omega) | fail) only [aLoad, ty29, rowOf, hpl, hv', hc, sb, y4', tc0, tc0', tc1, hcell, Value.cells, t3cs] <;> rfl)) rfl <| OSuf.callD rfl (by simp only [aopnds, lk] <;> rfl) en32 (has_out hWI (by omega) h1) rfl <| OSuf.aopT tyOK rfl (so_not (by simp only [lk] <;> rfl)) (fun _ => rfl) rfl <| OSuf.aopT tyOK rfl sm (fun _ => rfl) rfl <| OSuf.aop tyOK ag sm rfl <| OSuf.aop tyOK ag sm rfl <| OSuf.aop tyOK ag (so_nilCheck (by simp only [lk] <;> rfl)) rfl <| OSuf.aop tyOK ag (so_fieldAddr (by simp only [lk] <;> rfl) (fa_ok (k := 0) ty28 rfl rfl ty26 rfl rfl)) rfl <| OSuf.aop tyOK ag (so_load (by simp only [lk] <;> rfl) (by simp (disch := first | assumption | omega | (simp only [nx] <;> omega) | fail) only [aLoad, ty26, rowOf, hpl, hv', hc, sb, y4', tc0, tc0', tc1, hcell, Value.cells, t3cs] <;> rfl)) rfl <| OSuf.aop tyOK ag sm rfl <| OSuf.aop tyOK ag (so_indexAddr (by simp only [lk] <;> rfl) (by simp only [lk] <;> rfl) (by simp (disch := first | assumption | omega | (simp only [nx] <;> omega) | fail) only [aIndexAddr, ty26, ty63, hpl, hv', hc, sb, y4', tc0, tc0', tc1, hcell, Value.cells, t3cs] <;> rfl)) rfl <| OSuf.aop tyOK ag (so_fieldAddr (by simp only [lk] <;> rfl) (fa_ok (k := 1) ty63 rfl rfl ty29 rfl rfl)) rfl <| OSuf.aop tyOK ag (so_load (by simp only [lk] <;> rfl) (by simp (disch := first | assumption | omega | (simp only [nx] <;> omega) | fail) only [aLoad, ty29, rowOf, hpl, hv', hc, sb, y4', tc0, tc0', tc1, hcell, Value.cells, t3cs] <;> rfl)) rfl <| OSuf.callD ag (by simp only [aopnds, lk] <;> rfl) en32 (has_out hWI (by omega) h2) rfl <| OSuf.aopT tyOK ag (so_not (by simp only [lk] <;> rfl)) (fun _ => rfl) rfl <| OSuf.aopT tyOK rfl (so_pick (by simp only [lk] <;> rfl) (by simp only [lk, cond_true, cond_false] <;> rfl)) (fun _ => rfl) rfl <| OSuf.nil <| SQ.normal ?_
          refine W.yes (by simp only [lk] <;> rfl) <| W.reg <| OSuf.aop tyOK rfl sm rfl <| OSuf.aop tyOK rfl sm rfl <| OSuf.aop tyOK rfl (so_nilCheck (by simp only [lk] <;> rfl)) rfl <| OSuf.aop tyOK rfl (so_fieldAddr (by simp only [lk] <;> rfl) (fa_ok (k := 0) ty28 rfl rfl ty26 rfl rfl)) rfl <| OSuf.aop tyOK rfl (so_load (by simp only [lk] <;> rfl) (by simp (disch := first | assumption | omega | (simp only [nx] <;> omega) | fail) only [aLoad, ty26, rowOf, hpl, hv', hc, sb, y4', tc0, tc0', tc1, hcell, Value.cells, t3cs] <;> rfl)) rfl <| OSuf.aop tyOK rfl sm rfl <| OSuf.aop tyOK rfl (so_indexAddr (by simp only [lk] <;> rfl) (by simp only [lk] <;> rfl) (by simp (disch := first | assumption | omega | (simp only [nx] <;> omega) | fail) only [aIndexAddr, ty26, ty63, hpl, hv', hc, sb, y4', tc0, tc0', tc1, hcell, Value.cells, t3cs] <;> rfl)) rfl <| OSuf.aop tyOK rfl (so_load (by simp only [lk] <;> rfl) (by simp (disch := first | assumption | omega | (simp only [nx] <;> omega) | fail) only [aLoad, ty63, rowOf, hpl, hv', hc, sb, y4', tc0, tc0', tc1, hcell, Value.cells, t3cs] <;> rfl)) rfl <| OSuf.aop tyOK rfl (so_buildSlice (by simp only [aparts, lk] <;> rfl) (by simp (disch := first | assumption | omega | (simp only [nx] <;> omega) | fail) only [aBuildSlice, ty26, ty63, hpl, hv', hc, sb, y4', tc0, tc0', tc1, hcell, Value.cells, t3cs] <;> rfl)) rfl <| OSuf.aop tyOK rfl (so_append (by simp only [aopnds, lk] <;> rfl) (e1 _ _ (by simp only [appT, ty26, ty63] <;> rfl) rfl (by decide))) rfl <| OSuf.aop tyOK rfl (so_assign (by simp only [lk] <;> rfl)) rfl <| OSuf.nil <| BQ.normal <| SQ.normal ?_
          refine W.reg <| OSuf.aop tyOK rfl sm rfl <| OSuf.aop tyOK rfl (so_bin (by simp only [lk] <;> rfl) (by simp only [lk] <;> rfl) (bi_w bi_add (by first | (simp only [w2] <;> rfl) | rfl))) rfl <| OSuf.aop tyOK rfl (so_assign (by simp only [lk] <;> rfl)) rfl <| OSuf.nil <| ?_
          -- leaf: round
          refine LQ.normal (m := n - 1) (L := [(0, P0 s), (5, .slice (some ⟨g, 0, none⟩) Wk.length c), (8, v'), (9, I64 ((i + 1 : Nat) : Int))]) (by omega) ?_ ⟨i + 1, v', by omega, ?_, by omega, fun z hz => ?_, by omega, rfl⟩
          · simp only [HasA, Tr.get_put, Nat.reduceEqDiff, reduceIte, w2, and_self]
          · rw [htk, flatT_append]; simpa [flatT] using s1
          · rw [k1 z (by simp only [nx]; omega) (fun e => by have := (hsv2.row e).1; omega)]
            simp (disch := first | assumption | omega | (simp only [nx] <;> omega) | fail) only [hpl]; exact hk2 z hz
    · refine W.seq <| W.seq <| W.reg <| OSuf.aop tyOK rfl sm rfl <| OSuf.aop tyOK rfl sm rfl <| OSuf.aop tyOK rfl (so_nilCheck (by simp only [lk] <;> rfl)) rfl <| OSuf.aop tyOK rfl (so_fieldAddr (by simp only [lk] <;> rfl) (fa_ok (k := 0) ty28 rfl rfl ty26 rfl rfl)) rfl <| OSuf.aop tyOK rfl (so_load (by simp only [lk] <;> rfl) (by simp (disch := first | assumption | omega | (simp only [nx] <;> omega) | fail) only [aLoad, ty26, rowOf, hpl, hv'] <;> rfl)) rfl <| OSuf.aop tyOK rfl (so_len (by simp only [aopnds, lk] <;> rfl) (by simp (disch := first | assumption | omega | (simp only [nx] <;> omega) | fail) only [aLenOf, ty26, hpl, hv'] <;> rfl)) rfl <| OSuf.aopF tyOK rfl (so_bin (by simp only [lk] <;> rfl) (by simp only [lk] <;> rfl) bi_lss) (fun _ => rfl) (by first | rfl | assumption | ((simp only [bl, hv']) <;> first | done | assumption | omega) | (simp; done) | (simp; omega)) <| OSuf.nil <| SQ.normal ?_
      refine W.no (by simp only [lk] <;> rfl) <| CWp.exit <| SQ.exit <| LQ.exit <| BQ.exit <| ?_
      -- leaf: cut
      rw [List.take_of_length_le (by omega)] at hsv
      refine NQ.normal (L := [(0, P0 s), (5, .slice (some ⟨g, 0, none⟩) Wk.length c), (8, lv)]) ?_ ⟨lv, hsv, hnx, hk2, rfl⟩
      simp only [HasA, Tr.get_put, Nat.reduceEqDiff, reduceIte, and_self]
  clear ha
  rintro L a' hB0 ha ⟨lv, hsv, hnx, hk2, rfl⟩
  have hvB : hB0.get s = some (.cells [.slice b D.length 0] 1) := by rw [hk2 s (by omega)]; exact hvA
  obtain ⟨bb, eb, _, hlrow⟩ := hsv.form
  obtain ⟨nn, hnn⟩ : ∃ nn, nn = vLen lv := ⟨_, rfl⟩
  rw [← hnn] at eb
  subst eb
  refine SQ.normal <| CWp.known ha ?_
  simp only [mkA]
  refine W.seq <| W.reg <| OSuf.aop tyOK rfl sm rfl <| OSuf.aop tyOK rfl sm rfl <| OSuf.aop tyOK rfl (so_nilCheck (by simp only [lk] <;> rfl)) rfl <| OSuf.aop tyOK rfl (so_fieldAddr (by simp only [lk] <;> rfl) (fa_ok (k := 0) ty28 rfl rfl ty26 rfl rfl)) rfl <| OSuf.aop tyOK rfl (so_store (by simp only [lk] <;> rfl) (by simp only [lk] <;> rfl) (by simp (disch := first | assumption | omega | (simp only [nx] <;> omega) | fail) only [aStore, ty26, writeRow, hpl, hvB, Value.cells] <;> rfl)) rfl <| OSuf.nil <| SQ.normal ?_
  refine W.seq <| W.reg <| OSuf.aop tyOK rfl (so_assign (by simp only [lk] <;> rfl)) rfl <| OSuf.nil <| SQ.normal ?_
  refine W.seq <| W.seq <| W.reg <| OSuf.aop tyOK rfl (so_assign (by simp only [lk] <;> rfl)) rfl <| OSuf.nil <| SQ.normal ?_
  -- leaf: loop
  show CWp _ _ _ _ (hB0.set s (AObj.cells [Value.slice bb nn 0] 1)) _
  obtain ⟨hC, hCd⟩ : ∃ hC, hC = hB0.set s (.cells [.slice bb nn 0] 1) := ⟨_, rfl⟩
  rw [← hCd]
  have hCn : hC.next = hB0.next := by rw [hCd]; rfl
  have hCs : hC.get s = some (.cells [.slice bb nn 0] 1) := by rw [hCd]; exact AHeap.get_set_same _ _ _
  have hCk : ∀ z, ¬ s = z → hC.get z = hB0.get z := fun z hz => by rw [hCd]; exact AHeap.get_set_ne hz
  have hsvC : SV hC 3 hA0.next (flatT (D.filter (kpW Wk))) (.slice bb nn 0) := hsv.mono (by omega) (fun z hz hzz => hCk z (by have := (hsv.row hzz).1; omega))
  have hCg : hC.get g = some (.cells (Wk.map (Value.int .u64)) 1) := by rw [hCk g (by omega), hk2 g hgl]; exact hrow
  have hCold : ∀ z, z < h0.next → ¬ s = z → hC.get z = h0.get z := fun z hz hs => by rw [hCk z hs, hk2 z (by omega), hk z hz]
  clear hCd hk2 hvB hsv hlrow ha hCk
  have hsC : s < hC.next := by omega
  refine W.cut (fun L h => ∃ (out : List Int) (ov : Value), SV h 1 hC.next (out.map (Value.int .u64)) ov ∧ hC.next ≤ h.next ∧ (∀ z, z < hC.next → h.get z = hC.get z) ∧ out.Pairwise (· < ·) ∧ (∀ y, y ∈ out ↔ ∃ j, 1 ≤ j ∧ j < Wk.length ∧ Wk[j]? = some y) ∧ out.length ≤ Wk.length ∧ L = [(10, ov)]) (W.block (W.loop (fun n L h => ∃ (i : Nat) (out : List Int) (ov : Value), n + i = Wk.length ∧ 1 ≤ i ∧ SV h 1 hC.next (out.map (Value.int .u64)) ov ∧ hC.next ≤ h.next ∧ (∀ z, z < hC.next → h.get z = hC.get z) ∧ out.Pairwise (· < ·) ∧ (∀ y, y ∈ out ↔ ∃ j, 1 ≤ j ∧ j < i ∧ Wk[j]? = some y) ∧ out.length < i ∧ L = [(5, .slice (some ⟨g, 0, none⟩) Wk.length c), (10, ov), (11, I64 i)]) (n := Wk.length - 1)
    ⟨1, [], _, by have := (List.getElem?_eq_some_iff.1 hW.hd).1; omega, by omega, .nil, Nat.le_refl _, fun _ _ => rfl, by simp, fun y => ⟨fun h => (by cases h), fun ⟨j, h1, h2, _⟩ => (by omega)⟩, by simp, rfl⟩ ?_ ?_)) ?_
  · simp [HasA, Tr.get_put]
  · rintro n L h ⟨i, out, ov, hn, h1i, hso, hnx2, hk3, hsort, hmem, hol, rfl⟩
    simp only [mkA]
    have w2 : IntKind.i64.wrap ((i : Int) + 1) = ((i + 1 : Nat) : Int) := by rw [wrap_i64 (by omega) (by omega)]; omega
    have hWg : h.get g = some (.cells (Wk.map (Value.int .u64)) 1) := by rw [hk3 g (by omega)]; exact hCg
    by_cases hi : (i : Int) < (Wk.length : Int)
    · obtain ⟨gi, hgi⟩ : ∃ gi, Wk[i]? = some gi := ⟨Wk[i]'(by omega), by simp⟩
      have hgg : (Wk.map (Value.int .u64))[i]? = some (.int .u64 gi) := by simp [hgi]
      have hci : (0 ≤ (i : Int) ∧ (i : Int) < (Wk.length : Int)) := by omega
      obtain ⟨ob, eo, hlo, horow⟩ := hso.form
      have hlo' : vLen ov = out.length := by simp at hlo; omega
      rw [hlo'] at eo
      have hnot : gi ∉ out := fun hm => by
        obtain ⟨j, j1, j2, j3⟩ := (hmem gi).1 hm
        have h9 := List.getElem?_eq_some_iff.1 j3
        have h8 := List.getElem?_eq_some_iff.1 hgi
        have := (List.nodup_iff_pairwise_ne.1 hW.nd)
        have := List.pairwise_iff_getElem.1 this j i h9.1 h8.1 j2
        rw [h9.2, h8.2] at this
        exact this rfl
      refine W.seq <| W.seq <| W.reg <| OSuf.aop tyOK rfl sm rfl <| OSuf.aop tyOK rfl sm rfl <| OSuf.aop tyOK rfl (so_len (by simp only [aopnds, lk] <;> rfl) (by simp (disch := first | assumption | omega | (simp only [nx] <;> omega) | fail) only [aLenOf, ty36, hpl] <;> rfl)) rfl <| OSuf.aopT tyOK rfl (so_bin (by simp only [lk] <;> rfl) (by simp only [lk] <;> rfl) bi_lss) (fun _ => rfl) (by first | rfl | assumption | ((simp only [bl]) <;> first | done | assumption | omega) | (simp; done) | (simp; omega)) <| OSuf.nil <| SQ.normal ?_
      refine W.yes (by simp only [lk] <;> rfl) <| CWp.skip <| SQ.normal ?_
      refine W.seq <| W.block <| W.seq <| W.reg <| OSuf.aop tyOK rfl (so_assign (by simp only [lk] <;> rfl)) rfl <| OSuf.nil <| SQ.normal ?_
      refine W.seq <| ?_
      -- leaf: loop
      refine W.cut (fun L h2 => ∃ a : Nat, h2 = h ∧ a ≤ out.length ∧ (∀ j y, j < a → out[j]? = some y → y < gi) ∧ (a = out.length ∨ ∃ y, out[a]? = some y ∧ gi ≤ y) ∧ L = [(5, .slice (some ⟨g, 0, none⟩) Wk.length c), (10, ov), (11, I64 i), (12, I64 a)]) (W.block (W.loop (fun n L h2 => ∃ a : Nat, n + a = out.length ∧ h2 = h ∧ (∀ j y, j < a → out[j]? = some y → y < gi) ∧ L = [(5, .slice (some ⟨g, 0, none⟩) Wk.length c), (10, ov), (11, I64 i), (12, I64 a)]) (n := out.length) ⟨0, by omega, rfl, fun j y hj => absurd hj (Nat.not_lt_zero _), rfl⟩ ?_ ?_)) ?_
      · simp [HasA, Tr.get_put]
      · rintro m L h2 ⟨a, hm, rfl, hbef, rfl⟩
        subst eo
        simp only [mkA]
        have w3 : IntKind.i64.wrap ((a : Int) + 1) = ((a + 1 : Nat) : Int) := by rw [wrap_i64 (by omega) (by omega)]; omega
        by_cases hal : (a : Int) < (out.length : Int)
        · obtain ⟨ya, hya⟩ : ∃ ya, out[a]? = some ya := ⟨out[a]'(by omega), by simp⟩
          have hne : out.map (Value.int .u64) ≠ [] := fun e => by simp at e; subst e; simp at hya
          obtain ⟨y, rfl, _, q1, q2, q3⟩ := horow hne
          have hca : (0 ≤ (a : Int) ∧ (a : Int) < (out.length : Int)) := by omega
          have hya' : (out.map (Value.int .u64))[a]? = some (.int .u64 ya) := by simp [hya]
          by_cases hlt2 : ya < gi
          · refine W.seq <| W.seq <| W.regD tyOK mixed (by kernel_rfl) <| SqW.aop rfl sm rfl <| SqW.aop rfl sm rfl <| SqW.aop rfl (so_len (by simp only [aopnds, lk] <;> rfl) (by simp (disch := first | assumption | omega | (simp only [nx] <;> omega) | fail) only [aLenOf, ty36, hpl, hca, hci, sb, q3, hya', hWg, hgg] <;> rfl)) rfl <| SqW.aopT rfl (so_bin (by simp only [lk] <;> rfl) (by simp only [lk] <;> rfl) bi_lss) (fun _ => rfl) (by first | rfl | assumption | ((simp only [bl, hca, hci, sb, q3, hya', hWg, hgg]) <;> first | done | assumption | omega) | (simp; done) | (simp; omega)) <| SqW.aopT rfl sm (fun _ => rfl) rfl <| SqW.aop ag sm rfl <| SqW.aop ag sm rfl <| SqW.aop ag (so_indexAddr (by simp only [lk] <;> rfl) (by simp only [lk] <;> rfl) (by simp (disch := first | assumption | omega | (simp only [nx] <;> omega) | fail) only [aIndexAddr, ty36, ty29, hpl, hca, hci, sb, q3, hya', hWg, hgg] <;> rfl)) rfl <| SqW.aop ag (so_load (by simp only [lk] <;> rfl) (by simp (disch := first | assumption | omega | (simp only [nx] <;> omega) | fail) only [aLoad, ty29, rowOf, hpl, hca, hci, sb, q3, hya', hWg, hgg] <;> rfl)) rfl <| SqW.aop ag sm rfl <| SqW.aop ag sm rfl <| SqW.aop ag (so_indexAddr (by simp only [lk] <;> rfl) (by simp only [lk] <;> rfl) (by simp (disch := first | assumption | omega | (simp only [nx] <;> omega) | fail) only [aIndexAddr, ty36, ty29, hpl, hca, hci, sb, q3, hya', hWg, hgg] <;> rfl)) rfl <| SqW.aop ag (so_load (by simp only [lk] <;> rfl) (by simp (disch := first | assumption | omega | (simp only [nx] <;> omega) | fail) only [aLoad, ty29, rowOf, hpl, hca, hci, sb, q3, hya', hWg, hgg] <;> rfl)) rfl <| SqW.aopT ag (so_bin (by simp only [lk] <;> rfl) (by simp only [lk] <;> rfl) bi_lss) (fun _ => rfl) (by first | rfl | assumption | ((simp only [bl, hca, hci, sb, q3, hya', hWg, hgg]) <;> first | done | assumption | omega) | (simp; done) | (simp; omega)) <| SqW.aopT rfl (so_pick (by simp only [lk] <;> rfl) (by simp only [lk, cond_true, cond_false] <;> rfl)) (fun _ => rfl) rfl <| SqW.nil <| SQ.normal ?_
            refine W.yes (by simp only [lk] <;> rfl) <| CWp.skip <| SQ.normal ?_
            refine W.block <| W.reg <| OSuf.aop tyOK rfl sm rfl <| OSuf.aop tyOK rfl (so_bin (by simp only [lk] <;> rfl) (by simp only [lk] <;> rfl) (bi_w bi_add (by first | (simp only [w3] <;> rfl) | rfl))) rfl <| OSuf.aop tyOK rfl (so_assign (by simp only [lk] <;> rfl)) rfl <| OSuf.nil <| BQ.normal <| ?_
            -- leaf: round
            refine LQ.normal (m := m - 1) (L := [(5, .slice (some ⟨g, 0, none⟩) Wk.length c), (10, .slice (some ⟨y, 0, none⟩) out.length 0), (11, I64 i), (12, I64 ((a + 1 : Nat) : Int))]) (by omega) ?_ ⟨a + 1, by omega, rfl, fun j z hj hz => ?_, rfl⟩
            · simp only [HasA, Tr.get_put, Nat.reduceEqDiff, reduceIte, w3, and_self]
            · by_cases e : j = a
              · subst e; rw [hya] at hz; cases hz; exact hlt2
              · exact hbef j z (by omega) hz
          · refine W.seq <| W.seq <| W.regD tyOK mixed (by kernel_rfl) <| SqW.aop rfl sm rfl <| SqW.aop rfl sm rfl <| SqW.aop rfl (so_len (by simp only [aopnds, lk] <;> rfl) (by simp (disch := first | assumption | omega | (simp only [nx] <;> omega) | fail) only [aLenOf, ty36, hpl, hca, hci, sb, q3, hya', hWg, hgg] <;> rfl)) rfl <| SqW.aopT rfl (so_bin (by simp only [lk] <;> rfl) (by simp only [lk] <;> rfl) bi_lss) (fun _ => rfl) (by first | rfl | assumption | ((simp only [bl, hca, hci, sb, q3, hya', hWg, hgg]) <;> first | done | assumption | omega) | (simp; done) | (simp; omega)) <| SqW.aopT rfl sm (fun _ => rfl) rfl <| SqW.aop ag sm rfl <| SqW.aop ag sm rfl <| SqW.aop ag (so_indexAddr (by simp only [lk] <;> rfl) (by simp only [lk] <;> rfl) (by simp (disch := first | assumption | omega | (simp only [nx] <;> omega) | fail) only [aIndexAddr, ty36, ty29, hpl, hca, hci, sb, q3, hya', hWg, hgg] <;> rfl)) rfl <| SqW.aop ag (so_load (by simp only [lk] <;> rfl) (by simp (disch := first | assumption | omega | (simp only [nx] <;> omega) | fail) only [aLoad, ty29, rowOf, hpl, hca, hci, sb, q3, hya', hWg, hgg] <;> rfl)) rfl <| SqW.aop ag sm rfl <| SqW.aop ag sm rfl <| SqW.aop ag (so_indexAddr (by simp only [lk] <;> rfl) (by simp only [lk] <;> rfl) (by simp (disch := first | assumption | omega | (simp only [nx] <;> omega) | fail) only [aIndexAddr, ty36, ty29, hpl, hca, hci, sb, q3, hya', hWg, hgg] <;> rfl)) rfl <| SqW.aop ag (so_load (by simp only [lk] <;> rfl) (by simp (disch := first | assumption | omega | (simp only [nx] <;> omega) | fail) only [aLoad, ty29, rowOf, hpl, hca, hci, sb, q3, hya', hWg, hgg] <;> rfl)) rfl <| SqW.aopF ag (so_bin (by simp only [lk] <;> rfl) (by simp only [lk] <;> rfl) bi_lss) (fun _ => rfl) (by first | rfl | assumption | ((simp only [bl, hca, hci, sb, q3, hya', hWg, hgg]) <;> first | done | assumption | omega) | (simp; done) | (simp; omega)) <| SqW.aopF rfl (so_pick (by simp only [lk] <;> rfl) (by simp only [lk, cond_true, cond_false] <;> rfl)) (fun _ => rfl) rfl <| SqW.nil <| SQ.normal ?_
            refine W.no (by simp only [lk] <;> rfl) <| CWp.exit <| SQ.exit <| LQ.exit <| BQ.exit <| ?_
            -- leaf: cut
            refine NQ.normal (L := [(5, .slice (some ⟨g, 0, none⟩) Wk.length c), (10, .slice (some ⟨y, 0, none⟩) out.length 0), (11, I64 i), (12, I64 a)]) ?_ ⟨a, rfl, by omega, hbef, .inr ⟨ya, hya, by omega⟩, rfl⟩
            simp only [HasA, Tr.get_put, Nat.reduceEqDiff, reduceIte, and_self]
        · refine W.seq <| W.seq <| W.regD tyOK mixed (by kernel_rfl) <| SqW.aop rfl sm rfl <| SqW.aop rfl sm rfl <| SqW.aop rfl (so_len (by simp only [aopnds, lk] <;> rfl) (by simp (disch := first | assumption | omega | (simp only [nx] <;> omega) | fail) only [aLenOf, ty36, hpl] <;> rfl)) rfl <| SqW.aopF rfl (so_bin (by simp only [lk] <;> rfl) (by simp only [lk] <;> rfl) bi_lss) (fun _ => rfl) (by first | rfl | assumption | ((simp only [bl]) <;> first | done | assumption | omega) | (simp; done) | (simp; omega)) <| SqW.aopF rfl sm (fun _ => rfl) rfl <| SqW.pass ag rfl <| SqW.pass ag rfl <| SqW.pass ag rfl <| SqW.pass ag rfl <| SqW.pass ag rfl <| SqW.pass ag rfl <| SqW.pass ag rfl <| SqW.pass ag rfl <| SqW.pass ag rfl <| SqW.aopF rfl (so_pick (by simp only [lk] <;> rfl) (by simp only [lk, cond_true, cond_false] <;> rfl)) (fun _ => rfl) rfl <| SqW.nil <| SQ.normal ?_
          refine W.no (by simp only [lk] <;> rfl) <| CWp.exit <| SQ.exit <| LQ.exit <| BQ.exit <| ?_
          -- leaf: cut
          refine NQ.normal (L := [(5, .slice (some ⟨g, 0, none⟩) Wk.length c), (10, .slice ob out.length 0), (11, I64 i), (12, I64 a)]) ?_ ⟨a, rfl, by omega, hbef, .inl (by omega), rfl⟩
          simp only [HasA, Tr.get_put, Nat.reduceEqDiff, reduceIte, and_self]
      rintro L a' h2 ha ⟨a, rfl, hao, hbef, hend, rfl⟩
      obtain ⟨sv1, x1, x2, x3⟩ := sl_hi hso (k := a) (by omega)
      obtain ⟨v1, h1, e1, s1, n1, n1', k1, r1, l1⟩ := ap_any (h := h2) (sz := 1) (lo := h2.next) (v := .slice none 0 0) (A := []) .nil x2 x3 (by simp; omega) (by rw [← List.map_take]; exact ones_ints _) (by simp only [vLen]; omega) (Nat.le_refl _)
      have l1' : vLen v1 = 0 + a := l1
      have s1' := s1.mono (h' := h1.new (.cells [Value.int .u64 gi] 1)) (by simp only [nx]; omega) (fun z hz _ => by simp (disch := first | assumption | omega | (simp only [nx] <;> omega) | fail) only [hpl])
      obtain ⟨v2, h3, e2, s2, n2, n2', k2, r2, l2⟩ := ap_any (k := 1) (x := .slice (some ⟨h1.next, 0, none⟩) 1 2) s1' rfl (B := [Value.int .u64 gi]) (aCells_part (vs := [Value.int .u64 gi]) (by simp (disch := first | assumption | omega | (simp only [nx] <;> omega) | fail) only [rowOf, hpl]) (Nat.le_refl _) rfl) rfl rfl (by omega) (by simp only [nx]; omega)
      simp only [nx] at n2 n2'
      have keep1 : ∀ z, z < h2.next → h1.get z = h2.get z := fun z hz => k1 z hz (by simp [svRow])
      have keep2 : ∀ z, z < h2.next → h3.get z = h2.get z := fun z hz => by
        rw [k2 z (by simp only [nx]; omega) (fun e => by have := (s1'.row e).1; omega)]
        simp (disch := first | assumption | omega | (simp only [nx] <;> omega) | fail) only [hpl]; exact keep1 z hz
      have hso3 : SV h3 1 hC.next (out.map (Value.int .u64)) ov := hso.mono (by omega) (fun z hz _ => keep2 z hz)
      obtain ⟨sv3, x4, x5, x6⟩ := sl_lo hso3 (k := a) (by omega)
      obtain ⟨v3, h4, e3, s3, n3, n3', k3, r3, l3⟩ := ap_any (h := h3) (sz := 1) s2 x5 x6 (by simp; omega) (by rw [← List.map_drop]; exact ones_ints _) (by omega) (by omega)
      have hWg1 : h1.get g = some (.cells (Wk.map (Value.int .u64)) 1) := by rw [keep1 g (by omega)]; exact hWg
      refine SQ.normal <| CWp.known ha ?_
      simp only [mkA]
      refine W.seq <| W.reg <| OSuf.aop tyOK rfl (so_assign (by simp only [lk] <;> rfl)) rfl <| OSuf.nil <| SQ.normal ?_
      refine W.seq <| W.reg <| OSuf.aop tyOK rfl sm rfl <| OSuf.aop tyOK rfl sm rfl <| OSuf.aop tyOK rfl sm rfl <| OSuf.aop tyOK rfl (so_slice (by simp only [lk] <;> rfl) (by simp only [oopnd, lk] <;> rfl) (by simp only [oopnd, lk] <;> rfl) (by simp only [oopnd, lk] <;> rfl) (x1)) rfl <| OSuf.aop tyOK rfl (so_append (by simp only [aopnds, lk] <;> rfl) (e1 _ _ (by simp only [appT, ty36, ty29] <;> rfl) rfl (by decide))) rfl <| OSuf.aop tyOK rfl (so_assign (by simp only [lk] <;> rfl)) rfl <| OSuf.nil <| SQ.normal ?_
      refine W.seq <| W.reg <| OSuf.aop tyOK rfl sm rfl <| OSuf.aop tyOK rfl sm rfl <| OSuf.aop tyOK rfl sm rfl <| OSuf.aop tyOK rfl (so_indexAddr (by simp only [lk] <;> rfl) (by simp only [lk] <;> rfl) (by simp (disch := first | assumption | omega | (simp only [nx] <;> omega) | fail) only [aIndexAddr, ty36, ty29, hpl, hci, sb, hWg1, hgg, Value.cells] <;> rfl)) rfl <| OSuf.aop tyOK rfl (so_load (by simp only [lk] <;> rfl) (by simp (disch := first | assumption | omega | (simp only [nx] <;> omega) | fail) only [aLoad, ty29, rowOf, hpl, hci, sb, hWg1, hgg, Value.cells] <;> rfl)) rfl <| OSuf.aop tyOK rfl (so_buildSlice (by simp only [aparts, lk] <;> rfl) (by simp (disch := first | assumption | omega | (simp only [nx] <;> omega) | fail) only [aBuildSlice, ty36, ty29, hpl, hci, sb, hWg1, hgg, Value.cells] <;> rfl)) rfl <| OSuf.aop tyOK rfl (so_append (by simp only [aopnds, lk] <;> rfl) (e2 _ _ (by simp only [appT, ty36, ty29] <;> rfl) rfl (by decide))) rfl <| OSuf.aop tyOK rfl (so_assign (by simp only [lk] <;> rfl)) rfl <| OSuf.nil <| SQ.normal ?_
      refine W.reg <| OSuf.aop tyOK rfl sm rfl <| OSuf.aop tyOK rfl sm rfl <| OSuf.aop tyOK rfl sm rfl <| OSuf.aop tyOK rfl (so_slice (by simp only [lk] <;> rfl) (by simp only [oopnd, lk] <;> rfl) (by simp only [oopnd, lk] <;> rfl) (by simp only [oopnd, lk] <;> rfl) (x4)) rfl <| OSuf.aop tyOK rfl (so_append (by simp only [aopnds, lk] <;> rfl) (e3 _ _ (by simp only [appT, ty36, ty29] <;> rfl) rfl (by decide))) rfl <| OSuf.aop tyOK rfl (so_assign (by simp only [lk] <;> rfl)) rfl <| OSuf.nil <| BQ.normal <| SQ.normal ?_
      refine W.reg <| OSuf.aop tyOK rfl sm rfl <| OSuf.aop tyOK rfl (so_bin (by simp only [lk] <;> rfl) (by simp only [lk] <;> rfl) (bi_w bi_add (by first | (simp only [w2] <;> rfl) | rfl))) rfl <| OSuf.aop tyOK rfl (so_assign (by simp only [lk] <;> rfl)) rfl <| OSuf.nil <| ?_
      -- leaf: round
      have hnew : [] ++ List.take a (out.map (Value.int .u64)) ++ [Value.int .u64 gi] ++ List.drop a (out.map (Value.int .u64)) = (out.take a ++ [gi] ++ out.drop a).map (Value.int .u64) := by simp
      rw [hnew] at s3
      refine LQ.normal (m := n - 1) (L := [(5, .slice (some ⟨g, 0, none⟩) Wk.length c), (10, v3), (11, I64 ((i + 1 : Nat) : Int))]) (by omega) ?_ ⟨i + 1, out.take a ++ [gi] ++ out.drop a, v3, by omega, by omega, s3.low (by omega), by omega, fun z hz => ?_, ins_sorted hsort hbef hend hnot, fun y => ?_, by simp; omega, rfl⟩
      · simp only [HasA, Tr.get_put, Nat.reduceEqDiff, reduceIte, w2, and_self]
      · rw [k3 z (by omega) (fun e => by have := (s2.row e).1; omega), keep2 z (by omega)]; exact hk3 z hz
      · have hsplit : y ∈ out.take a ++ [gi] ++ out.drop a ↔ y ∈ out ∨ y = gi := by
          simp only [List.mem_append, List.mem_singleton]
          constructor
          · rintro ((h | h) | h)
            · exact .inl (List.mem_of_mem_take h)
            · exact .inr h
            · exact .inl (List.mem_of_mem_drop h)
          · rintro (h | h)
            · rw [← List.take_append_drop a out] at h
              rcases List.mem_append.1 h with h | h
              · exact .inl (.inl h)
              · exact .inr h
            · exact .inl (.inr h)
        rw [hsplit, hmem y]
        constructor
        · rintro (⟨j, j1, j2, j3⟩ | rfl)
          · exact ⟨j, j1, by omega, j3⟩
          · exact ⟨i, h1i, by omega, hgi⟩
        · rintro ⟨j, j1, j2, j3⟩
          by_cases e : j = i
          · subst e; rw [hgi] at j3; cases j3; exact .inr rfl
          · exact .inl ⟨j, j1, by omega, j3⟩
    · refine W.seq <| W.seq <| W.reg <| OSuf.aop tyOK rfl sm rfl <| OSuf.aop tyOK rfl sm rfl <| OSuf.aop tyOK rfl (so_len (by simp only [aopnds, lk] <;> rfl) (by simp (disch := first | assumption | omega | (simp only [nx] <;> omega) | fail) only [aLenOf, ty36, hpl] <;> rfl)) rfl <| OSuf.aopF tyOK rfl (so_bin (by simp only [lk] <;> rfl) (by simp only [lk] <;> rfl) bi_lss) (fun _ => rfl) (by first | rfl | assumption | ((simp only [bl]) <;> first | done | assumption | omega) | (simp; done) | (simp; omega)) <| OSuf.nil <| SQ.normal ?_
      refine W.no (by simp only [lk] <;> rfl) <| CWp.exit <| SQ.exit <| LQ.exit <| BQ.exit <| ?_
      -- leaf: cut
      have : i = Wk.length := by omega
      subst this
      refine NQ.normal (L := [(10, ov)]) ?_ ⟨out, ov, hso, hnx2, hk3, hsort, hmem, by omega, rfl⟩
      simp only [HasA, Tr.get_put, Nat.reduceEqDiff, reduceIte, and_self]
  rintro L a' h ha ⟨out, ov, hso, hnx2, hk3, hsort, hmem, hol, rfl⟩
  refine SQ.normal <| CWp.known ha ?_
  simp only [mkA]
  refine W.seq <| W.reg <| OSuf.aop tyOK rfl sm rfl <| OSuf.aop tyOK rfl (so_assign (by simp only [lk] <;> rfl)) rfl <| OSuf.nil <| SQ.normal ?_
  refine CWp.ret <| FQ.ret (by simp only [aRet, Try.f17, aResults, aResult, lk, Nat.reduceEqDiff, reduceIte] <;> rfl) ?_
  -- leaf: end
  refine ⟨Wk, out, .slice bb nn 0, fun y => hW.all hD, hsort, fun y => ?_, by omega, (hsvC.mono hnx2 (fun z hz _ => hk3 z hz)).low (by omega), by rw [hk3 s hsC]; exact hCs, hso.low (by omega), fun y hy hu => ?_, by omega, fun z hz hs => by rw [hk3 z (by omega)]; exact hCold z hz hs⟩
  · rw [hmem y]
    constructor
    · rintro ⟨j, j1, j2, j3⟩
      refine ⟨List.mem_of_getElem? j3, fun e => ?_⟩
      subst e
      have h9 := List.getElem?_eq_some_iff.1 j3
      have h8 := List.getElem?_eq_some_iff.1 hW.hd
      have := List.pairwise_iff_getElem.1 (List.nodup_iff_pairwise_ne.1 hW.nd) 0 j h8.1 h9.1 (by omega)
      rw [h9.2, h8.2] at this
      exact this rfl
    · rintro ⟨hm, hne⟩
      obtain ⟨j, hj⟩ := List.mem_iff_getElem?.1 hm
      refine ⟨j, ?_, (List.getElem?_eq_some_iff.1 hj).1, hj⟩
      cases j with
      | zero => rw [hW.hd] at hj; cases hj; exact (hne rfl).elim
      | succ j => omega
  · have q1 := (hsvC.row hy).2.1
    have q2 := (hso.row hu).1
    omega

def dd : List Int → List Int
  | [] => []
  | a :: l => if a ∈ l then dd l else a :: dd l
theorem dd_mem : ∀ (l : List Int) (y : Int), y ∈ dd l ↔ y ∈ l
  | [], y => Iff.rfl
  | a :: l, y => by
    rw [dd]
    split
    · rename_i h
      rw [dd_mem l y, List.mem_cons]
      exact ⟨.inr, fun h9 => h9.elim (fun e => by rw [e]; exact h) id⟩
    · rw [List.mem_cons, List.mem_cons, dd_mem l y]
theorem dd_nodup : ∀ l : List Int, (dd l).Nodup
  | [] => by simp [dd]
  | a :: l => by
    rw [dd]
    split
    · exact dd_nodup l
    · rename_i h
      exact List.nodup_cons.2 ⟨fun h9 => h ((dd_mem l a).1 h9), dd_nodup l⟩
open Classical in
theorem exG (D : List T3) (ts : Int) : ∃ G : List Int, G.Pairwise (· < ·) ∧ (∀ y, y ∈ G ↔ RchD D ts y ∧ ¬ y = ts) := by
  have hp := SortU.isI_perm ((dd (D.map (·.1.1))).filter fun y => decide (RchD D ts y ∧ ¬ y = ts))
  refine ⟨SortU.isI ((dd (D.map (·.1.1))).filter fun y => decide (RchD D ts y ∧ ¬ y = ts)), lt_of_sorted (SortU.isI_sorted _) (hp.nodup_iff.2 ((dd_nodup _).filter _)), fun y => ?_⟩
  rw [hp.mem_iff, List.mem_filter, dd_mem]
  constructor
  · rintro ⟨_, h⟩; simpa using h
  · intro h
    refine ⟨?_, by simpa using h⟩
    cases h.1 with
    | refl => exact (h.2 rfl).elim
    | step _ ht _ => exact List.mem_map.2 ⟨_, ht, rfl⟩

structure Rel (ps : List Pr) (D : List T3) : Prop where
  key : ∀ k, (∃ p ∈ ps, p.key = k) ↔ ∃ b, (k, b) ∈ D
  hang : ∀ p ∈ ps, p.hangs = true ↔ (p.key, true) ∈ D
theorem Rel.reach {ps : List Pr} {D : List T3} (R : Rel ps D) {x y : Int} : Reach ps x y ↔ RchD D x y := by
  constructor
  · intro h
    induction h with
    | refl => exact .refl
    | @step y p hr hp hh ho ih =>
      exact RchD.step (t := (p.key, true)) (by simp only; rw [ho]; exact ih) ((R.hang p hp).1 hh) rfl
  · intro h
    induction h with
    | refl => exact .refl
    | @step t hr ht hh ih =>
      obtain ⟨p, hp, hk⟩ := (R.key t.1).2 ⟨t.2, ht⟩
      have e : t = (p.key, true) := by rw [hk, ← hh]
      have := Reach.step ih hp ((R.hang p hp).2 (by rw [← e]; exact ht)) (by rw [hk])
      rw [hk] at this; exact this
theorem Rel.filter {ps : List Pr} {D : List T3} (R : Rel ps D) (f : Int × Int → Bool) : Rel (ps.filter fun p => f p.key) (D.filter fun t => f t.1) := by
  refine ⟨fun k => ?_, fun p hp => ?_⟩
  · constructor
    · rintro ⟨p, hp, rfl⟩
      obtain ⟨h1, h2⟩ := List.mem_filter.1 hp
      obtain ⟨b, hb⟩ := (R.key p.key).1 ⟨p, h1, rfl⟩
      exact ⟨b, List.mem_filter.2 ⟨hb, h2⟩⟩
    · rintro ⟨b, hb⟩
      obtain ⟨h1, h2⟩ := List.mem_filter.1 hb
      obtain ⟨p, hp, hk⟩ := (R.key k).2 ⟨b, h1⟩
      exact ⟨p, List.mem_filter.2 ⟨hp, by rw [hk]; exact h2⟩, hk⟩
  · obtain ⟨h1, h2⟩ := List.mem_filter.1 hp
    rw [R.hang p h1, List.mem_filter]
    exact ⟨fun h => ⟨h, h2⟩, fun h => h.1⟩
theorem putD_mem {t x : T3} {D : List T3} : x ∈ putD t D ↔ x ∈ D ∨ x = t := by
  unfold putD
  split
  · rename_i h
    exact ⟨.inl, fun h9 => h9.elim id fun e => by rw [e]; exact h⟩
  · simp
theorem has_iff {k : Int × Int} {ps : List Pr} : hasP k ps = true ↔ ∃ p ∈ ps, p.key = k := by
  simp [hasP]
theorem Rel.put {S : DS} {D : List T3} (R : Rel S.ps D) (k : Int × Int) (hg : Bool) : Rel (putP k hg S).ps (putD (k, hg) D) := by
  unfold putP
  cases hh : hasP k S.ps
  · simp only [cond_false]
    have hno : ∀ p ∈ S.ps, ¬ p.key = k := fun p hp e => by have := has_iff.2 ⟨p, hp, e⟩; rw [hh] at this; cases this
    have hnoD : ∀ b, (k, b) ∉ D := fun b hb => by obtain ⟨p, hp, e⟩ := (R.key k).2 ⟨b, hb⟩; exact hno p hp e
    refine ⟨fun k' => ?_, fun p hp => ?_⟩
    · constructor
      · rintro ⟨p, hp, rfl⟩
        rcases List.mem_append.1 hp with h | h
        · obtain ⟨b, hb⟩ := (R.key p.key).1 ⟨p, h, rfl⟩
          exact ⟨b, putD_mem.2 (.inl hb)⟩
        · simp at h; subst h; exact ⟨hg, putD_mem.2 (.inr rfl)⟩
      · rintro ⟨b, hb⟩
        rcases putD_mem.1 hb with h | h
        · obtain ⟨p, hp, e⟩ := (R.key k').2 ⟨b, h⟩
          exact ⟨p, List.mem_append.2 (.inl hp), e⟩
        · cases h; exact ⟨⟨k, hg, S.clock⟩, List.mem_append.2 (.inr (List.mem_singleton.2 rfl)), rfl⟩
    · rcases List.mem_append.1 hp with h | h
      · rw [R.hang p h, putD_mem]
        exact ⟨.inl, fun h9 => h9.elim id fun e => by cases e; exact (hno p h rfl).elim⟩
      · simp at h; subst h
        rw [putD_mem]
        constructor
        · intro e; simp only at e; subst e; exact .inr rfl
        · rintro (h9 | h9)
          · exact (hnoD _ h9).elim
          · cases h9; rfl
  · simp only [cond_true]
    obtain ⟨p0, hp0, hk0⟩ := has_iff.1 hh
    have fkey : ∀ p : Pr, (if p.key = k then { p with hangs := p.hangs || hg } else p).key = p.key := fun p => by split <;> rfl
    refine ⟨fun k' => ?_, fun p hp => ?_⟩
    · constructor
      · rintro ⟨p, hp, rfl⟩
        obtain ⟨q, hq, rfl⟩ := List.mem_map.1 hp
        rw [fkey]
        obtain ⟨b, hb⟩ := (R.key q.key).1 ⟨q, hq, rfl⟩
        exact ⟨b, putD_mem.2 (.inl hb)⟩
      · rintro ⟨b, hb⟩
        rcases putD_mem.1 hb with h | h
        · obtain ⟨p, hp, e⟩ := (R.key k').2 ⟨b, h⟩
          exact ⟨_, List.mem_map.2 ⟨p, hp, rfl⟩, by rw [fkey]; exact e⟩
        · cases h
          exact ⟨_, List.mem_map.2 ⟨p0, hp0, rfl⟩, by rw [fkey]; exact hk0⟩
    · obtain ⟨q, hq, rfl⟩ := List.mem_map.1 hp
      rw [fkey]
      by_cases e : q.key = k
      · rw [if_pos e, putD_mem, ← R.hang q hq]
        simp only [Bool.or_eq_true]
        constructor
        · rintro (h | h)
          · exact .inl h
          · right; rw [e, h]
        · rintro (h | h)
          · exact .inl h
          · right; cases h; rfl
      · rw [if_neg e, putD_mem, ← R.hang q hq]
        exact ⟨.inl, fun h => h.elim id fun h9 => by cases h9; exact (e rfl).elim⟩
theorem nodup_lenG {α : Type} [DecidableEq α] : ∀ {a b : List α}, a.Nodup → (∀ x ∈ a, x ∈ b) → a.length ≤ b.length
  | [], b, _, _ => Nat.zero_le _
  | x :: a, b, hn, hs => by
    have h' := List.nodup_cons.1 hn
    have hx := hs x List.mem_cons_self
    have ih := nodup_lenG (a := a) (b := b.erase x) h'.2 fun y hy => (List.mem_erase_of_ne (fun e => h'.1 (by rw [← e]; exact hy))).2 (hs y (List.mem_cons_of_mem _ hy))
    rw [List.length_erase_of_mem hx] at ih
    have := List.length_pos_of_mem hx
    simp only [List.length_cons]; omega
theorem Rel.len {ps : List Pr} {D : List T3} (R : Rel ps D) (hk : (ps.map Pr.key).Nodup) : (fk D D.length).length = ps.length := by
  have m1 : ∀ k, k ∈ fk D D.length ↔ k ∈ ps.map Pr.key := fun k => by
    rw [fk_mem, List.take_of_length_le (Nat.le_refl _)]
    constructor
    · intro h
      obtain ⟨t, ht, rfl⟩ := List.mem_map.1 h
      obtain ⟨p, hp, e⟩ := (R.key t.1).2 ⟨t.2, ht⟩
      exact List.mem_map.2 ⟨p, hp, e⟩
    · intro h
      obtain ⟨p, hp, rfl⟩ := List.mem_map.1 h
      obtain ⟨b, hb⟩ := (R.key p.key).1 ⟨p, hp, rfl⟩
      exact List.mem_map.2 ⟨_, hb, rfl⟩
  have a := nodup_lenG (fk_nodup D D.length) fun k hk => (m1 k).1 hk
  have b := nodup_lenG hk fun k hk => (m1 k).2 hk
  simp at a b; omega
theorem Rel.any {ps : List Pr} {D : List T3} (R : Rel ps D) (ts : Int) : (ps.any fun p => decide (p.key.1 = ts)) = (D.any fun t => decide (t.1.1 = ts)) := by
  rw [Bool.eq_iff_iff, List.any_eq_true, List.any_eq_true]
  constructor
  · rintro ⟨p, hp, h⟩
    obtain ⟨b, hb⟩ := (R.key p.key).1 ⟨p, hp, rfl⟩
    exact ⟨_, hb, h⟩
  · rintro ⟨t, ht, h⟩
    obtain ⟨p, hp, e⟩ := (R.key t.1).2 ⟨t.2, ht⟩
    exact ⟨p, hp, by rw [e]; exact h⟩

/-! The program's part, exactly. -/
structure SOK (S : DS) : Prop where
  born : ∀ p ∈ S.ps, p.born < S.clock
  borns : (S.ps.map Pr.born).Nodup
  keys : (S.ps.map Pr.key).Nodup
theorem DA.sok {h : AHeap} {r : Nat} {S : DS} (hA : DA h r S) : SOK S := ⟨hA.born, hA.borns, hA.keys⟩
theorem SOK.filter {S : DS} (o : SOK S) (f : Pr → Bool) : SOK ⟨S.ps.filter f, S.clock, S.m⟩ :=
  ⟨fun p hp => o.born p (List.mem_filter.1 hp).1, o.borns.sublist (List.filter_sublist.map _), o.keys.sublist (List.filter_sublist.map _)⟩
theorem SOK.put {S : DS} (o : SOK S) (k : Int × Int) (hg : Bool) : SOK (putP k hg S) ∧ (putP k hg S).m = S.m ∧ (putP k hg S).ps.length ≤ S.ps.length + 1 := by
  unfold putP
  cases hh : hasP k S.ps
  · simp only [cond_false]
    have hno : ∀ p ∈ S.ps, ¬ p.key = k := fun p hp e => by have := has_iff.2 ⟨p, hp, e⟩; rw [hh] at this; cases this
    refine ⟨⟨fun p hp => ?_, ?_, ?_⟩, (by first | rfl | trivial), by simp⟩
    · rcases List.mem_append.1 hp with h | h
      · have := o.born p h; simp only; omega
      · simp at h; subst h; simp
    · rw [List.map_append]
      refine List.nodup_append.2 ⟨o.borns, by simp, fun a ha b hb => ?_⟩
      obtain ⟨p, hp, rfl⟩ := List.mem_map.1 ha
      have := o.born p hp
      simp at hb; subst hb; omega
    · rw [List.map_append]
      refine List.nodup_append.2 ⟨o.keys, by simp, fun a ha b hb => ?_⟩
      obtain ⟨p, hp, rfl⟩ := List.mem_map.1 ha
      simp at hb; subst hb; exact hno p hp
  · simp only [cond_true]
    have e1 : (S.ps.map fun p => if p.key = k then { p with hangs := p.hangs || hg } else p).map Pr.born = S.ps.map Pr.born := by
      rw [List.map_map]; exact List.map_congr_left fun p _ => by simp only [Function.comp]; split <;> rfl
    have e2 : (S.ps.map fun p => if p.key = k then { p with hangs := p.hangs || hg } else p).map Pr.key = S.ps.map Pr.key := by
      rw [List.map_map]; exact List.map_congr_left fun p _ => by simp only [Function.comp]; split <;> rfl
    refine ⟨⟨fun p hp => ?_, by rw [e1]; exact o.borns, by rw [e2]; exact o.keys⟩, (by first | rfl | trivial), by simp⟩
    obtain ⟨q, hq, rfl⟩ := List.mem_map.1 hp
    have := o.born q hq
    split <;> exact this
theorem da_set {h : AHeap} {r : Nat} {S S' : DS} (hA : DA h r S) (o : SOK S') (hm : S'.m = S.m) : DA (h.set S.m (.map (mkK encP (S'.ps.map Pr.ent)) S'.clock)) r S' :=
  ⟨hA.lt, by rw [hm]; exact hA.mlt, by rw [hm]; exact hA.rm, by rw [AHeap.get_set_ne (fun e => hA.rm e.symm), hm]; exact hA.row, by rw [hm]; exact AHeap.get_set_same _ _ _, o.born, o.borns, o.keys⟩
theorem put_x {f : FuncId} {args : List Value} {h : AHeap} {r : Nat} {S : DS} (hA : DA h r S) (k : Int × Int) (hg : Bool) (hf : FWp Try.prog f args h fun u h' => u = I64 0 ∧ DA h' r (putP k hg S) ∧ FrD h h' S) :
    ∃ H, FWp Try.prog f args h (fun u h' => u = I64 0 ∧ h' = H) ∧ DA H r (putP k hg S) ∧ FrD h H S ∧ H.next = h.next := by
  obtain ⟨o, hm, _⟩ := hA.sok.put k hg
  refine ⟨h.set S.m (.map (mkK encP ((putP k hg S).ps.map Pr.ent)) (putP k hg S).clock), FWp.gcE hf fun u h' ⟨e, hA', hF⟩ => ⟨by rw [e]; exact BV.flat rfl, h.set S.m (.map (mkK encP ((putP k hg S).ps.map Pr.ent)) (putP k hg S).clock), rfl, set_rows (S := S) (S' := putP k hg S) hm hA hA' hF, e, rfl⟩, da_set hA o hm, ⟨Nat.le_refl _, fun z hz hne => AHeap.get_set_ne hne⟩, rfl⟩
theorem gone_x (h : AHeap) (r : Nat) (S : DS) (hA : DA h r S) (ts : Int) (hbig : S.ps.length ≤ 1000000) (G : List Int) (hG : G.Pairwise (· < ·)) (hm : ∀ y, y ∈ G ↔ Reach S.ps ts y ∧ ¬ y = ts) :
    ∃ b H, FWp Try.prog 16 [P0 r, U64 ts] h (fun u h' => u = .slice b G.length 0 ∧ h' = H) ∧ IntsB H G b ∧ DA H r ⟨S.ps.filter (fun p => !inG ts G p), S.clock, S.m⟩ ∧ FrD h H S ∧ (∀ y, b = some ⟨y, 0, none⟩ → h.next ≤ y) := by
  have hg := gone_c h r S hA ts hbig
  have hda : DA (goneH h S ts G) r ⟨S.ps.filter (fun p => !inG ts G p), S.clock, S.m⟩ := da_set (S' := ⟨S.ps.filter (fun p => !inG ts G p), S.clock, S.m⟩) hA (hA.sok.filter _) rfl
  have hfr : FrD h (goneH h S ts G) S := ⟨Nat.le_refl _, fun z hz hne => AHeap.get_set_ne hne⟩
  have same : ∀ {h' : AHeap} {u : Value} {G' : List Int}, GoneR h h' r S ts u G' → G' = G := fun {h' u G'} g => sorted_eq g.sorted hG fun y => by
    rw [hm y, ← g.reach y]
    constructor
    · intro hy; exact ⟨List.mem_cons_of_mem _ hy, fun e => g.nts (by rw [← e]; exact hy)⟩
    · rintro ⟨hy, hne⟩
      cases hy with
      | head => exact (hne rfl).elim
      | tail _ h9 => exact h9
  by_cases hn : G = []
  · refine ⟨none, goneH h S ts G, FWp.gcE hg fun u h' ⟨G', hG'⟩ => ?_, ⟨fun i hi => by rw [hn] at hi; exact absurd hi (Nat.not_lt_zero _)⟩, hda, hfr, fun y hy => by cases hy⟩
    have e := same hG'
    subst e
    have hu : u = .slice none 0 0 := by
      have := hG'.out
      cases this with
      | none e => rfl
      | some ne _ _ _ _ => exact (ne hn).elim
    exact ⟨by rw [hu]; exact BV.flat rfl, goneH h S ts G', rfl, set_rows (S := S) (S' := ⟨S.ps.filter (fun p => !inG ts G' p), S.clock, S.m⟩) rfl hA hG'.da hG'.fr, by rw [hu, hn]; rfl, rfl⟩
  · refine ⟨some ⟨h.next, 0, none⟩, (goneH h S ts G).new (.cells (G.map (Value.int .u64)) 1), gcX (H := goneH h S ts G) (n := G.length) (o := .cells (G.map (Value.int .u64)) 1) rfl (fun v hv => ?_) (hg.mono fun u h' ⟨G', hG'⟩ => ?_), ⟨fun i hi => ⟨h.next, rfl, by simp only [nx]; show h.next < h.next + 1; omega, AHeap.get_new_at ⟨Nat.le_refl _, Nat.le_refl _⟩⟩⟩, ?_, ?_, fun y hy => by cases hy; exact Nat.le_refl _⟩
    · obtain ⟨x, _, rfl⟩ := List.mem_map.1 hv; exact BV.flat rfl
    · have e := same hG'
      subst e
      have := hG'.out
      cases this with
      | none e => exact (hn e).elim
      | some ne e hlo hx hgg => subst e; exact ⟨_, rfl, hlo, hgg, set_rows (S := S) (S' := ⟨S.ps.filter (fun p => !inG ts G' p), S.clock, S.m⟩) rfl hA hG'.da hG'.fr⟩
    · have e : (goneH h S ts G).next = h.next := rfl
      exact hda.mono (by simp only [nx]; omega) (AHeap.get_new_ne (by have := hA.lt; omega)) (AHeap.get_new_ne (by have := hA.mlt; simp only; omega))
    · have e : (goneH h S ts G).next = h.next := rfl
      exact ⟨by simp only [nx]; omega, fun z hz hne => by rw [AHeap.get_new_ne (by omega)]; exact hfr.2 z hz hne⟩

/-! The document's part, exactly. -/
theorem bv_ints (n : Nat) (G : List Int) : BO n (.cells (G.map (Value.int .u64)) 1) := fun v hv => by
  obtain ⟨x, _, rfl⟩ := List.mem_map.1 hv; exact BV.flat rfl
theorem bv_flatT (n : Nat) : ∀ (l : List T3), ∀ v ∈ flatT l, BV n v
  | [], v, h => by cases h
  | t :: l, v, h => by
    rcases List.mem_append.1 h with h | h
    · simp only [t3cs, List.mem_cons, List.not_mem_nil, or_false] at h
      rcases h with rfl | rfl | rfl <;> exact BV.flat rfl
    · exact bv_flatT n l v h
theorem goner_x (h : AHeap) (s : Nat) (x : Option Nat) (D : List T3) (hB : RD h s x D) (hl : D.length ≤ 1000) (ts : Int) (G : List Int) (hG : G.Pairwise (· < ·)) (hm : ∀ y, y ∈ G ↔ RchD D ts y ∧ ¬ y = ts) :
    ∃ b H x', FWp Try.prog 17 [P0 s, U64 ts] h (fun u h' => u = .slice b G.length 0 ∧ h' = H) ∧ IntsB H G b ∧ RD H s x' (D.filter (kpW (ts :: G))) ∧ FrT h H s x ∧ (∀ y, x' = some y → h.next ≤ y) ∧ G.length ≤ 2000 := by
  have hf := goner_c h s x D hB hl ts
  have hlt := hB.lt
  have hGl : G.length ≤ 2000 := by
    have hnd : G.Nodup := hG.imp fun {a b} h e => by subst e; omega
    have := nodup_lenI (b := D.map (·.1.1)) hnd fun y hy => by
      have := (hm y).1 hy
      cases this.1 with
      | refl => exact (this.2 rfl).elim
      | step _ ht _ => exact List.mem_map.2 ⟨_, ht, rfl⟩
    simp at this; omega
  obtain ⟨D', hD'⟩ : ∃ D', D' = D.filter (kpW (ts :: G)) := ⟨_, rfl⟩
  rw [← hD']
  have hf2 : FWp Try.prog 17 [P0 s, U64 ts] h fun u h' => ∃ lv, SV h' 3 h.next (flatT D') lv ∧ h'.get s = some (.cells [lv] 1) ∧ SV h' 1 h.next (G.map (Value.int .u64)) u ∧ (∀ y, svRow lv = some y → ¬ svRow u = some y) ∧ h.next ≤ h'.next ∧ ∀ z, z < h.next → ¬ s = z → h'.get z = h.get z := by
    refine hf.mono ?_
    rintro u h' ⟨W, G', lv, g1, g2, g3, g4, g5, g6, g7, g8, g9, g10⟩
    have e : G' = G := sorted_eq g2 hG fun y => by rw [g3 y, hm y, g1 y]
    subst e
    have e2 : D.filter (kpW W) = D' := by
      rw [hD']
      have hw : ∀ y, y ∈ W ↔ y ∈ ts :: G' := fun y => by
        rw [g1 y, List.mem_cons, hm y]
        constructor
        · intro hr; by_cases e : y = ts
          · exact .inl e
          · exact .inr ⟨hr, e⟩
        · rintro (e | e)
          · rw [e]; exact .refl
          · exact e.1
      refine List.filter_congr fun t _ => ?_
      simp only [kpW, hw]
    rw [e2] at g5
    exact ⟨lv, g5, g6, g7, g8, g9, g10⟩
  clear hf
  have hlD : ∀ {h' : AHeap} {lv : Value}, SV h' 3 h.next (flatT D') lv → vLen lv = D'.length := fun {h' lv} sv => by
    obtain ⟨_, _, e, _⟩ := sv.form
    rw [flatT_length] at e; omega
  have hlG : ∀ {h' : AHeap} {u : Value}, SV h' 1 h.next (G.map (Value.int .u64)) u → vLen u = G.length := fun {h' u} sv => by
    obtain ⟨_, _, e, _⟩ := sv.form
    simp at e; omega
  have hs0 : ∀ {z}, ¬ s = z → ∀ o, (h.set s o).get z = h.get z := fun hz o => AHeap.get_set_ne hz
  by_cases hDe : D' = []
  · have hfe : flatT D' = [] := by rw [hDe]; rfl
    by_cases hGe : G = []
    · refine ⟨none, h.set s (.cells [.slice none 0 0] 1), none, ?_, ?_, ⟨?_, ⟨.slice none 0 0, ?_, ?_, rfl⟩, ?_⟩, ⟨?_, fun z hz k1 k2 => ?_⟩, ?_, hGl⟩
      · rw [hGe]
        refine gcR (by simp only [nx]; omega) hf2 ?_
        rintro u h' ⟨lv, g5, g6, g7, g8, g9, g10⟩
        have el := g5.empty hfe
        subst el
        have eu := g7.empty (by rw [hGe]; rfl)
        subst eu
        refine ⟨fun r => r, fun r hr => rfl, fun r q hr hq e => by exact e, fun r o ho => ?_, ?_⟩
        · by_cases hsr : s = r
          · subst hsr
            rw [AHeap.get_set_same] at ho; cases ho
            have e9 : s = s := rfl
            refine .flat (by simp only [nx]; omega) (by first | exact g6 | (rw [e9]; exact g6)) (fun v hv => by simp at hv; subst hv; exact BV.flat rfl)
          · rw [hs0 hsr] at ho
            exact .old ho fun hr => by rw [g10 r hr hsr]; exact ho
        · exact .flat rfl (BV.flat rfl)
      · exact ⟨fun i hi => by rw [hGe] at hi; exact absurd hi (Nat.not_lt_zero _)⟩
      · simp only [nx]; omega
      · simp (disch := first | assumption | omega | (simp only [nx] <;> omega) | fail) only [hpl]
      · rw [hfe]; exact .nil
      · intro z hz; cases hz
      · simp only [nx]; omega
      · simp (disch := first | assumption | omega | (simp only [nx] <;> omega) | fail) only [hpl]
      · intro z hz; cases hz
    · refine ⟨some ⟨h.next, 0, none⟩, (h.set s (.cells [.slice none 0 0] 1)).new (.cells (G.map (Value.int .u64)) 1), none, ?_, ?_, ⟨?_, ⟨.slice none 0 0, ?_, ?_, rfl⟩, ?_⟩, ⟨?_, fun z hz k1 k2 => ?_⟩, ?_, hGl⟩
      · refine gcR (by simp only [nx]; omega) hf2 ?_
        rintro u h' ⟨lv, g5, g6, g7, g8, g9, g10⟩
        have el := g5.empty hfe
        subst el
        obtain ⟨xe, hxe⟩ : ∃ xe, svRow u = some xe := by
          obtain ⟨_, _, _, hr⟩ := g7.form
          obtain ⟨xe, _, h9, _⟩ := hr (by simpa using hGe)
          exact ⟨xe, h9⟩
        obtain ⟨x1, x2, x3, x4, x5⟩ := g7.row hxe
        rw [hlG g7] at x4
        subst x4
        refine ⟨fun r => if r < h.next then r else xe, fun r hr => if_pos hr, fun r q hr hq e => by simp only [nx] at hr hq; simp only at e; split at e <;> split at e <;> (try split at e) <;> (try split at e) <;> omega, fun r o ho => ?_, ?_⟩
        · rw [AHeap.get_new] at ho
          split at ho
          · rename_i e
            simp only [nx] at e
            cases ho
            refine .flat (by simp only [nx]; omega) ?_ (bv_ints _ _)
            have e9 : (if r < h.next then r else xe) = xe := by rw [if_neg (by omega)]
            rw [e9]; exact x3
          · by_cases hsr : s = r
            · subst hsr
              rw [AHeap.get_set_same] at ho; cases ho
              have e9 : (if s < h.next then s else xe) = s := if_pos hlt
              refine .flat (by simp only [nx]; omega) (by first | exact g6 | (rw [e9]; exact g6)) (fun v hv => by simp at hv; subst hv; exact BV.flat rfl)
            · rw [hs0 hsr] at ho
              exact .old ho fun hr => by rw [g10 r hr hsr]; exact ho
        · refine .slice (a := h.next) (n := G.length) rfl (by simp only [nx]; omega) ?_
          have e8 : (if (h.next) < h.next then (h.next) else xe) = xe := by rw [if_neg (by omega)]
          rw [e8]
      · exact ⟨fun i hi => ⟨_, rfl, by simp only [nx]; omega, AHeap.get_new_at (by simp only [nx]; omega)⟩⟩
      · simp only [nx]; omega
      · simp (disch := first | assumption | omega | (simp only [nx] <;> omega) | fail) only [hpl]
      · rw [hfe]; exact .nil
      · intro z hz; cases hz
      · simp only [nx]; omega
      · simp (disch := first | assumption | omega | (simp only [nx] <;> omega) | fail) only [hpl]
      · intro z hz; cases hz
  · have hfe : flatT D' ≠ [] := fun e => hDe (by have := flatT_length D'; rw [e] at this; exact List.length_eq_zero_iff.1 (by simp at this; omega))
    by_cases hGe : G = []
    · refine ⟨none, (h.set s (.cells [.slice (some ⟨h.next, 0, none⟩) D'.length 0] 1)).new (.cells (flatT D') 3), some h.next, ?_, ?_, ⟨?_, ⟨.slice (some ⟨h.next, 0, none⟩) D'.length 0, ?_, ?_, rfl⟩, ?_⟩, ⟨?_, fun z hz k1 k2 => ?_⟩, ?_, hGl⟩
      · rw [hGe]
        refine gcR (by simp only [nx]; omega) hf2 ?_
        rintro u h' ⟨lv, g5, g6, g7, g8, g9, g10⟩
        obtain ⟨ye, hye⟩ : ∃ ye, svRow lv = some ye := by
          obtain ⟨_, _, _, hr⟩ := g5.form
          obtain ⟨ye, _, h9, _⟩ := hr hfe
          exact ⟨ye, h9⟩
        obtain ⟨y1, y2, y3, y4, y5⟩ := g5.row hye
        rw [hlD g5] at y4
        subst y4
        have eu := g7.empty (by rw [hGe]; rfl)
        subst eu
        refine ⟨fun r => if r < h.next then r else ye, fun r hr => if_pos hr, fun r q hr hq e => by simp only [nx] at hr hq; simp only at e; split at e <;> split at e <;> (try split at e) <;> (try split at e) <;> omega, fun r o ho => ?_, ?_⟩
        · rw [AHeap.get_new] at ho
          split at ho
          · rename_i e
            simp only [nx] at e
            cases ho
            refine .flat (by simp only [nx]; omega) ?_ (bv_flatT _ _)
            have e9 : (if r < h.next then r else ye) = ye := by rw [if_neg (by omega)]
            rw [e9]; exact y3
          · by_cases hsr : s = r
            · subst hsr
              rw [AHeap.get_set_same] at ho; cases ho
              have e9 : (if s < h.next then s else ye) = s := if_pos hlt
              refine .slice (a := h.next) (n := D'.length) (by simp only [nx]; omega) rfl (by simp only [nx]; omega) ?_
              have e8 : (if h.next < h.next then h.next else ye) = ye := by rw [if_neg (by omega)]
              rw [e9, e8]; exact g6
            · rw [hs0 hsr] at ho
              exact .old ho fun hr => by rw [g10 r hr hsr]; exact ho
        · exact .flat rfl (BV.flat rfl)
      · exact ⟨fun i hi => by rw [hGe] at hi; exact absurd hi (Nat.not_lt_zero _)⟩
      · simp only [nx]; omega
      · simp (disch := first | assumption | omega | (simp only [nx] <;> omega) | fail) only [hpl]
      · refine .some (by rw [flatT_length]) (Nat.zero_le _) (by simp only [nx]; omega) ?_ hfe
        simp (disch := first | assumption | omega | (simp only [nx] <;> omega) | fail) only [hpl]
      · intro z hz; cases hz; exact ⟨by omega, by simp only [nx]; omega⟩
      · simp only [nx]; omega
      · simp (disch := first | assumption | omega | (simp only [nx] <;> omega) | fail) only [hpl]
      · intro z hz; cases hz; exact Nat.le_refl _
    · refine ⟨some ⟨h.next + 1, 0, none⟩, ((h.set s (.cells [.slice (some ⟨h.next, 0, none⟩) D'.length 0] 1)).new (.cells (flatT D') 3)).new (.cells (G.map (Value.int .u64)) 1), some h.next, ?_, ?_, ⟨?_, ⟨.slice (some ⟨h.next, 0, none⟩) D'.length 0, ?_, ?_, rfl⟩, ?_⟩, ⟨?_, fun z hz k1 k2 => ?_⟩, ?_, hGl⟩
      · refine gcR (by simp only [nx]; omega) hf2 ?_
        rintro u h' ⟨lv, g5, g6, g7, g8, g9, g10⟩
        obtain ⟨ye, hye⟩ : ∃ ye, svRow lv = some ye := by
          obtain ⟨_, _, _, hr⟩ := g5.form
          obtain ⟨ye, _, h9, _⟩ := hr hfe
          exact ⟨ye, h9⟩
        obtain ⟨y1, y2, y3, y4, y5⟩ := g5.row hye
        rw [hlD g5] at y4
        subst y4
        obtain ⟨xe, hxe⟩ : ∃ xe, svRow u = some xe := by
          obtain ⟨_, _, _, hr⟩ := g7.form
          obtain ⟨xe, _, h9, _⟩ := hr (by simpa using hGe)
          exact ⟨xe, h9⟩
        obtain ⟨x1, x2, x3, x4, x5⟩ := g7.row hxe
        rw [hlG g7] at x4
        have hxy : ¬ ye = xe := fun e => g8 ye hye (by rw [e]; exact hxe)
        subst x4
        refine ⟨fun r => if r < h.next then r else if r = h.next then ye else xe, fun r hr => if_pos hr, fun r q hr hq e => by simp only [nx] at hr hq; simp only at e; split at e <;> split at e <;> (try split at e) <;> (try split at e) <;> omega, fun r o ho => ?_, ?_⟩
        · rw [AHeap.get_new] at ho
          split at ho
          · rename_i e
            simp only [nx] at e
            cases ho
            refine .flat (by simp only [nx]; omega) ?_ (bv_ints _ _)
            have e9 : (if r < h.next then r else if r = h.next then ye else xe) = xe := by rw [if_neg (by omega), if_neg (by omega)]
            rw [e9]; exact x3
          · rw [AHeap.get_new] at ho
            split at ho
            · rename_i e
              simp only [nx] at e
              cases ho
              refine .flat (by simp only [nx]; omega) ?_ (bv_flatT _ _)
              have e9 : (if r < h.next then r else if r = h.next then ye else xe) = ye := by rw [if_neg (by omega), if_pos (by omega)]
              rw [e9]; exact y3
            · by_cases hsr : s = r
              · subst hsr
                rw [AHeap.get_set_same] at ho; cases ho
                have e9 : (if s < h.next then s else if s = h.next then ye else xe) = s := if_pos hlt
                refine .slice (a := h.next) (n := D'.length) (by simp only [nx]; omega) rfl (by simp only [nx]; omega) ?_
                have e8 : (if h.next < h.next then h.next else if h.next = h.next then ye else xe) = ye := by rw [if_neg (by omega), if_pos rfl]
                rw [e9, e8]; exact g6
              · rw [hs0 hsr] at ho
                exact .old ho fun hr => by rw [g10 r hr hsr]; exact ho
        · refine .slice (a := h.next + 1) (n := G.length) rfl (by simp only [nx]; omega) ?_
          have e8 : (if (h.next + 1) < h.next then (h.next + 1) else if (h.next + 1) = h.next then ye else xe) = xe := by rw [if_neg (by omega), if_neg (by omega)]
          rw [e8]
      · exact ⟨fun i hi => ⟨_, rfl, by simp only [nx]; omega, AHeap.get_new_at (by simp only [nx]; omega)⟩⟩
      · simp only [nx]; omega
      · simp (disch := first | assumption | omega | (simp only [nx] <;> omega) | fail) only [hpl]
      · refine .some (by rw [flatT_length]) (Nat.zero_le _) (by simp only [nx]; omega) ?_ hfe
        simp (disch := first | assumption | omega | (simp only [nx] <;> omega) | fail) only [hpl]
      · intro z hz; cases hz; exact ⟨by omega, by simp only [nx]; omega⟩
      · simp only [nx]; omega
      · simp (disch := first | assumption | omega | (simp only [nx] <;> omega) | fail) only [hpl]
      · intro z hz; cases hz; exact Nat.le_refl _
end Go.Proofs.Ytfbfihfmlenklaa
