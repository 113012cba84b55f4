/-
  Due, of the document; and of both, exactly.
-/
import Derived.Test.YtmokbpphniafpaaRpcZ
namespace Go.Proofs.Ytmokbpphniafpaa
open Go.Ab
set_option linter.unusedSimpArgs false
set_option linter.unusedVariables false
set_option maxRecDepth 10000
set_option maxHeartbeats 4000000

theorem MsgsAt_mono {h h' : AHeap} {lo : Nat} {rs : List Msg} {u : Value} (hm : MsgsAt h lo rs u) (hn : h.next ≤ h'.next) (hk : ∀ z, lo ≤ z → z < h.next → h'.get z = h.get z) : MsgsAt h' lo rs u := by
  cases hm with
  | none e => exact .none e
  | some ne e h1 h2 h3 => exact .some ne e h1 (by omega) (by rw [hk _ h1 h2]; exact h3)
theorem dueL_le (now : Int) (qs : List Qn) : (dueL now qs).length ≤ qs.length := by
  simp only [dueL, List.length_map]; exact List.length_filter_le _ _
/-- The document's Due. -/
theorem duer_c (h : AHeap) (s : Nat) (x : Option Nat) (last : Int) (qs : List Qn) (hB : RB h s x last qs) (now : Int) (hbig : qs.length ≤ 1000000) (hn0 : 0 ≤ now) (hn1 : now < 18446744073709551616) (hat : ∀ q ∈ qs, 0 ≤ q.at_ ∧ q.at_ < 18446744073709551616) :
    FWp Try.prog 15 [P0 s, U64 now] h fun u h' => (RB h' s x last (qs.map (stampq now)) ∧ h'.get s = h.get s) ∧ FrB h h' s x ∧ MsgsAt h' h.next (dueL now qs) u := by
  have tsD := And.intro ty26 (And.intro ty27 (And.intro ty29 (And.intro ty33 (And.intro ty4 (And.intro ty41 (ty64))))))
  refine W.enter tyOK Try.func15 rfl rfl ?_
  simp only [entry]
  refine W.seq <| W.reg <| OSuf.aop tyOK rfl (so_assign (by simp only [lk] <;> rfl)) rfl <| OSuf.nil <| SQ.normal ?_
  refine W.seq <| W.reg <| OSuf.aop tyOK rfl (so_assign (by simp only [lk] <;> rfl)) rfl <| OSuf.nil <| SQ.normal ?_
  refine W.seq <| W.seq <| W.reg <| OSuf.aop tyOK rfl (so_assign (by simp only [lk] <;> rfl)) rfl <| OSuf.nil <| SQ.normal ?_
  -- leaf: loop
  refine W.cut (fun L h' => ∃ u, ((RB h' s x last (qs.map (stampq now)) ∧ h'.get s = h.get s) ∧ FrB h h' s x ∧ MsgsAt h' h.next (dueL now qs) u) ∧ L = [(5, u)]) (W.block (W.loop (fun n L h' => ∃ (i : Nat) (ov : Value), n + i = qs.length ∧ (RB h' s x last ((qs.take i).map (stampq now) ++ qs.drop i) ∧ h'.get s = h.get s) ∧ FrB h h' s x ∧ MsgsAt h' h.next (dueL now (qs.take i)) ov ∧ L = [(0, P0 s), (1, U64 now), (5, ov), (6, I64 i)]) (n := qs.length)
    ⟨0, _, by omega, ⟨by simpa using hB, rfl⟩, ⟨Nat.le_refl _, fun _ _ _ _ => rfl⟩, .none rfl, rfl⟩ ?_ ?_)) ?_
  · simp [HasA, Tr.get_put]
  · rintro n L h' ⟨i, ov, hn, ⟨hB', hse⟩, hF, hM, rfl⟩
    simp only [mkA]
    have hml : ((qs.take i).map (stampq now) ++ qs.drop i).length = qs.length := by simp; omega
    have w2 : IntKind.i64.wrap ((i : Int) + 1) = ((i + 1 : Nat) : Int) := by rw [wrap_i64 (by omega) (by omega)]; omega
    obtain ⟨hlt, ⟨v, hv, hs⟩, hsx⟩ := id hB'
    have hlt0 := hB.lt
    have hF1 := hF.1
    cases hs with
    | none e hx =>
      have hq0 : qs.length = 0 := by rw [← hml, e]; rfl
      have hi0 : i = 0 := by omega
      subst hi0
      refine W.seq <| W.seq <| W.reg <| OSuf.aop tyOK rfl (so_move (by simp only [lk] <;> rfl)) rfl <| OSuf.aop tyOK rfl (so_move (by simp only [lk] <;> rfl)) rfl <| OSuf.aop tyOK rfl (so_nilCheck (by simp only [lk] <;> rfl)) rfl <| OSuf.aop tyOK rfl (so_fieldAddr (by simp only [lk] <;> rfl) (fa_ok (k := 0) ty29 rfl rfl ty26 rfl rfl)) rfl <| OSuf.aop tyOK rfl (so_load (by simp only [lk] <;> rfl) (by simp (disch := first | assumption | omega | (simp only [nx] <;> omega) | fail) only [aLoad, ty26, rowOf, hpl, hv] <;> rfl)) rfl <| OSuf.aop tyOK rfl (so_len (by simp only [aopnds, lk] <;> rfl) (by simp (disch := first | assumption | omega | (simp only [nx] <;> omega) | fail) only [aLenOf, ty26, hpl, hv] <;> rfl)) rfl <| OSuf.aopF tyOK rfl (so_bin (by simp only [lk] <;> rfl) (by simp only [lk] <;> rfl) bi_lss) (fun _ => rfl) (by first | rfl | assumption | ((simp only [bl, hv]) <;> first | done | assumption | omega) | (simp [hv]; done) | (simp [hv]; omega)) <| OSuf.nil <| SQ.normal ?_
      refine W.no (by simp only [lk] <;> rfl) <| CWp.exit <| SQ.exit <| LQ.exit <| BQ.exit <| ?_
      -- leaf: cut
      have e2 : qs = [] := List.length_eq_zero_iff.1 hq0
      subst e2
      refine NQ.normal (L := [(5, ov)]) ?_ ⟨ov, ⟨⟨hB', hse⟩, hF, hM⟩, rfl⟩
      simp only [HasA, Tr.get_put, Nat.reduceEqDiff, reduceIte, and_self]
    | @some y nn hnn hx hy hg =>
      rw [hml] at hnn
      by_cases hi : (i : Int) < (nn : Int)
      · obtain ⟨q, hq⟩ : ∃ q, qs[i]? = some q := ⟨qs[i]'(by omega), by simp⟩
        obtain ⟨t1, t2⟩ := take_set (f := stampq now) hq
        obtain ⟨hys, _⟩ := hsx y hx
        have hys' : ¬ s = y := fun e => hys e.symm
        have hyl : y < h.next := (hB.sx y hx).2
        obtain ⟨a0, a1⟩ := hat q (List.mem_of_getElem? hq)
        have hc : (0 ≤ (i : Int) ∧ (i : Int) < (nn : Int)) := by omega
        obtain ⟨M, hMx⟩ : ∃ M, M = (qs.take i).map (stampq now) ++ qs.drop i := ⟨_, rfl⟩
        rw [← hMx] at hg t1 t2 hml hB'
        have hcell := flatsQ_cell t2
        simp only [Qn.cs] at hcell
        have hdl := dueL_take now hq
        have keep : dueq now q = false → ∀ g : AHeap, h'.next ≤ g.next → (∀ z, z < h'.next → g.get z = h'.get z) → ∃ (i2 : Nat) (ov2 : Value), n - 1 + i2 = qs.length ∧ (RB g s x last ((qs.take i2).map (stampq now) ++ qs.drop i2) ∧ g.get s = h.get s) ∧ FrB h g s x ∧ MsgsAt g h.next (dueL now (qs.take i2)) ov2 ∧ [(0, P0 s), (1, U64 now), (5, ov), (6, I64 ((i + 1 : Nat) : Int))] = [(0, P0 s), (1, U64 now), (5, ov2), (6, I64 i2)] := fun e g h1 h2 => by
          refine ⟨i + 1, ov, by omega, ?_⟩
          have e1 : M.set i (stampq now q) = M := by
            have : stampq now q = q := by simp [stampq, e]
            rw [this]
            obtain ⟨k1, k2⟩ := List.getElem?_eq_some_iff.1 t2
            rw [← k2]; exact List.set_getElem_self k1
          rw [← t1, e1, hdl, e]
          refine ⟨⟨hB'.mono h1 (h2 s hlt) fun z hz => h2 z (hsx z hz).2, by rw [h2 s hlt]; exact hse⟩, ⟨by omega, fun z hz k1 k2 => by rw [h2 z (by omega)]; exact hF.2 z hz k1 k2⟩, ?_, rfl⟩
          simpa using MsgsAt_mono hM h1 fun z _ hz => h2 z hz
        have hm1 : (M.set i { q with asked := true })[i]? = some { q with asked := true } := by rw [List.getElem?_set_self (by omega)]
        have hsp1 : splice (flatsQ M) (i * 15 + 13) [Value.bool true] = flatsQ (M.set i { q with asked := true }) := flatsQ_splice (fun r => rfl) t2
        have hsp2 : splice (flatsQ (M.set i { q with asked := true })) (i * 15 + 14) [Value.int .u64 now] = flatsQ (M.set i { q with asked := true, at_ := now }) := by
          rw [flatsQ_splice (q' := { q with asked := true, at_ := now }) (fun r => by cases r <;> rfl) hm1, List.set_set]
        have hbl1 : (i * 15 + 13 + [Value.bool true].length).ble (flatsQ M).length = true := flatsQ_ble (by omega) (by omega)
        have hbl2 : (i * 15 + 14 + [Value.int .u64 now].length).ble (flatsQ (M.set i { q with asked := true })).length = true := flatsQ_ble (by rw [List.length_set]; omega) (by omega)
        have hrl : (dueL now (qs.take i)).length ≤ 1000000 := by
          have := dueL_le now (qs.take i)
          simp at this; omega
        have stp : dueq now q = true → M.set i { q with asked := true, at_ := now } = (qs.take (i + 1)).map (stampq now) ++ qs.drop (i + 1) := fun e => by
          rw [← t1]; congr 1; simp [stampq, e]
        cases hask : q.asked
        · have hdq : dueq now q = true := by simp [dueq, hask]
          have stp := stp hdq
          rw [hdq, cond_true] at hdl
          cases hM with
          | none e =>
            refine W.seq <| W.seq <| W.reg <| OSuf.aop tyOK rfl (so_move (by simp only [lk] <;> rfl)) rfl <| OSuf.aop tyOK rfl (so_move (by simp only [lk] <;> rfl)) rfl <| OSuf.aop tyOK rfl (so_nilCheck (by simp only [lk] <;> rfl)) rfl <| OSuf.aop tyOK rfl (so_fieldAddr (by simp only [lk] <;> rfl) (fa_ok (k := 0) ty29 rfl rfl ty26 rfl rfl)) rfl <| OSuf.aop tyOK rfl (so_load (by simp only [lk] <;> rfl) (by simp (disch := first | assumption | omega | (simp only [nx] <;> omega) | fail) only [aLoad, ty26, rowOf, hpl, hv, hg, hc, sb, hcell, hsp1, hsp2, hbl1, hbl2, Value.cells, places, tsD] <;> rfl)) rfl <| OSuf.aop tyOK rfl (so_len (by simp only [aopnds, lk] <;> rfl) (by simp (disch := first | assumption | omega | (simp only [nx] <;> omega) | fail) only [aLenOf, ty26, hpl, hv, hg, hc, sb, hcell, hsp1, hsp2, hbl1, hbl2, Value.cells, places, tsD] <;> rfl)) rfl <| OSuf.aopT tyOK rfl (so_bin (by simp only [lk] <;> rfl) (by simp only [lk] <;> rfl) bi_lss) (fun _ => rfl) (by first | rfl | assumption | ((simp only [bl, hv, hg, hc, sb, hcell, hsp1, hsp2, hbl1, hbl2, Value.cells, places, tsD]) <;> first | done | assumption | omega) | (simp [hv, hg, hc, sb, hcell, hsp1, hsp2, hbl1, hbl2, Value.cells, places, tsD]; done) | (simp [hv, hg, hc, sb, hcell, hsp1, hsp2, hbl1, hbl2, Value.cells, places, tsD]; omega)) <| OSuf.nil <| SQ.normal ?_
            refine W.yes (by simp only [lk] <;> rfl) <| CWp.skip <| SQ.normal ?_
            refine W.seq <| W.block <| W.seq <| W.reg <| OSuf.aop tyOK rfl (so_move (by simp only [lk] <;> rfl)) rfl <| OSuf.aop tyOK rfl (so_nilCheck (by simp only [lk] <;> rfl)) rfl <| OSuf.aop tyOK rfl (so_fieldAddr (by simp only [lk] <;> rfl) (fa_ok (k := 0) ty29 rfl rfl ty26 rfl rfl)) rfl <| OSuf.aop tyOK rfl (so_load (by simp only [lk] <;> rfl) (by simp (disch := first | assumption | omega | (simp only [nx] <;> omega) | fail) only [aLoad, ty26, rowOf, hpl, hv, hg, hc, sb, hcell, hsp1, hsp2, hbl1, hbl2, Value.cells, places, tsD] <;> rfl)) rfl <| OSuf.aop tyOK rfl (so_move (by simp only [lk] <;> rfl)) rfl <| OSuf.aop tyOK rfl (so_indexAddr (by simp only [lk] <;> rfl) (by simp only [lk] <;> rfl) (by simp (disch := first | assumption | omega | (simp only [nx] <;> omega) | fail) only [aIndexAddr, ty26, ty64, hpl, hv, hg, hc, sb, hcell, hsp1, hsp2, hbl1, hbl2, Value.cells, places, tsD] <;> rfl)) rfl <| OSuf.aop tyOK rfl (so_load (by simp only [lk] <;> rfl) (by simp (disch := first | assumption | omega | (simp only [nx] <;> omega) | fail) only [aLoad, ty64, rowOf, hpl, hv, hg, hc, sb, hcell, hsp1, hsp2, hbl1, hbl2, Value.cells, places, tsD] <;> rfl)) rfl <| OSuf.aop tyOK rfl (so_alloc (by simp only [aAlloc, ty64] <;> rfl)) rfl <| OSuf.aop tyOK rfl (so_store (by simp only [lk] <;> rfl) (by simp only [lk] <;> rfl) (by simp (disch := first | assumption | omega | (simp only [nx] <;> omega) | fail) only [aStore, ty64, writeRow, hpl, hv, hg, hc, sb, hcell, hsp1, hsp2, hbl1, hbl2, Value.cells, places, tsD] <;> rfl)) rfl <| OSuf.nil <| SQ.normal ?_
            refine W.seq <| W.reg <| OSuf.aop tyOK rfl (so_fieldAddr (by simp only [lk] <;> rfl) (fa_ok (k := 13) ty64 rfl rfl ty4 rfl rfl)) rfl <| OSuf.aopF tyOK rfl (so_load (by simp only [lk] <;> rfl) (by simp (disch := first | assumption | omega | (simp only [nx] <;> omega) | fail) only [aLoad, ty4, rowOf, hpl, hv, hg, hc, sb, hcell, hsp1, hsp2, hbl1, hbl2, Value.cells, places, tsD] <;> rfl)) (fun _ => rfl) (hask) <| OSuf.aopT tyOK rfl (so_not (by simp only [lk] <;> rfl)) (fun _ => rfl) rfl <| OSuf.aopT tyOK rfl (so_move (by simp only [lk] <;> rfl)) (fun _ => rfl) rfl <| OSuf.pass (aguard_of rfl rfl (by simp only [lk] <;> rfl) rfl) rfl <| OSuf.pass (aguard_of rfl rfl (by simp only [lk] <;> rfl) rfl) rfl <| OSuf.pass (aguard_of rfl rfl (by simp only [lk] <;> rfl) rfl) rfl <| OSuf.pass (aguard_of rfl rfl (by simp only [lk] <;> rfl) rfl) rfl <| OSuf.pass (aguard_of rfl rfl (by simp only [lk] <;> rfl) rfl) rfl <| OSuf.pass (aguard_un rfl rfl (by simp only [lk] <;> rfl)) rfl <| OSuf.pass (aguard_un rfl rfl (by simp only [lk] <;> rfl)) rfl <| OSuf.pass (aguard_un rfl rfl (by simp only [lk] <;> rfl)) rfl <| OSuf.pass (aguard_un rfl rfl (by simp only [lk] <;> rfl)) rfl <| OSuf.pass (aguard_un rfl rfl (by simp only [lk] <;> rfl)) rfl <| OSuf.pass (aguard_of rfl rfl (by simp only [lk] <;> rfl) rfl) rfl <| OSuf.aopT tyOK rfl (so_pick (by simp only [lk] <;> rfl) (by simp only [lk, cond_true, cond_false] <;> rfl)) (fun _ => rfl) rfl <| OSuf.nil <| SQ.normal ?_
            refine W.yes (by simp only [lk] <;> rfl) <| W.seq <| W.reg <| OSuf.aop tyOK rfl (so_move (by simp only [lk] <;> rfl)) rfl <| OSuf.aop tyOK rfl (so_fieldAddr (by simp only [lk] <;> rfl) (fa_ok (k := 0) ty64 rfl rfl ty33 rfl rfl)) rfl <| OSuf.aop tyOK rfl (so_load (by simp only [lk] <;> rfl) (by simp (disch := first | assumption | omega | (simp only [nx] <;> omega) | fail) only [aLoad, ty33, rowOf, hpl, hv, hg, hc, sb, hcell, hsp1, hsp2, hbl1, hbl2, Value.cells, places, tsD] <;> rfl)) rfl <| OSuf.aop tyOK rfl (so_buildSlice (by simp only [aparts, lk] <;> rfl) (by simp (disch := first | assumption | omega | (simp only [nx] <;> omega) | fail) only [aBuildSlice, ty41, ty33, hpl, hv, hg, hc, sb, hcell, hsp1, hsp2, hbl1, hbl2, Value.cells, places, tsD] <;> rfl)) rfl <| OSuf.aop tyOK rfl (so_append (by simp only [aopnds, lk] <;> rfl) (ap_0 (by simp only [appT, ty41, ty33] <;> rfl) rfl (by simp (disch := first | assumption | omega | (simp only [nx] <;> omega) | fail) only [aCells, rowOf, hpl, hv, hg, hc, sb, hcell, hsp1, hsp2, hbl1, hbl2, Value.cells, places, tsD] <;> rfl) (by decide) rfl)) rfl <| OSuf.aop tyOK rfl (so_assign (by simp only [lk] <;> rfl)) rfl <| OSuf.nil <| SQ.normal ?_
            refine W.seq <| W.reg <| OSuf.aop tyOK rfl (so_move (by simp only [lk] <;> rfl)) rfl <| OSuf.aop tyOK rfl (so_nilCheck (by simp only [lk] <;> rfl)) rfl <| OSuf.aop tyOK rfl (so_fieldAddr (by simp only [lk] <;> rfl) (fa_ok (k := 0) ty29 rfl rfl ty26 rfl rfl)) rfl <| OSuf.aop tyOK rfl (so_load (by simp only [lk] <;> rfl) (by simp (disch := first | assumption | omega | (simp only [nx] <;> omega) | fail) only [aLoad, ty26, rowOf, hpl, hv, hg, hc, sb, hcell, hsp1, hsp2, hbl1, hbl2, Value.cells, places, tsD] <;> rfl)) rfl <| OSuf.aop tyOK rfl (so_move (by simp only [lk] <;> rfl)) rfl <| OSuf.aop tyOK rfl (so_indexAddr (by simp only [lk] <;> rfl) (by simp only [lk] <;> rfl) (by simp (disch := first | assumption | omega | (simp only [nx] <;> omega) | fail) only [aIndexAddr, ty26, ty64, hpl, hv, hg, hc, sb, hcell, hsp1, hsp2, hbl1, hbl2, Value.cells, places, tsD] <;> rfl)) rfl <| OSuf.aop tyOK rfl (so_fieldAddr (by simp only [lk] <;> rfl) (fa_ok (k := 13) ty64 rfl rfl ty4 rfl rfl)) rfl <| OSuf.aop tyOK rfl (so_store (by simp only [lk] <;> rfl) (by simp only [lk] <;> rfl) (by simp (disch := first | assumption | omega | (simp only [nx] <;> omega) | fail) only [aStore, ty4, writeRow, hpl, hv, hg, hc, sb, hcell, hsp1, hsp2, hbl1, hbl2, Value.cells, places, tsD] <;> rfl)) rfl <| OSuf.nil <| SQ.normal ?_
            refine W.reg <| OSuf.aop tyOK rfl (so_move (by simp only [lk] <;> rfl)) rfl <| OSuf.aop tyOK rfl (so_nilCheck (by simp only [lk] <;> rfl)) rfl <| OSuf.aop tyOK rfl (so_fieldAddr (by simp only [lk] <;> rfl) (fa_ok (k := 0) ty29 rfl rfl ty26 rfl rfl)) rfl <| OSuf.aop tyOK rfl (so_load (by simp only [lk] <;> rfl) (by simp (disch := first | assumption | omega | (simp only [nx] <;> omega) | fail) only [aLoad, ty26, rowOf, hpl, hv, hg, hc, sb, hcell, hsp1, hsp2, hbl1, hbl2, Value.cells, places, tsD] <;> rfl)) rfl <| OSuf.aop tyOK rfl (so_move (by simp only [lk] <;> rfl)) rfl <| OSuf.aop tyOK rfl (so_move (by simp only [lk] <;> rfl)) rfl <| OSuf.aop tyOK rfl (so_indexAddr (by simp only [lk] <;> rfl) (by simp only [lk] <;> rfl) (by simp (disch := first | assumption | omega | (simp only [nx] <;> omega) | fail) only [aIndexAddr, ty26, ty64, hpl, hv, hg, hc, sb, hcell, hsp1, hsp2, hbl1, hbl2, Value.cells, places, tsD] <;> rfl)) rfl <| OSuf.aop tyOK rfl (so_fieldAddr (by simp only [lk] <;> rfl) (fa_ok (k := 14) ty64 rfl rfl ty27 rfl rfl)) rfl <| OSuf.aop tyOK rfl (so_store (by simp only [lk] <;> rfl) (by simp only [lk] <;> rfl) (by simp (disch := first | assumption | omega | (simp only [nx] <;> omega) | fail) only [aStore, ty27, writeRow, hpl, hv, hg, hc, sb, hcell, hsp1, hsp2, hbl1, hbl2, Value.cells, places, tsD] <;> rfl)) rfl <| OSuf.nil <| BQ.normal <| SQ.normal ?_
            refine W.reg <| OSuf.aop tyOK rfl (so_move (by simp only [lk] <;> rfl)) rfl <| OSuf.aop tyOK rfl (so_bin (by simp only [lk] <;> rfl) (by simp only [lk] <;> rfl) (bi_w bi_add (by first | (simp only [w2] <;> rfl) | rfl))) rfl <| OSuf.aop tyOK rfl (so_assign (by simp only [lk] <;> rfl)) rfl <| OSuf.nil <| ?_
            -- leaf: round
            refine LQ.normal (m := n - 1) (L := [(0, P0 s), (1, U64 now), (5, .slice (some ⟨h'.next + 2, 0, none⟩) 1 0), (6, I64 ((i + 1 : Nat) : Int))]) (by omega) ?_ ⟨i + 1, _, by omega, ⟨⟨?_, ⟨.slice (some ⟨y, 0, none⟩) nn 0, ?_, .some ?_ hx ?_ ?_⟩, fun z hz => ⟨(hsx z hz).1, by have := (hsx z hz).2; simp only [nx]; omega⟩⟩, ?_⟩, ⟨?_, fun z hz k1 k2 => ?_⟩, .some (x := h'.next + 2) (n := 1) (by rw [hdl]; simp) ?_ ?_ ?_ ?_, rfl⟩
            · simp only [HasA, Tr.get_put, Nat.reduceEqDiff, reduceIte, w2, true_and, and_true]; rfl
            · simp only [nx]; omega
            · simp (disch := first | assumption | omega | (simp only [nx] <;> omega) | fail) only [hpl]; exact hv
            · simp; omega
            · simp only [nx]; omega
            · simp (disch := first | assumption | omega | (simp only [nx] <;> omega) | fail) only [hpl]; rw [stp]
            · simp (disch := first | assumption | omega | (simp only [nx] <;> omega) | fail) only [hpl]; exact hse
            · simp only [nx]; omega
            · have k3 := k2 y hx
              simp (disch := first | assumption | omega | (simp only [nx] <;> omega) | fail) only [hpl]; exact hF.2 z hz k1 k2
            · rw [hdl]; simp [e]
            · omega
            · simp only [nx]; omega
            · simp (disch := first | assumption | omega | (simp only [nx] <;> omega) | fail) only [hpl]; rw [hdl]; simp [e, flatsM_append, flatsM]; rfl
          | @some x1 n1 ne e e1 e2 e3 =>
            have hcl : cellsOf (flatsM (dueL now (qs.take i))) 0 (n1 * 13) = some (flatsM (dueL now (qs.take i))) := cellsOf_all (by rw [e, flatsM_length])
            have hn1 : n1 ≤ 1000000 := by omega
            have hxs : ¬ x1 = s := by omega
            have hxy : ¬ x1 = y := by omega
            refine W.seq <| W.seq <| W.reg <| OSuf.aop tyOK rfl (so_move (by simp only [lk] <;> rfl)) rfl <| OSuf.aop tyOK rfl (so_move (by simp only [lk] <;> rfl)) rfl <| OSuf.aop tyOK rfl (so_nilCheck (by simp only [lk] <;> rfl)) rfl <| OSuf.aop tyOK rfl (so_fieldAddr (by simp only [lk] <;> rfl) (fa_ok (k := 0) ty29 rfl rfl ty26 rfl rfl)) rfl <| OSuf.aop tyOK rfl (so_load (by simp only [lk] <;> rfl) (by simp (disch := first | assumption | omega | (simp only [nx] <;> omega) | fail) only [aLoad, ty26, rowOf, hpl, hv, hg, hc, sb, hcell, hsp1, hsp2, hbl1, hbl2, Value.cells, places, tsD, e3] <;> rfl)) rfl <| OSuf.aop tyOK rfl (so_len (by simp only [aopnds, lk] <;> rfl) (by simp (disch := first | assumption | omega | (simp only [nx] <;> omega) | fail) only [aLenOf, ty26, hpl, hv, hg, hc, sb, hcell, hsp1, hsp2, hbl1, hbl2, Value.cells, places, tsD, e3] <;> rfl)) rfl <| OSuf.aopT tyOK rfl (so_bin (by simp only [lk] <;> rfl) (by simp only [lk] <;> rfl) bi_lss) (fun _ => rfl) (by first | rfl | assumption | ((simp only [bl, hv, hg, hc, sb, hcell, hsp1, hsp2, hbl1, hbl2, Value.cells, places, tsD, e3]) <;> first | done | assumption | omega) | (simp [hv, hg, hc, sb, hcell, hsp1, hsp2, hbl1, hbl2, Value.cells, places, tsD, e3]; done) | (simp [hv, hg, hc, sb, hcell, hsp1, hsp2, hbl1, hbl2, Value.cells, places, tsD, e3]; omega)) <| OSuf.nil <| SQ.normal ?_
            refine W.yes (by simp only [lk] <;> rfl) <| CWp.skip <| SQ.normal ?_
            refine W.seq <| W.block <| W.seq <| W.reg <| OSuf.aop tyOK rfl (so_move (by simp only [lk] <;> rfl)) rfl <| OSuf.aop tyOK rfl (so_nilCheck (by simp only [lk] <;> rfl)) rfl <| OSuf.aop tyOK rfl (so_fieldAddr (by simp only [lk] <;> rfl) (fa_ok (k := 0) ty29 rfl rfl ty26 rfl rfl)) rfl <| OSuf.aop tyOK rfl (so_load (by simp only [lk] <;> rfl) (by simp (disch := first | assumption | omega | (simp only [nx] <;> omega) | fail) only [aLoad, ty26, rowOf, hpl, hv, hg, hc, sb, hcell, hsp1, hsp2, hbl1, hbl2, Value.cells, places, tsD, e3] <;> rfl)) rfl <| OSuf.aop tyOK rfl (so_move (by simp only [lk] <;> rfl)) rfl <| OSuf.aop tyOK rfl (so_indexAddr (by simp only [lk] <;> rfl) (by simp only [lk] <;> rfl) (by simp (disch := first | assumption | omega | (simp only [nx] <;> omega) | fail) only [aIndexAddr, ty26, ty64, hpl, hv, hg, hc, sb, hcell, hsp1, hsp2, hbl1, hbl2, Value.cells, places, tsD, e3] <;> rfl)) rfl <| OSuf.aop tyOK rfl (so_load (by simp only [lk] <;> rfl) (by simp (disch := first | assumption | omega | (simp only [nx] <;> omega) | fail) only [aLoad, ty64, rowOf, hpl, hv, hg, hc, sb, hcell, hsp1, hsp2, hbl1, hbl2, Value.cells, places, tsD, e3] <;> rfl)) rfl <| OSuf.aop tyOK rfl (so_alloc (by simp only [aAlloc, ty64] <;> rfl)) rfl <| OSuf.aop tyOK rfl (so_store (by simp only [lk] <;> rfl) (by simp only [lk] <;> rfl) (by simp (disch := first | assumption | omega | (simp only [nx] <;> omega) | fail) only [aStore, ty64, writeRow, hpl, hv, hg, hc, sb, hcell, hsp1, hsp2, hbl1, hbl2, Value.cells, places, tsD, e3] <;> rfl)) rfl <| OSuf.nil <| SQ.normal ?_
            refine W.seq <| W.reg <| OSuf.aop tyOK rfl (so_fieldAddr (by simp only [lk] <;> rfl) (fa_ok (k := 13) ty64 rfl rfl ty4 rfl rfl)) rfl <| OSuf.aopF tyOK rfl (so_load (by simp only [lk] <;> rfl) (by simp (disch := first | assumption | omega | (simp only [nx] <;> omega) | fail) only [aLoad, ty4, rowOf, hpl, hv, hg, hc, sb, hcell, hsp1, hsp2, hbl1, hbl2, Value.cells, places, tsD, e3] <;> rfl)) (fun _ => rfl) (hask) <| OSuf.aopT tyOK rfl (so_not (by simp only [lk] <;> rfl)) (fun _ => rfl) rfl <| OSuf.aopT tyOK rfl (so_move (by simp only [lk] <;> rfl)) (fun _ => rfl) rfl <| OSuf.pass (aguard_of rfl rfl (by simp only [lk] <;> rfl) rfl) rfl <| OSuf.pass (aguard_of rfl rfl (by simp only [lk] <;> rfl) rfl) rfl <| OSuf.pass (aguard_of rfl rfl (by simp only [lk] <;> rfl) rfl) rfl <| OSuf.pass (aguard_of rfl rfl (by simp only [lk] <;> rfl) rfl) rfl <| OSuf.pass (aguard_of rfl rfl (by simp only [lk] <;> rfl) rfl) rfl <| OSuf.pass (aguard_un rfl rfl (by simp only [lk] <;> rfl)) rfl <| OSuf.pass (aguard_un rfl rfl (by simp only [lk] <;> rfl)) rfl <| OSuf.pass (aguard_un rfl rfl (by simp only [lk] <;> rfl)) rfl <| OSuf.pass (aguard_un rfl rfl (by simp only [lk] <;> rfl)) rfl <| OSuf.pass (aguard_un rfl rfl (by simp only [lk] <;> rfl)) rfl <| OSuf.pass (aguard_of rfl rfl (by simp only [lk] <;> rfl) rfl) rfl <| OSuf.aopT tyOK rfl (so_pick (by simp only [lk] <;> rfl) (by simp only [lk, cond_true, cond_false] <;> rfl)) (fun _ => rfl) rfl <| OSuf.nil <| SQ.normal ?_
            refine W.yes (by simp only [lk] <;> rfl) <| W.seq <| W.reg <| OSuf.aop tyOK rfl (so_move (by simp only [lk] <;> rfl)) rfl <| OSuf.aop tyOK rfl (so_fieldAddr (by simp only [lk] <;> rfl) (fa_ok (k := 0) ty64 rfl rfl ty33 rfl rfl)) rfl <| OSuf.aop tyOK rfl (so_load (by simp only [lk] <;> rfl) (by simp (disch := first | assumption | omega | (simp only [nx] <;> omega) | fail) only [aLoad, ty33, rowOf, hpl, hv, hg, hc, sb, hcell, hsp1, hsp2, hbl1, hbl2, Value.cells, places, tsD, e3] <;> rfl)) rfl <| OSuf.aop tyOK rfl (so_buildSlice (by simp only [aparts, lk] <;> rfl) (by simp (disch := first | assumption | omega | (simp only [nx] <;> omega) | fail) only [aBuildSlice, ty41, ty33, hpl, hv, hg, hc, sb, hcell, hsp1, hsp2, hbl1, hbl2, Value.cells, places, tsD, e3] <;> rfl)) rfl <| OSuf.aop tyOK rfl (so_append (by simp only [aopnds, lk] <;> rfl) (ap_u (by simp only [appT, ty41, ty33] <;> rfl) rfl (by simp (disch := first | assumption | omega | (simp only [nx] <;> omega) | fail) only [aCells, rowOf, hpl, hv, hg, hc, sb, hcell, hsp1, hsp2, hbl1, hbl2, Value.cells, places, tsD, e3] <;> rfl) (by show (2 * (n1 + 1) + 256) * 136 ≤ _; omega) rfl (by simp (disch := first | assumption | omega | (simp only [nx] <;> omega) | fail) only [aCells, rowOf, hpl, hv, hg, hc, sb, hcell, hsp1, hsp2, hbl1, hbl2, Value.cells, places, tsD, e3] <;> rfl) rfl hcl)) rfl <| OSuf.aop tyOK rfl (so_assign (by simp only [lk] <;> rfl)) rfl <| OSuf.nil <| SQ.normal ?_
            refine W.seq <| W.reg <| OSuf.aop tyOK rfl (so_move (by simp only [lk] <;> rfl)) rfl <| OSuf.aop tyOK rfl (so_nilCheck (by simp only [lk] <;> rfl)) rfl <| OSuf.aop tyOK rfl (so_fieldAddr (by simp only [lk] <;> rfl) (fa_ok (k := 0) ty29 rfl rfl ty26 rfl rfl)) rfl <| OSuf.aop tyOK rfl (so_load (by simp only [lk] <;> rfl) (by simp (disch := first | assumption | omega | (simp only [nx] <;> omega) | fail) only [aLoad, ty26, rowOf, hpl, hv, hg, hc, sb, hcell, hsp1, hsp2, hbl1, hbl2, Value.cells, places, tsD, e3] <;> rfl)) rfl <| OSuf.aop tyOK rfl (so_move (by simp only [lk] <;> rfl)) rfl <| OSuf.aop tyOK rfl (so_indexAddr (by simp only [lk] <;> rfl) (by simp only [lk] <;> rfl) (by simp (disch := first | assumption | omega | (simp only [nx] <;> omega) | fail) only [aIndexAddr, ty26, ty64, hpl, hv, hg, hc, sb, hcell, hsp1, hsp2, hbl1, hbl2, Value.cells, places, tsD, e3] <;> rfl)) rfl <| OSuf.aop tyOK rfl (so_fieldAddr (by simp only [lk] <;> rfl) (fa_ok (k := 13) ty64 rfl rfl ty4 rfl rfl)) rfl <| OSuf.aop tyOK rfl (so_store (by simp only [lk] <;> rfl) (by simp only [lk] <;> rfl) (by simp (disch := first | assumption | omega | (simp only [nx] <;> omega) | fail) only [aStore, ty4, writeRow, hpl, hv, hg, hc, sb, hcell, hsp1, hsp2, hbl1, hbl2, Value.cells, places, tsD, e3] <;> rfl)) rfl <| OSuf.nil <| SQ.normal ?_
            refine W.reg <| OSuf.aop tyOK rfl (so_move (by simp only [lk] <;> rfl)) rfl <| OSuf.aop tyOK rfl (so_nilCheck (by simp only [lk] <;> rfl)) rfl <| OSuf.aop tyOK rfl (so_fieldAddr (by simp only [lk] <;> rfl) (fa_ok (k := 0) ty29 rfl rfl ty26 rfl rfl)) rfl <| OSuf.aop tyOK rfl (so_load (by simp only [lk] <;> rfl) (by simp (disch := first | assumption | omega | (simp only [nx] <;> omega) | fail) only [aLoad, ty26, rowOf, hpl, hv, hg, hc, sb, hcell, hsp1, hsp2, hbl1, hbl2, Value.cells, places, tsD, e3] <;> rfl)) rfl <| OSuf.aop tyOK rfl (so_move (by simp only [lk] <;> rfl)) rfl <| OSuf.aop tyOK rfl (so_move (by simp only [lk] <;> rfl)) rfl <| OSuf.aop tyOK rfl (so_indexAddr (by simp only [lk] <;> rfl) (by simp only [lk] <;> rfl) (by simp (disch := first | assumption | omega | (simp only [nx] <;> omega) | fail) only [aIndexAddr, ty26, ty64, hpl, hv, hg, hc, sb, hcell, hsp1, hsp2, hbl1, hbl2, Value.cells, places, tsD, e3] <;> rfl)) rfl <| OSuf.aop tyOK rfl (so_fieldAddr (by simp only [lk] <;> rfl) (fa_ok (k := 14) ty64 rfl rfl ty27 rfl rfl)) rfl <| OSuf.aop tyOK rfl (so_store (by simp only [lk] <;> rfl) (by simp only [lk] <;> rfl) (by simp (disch := first | assumption | omega | (simp only [nx] <;> omega) | fail) only [aStore, ty27, writeRow, hpl, hv, hg, hc, sb, hcell, hsp1, hsp2, hbl1, hbl2, Value.cells, places, tsD, e3] <;> rfl)) rfl <| OSuf.nil <| BQ.normal <| SQ.normal ?_
            refine W.reg <| OSuf.aop tyOK rfl (so_move (by simp only [lk] <;> rfl)) rfl <| OSuf.aop tyOK rfl (so_bin (by simp only [lk] <;> rfl) (by simp only [lk] <;> rfl) (bi_w bi_add (by first | (simp only [w2] <;> rfl) | rfl))) rfl <| OSuf.aop tyOK rfl (so_assign (by simp only [lk] <;> rfl)) rfl <| OSuf.nil <| ?_
            -- leaf: round
            refine LQ.normal (m := n - 1) (L := [(0, P0 s), (1, U64 now), (5, .slice (some ⟨h'.next + 2, 0, none⟩) (n1 + 1) 0), (6, I64 ((i + 1 : Nat) : Int))]) (by omega) ?_ ⟨i + 1, _, by omega, ⟨⟨?_, ⟨.slice (some ⟨y, 0, none⟩) nn 0, ?_, .some ?_ hx ?_ ?_⟩, fun z hz => ⟨(hsx z hz).1, by have := (hsx z hz).2; simp only [nx]; omega⟩⟩, ?_⟩, ⟨?_, fun z hz k1 k2 => ?_⟩, .some (x := h'.next + 2) (n := (n1 + 1)) (by rw [hdl]; simp) ?_ ?_ ?_ ?_, rfl⟩
            · simp only [HasA, Tr.get_put, Nat.reduceEqDiff, reduceIte, w2, true_and, and_true]; rfl
            · simp only [nx]; omega
            · simp (disch := first | assumption | omega | (simp only [nx] <;> omega) | fail) only [hpl]; exact hv
            · simp; omega
            · simp only [nx]; omega
            · simp (disch := first | assumption | omega | (simp only [nx] <;> omega) | fail) only [hpl]; rw [stp]
            · simp (disch := first | assumption | omega | (simp only [nx] <;> omega) | fail) only [hpl]; exact hse
            · simp only [nx]; omega
            · have k3 := k2 y hx
              have k4 : ¬ x1 = z := by omega
              simp (disch := first | assumption | omega | (simp only [nx] <;> omega) | fail) only [hpl]; exact hF.2 z hz k1 k2
            · rw [hdl]; simp [e]
            · omega
            · simp only [nx]; omega
            · simp (disch := first | assumption | omega | (simp only [nx] <;> omega) | fail) only [hpl]; rw [hdl]; simp [flatsM_append, flatsM]; rfl
        · by_cases h1 : now < q.at_
          · have h1' : ¬ q.at_ ≤ now := by omega
            refine W.seq <| W.seq <| W.reg <| OSuf.aop tyOK rfl (so_move (by simp only [lk] <;> rfl)) rfl <| OSuf.aop tyOK rfl (so_move (by simp only [lk] <;> rfl)) rfl <| OSuf.aop tyOK rfl (so_nilCheck (by simp only [lk] <;> rfl)) rfl <| OSuf.aop tyOK rfl (so_fieldAddr (by simp only [lk] <;> rfl) (fa_ok (k := 0) ty29 rfl rfl ty26 rfl rfl)) rfl <| OSuf.aop tyOK rfl (so_load (by simp only [lk] <;> rfl) (by simp (disch := first | assumption | omega | (simp only [nx] <;> omega) | fail) only [aLoad, ty26, rowOf, hpl, hv, hg, hc, sb, hcell, Value.cells, places, tsD] <;> rfl)) rfl <| OSuf.aop tyOK rfl (so_len (by simp only [aopnds, lk] <;> rfl) (by simp (disch := first | assumption | omega | (simp only [nx] <;> omega) | fail) only [aLenOf, ty26, hpl, hv, hg, hc, sb, hcell, Value.cells, places, tsD] <;> rfl)) rfl <| OSuf.aopT tyOK rfl (so_bin (by simp only [lk] <;> rfl) (by simp only [lk] <;> rfl) bi_lss) (fun _ => rfl) (by first | rfl | assumption | ((simp only [bl, hv, hg, hc, sb, hcell, Value.cells, places, tsD]) <;> first | done | assumption | omega) | (simp [hv, hg, hc, sb, hcell, Value.cells, places, tsD]; done) | (simp [hv, hg, hc, sb, hcell, Value.cells, places, tsD]; omega)) <| OSuf.nil <| SQ.normal ?_
            refine W.yes (by simp only [lk] <;> rfl) <| CWp.skip <| SQ.normal ?_
            refine W.seq <| W.block <| W.seq <| W.reg <| OSuf.aop tyOK rfl (so_move (by simp only [lk] <;> rfl)) rfl <| OSuf.aop tyOK rfl (so_nilCheck (by simp only [lk] <;> rfl)) rfl <| OSuf.aop tyOK rfl (so_fieldAddr (by simp only [lk] <;> rfl) (fa_ok (k := 0) ty29 rfl rfl ty26 rfl rfl)) rfl <| OSuf.aop tyOK rfl (so_load (by simp only [lk] <;> rfl) (by simp (disch := first | assumption | omega | (simp only [nx] <;> omega) | fail) only [aLoad, ty26, rowOf, hpl, hv, hg, hc, sb, hcell, Value.cells, places, tsD] <;> rfl)) rfl <| OSuf.aop tyOK rfl (so_move (by simp only [lk] <;> rfl)) rfl <| OSuf.aop tyOK rfl (so_indexAddr (by simp only [lk] <;> rfl) (by simp only [lk] <;> rfl) (by simp (disch := first | assumption | omega | (simp only [nx] <;> omega) | fail) only [aIndexAddr, ty26, ty64, hpl, hv, hg, hc, sb, hcell, Value.cells, places, tsD] <;> rfl)) rfl <| OSuf.aop tyOK rfl (so_load (by simp only [lk] <;> rfl) (by simp (disch := first | assumption | omega | (simp only [nx] <;> omega) | fail) only [aLoad, ty64, rowOf, hpl, hv, hg, hc, sb, hcell, Value.cells, places, tsD] <;> rfl)) rfl <| OSuf.aop tyOK rfl (so_alloc (by simp only [aAlloc, ty64] <;> rfl)) rfl <| OSuf.aop tyOK rfl (so_store (by simp only [lk] <;> rfl) (by simp only [lk] <;> rfl) (by simp (disch := first | assumption | omega | (simp only [nx] <;> omega) | fail) only [aStore, ty64, writeRow, hpl, hv, hg, hc, sb, hcell, Value.cells, places, tsD] <;> rfl)) rfl <| OSuf.nil <| SQ.normal ?_
            refine W.seq <| W.reg <| OSuf.aop tyOK rfl (so_fieldAddr (by simp only [lk] <;> rfl) (fa_ok (k := 13) ty64 rfl rfl ty4 rfl rfl)) rfl <| OSuf.aopT tyOK rfl (so_load (by simp only [lk] <;> rfl) (by simp (disch := first | assumption | omega | (simp only [nx] <;> omega) | fail) only [aLoad, ty4, rowOf, hpl, hv, hg, hc, sb, hcell, Value.cells, places, tsD] <;> rfl)) (fun _ => rfl) (hask) <| OSuf.aopF tyOK rfl (so_not (by simp only [lk] <;> rfl)) (fun _ => rfl) rfl <| OSuf.aopF tyOK rfl (so_move (by simp only [lk] <;> rfl)) (fun _ => rfl) rfl <| OSuf.aop tyOK (aguard_of rfl rfl (by simp only [lk] <;> rfl) rfl) (so_move (by simp only [lk] <;> rfl)) rfl <| OSuf.aop tyOK (aguard_of rfl rfl (by simp only [lk] <;> rfl) rfl) (so_fieldAddr (by simp only [lk] <;> rfl) (fa_ok (k := 14) ty64 rfl rfl ty27 rfl rfl)) rfl <| OSuf.aop tyOK (aguard_of rfl rfl (by simp only [lk] <;> rfl) rfl) (so_load (by simp only [lk] <;> rfl) (by simp (disch := first | assumption | omega | (simp only [nx] <;> omega) | fail) only [aLoad, ty27, rowOf, hpl, hv, hg, hc, sb, hcell, Value.cells, places, tsD] <;> rfl)) rfl <| OSuf.aopF tyOK (aguard_of rfl rfl (by simp only [lk] <;> rfl) rfl) (so_bin (by simp only [lk] <;> rfl) (by simp only [lk] <;> rfl) bi_geq) (fun _ => rfl) (by first | rfl | assumption | ((simp only [bl, hv, hg, hc, sb, hcell, Value.cells, places, tsD]) <;> first | done | assumption | omega) | (simp [hv, hg, hc, sb, hcell, Value.cells, places, tsD]; done) | (simp [hv, hg, hc, sb, hcell, Value.cells, places, tsD]; omega)) <| OSuf.aopF tyOK (aguard_of rfl rfl (by simp only [lk] <;> rfl) rfl) (so_move (by simp only [lk] <;> rfl)) (fun _ => rfl) rfl <| OSuf.pass (aguard_of rfl rfl (by simp only [lk] <;> rfl) rfl) rfl <| OSuf.pass (aguard_of rfl rfl (by simp only [lk] <;> rfl) rfl) rfl <| OSuf.pass (aguard_of rfl rfl (by simp only [lk] <;> rfl) rfl) rfl <| OSuf.pass (aguard_of rfl rfl (by simp only [lk] <;> rfl) rfl) rfl <| OSuf.pass (aguard_of rfl rfl (by simp only [lk] <;> rfl) rfl) rfl <| OSuf.aopF tyOK (aguard_of rfl rfl (by simp only [lk] <;> rfl) rfl) (so_pick (by simp only [lk] <;> rfl) (by simp only [lk, cond_true, cond_false] <;> rfl)) (fun _ => rfl) rfl <| OSuf.aopF tyOK rfl (so_pick (by simp only [lk] <;> rfl) (by simp only [lk, cond_true, cond_false] <;> rfl)) (fun _ => rfl) rfl <| OSuf.nil <| SQ.normal ?_
            refine W.no (by simp only [lk] <;> rfl) <| CWp.skip <| BQ.normal <| SQ.normal ?_
            refine W.reg <| OSuf.aop tyOK rfl (so_move (by simp only [lk] <;> rfl)) rfl <| OSuf.aop tyOK rfl (so_bin (by simp only [lk] <;> rfl) (by simp only [lk] <;> rfl) (bi_w bi_add (by first | (simp only [w2] <;> rfl) | rfl))) rfl <| OSuf.aop tyOK rfl (so_assign (by simp only [lk] <;> rfl)) rfl <| OSuf.nil <| ?_
            -- leaf: round
            refine LQ.normal (m := n - 1) (L := [(0, P0 s), (1, U64 now), (5, ov), (6, I64 ((i + 1 : Nat) : Int))]) (by omega) ?_ (keep (by simp [dueq, hask, h1]) _ ?_ ?_)
            · simp only [HasA, Tr.get_put, Nat.reduceEqDiff, reduceIte, w2, and_self]
            · simp only [nx]; omega
            · intro z hz; simp (disch := first | assumption | omega | (simp only [nx] <;> omega) | fail) only [hpl]
          · have h1' : q.at_ ≤ now := by omega
            have w1 : IntKind.u64.wrap (now - q.at_) = now - q.at_ := wrap_u64 (by omega) (by omega)
            by_cases h2 : now - q.at_ < 8
            · have h2' : ¬ 8 ≤ now - q.at_ := by omega
              refine W.seq <| W.seq <| W.reg <| OSuf.aop tyOK rfl (so_move (by simp only [lk] <;> rfl)) rfl <| OSuf.aop tyOK rfl (so_move (by simp only [lk] <;> rfl)) rfl <| OSuf.aop tyOK rfl (so_nilCheck (by simp only [lk] <;> rfl)) rfl <| OSuf.aop tyOK rfl (so_fieldAddr (by simp only [lk] <;> rfl) (fa_ok (k := 0) ty29 rfl rfl ty26 rfl rfl)) rfl <| OSuf.aop tyOK rfl (so_load (by simp only [lk] <;> rfl) (by simp (disch := first | assumption | omega | (simp only [nx] <;> omega) | fail) only [aLoad, ty26, rowOf, hpl, hv, hg, hc, sb, hcell, Value.cells, places, tsD] <;> rfl)) rfl <| OSuf.aop tyOK rfl (so_len (by simp only [aopnds, lk] <;> rfl) (by simp (disch := first | assumption | omega | (simp only [nx] <;> omega) | fail) only [aLenOf, ty26, hpl, hv, hg, hc, sb, hcell, Value.cells, places, tsD] <;> rfl)) rfl <| OSuf.aopT tyOK rfl (so_bin (by simp only [lk] <;> rfl) (by simp only [lk] <;> rfl) bi_lss) (fun _ => rfl) (by first | rfl | assumption | ((simp only [bl, hv, hg, hc, sb, hcell, Value.cells, places, tsD]) <;> first | done | assumption | omega) | (simp [hv, hg, hc, sb, hcell, Value.cells, places, tsD]; done) | (simp [hv, hg, hc, sb, hcell, Value.cells, places, tsD]; omega)) <| OSuf.nil <| SQ.normal ?_
              refine W.yes (by simp only [lk] <;> rfl) <| CWp.skip <| SQ.normal ?_
              refine W.seq <| W.block <| W.seq <| W.reg <| OSuf.aop tyOK rfl (so_move (by simp only [lk] <;> rfl)) rfl <| OSuf.aop tyOK rfl (so_nilCheck (by simp only [lk] <;> rfl)) rfl <| OSuf.aop tyOK rfl (so_fieldAddr (by simp only [lk] <;> rfl) (fa_ok (k := 0) ty29 rfl rfl ty26 rfl rfl)) rfl <| OSuf.aop tyOK rfl (so_load (by simp only [lk] <;> rfl) (by simp (disch := first | assumption | omega | (simp only [nx] <;> omega) | fail) only [aLoad, ty26, rowOf, hpl, hv, hg, hc, sb, hcell, Value.cells, places, tsD] <;> rfl)) rfl <| OSuf.aop tyOK rfl (so_move (by simp only [lk] <;> rfl)) rfl <| OSuf.aop tyOK rfl (so_indexAddr (by simp only [lk] <;> rfl) (by simp only [lk] <;> rfl) (by simp (disch := first | assumption | omega | (simp only [nx] <;> omega) | fail) only [aIndexAddr, ty26, ty64, hpl, hv, hg, hc, sb, hcell, Value.cells, places, tsD] <;> rfl)) rfl <| OSuf.aop tyOK rfl (so_load (by simp only [lk] <;> rfl) (by simp (disch := first | assumption | omega | (simp only [nx] <;> omega) | fail) only [aLoad, ty64, rowOf, hpl, hv, hg, hc, sb, hcell, Value.cells, places, tsD] <;> rfl)) rfl <| OSuf.aop tyOK rfl (so_alloc (by simp only [aAlloc, ty64] <;> rfl)) rfl <| OSuf.aop tyOK rfl (so_store (by simp only [lk] <;> rfl) (by simp only [lk] <;> rfl) (by simp (disch := first | assumption | omega | (simp only [nx] <;> omega) | fail) only [aStore, ty64, writeRow, hpl, hv, hg, hc, sb, hcell, Value.cells, places, tsD] <;> rfl)) rfl <| OSuf.nil <| SQ.normal ?_
              refine W.seq <| W.reg <| OSuf.aop tyOK rfl (so_fieldAddr (by simp only [lk] <;> rfl) (fa_ok (k := 13) ty64 rfl rfl ty4 rfl rfl)) rfl <| OSuf.aopT tyOK rfl (so_load (by simp only [lk] <;> rfl) (by simp (disch := first | assumption | omega | (simp only [nx] <;> omega) | fail) only [aLoad, ty4, rowOf, hpl, hv, hg, hc, sb, hcell, Value.cells, places, tsD] <;> rfl)) (fun _ => rfl) (hask) <| OSuf.aopF tyOK rfl (so_not (by simp only [lk] <;> rfl)) (fun _ => rfl) rfl <| OSuf.aopF tyOK rfl (so_move (by simp only [lk] <;> rfl)) (fun _ => rfl) rfl <| OSuf.aop tyOK (aguard_of rfl rfl (by simp only [lk] <;> rfl) rfl) (so_move (by simp only [lk] <;> rfl)) rfl <| OSuf.aop tyOK (aguard_of rfl rfl (by simp only [lk] <;> rfl) rfl) (so_fieldAddr (by simp only [lk] <;> rfl) (fa_ok (k := 14) ty64 rfl rfl ty27 rfl rfl)) rfl <| OSuf.aop tyOK (aguard_of rfl rfl (by simp only [lk] <;> rfl) rfl) (so_load (by simp only [lk] <;> rfl) (by simp (disch := first | assumption | omega | (simp only [nx] <;> omega) | fail) only [aLoad, ty27, rowOf, hpl, hv, hg, hc, sb, hcell, Value.cells, places, tsD] <;> rfl)) rfl <| OSuf.aopT tyOK (aguard_of rfl rfl (by simp only [lk] <;> rfl) rfl) (so_bin (by simp only [lk] <;> rfl) (by simp only [lk] <;> rfl) bi_geq) (fun _ => rfl) (by first | rfl | assumption | ((simp only [bl, hv, hg, hc, sb, hcell, Value.cells, places, tsD]) <;> first | done | assumption | omega) | (simp [hv, hg, hc, sb, hcell, Value.cells, places, tsD]; done) | (simp [hv, hg, hc, sb, hcell, Value.cells, places, tsD]; omega)) <| OSuf.aopT tyOK (aguard_of rfl rfl (by simp only [lk] <;> rfl) rfl) (so_move (by simp only [lk] <;> rfl)) (fun _ => rfl) rfl <| OSuf.aop tyOK (aguard_of rfl rfl (by simp only [lk] <;> rfl) rfl) (so_move (by simp only [lk] <;> rfl)) rfl <| OSuf.aop tyOK (aguard_of rfl rfl (by simp only [lk] <;> rfl) rfl) (so_fieldAddr (by simp only [lk] <;> rfl) (fa_ok (k := 14) ty64 rfl rfl ty27 rfl rfl)) rfl <| OSuf.aop tyOK (aguard_of rfl rfl (by simp only [lk] <;> rfl) rfl) (so_load (by simp only [lk] <;> rfl) (by simp (disch := first | assumption | omega | (simp only [nx] <;> omega) | fail) only [aLoad, ty27, rowOf, hpl, hv, hg, hc, sb, hcell, Value.cells, places, tsD] <;> rfl)) rfl <| OSuf.aop tyOK (aguard_of rfl rfl (by simp only [lk] <;> rfl) rfl) (so_bin (by simp only [lk] <;> rfl) (by simp only [lk] <;> rfl) (bi_w bi_sub (by first | (simp only [w1, w2] <;> rfl) | rfl))) rfl <| OSuf.aopF tyOK (aguard_of rfl rfl (by simp only [lk] <;> rfl) rfl) (so_bin (by simp only [lk] <;> rfl) (by simp only [lk] <;> rfl) bi_geq) (fun _ => rfl) (by first | rfl | assumption | ((simp only [bl, hv, hg, hc, sb, hcell, Value.cells, places, tsD]) <;> first | done | assumption | omega) | (simp [hv, hg, hc, sb, hcell, Value.cells, places, tsD]; done) | (simp [hv, hg, hc, sb, hcell, Value.cells, places, tsD]; omega)) <| OSuf.aopF tyOK (aguard_of rfl rfl (by simp only [lk] <;> rfl) rfl) (so_pick (by simp only [lk] <;> rfl) (by simp only [lk, cond_true, cond_false] <;> rfl)) (fun _ => rfl) rfl <| OSuf.aopF tyOK rfl (so_pick (by simp only [lk] <;> rfl) (by simp only [lk, cond_true, cond_false] <;> rfl)) (fun _ => rfl) rfl <| OSuf.nil <| SQ.normal ?_
              refine W.no (by simp only [lk] <;> rfl) <| CWp.skip <| BQ.normal <| SQ.normal ?_
              refine W.reg <| OSuf.aop tyOK rfl (so_move (by simp only [lk] <;> rfl)) rfl <| OSuf.aop tyOK rfl (so_bin (by simp only [lk] <;> rfl) (by simp only [lk] <;> rfl) (bi_w bi_add (by first | (simp only [w1, w2] <;> rfl) | rfl))) rfl <| OSuf.aop tyOK rfl (so_assign (by simp only [lk] <;> rfl)) rfl <| OSuf.nil <| ?_
              -- leaf: round
              refine LQ.normal (m := n - 1) (L := [(0, P0 s), (1, U64 now), (5, ov), (6, I64 ((i + 1 : Nat) : Int))]) (by omega) ?_ (keep (by simp [dueq, hask, h1, h2]) _ ?_ ?_)
              · simp only [HasA, Tr.get_put, Nat.reduceEqDiff, reduceIte, w2, and_self]
              · simp only [nx]; omega
              · intro z hz; simp (disch := first | assumption | omega | (simp only [nx] <;> omega) | fail) only [hpl]
            · have h2' : 8 ≤ now - q.at_ := by omega
              have hdq : dueq now q = true := by simp [dueq, hask, h1, h2]
              have stp := stp hdq
              rw [hdq, cond_true] at hdl
              cases hM with
              | none e =>
                refine W.seq <| W.seq <| W.reg <| OSuf.aop tyOK rfl (so_move (by simp only [lk] <;> rfl)) rfl <| OSuf.aop tyOK rfl (so_move (by simp only [lk] <;> rfl)) rfl <| OSuf.aop tyOK rfl (so_nilCheck (by simp only [lk] <;> rfl)) rfl <| OSuf.aop tyOK rfl (so_fieldAddr (by simp only [lk] <;> rfl) (fa_ok (k := 0) ty29 rfl rfl ty26 rfl rfl)) rfl <| OSuf.aop tyOK rfl (so_load (by simp only [lk] <;> rfl) (by simp (disch := first | assumption | omega | (simp only [nx] <;> omega) | fail) only [aLoad, ty26, rowOf, hpl, hv, hg, hc, sb, hcell, hsp1, hsp2, hbl1, hbl2, Value.cells, places, tsD] <;> rfl)) rfl <| OSuf.aop tyOK rfl (so_len (by simp only [aopnds, lk] <;> rfl) (by simp (disch := first | assumption | omega | (simp only [nx] <;> omega) | fail) only [aLenOf, ty26, hpl, hv, hg, hc, sb, hcell, hsp1, hsp2, hbl1, hbl2, Value.cells, places, tsD] <;> rfl)) rfl <| OSuf.aopT tyOK rfl (so_bin (by simp only [lk] <;> rfl) (by simp only [lk] <;> rfl) bi_lss) (fun _ => rfl) (by first | rfl | assumption | ((simp only [bl, hv, hg, hc, sb, hcell, hsp1, hsp2, hbl1, hbl2, Value.cells, places, tsD]) <;> first | done | assumption | omega) | (simp [hv, hg, hc, sb, hcell, hsp1, hsp2, hbl1, hbl2, Value.cells, places, tsD]; done) | (simp [hv, hg, hc, sb, hcell, hsp1, hsp2, hbl1, hbl2, Value.cells, places, tsD]; omega)) <| OSuf.nil <| SQ.normal ?_
                refine W.yes (by simp only [lk] <;> rfl) <| CWp.skip <| SQ.normal ?_
                refine W.seq <| W.block <| W.seq <| W.reg <| OSuf.aop tyOK rfl (so_move (by simp only [lk] <;> rfl)) rfl <| OSuf.aop tyOK rfl (so_nilCheck (by simp only [lk] <;> rfl)) rfl <| OSuf.aop tyOK rfl (so_fieldAddr (by simp only [lk] <;> rfl) (fa_ok (k := 0) ty29 rfl rfl ty26 rfl rfl)) rfl <| OSuf.aop tyOK rfl (so_load (by simp only [lk] <;> rfl) (by simp (disch := first | assumption | omega | (simp only [nx] <;> omega) | fail) only [aLoad, ty26, rowOf, hpl, hv, hg, hc, sb, hcell, hsp1, hsp2, hbl1, hbl2, Value.cells, places, tsD] <;> rfl)) rfl <| OSuf.aop tyOK rfl (so_move (by simp only [lk] <;> rfl)) rfl <| OSuf.aop tyOK rfl (so_indexAddr (by simp only [lk] <;> rfl) (by simp only [lk] <;> rfl) (by simp (disch := first | assumption | omega | (simp only [nx] <;> omega) | fail) only [aIndexAddr, ty26, ty64, hpl, hv, hg, hc, sb, hcell, hsp1, hsp2, hbl1, hbl2, Value.cells, places, tsD] <;> rfl)) rfl <| OSuf.aop tyOK rfl (so_load (by simp only [lk] <;> rfl) (by simp (disch := first | assumption | omega | (simp only [nx] <;> omega) | fail) only [aLoad, ty64, rowOf, hpl, hv, hg, hc, sb, hcell, hsp1, hsp2, hbl1, hbl2, Value.cells, places, tsD] <;> rfl)) rfl <| OSuf.aop tyOK rfl (so_alloc (by simp only [aAlloc, ty64] <;> rfl)) rfl <| OSuf.aop tyOK rfl (so_store (by simp only [lk] <;> rfl) (by simp only [lk] <;> rfl) (by simp (disch := first | assumption | omega | (simp only [nx] <;> omega) | fail) only [aStore, ty64, writeRow, hpl, hv, hg, hc, sb, hcell, hsp1, hsp2, hbl1, hbl2, Value.cells, places, tsD] <;> rfl)) rfl <| OSuf.nil <| SQ.normal ?_
                refine W.seq <| W.reg <| OSuf.aop tyOK rfl (so_fieldAddr (by simp only [lk] <;> rfl) (fa_ok (k := 13) ty64 rfl rfl ty4 rfl rfl)) rfl <| OSuf.aopT tyOK rfl (so_load (by simp only [lk] <;> rfl) (by simp (disch := first | assumption | omega | (simp only [nx] <;> omega) | fail) only [aLoad, ty4, rowOf, hpl, hv, hg, hc, sb, hcell, hsp1, hsp2, hbl1, hbl2, Value.cells, places, tsD] <;> rfl)) (fun _ => rfl) (hask) <| OSuf.aopF tyOK rfl (so_not (by simp only [lk] <;> rfl)) (fun _ => rfl) rfl <| OSuf.aopF tyOK rfl (so_move (by simp only [lk] <;> rfl)) (fun _ => rfl) rfl <| OSuf.aop tyOK (aguard_of rfl rfl (by simp only [lk] <;> rfl) rfl) (so_move (by simp only [lk] <;> rfl)) rfl <| OSuf.aop tyOK (aguard_of rfl rfl (by simp only [lk] <;> rfl) rfl) (so_fieldAddr (by simp only [lk] <;> rfl) (fa_ok (k := 14) ty64 rfl rfl ty27 rfl rfl)) rfl <| OSuf.aop tyOK (aguard_of rfl rfl (by simp only [lk] <;> rfl) rfl) (so_load (by simp only [lk] <;> rfl) (by simp (disch := first | assumption | omega | (simp only [nx] <;> omega) | fail) only [aLoad, ty27, rowOf, hpl, hv, hg, hc, sb, hcell, hsp1, hsp2, hbl1, hbl2, Value.cells, places, tsD] <;> rfl)) rfl <| OSuf.aopT tyOK (aguard_of rfl rfl (by simp only [lk] <;> rfl) rfl) (so_bin (by simp only [lk] <;> rfl) (by simp only [lk] <;> rfl) bi_geq) (fun _ => rfl) (by first | rfl | assumption | ((simp only [bl, hv, hg, hc, sb, hcell, hsp1, hsp2, hbl1, hbl2, Value.cells, places, tsD]) <;> first | done | assumption | omega) | (simp [hv, hg, hc, sb, hcell, hsp1, hsp2, hbl1, hbl2, Value.cells, places, tsD]; done) | (simp [hv, hg, hc, sb, hcell, hsp1, hsp2, hbl1, hbl2, Value.cells, places, tsD]; omega)) <| OSuf.aopT tyOK (aguard_of rfl rfl (by simp only [lk] <;> rfl) rfl) (so_move (by simp only [lk] <;> rfl)) (fun _ => rfl) rfl <| OSuf.aop tyOK (aguard_of rfl rfl (by simp only [lk] <;> rfl) rfl) (so_move (by simp only [lk] <;> rfl)) rfl <| OSuf.aop tyOK (aguard_of rfl rfl (by simp only [lk] <;> rfl) rfl) (so_fieldAddr (by simp only [lk] <;> rfl) (fa_ok (k := 14) ty64 rfl rfl ty27 rfl rfl)) rfl <| OSuf.aop tyOK (aguard_of rfl rfl (by simp only [lk] <;> rfl) rfl) (so_load (by simp only [lk] <;> rfl) (by simp (disch := first | assumption | omega | (simp only [nx] <;> omega) | fail) only [aLoad, ty27, rowOf, hpl, hv, hg, hc, sb, hcell, hsp1, hsp2, hbl1, hbl2, Value.cells, places, tsD] <;> rfl)) rfl <| OSuf.aop tyOK (aguard_of rfl rfl (by simp only [lk] <;> rfl) rfl) (so_bin (by simp only [lk] <;> rfl) (by simp only [lk] <;> rfl) (bi_w bi_sub (by first | (simp only [w1, w2] <;> rfl) | rfl))) rfl <| OSuf.aopT tyOK (aguard_of rfl rfl (by simp only [lk] <;> rfl) rfl) (so_bin (by simp only [lk] <;> rfl) (by simp only [lk] <;> rfl) bi_geq) (fun _ => rfl) (by first | rfl | assumption | ((simp only [bl, hv, hg, hc, sb, hcell, hsp1, hsp2, hbl1, hbl2, Value.cells, places, tsD]) <;> first | done | assumption | omega) | (simp [hv, hg, hc, sb, hcell, hsp1, hsp2, hbl1, hbl2, Value.cells, places, tsD]; done) | (simp [hv, hg, hc, sb, hcell, hsp1, hsp2, hbl1, hbl2, Value.cells, places, tsD]; omega)) <| OSuf.aopT tyOK (aguard_of rfl rfl (by simp only [lk] <;> rfl) rfl) (so_pick (by simp only [lk] <;> rfl) (by simp only [lk, cond_true, cond_false] <;> rfl)) (fun _ => rfl) rfl <| OSuf.aopT tyOK rfl (so_pick (by simp only [lk] <;> rfl) (by simp only [lk, cond_true, cond_false] <;> rfl)) (fun _ => rfl) rfl <| OSuf.nil <| SQ.normal ?_
                refine W.yes (by simp only [lk] <;> rfl) <| W.seq <| W.reg <| OSuf.aop tyOK rfl (so_move (by simp only [lk] <;> rfl)) rfl <| OSuf.aop tyOK rfl (so_fieldAddr (by simp only [lk] <;> rfl) (fa_ok (k := 0) ty64 rfl rfl ty33 rfl rfl)) rfl <| OSuf.aop tyOK rfl (so_load (by simp only [lk] <;> rfl) (by simp (disch := first | assumption | omega | (simp only [nx] <;> omega) | fail) only [aLoad, ty33, rowOf, hpl, hv, hg, hc, sb, hcell, hsp1, hsp2, hbl1, hbl2, Value.cells, places, tsD] <;> rfl)) rfl <| OSuf.aop tyOK rfl (so_buildSlice (by simp only [aparts, lk] <;> rfl) (by simp (disch := first | assumption | omega | (simp only [nx] <;> omega) | fail) only [aBuildSlice, ty41, ty33, hpl, hv, hg, hc, sb, hcell, hsp1, hsp2, hbl1, hbl2, Value.cells, places, tsD] <;> rfl)) rfl <| OSuf.aop tyOK rfl (so_append (by simp only [aopnds, lk] <;> rfl) (ap_0 (by simp only [appT, ty41, ty33] <;> rfl) rfl (by simp (disch := first | assumption | omega | (simp only [nx] <;> omega) | fail) only [aCells, rowOf, hpl, hv, hg, hc, sb, hcell, hsp1, hsp2, hbl1, hbl2, Value.cells, places, tsD] <;> rfl) (by decide) rfl)) rfl <| OSuf.aop tyOK rfl (so_assign (by simp only [lk] <;> rfl)) rfl <| OSuf.nil <| SQ.normal ?_
                refine W.seq <| W.reg <| OSuf.aop tyOK rfl (so_move (by simp only [lk] <;> rfl)) rfl <| OSuf.aop tyOK rfl (so_nilCheck (by simp only [lk] <;> rfl)) rfl <| OSuf.aop tyOK rfl (so_fieldAddr (by simp only [lk] <;> rfl) (fa_ok (k := 0) ty29 rfl rfl ty26 rfl rfl)) rfl <| OSuf.aop tyOK rfl (so_load (by simp only [lk] <;> rfl) (by simp (disch := first | assumption | omega | (simp only [nx] <;> omega) | fail) only [aLoad, ty26, rowOf, hpl, hv, hg, hc, sb, hcell, hsp1, hsp2, hbl1, hbl2, Value.cells, places, tsD] <;> rfl)) rfl <| OSuf.aop tyOK rfl (so_move (by simp only [lk] <;> rfl)) rfl <| OSuf.aop tyOK rfl (so_indexAddr (by simp only [lk] <;> rfl) (by simp only [lk] <;> rfl) (by simp (disch := first | assumption | omega | (simp only [nx] <;> omega) | fail) only [aIndexAddr, ty26, ty64, hpl, hv, hg, hc, sb, hcell, hsp1, hsp2, hbl1, hbl2, Value.cells, places, tsD] <;> rfl)) rfl <| OSuf.aop tyOK rfl (so_fieldAddr (by simp only [lk] <;> rfl) (fa_ok (k := 13) ty64 rfl rfl ty4 rfl rfl)) rfl <| OSuf.aop tyOK rfl (so_store (by simp only [lk] <;> rfl) (by simp only [lk] <;> rfl) (by simp (disch := first | assumption | omega | (simp only [nx] <;> omega) | fail) only [aStore, ty4, writeRow, hpl, hv, hg, hc, sb, hcell, hsp1, hsp2, hbl1, hbl2, Value.cells, places, tsD] <;> rfl)) rfl <| OSuf.nil <| SQ.normal ?_
                refine W.reg <| OSuf.aop tyOK rfl (so_move (by simp only [lk] <;> rfl)) rfl <| OSuf.aop tyOK rfl (so_nilCheck (by simp only [lk] <;> rfl)) rfl <| OSuf.aop tyOK rfl (so_fieldAddr (by simp only [lk] <;> rfl) (fa_ok (k := 0) ty29 rfl rfl ty26 rfl rfl)) rfl <| OSuf.aop tyOK rfl (so_load (by simp only [lk] <;> rfl) (by simp (disch := first | assumption | omega | (simp only [nx] <;> omega) | fail) only [aLoad, ty26, rowOf, hpl, hv, hg, hc, sb, hcell, hsp1, hsp2, hbl1, hbl2, Value.cells, places, tsD] <;> rfl)) rfl <| OSuf.aop tyOK rfl (so_move (by simp only [lk] <;> rfl)) rfl <| OSuf.aop tyOK rfl (so_move (by simp only [lk] <;> rfl)) rfl <| OSuf.aop tyOK rfl (so_indexAddr (by simp only [lk] <;> rfl) (by simp only [lk] <;> rfl) (by simp (disch := first | assumption | omega | (simp only [nx] <;> omega) | fail) only [aIndexAddr, ty26, ty64, hpl, hv, hg, hc, sb, hcell, hsp1, hsp2, hbl1, hbl2, Value.cells, places, tsD] <;> rfl)) rfl <| OSuf.aop tyOK rfl (so_fieldAddr (by simp only [lk] <;> rfl) (fa_ok (k := 14) ty64 rfl rfl ty27 rfl rfl)) rfl <| OSuf.aop tyOK rfl (so_store (by simp only [lk] <;> rfl) (by simp only [lk] <;> rfl) (by simp (disch := first | assumption | omega | (simp only [nx] <;> omega) | fail) only [aStore, ty27, writeRow, hpl, hv, hg, hc, sb, hcell, hsp1, hsp2, hbl1, hbl2, Value.cells, places, tsD] <;> rfl)) rfl <| OSuf.nil <| BQ.normal <| SQ.normal ?_
                refine W.reg <| OSuf.aop tyOK rfl (so_move (by simp only [lk] <;> rfl)) rfl <| OSuf.aop tyOK rfl (so_bin (by simp only [lk] <;> rfl) (by simp only [lk] <;> rfl) (bi_w bi_add (by first | (simp only [w1, w2] <;> rfl) | rfl))) rfl <| OSuf.aop tyOK rfl (so_assign (by simp only [lk] <;> rfl)) rfl <| OSuf.nil <| ?_
                -- leaf: round
                refine LQ.normal (m := n - 1) (L := [(0, P0 s), (1, U64 now), (5, .slice (some ⟨h'.next + 2, 0, none⟩) 1 0), (6, I64 ((i + 1 : Nat) : Int))]) (by omega) ?_ ⟨i + 1, _, by omega, ⟨⟨?_, ⟨.slice (some ⟨y, 0, none⟩) nn 0, ?_, .some ?_ hx ?_ ?_⟩, fun z hz => ⟨(hsx z hz).1, by have := (hsx z hz).2; simp only [nx]; omega⟩⟩, ?_⟩, ⟨?_, fun z hz k1 k2 => ?_⟩, .some (x := h'.next + 2) (n := 1) (by rw [hdl]; simp) ?_ ?_ ?_ ?_, rfl⟩
                · simp only [HasA, Tr.get_put, Nat.reduceEqDiff, reduceIte, w2, true_and, and_true]; rfl
                · simp only [nx]; omega
                · simp (disch := first | assumption | omega | (simp only [nx] <;> omega) | fail) only [hpl]; exact hv
                · simp; omega
                · simp only [nx]; omega
                · simp (disch := first | assumption | omega | (simp only [nx] <;> omega) | fail) only [hpl]; rw [stp]
                · simp (disch := first | assumption | omega | (simp only [nx] <;> omega) | fail) only [hpl]; exact hse
                · simp only [nx]; omega
                · have k3 := k2 y hx
                  simp (disch := first | assumption | omega | (simp only [nx] <;> omega) | fail) only [hpl]; exact hF.2 z hz k1 k2
                · rw [hdl]; simp [e]
                · omega
                · simp only [nx]; omega
                · simp (disch := first | assumption | omega | (simp only [nx] <;> omega) | fail) only [hpl]; rw [hdl]; simp [e, flatsM_append, flatsM]; rfl
              | @some x1 n1 ne e e1 e2 e3 =>
                have hcl : cellsOf (flatsM (dueL now (qs.take i))) 0 (n1 * 13) = some (flatsM (dueL now (qs.take i))) := cellsOf_all (by rw [e, flatsM_length])
                have hn1 : n1 ≤ 1000000 := by omega
                have hxs : ¬ x1 = s := by omega
                have hxy : ¬ x1 = y := by omega
                refine W.seq <| W.seq <| W.reg <| OSuf.aop tyOK rfl (so_move (by simp only [lk] <;> rfl)) rfl <| OSuf.aop tyOK rfl (so_move (by simp only [lk] <;> rfl)) rfl <| OSuf.aop tyOK rfl (so_nilCheck (by simp only [lk] <;> rfl)) rfl <| OSuf.aop tyOK rfl (so_fieldAddr (by simp only [lk] <;> rfl) (fa_ok (k := 0) ty29 rfl rfl ty26 rfl rfl)) rfl <| OSuf.aop tyOK rfl (so_load (by simp only [lk] <;> rfl) (by simp (disch := first | assumption | omega | (simp only [nx] <;> omega) | fail) only [aLoad, ty26, rowOf, hpl, hv, hg, hc, sb, hcell, hsp1, hsp2, hbl1, hbl2, Value.cells, places, tsD, e3] <;> rfl)) rfl <| OSuf.aop tyOK rfl (so_len (by simp only [aopnds, lk] <;> rfl) (by simp (disch := first | assumption | omega | (simp only [nx] <;> omega) | fail) only [aLenOf, ty26, hpl, hv, hg, hc, sb, hcell, hsp1, hsp2, hbl1, hbl2, Value.cells, places, tsD, e3] <;> rfl)) rfl <| OSuf.aopT tyOK rfl (so_bin (by simp only [lk] <;> rfl) (by simp only [lk] <;> rfl) bi_lss) (fun _ => rfl) (by first | rfl | assumption | ((simp only [bl, hv, hg, hc, sb, hcell, hsp1, hsp2, hbl1, hbl2, Value.cells, places, tsD, e3]) <;> first | done | assumption | omega) | (simp [hv, hg, hc, sb, hcell, hsp1, hsp2, hbl1, hbl2, Value.cells, places, tsD, e3]; done) | (simp [hv, hg, hc, sb, hcell, hsp1, hsp2, hbl1, hbl2, Value.cells, places, tsD, e3]; omega)) <| OSuf.nil <| SQ.normal ?_
                refine W.yes (by simp only [lk] <;> rfl) <| CWp.skip <| SQ.normal ?_
                refine W.seq <| W.block <| W.seq <| W.reg <| OSuf.aop tyOK rfl (so_move (by simp only [lk] <;> rfl)) rfl <| OSuf.aop tyOK rfl (so_nilCheck (by simp only [lk] <;> rfl)) rfl <| OSuf.aop tyOK rfl (so_fieldAddr (by simp only [lk] <;> rfl) (fa_ok (k := 0) ty29 rfl rfl ty26 rfl rfl)) rfl <| OSuf.aop tyOK rfl (so_load (by simp only [lk] <;> rfl) (by simp (disch := first | assumption | omega | (simp only [nx] <;> omega) | fail) only [aLoad, ty26, rowOf, hpl, hv, hg, hc, sb, hcell, hsp1, hsp2, hbl1, hbl2, Value.cells, places, tsD, e3] <;> rfl)) rfl <| OSuf.aop tyOK rfl (so_move (by simp only [lk] <;> rfl)) rfl <| OSuf.aop tyOK rfl (so_indexAddr (by simp only [lk] <;> rfl) (by simp only [lk] <;> rfl) (by simp (disch := first | assumption | omega | (simp only [nx] <;> omega) | fail) only [aIndexAddr, ty26, ty64, hpl, hv, hg, hc, sb, hcell, hsp1, hsp2, hbl1, hbl2, Value.cells, places, tsD, e3] <;> rfl)) rfl <| OSuf.aop tyOK rfl (so_load (by simp only [lk] <;> rfl) (by simp (disch := first | assumption | omega | (simp only [nx] <;> omega) | fail) only [aLoad, ty64, rowOf, hpl, hv, hg, hc, sb, hcell, hsp1, hsp2, hbl1, hbl2, Value.cells, places, tsD, e3] <;> rfl)) rfl <| OSuf.aop tyOK rfl (so_alloc (by simp only [aAlloc, ty64] <;> rfl)) rfl <| OSuf.aop tyOK rfl (so_store (by simp only [lk] <;> rfl) (by simp only [lk] <;> rfl) (by simp (disch := first | assumption | omega | (simp only [nx] <;> omega) | fail) only [aStore, ty64, writeRow, hpl, hv, hg, hc, sb, hcell, hsp1, hsp2, hbl1, hbl2, Value.cells, places, tsD, e3] <;> rfl)) rfl <| OSuf.nil <| SQ.normal ?_
                refine W.seq <| W.reg <| OSuf.aop tyOK rfl (so_fieldAddr (by simp only [lk] <;> rfl) (fa_ok (k := 13) ty64 rfl rfl ty4 rfl rfl)) rfl <| OSuf.aopT tyOK rfl (so_load (by simp only [lk] <;> rfl) (by simp (disch := first | assumption | omega | (simp only [nx] <;> omega) | fail) only [aLoad, ty4, rowOf, hpl, hv, hg, hc, sb, hcell, hsp1, hsp2, hbl1, hbl2, Value.cells, places, tsD, e3] <;> rfl)) (fun _ => rfl) (hask) <| OSuf.aopF tyOK rfl (so_not (by simp only [lk] <;> rfl)) (fun _ => rfl) rfl <| OSuf.aopF tyOK rfl (so_move (by simp only [lk] <;> rfl)) (fun _ => rfl) rfl <| OSuf.aop tyOK (aguard_of rfl rfl (by simp only [lk] <;> rfl) rfl) (so_move (by simp only [lk] <;> rfl)) rfl <| OSuf.aop tyOK (aguard_of rfl rfl (by simp only [lk] <;> rfl) rfl) (so_fieldAddr (by simp only [lk] <;> rfl) (fa_ok (k := 14) ty64 rfl rfl ty27 rfl rfl)) rfl <| OSuf.aop tyOK (aguard_of rfl rfl (by simp only [lk] <;> rfl) rfl) (so_load (by simp only [lk] <;> rfl) (by simp (disch := first | assumption | omega | (simp only [nx] <;> omega) | fail) only [aLoad, ty27, rowOf, hpl, hv, hg, hc, sb, hcell, hsp1, hsp2, hbl1, hbl2, Value.cells, places, tsD, e3] <;> rfl)) rfl <| OSuf.aopT tyOK (aguard_of rfl rfl (by simp only [lk] <;> rfl) rfl) (so_bin (by simp only [lk] <;> rfl) (by simp only [lk] <;> rfl) bi_geq) (fun _ => rfl) (by first | rfl | assumption | ((simp only [bl, hv, hg, hc, sb, hcell, hsp1, hsp2, hbl1, hbl2, Value.cells, places, tsD, e3]) <;> first | done | assumption | omega) | (simp [hv, hg, hc, sb, hcell, hsp1, hsp2, hbl1, hbl2, Value.cells, places, tsD, e3]; done) | (simp [hv, hg, hc, sb, hcell, hsp1, hsp2, hbl1, hbl2, Value.cells, places, tsD, e3]; omega)) <| OSuf.aopT tyOK (aguard_of rfl rfl (by simp only [lk] <;> rfl) rfl) (so_move (by simp only [lk] <;> rfl)) (fun _ => rfl) rfl <| OSuf.aop tyOK (aguard_of rfl rfl (by simp only [lk] <;> rfl) rfl) (so_move (by simp only [lk] <;> rfl)) rfl <| OSuf.aop tyOK (aguard_of rfl rfl (by simp only [lk] <;> rfl) rfl) (so_fieldAddr (by simp only [lk] <;> rfl) (fa_ok (k := 14) ty64 rfl rfl ty27 rfl rfl)) rfl <| OSuf.aop tyOK (aguard_of rfl rfl (by simp only [lk] <;> rfl) rfl) (so_load (by simp only [lk] <;> rfl) (by simp (disch := first | assumption | omega | (simp only [nx] <;> omega) | fail) only [aLoad, ty27, rowOf, hpl, hv, hg, hc, sb, hcell, hsp1, hsp2, hbl1, hbl2, Value.cells, places, tsD, e3] <;> rfl)) rfl <| OSuf.aop tyOK (aguard_of rfl rfl (by simp only [lk] <;> rfl) rfl) (so_bin (by simp only [lk] <;> rfl) (by simp only [lk] <;> rfl) (bi_w bi_sub (by first | (simp only [w1, w2] <;> rfl) | rfl))) rfl <| OSuf.aopT tyOK (aguard_of rfl rfl (by simp only [lk] <;> rfl) rfl) (so_bin (by simp only [lk] <;> rfl) (by simp only [lk] <;> rfl) bi_geq) (fun _ => rfl) (by first | rfl | assumption | ((simp only [bl, hv, hg, hc, sb, hcell, hsp1, hsp2, hbl1, hbl2, Value.cells, places, tsD, e3]) <;> first | done | assumption | omega) | (simp [hv, hg, hc, sb, hcell, hsp1, hsp2, hbl1, hbl2, Value.cells, places, tsD, e3]; done) | (simp [hv, hg, hc, sb, hcell, hsp1, hsp2, hbl1, hbl2, Value.cells, places, tsD, e3]; omega)) <| OSuf.aopT tyOK (aguard_of rfl rfl (by simp only [lk] <;> rfl) rfl) (so_pick (by simp only [lk] <;> rfl) (by simp only [lk, cond_true, cond_false] <;> rfl)) (fun _ => rfl) rfl <| OSuf.aopT tyOK rfl (so_pick (by simp only [lk] <;> rfl) (by simp only [lk, cond_true, cond_false] <;> rfl)) (fun _ => rfl) rfl <| OSuf.nil <| SQ.normal ?_
                refine W.yes (by simp only [lk] <;> rfl) <| W.seq <| W.reg <| OSuf.aop tyOK rfl (so_move (by simp only [lk] <;> rfl)) rfl <| OSuf.aop tyOK rfl (so_fieldAddr (by simp only [lk] <;> rfl) (fa_ok (k := 0) ty64 rfl rfl ty33 rfl rfl)) rfl <| OSuf.aop tyOK rfl (so_load (by simp only [lk] <;> rfl) (by simp (disch := first | assumption | omega | (simp only [nx] <;> omega) | fail) only [aLoad, ty33, rowOf, hpl, hv, hg, hc, sb, hcell, hsp1, hsp2, hbl1, hbl2, Value.cells, places, tsD, e3] <;> rfl)) rfl <| OSuf.aop tyOK rfl (so_buildSlice (by simp only [aparts, lk] <;> rfl) (by simp (disch := first | assumption | omega | (simp only [nx] <;> omega) | fail) only [aBuildSlice, ty41, ty33, hpl, hv, hg, hc, sb, hcell, hsp1, hsp2, hbl1, hbl2, Value.cells, places, tsD, e3] <;> rfl)) rfl <| OSuf.aop tyOK rfl (so_append (by simp only [aopnds, lk] <;> rfl) (ap_u (by simp only [appT, ty41, ty33] <;> rfl) rfl (by simp (disch := first | assumption | omega | (simp only [nx] <;> omega) | fail) only [aCells, rowOf, hpl, hv, hg, hc, sb, hcell, hsp1, hsp2, hbl1, hbl2, Value.cells, places, tsD, e3] <;> rfl) (by show (2 * (n1 + 1) + 256) * 136 ≤ _; omega) rfl (by simp (disch := first | assumption | omega | (simp only [nx] <;> omega) | fail) only [aCells, rowOf, hpl, hv, hg, hc, sb, hcell, hsp1, hsp2, hbl1, hbl2, Value.cells, places, tsD, e3] <;> rfl) rfl hcl)) rfl <| OSuf.aop tyOK rfl (so_assign (by simp only [lk] <;> rfl)) rfl <| OSuf.nil <| SQ.normal ?_
                refine W.seq <| W.reg <| OSuf.aop tyOK rfl (so_move (by simp only [lk] <;> rfl)) rfl <| OSuf.aop tyOK rfl (so_nilCheck (by simp only [lk] <;> rfl)) rfl <| OSuf.aop tyOK rfl (so_fieldAddr (by simp only [lk] <;> rfl) (fa_ok (k := 0) ty29 rfl rfl ty26 rfl rfl)) rfl <| OSuf.aop tyOK rfl (so_load (by simp only [lk] <;> rfl) (by simp (disch := first | assumption | omega | (simp only [nx] <;> omega) | fail) only [aLoad, ty26, rowOf, hpl, hv, hg, hc, sb, hcell, hsp1, hsp2, hbl1, hbl2, Value.cells, places, tsD, e3] <;> rfl)) rfl <| OSuf.aop tyOK rfl (so_move (by simp only [lk] <;> rfl)) rfl <| OSuf.aop tyOK rfl (so_indexAddr (by simp only [lk] <;> rfl) (by simp only [lk] <;> rfl) (by simp (disch := first | assumption | omega | (simp only [nx] <;> omega) | fail) only [aIndexAddr, ty26, ty64, hpl, hv, hg, hc, sb, hcell, hsp1, hsp2, hbl1, hbl2, Value.cells, places, tsD, e3] <;> rfl)) rfl <| OSuf.aop tyOK rfl (so_fieldAddr (by simp only [lk] <;> rfl) (fa_ok (k := 13) ty64 rfl rfl ty4 rfl rfl)) rfl <| OSuf.aop tyOK rfl (so_store (by simp only [lk] <;> rfl) (by simp only [lk] <;> rfl) (by simp (disch := first | assumption | omega | (simp only [nx] <;> omega) | fail) only [aStore, ty4, writeRow, hpl, hv, hg, hc, sb, hcell, hsp1, hsp2, hbl1, hbl2, Value.cells, places, tsD, e3] <;> rfl)) rfl <| OSuf.nil <| SQ.normal ?_
                refine W.reg <| OSuf.aop tyOK rfl (so_move (by simp only [lk] <;> rfl)) rfl <| OSuf.aop tyOK rfl (so_nilCheck (by simp only [lk] <;> rfl)) rfl <| OSuf.aop tyOK rfl (so_fieldAddr (by simp only [lk] <;> rfl) (fa_ok (k := 0) ty29 rfl rfl ty26 rfl rfl)) rfl <| OSuf.aop tyOK rfl (so_load (by simp only [lk] <;> rfl) (by simp (disch := first | assumption | omega | (simp only [nx] <;> omega) | fail) only [aLoad, ty26, rowOf, hpl, hv, hg, hc, sb, hcell, hsp1, hsp2, hbl1, hbl2, Value.cells, places, tsD, e3] <;> rfl)) rfl <| OSuf.aop tyOK rfl (so_move (by simp only [lk] <;> rfl)) rfl <| OSuf.aop tyOK rfl (so_move (by simp only [lk] <;> rfl)) rfl <| OSuf.aop tyOK rfl (so_indexAddr (by simp only [lk] <;> rfl) (by simp only [lk] <;> rfl) (by simp (disch := first | assumption | omega | (simp only [nx] <;> omega) | fail) only [aIndexAddr, ty26, ty64, hpl, hv, hg, hc, sb, hcell, hsp1, hsp2, hbl1, hbl2, Value.cells, places, tsD, e3] <;> rfl)) rfl <| OSuf.aop tyOK rfl (so_fieldAddr (by simp only [lk] <;> rfl) (fa_ok (k := 14) ty64 rfl rfl ty27 rfl rfl)) rfl <| OSuf.aop tyOK rfl (so_store (by simp only [lk] <;> rfl) (by simp only [lk] <;> rfl) (by simp (disch := first | assumption | omega | (simp only [nx] <;> omega) | fail) only [aStore, ty27, writeRow, hpl, hv, hg, hc, sb, hcell, hsp1, hsp2, hbl1, hbl2, Value.cells, places, tsD, e3] <;> rfl)) rfl <| OSuf.nil <| BQ.normal <| SQ.normal ?_
                refine W.reg <| OSuf.aop tyOK rfl (so_move (by simp only [lk] <;> rfl)) rfl <| OSuf.aop tyOK rfl (so_bin (by simp only [lk] <;> rfl) (by simp only [lk] <;> rfl) (bi_w bi_add (by first | (simp only [w1, w2] <;> rfl) | rfl))) rfl <| OSuf.aop tyOK rfl (so_assign (by simp only [lk] <;> rfl)) rfl <| OSuf.nil <| ?_
                -- leaf: round
                refine LQ.normal (m := n - 1) (L := [(0, P0 s), (1, U64 now), (5, .slice (some ⟨h'.next + 2, 0, none⟩) (n1 + 1) 0), (6, I64 ((i + 1 : Nat) : Int))]) (by omega) ?_ ⟨i + 1, _, by omega, ⟨⟨?_, ⟨.slice (some ⟨y, 0, none⟩) nn 0, ?_, .some ?_ hx ?_ ?_⟩, fun z hz => ⟨(hsx z hz).1, by have := (hsx z hz).2; simp only [nx]; omega⟩⟩, ?_⟩, ⟨?_, fun z hz k1 k2 => ?_⟩, .some (x := h'.next + 2) (n := (n1 + 1)) (by rw [hdl]; simp) ?_ ?_ ?_ ?_, rfl⟩
                · simp only [HasA, Tr.get_put, Nat.reduceEqDiff, reduceIte, w2, true_and, and_true]; rfl
                · simp only [nx]; omega
                · simp (disch := first | assumption | omega | (simp only [nx] <;> omega) | fail) only [hpl]; exact hv
                · simp; omega
                · simp only [nx]; omega
                · simp (disch := first | assumption | omega | (simp only [nx] <;> omega) | fail) only [hpl]; rw [stp]
                · simp (disch := first | assumption | omega | (simp only [nx] <;> omega) | fail) only [hpl]; exact hse
                · simp only [nx]; omega
                · have k3 := k2 y hx
                  have k4 : ¬ x1 = z := by omega
                  simp (disch := first | assumption | omega | (simp only [nx] <;> omega) | fail) only [hpl]; exact hF.2 z hz k1 k2
                · rw [hdl]; simp [e]
                · omega
                · simp only [nx]; omega
                · simp (disch := first | assumption | omega | (simp only [nx] <;> omega) | fail) only [hpl]; rw [hdl]; simp [flatsM_append, flatsM]; rfl
      · refine W.seq <| W.seq <| W.reg <| OSuf.aop tyOK rfl (so_move (by simp only [lk] <;> rfl)) rfl <| OSuf.aop tyOK rfl (so_move (by simp only [lk] <;> rfl)) rfl <| OSuf.aop tyOK rfl (so_nilCheck (by simp only [lk] <;> rfl)) rfl <| OSuf.aop tyOK rfl (so_fieldAddr (by simp only [lk] <;> rfl) (fa_ok (k := 0) ty29 rfl rfl ty26 rfl rfl)) rfl <| OSuf.aop tyOK rfl (so_load (by simp only [lk] <;> rfl) (by simp (disch := first | assumption | omega | (simp only [nx] <;> omega) | fail) only [aLoad, ty26, rowOf, hpl, hv] <;> rfl)) rfl <| OSuf.aop tyOK rfl (so_len (by simp only [aopnds, lk] <;> rfl) (by simp (disch := first | assumption | omega | (simp only [nx] <;> omega) | fail) only [aLenOf, ty26, hpl, hv] <;> rfl)) rfl <| OSuf.aopF tyOK rfl (so_bin (by simp only [lk] <;> rfl) (by simp only [lk] <;> rfl) bi_lss) (fun _ => rfl) (by first | rfl | assumption | ((simp only [bl, hv]) <;> first | done | assumption | omega) | (simp [hv]; done) | (simp [hv]; omega)) <| OSuf.nil <| SQ.normal ?_
        refine W.no (by simp only [lk] <;> rfl) <| CWp.exit <| SQ.exit <| LQ.exit <| BQ.exit <| ?_
        -- leaf: cut
        have hi0 : i = qs.length := by omega
        subst hi0
        refine NQ.normal (L := [(5, ov)]) ?_ ⟨ov, ⟨⟨by simpa using hB', hse⟩, hF, by simpa using hM⟩, rfl⟩
        simp only [HasA, Tr.get_put, Nat.reduceEqDiff, reduceIte, and_self]
  rintro L a' h' ha ⟨u, hK, rfl⟩
  refine SQ.normal <| CWp.known ha ?_
  simp only [mkA]
  refine W.seq <| W.reg <| OSuf.aop tyOK rfl (so_move (by simp only [lk] <;> rfl)) rfl <| OSuf.aop tyOK rfl (so_assign (by simp only [lk] <;> rfl)) rfl <| OSuf.nil <| SQ.normal ?_
  refine CWp.ret <| FQ.ret (by simp only [aRet, Try.f15, aResults, aResult, lk, Nat.reduceEqDiff, reduceIte] <;> rfl) ?_
  -- leaf: end
  exact hK

/-! Exactly. -/
theorem gcX {P : Program} {h H : AHeap} {f : FuncId} {args : List Value} {n : Nat} {o : AObj} (hn : H.next = h.next) (hb : BO h.next o)
    (hf : FWp P f args h fun u h' => ∃ x, u = .slice (some ⟨x, 0, none⟩) n 0 ∧ h.next ≤ x ∧ h'.get x = some o ∧ ∀ r p, H.get r = some p → (h.get r = some p ∧ (r < h.next → h'.get r = some p)) ∨ (r < h.next ∧ h'.get r = some p ∧ BO h.next p)) :
    FWp P f args h fun u h' => u = .slice (some ⟨h.next, 0, none⟩) n 0 ∧ h' = H.new o := by
  intro μ args' w hl st
  refine (hf μ args' w hl st).mono ?_
  rintro e w' ⟨u, v', h', μ', rfl, ⟨x, rfl, hx, hg, hk⟩, ex, hr⟩
  obtain ⟨en, h1, h2⟩ := Ext.newOne st ex hn (fun r o ho => by
    rcases hk r o ho with ⟨a, b⟩ | ⟨a, b, c⟩
    · have := (st.live r o a).1; exact ⟨this, b this, .inl a⟩
    · exact ⟨a, b, .inr c⟩) hg hx hb
  refine ⟨_, v', _, _, rfl, ⟨rfl, rfl⟩, h2, ?_⟩
  cases hr with
  | sliceU hlt hm hl hc => rw [h1] at hm; cases hm; exact .sliceU (by simp [hn]) (Emb.upd_same _ _ _) hl hc
  | sliceZ hlt hm => rw [h1] at hm; cases hm; exact .sliceZ (by simp [hn]) (Emb.upd_same _ _ _)
theorem bv_msgs (n : Nat) : ∀ (rs : List Msg), ∀ v ∈ flatsM rs, BV n v
  | [], v, h => by cases h
  | m :: rs, v, h => by
    rcases List.mem_append.1 h with h | h
    · simp only [Msg.cs, List.mem_cons, List.not_mem_nil, or_false] at h
      rcases h with rfl | rfl | rfl | rfl | rfl | rfl | rfl | rfl | rfl | rfl | rfl | rfl | rfl <;> exact BV.flat rfl
    · exact bv_msgs n rs v h
theorem bv_q (n : Nat) (q : Qn) : ∀ v ∈ q.cs, BV n v := fun v h => by
  simp only [Qn.cs, List.mem_cons, List.not_mem_nil, or_false] at h
  rcases h with rfl | rfl | rfl | rfl | rfl | rfl | rfl | rfl | rfl | rfl | rfl | rfl | rfl | rfl | rfl <;> exact BV.flat rfl
theorem bv_qs (n : Nat) : ∀ (rs : List Qn), ∀ v ∈ flatsQ rs, BV n v
  | [], v, h => by cases h
  | m :: rs, v, h => by
    rcases List.mem_append.1 h with h | h
    · exact bv_q n m v h
    · exact bv_qs n rs v h
/-- A call that hands back messages, and changes rows of which it is known how: exactly. -/
theorem due_exact {f : FuncId} {args : List Value} {h H : AHeap} {rs : List Msg} {K0 : Value → AHeap → Prop} (hn : H.next = h.next) (hf : FWp Try.prog f args h K0)
    (hk : ∀ u h', K0 u h' → MsgsAt h' h.next rs u ∧ ∀ r p, H.get r = some p → (h.get r = some p ∧ (r < h.next → h'.get r = some p)) ∨ (r < h.next ∧ h'.get r = some p ∧ BO h.next p)) :
    ∃ b H', FWp Try.prog f args h (fun u h' => u = .slice b rs.length 0 ∧ h' = H') ∧ MsgsB H' rs b ∧ (H'.next = h.next ∨ H'.next = h.next + 1) ∧ ∀ z, z < h.next → H'.get z = H.get z := by
  by_cases he : rs = []
  · refine ⟨none, H, FWp.gcE hf fun u h' hK => ?_, ⟨fun i hi => by rw [he] at hi; exact absurd hi (Nat.not_lt_zero _)⟩, .inl hn, fun _ _ => rfl⟩
    obtain ⟨h1, h2⟩ := hk u h' hK
    have hu : u = .slice none 0 0 := by
      cases h1 with
      | none e => rfl
      | some ne _ _ _ _ => exact (ne he).elim
    exact ⟨by rw [hu]; exact BV.flat rfl, H, hn, h2, by rw [hu, he]; rfl, rfl⟩
  · refine ⟨some ⟨h.next, 0, none⟩, H.new (.cells (flatsM rs) 13), gcX hn (bv_msgs _ rs) (hf.mono fun u h' hK => ?_), ⟨fun i hi => ⟨h.next, rfl, by simp only [nx]; omega, AHeap.get_new_at (by omega)⟩⟩, .inr (by simp only [nx]; omega), fun z hz => AHeap.get_new_ne (by omega)⟩
    obtain ⟨h1, h2⟩ := hk u h' hK
    cases h1 with
    | none e => exact (he e).elim
    | some ne e hlo hx hg => subst e; exact ⟨_, rfl, hlo, hg, h2⟩
theorem duer_x (h : AHeap) (s : Nat) (x : Option Nat) (last : Int) (qs : List Qn) (hB : RB h s x last qs) (now : Int) (hbig : qs.length ≤ 1000000) (hn0 : 0 ≤ now) (hn1 : now < 18446744073709551616) (hat : ∀ q ∈ qs, 0 ≤ q.at_ ∧ q.at_ < 18446744073709551616) :
    ∃ b H, FWp Try.prog 15 [P0 s, U64 now] h (fun u h' => u = .slice b (dueL now qs).length 0 ∧ h' = H) ∧ MsgsB H (dueL now qs) b ∧ (H.next = h.next ∨ H.next = h.next + 1) ∧ RB H s x last (qs.map (stampq now)) ∧ FrB h H s x := by
  have hf := duer_c h s x last qs hB now hbig hn0 hn1 hat
  obtain ⟨hlt, ⟨v, hv, hs⟩, hsx⟩ := id hB
  cases hs with
  | none e hx =>
    subst e
    obtain ⟨b, H, g1, g2, g3, g4⟩ := due_exact (H := h) (rs := dueL now []) rfl hf fun u h' ⟨⟨k1, k0⟩, k2, k3⟩ => ⟨k3, fun r p hr => .inl ⟨hr, fun hrl => by
      by_cases hrs : s = r
      · subst hrs; rw [k0]; exact hr
      · rw [k2.2 r hrl hrs (fun y hy => by rw [hx] at hy; cases hy)]; exact hr⟩⟩
    have hnx : h.next ≤ H.next := by omega
    exact ⟨b, H, g1, g2, g3, hB.mono hnx (g4 s hlt) (fun y hy => by rw [hx] at hy; cases hy), hnx, fun z hz _ _ => g4 z hz⟩
  | @some y nn hnn hx hy hg =>
    obtain ⟨hys, _⟩ := hsx y hx
    have hys' : ¬ s = y := fun e => hys e.symm
    obtain ⟨b, H, g1, g2, g3, g4⟩ := due_exact (h := h) (H := h.set y (.cells (flatsQ (qs.map (stampq now))) 15)) (rs := dueL now qs) rfl hf fun u h' ⟨⟨k1, k0⟩, k2, k3⟩ => ⟨k3, fun r p hr => by
      by_cases hry : y = r
      · subst hry
        rw [AHeap.get_set_same] at hr; cases hr
        refine .inr ⟨hy, ?_, bv_qs _ _⟩
        obtain ⟨_, ⟨v', hv', hs'⟩, _⟩ := k1
        rw [k0, hv] at hv'
        cases hv'
        cases hs' with
        | some _ hx' _ hg' => exact hg'
      · rw [AHeap.get_set_ne hry] at hr
        refine .inl ⟨hr, fun hrl => ?_⟩
        by_cases hrs : s = r
        · subst hrs; rw [k0]; exact hr
        · rw [k2.2 r hrl hrs (fun z hz => by rw [hx] at hz; cases hz; exact hry)]; exact hr⟩
    have hnx : h.next ≤ H.next := by omega
    refine ⟨b, H, g1, g2, g3, ⟨by omega, ⟨_, by rw [g4 s hlt, AHeap.get_set_ne hys]; exact hv, .some (by rw [hnn]; simp) hx (by omega) (by rw [g4 y hy, AHeap.get_set_same])⟩, fun z hz => ⟨(hsx z hz).1, by have := (hsx z hz).2; omega⟩⟩, hnx, fun z hz k1 k2 => by rw [g4 z hz, AHeap.get_set_ne (k2 y hx)]⟩
/-- Rows are written, one behind the other. -/
def setQs (now : Int) : List Qn → AHeap → AHeap
  | [], h => h
  | q :: qs, h => (setQs now qs h).set q.row (.cells (stampq now q).cs 1)
theorem setQs_next (now : Int) (h : AHeap) : ∀ qs, (setQs now qs h).next = h.next
  | [] => rfl
  | q :: qs => by simp only [setQs, nx]; exact setQs_next now h qs
theorem setQs_out (now : Int) (h : AHeap) {z : Nat} : ∀ {qs : List Qn}, (∀ q ∈ qs, ¬ q.row = z) → (setQs now qs h).get z = h.get z
  | [], _ => rfl
  | q :: qs, hz => by
    rw [setQs, AHeap.get_set_ne (hz q List.mem_cons_self)]
    exact setQs_out now h fun p hp => hz p (List.mem_cons_of_mem _ hp)
theorem setQs_in (now : Int) (h : AHeap) {q : Qn} : ∀ {qs : List Qn}, qs.Pairwise (fun a b => ¬ a.row = b.row) → q ∈ qs → (setQs now qs h).get q.row = some (.cells (stampq now q).cs 1)
  | p :: qs, hp, hq => by
    have h' := List.pairwise_cons.1 hp
    rw [setQs]
    cases hq with
    | head => exact AHeap.get_set_same _ _ _
    | tail _ hq => rw [AHeap.get_set_ne (h'.1 q hq)]; exact setQs_in now h h'.2 hq
theorem due_x (h : AHeap) (r : Nat) (S : RS) (hA : RA h r S) (now : Int) (hbig : S.qs.length ≤ 1000000) (hn0 : 0 ≤ now) (hn1 : now < 18446744073709551616) (hat : ∀ q ∈ S.qs, 0 ≤ q.at_ ∧ q.at_ < 18446744073709551616) :
    ∃ b H, FWp Try.prog 14 [P0 r, U64 now] h (fun u h' => u = .slice b (dueL now S.qs).length 0 ∧ h' = H) ∧ MsgsB H (dueL now S.qs) b ∧ (H.next = h.next ∨ H.next = h.next + 1) ∧ RA H r { S with qs := S.qs.map (stampq now) } ∧ FrR h H r S := by
  have hf := due_c h r S hA now hbig hn0 hn1 hat
  obtain ⟨b, H, g1, g2, g3, g4⟩ := due_exact (H := setQs now S.qs h) (rs := dueL now S.qs) (setQs_next _ _ _) hf fun u h' ⟨k1, k2, k3⟩ => ⟨k3, fun z p hz => by
    by_cases hin : ∃ q ∈ S.qs, q.row = z
    · obtain ⟨q, hq, rfl⟩ := hin
      rw [setQs_in now h hA.rowd hq] at hz; cases hz
      refine .inr ⟨(hA.rows q hq).1, ?_, bv_q _ _⟩
      have := (k1.rows (stampq now q) (List.mem_map.2 ⟨q, hq, rfl⟩)).2.2.2
      rw [(stampq_ent now q).2.2.2.1] at this
      exact this
    · have hout : ∀ q ∈ S.qs, ¬ q.row = z := fun q hq e => hin ⟨q, hq, e⟩
      rw [setQs_out now h hout] at hz
      refine .inl ⟨hz, fun hzl => ?_⟩
      by_cases e1 : r = z
      · subst e1; rw [k1.row, ← hA.row]; exact hz
      · by_cases e2 : S.m = z
        · subst e2
          have e3 := k1.map
          have e4 : (S.qs.map (stampq now)).map Qn.ent = S.qs.map Qn.ent := by
            rw [List.map_map]; exact List.map_congr_left fun q _ => (stampq_ent now q).1
          simp only [e4] at e3
          rw [e3, ← hA.map]; exact hz
        · rw [k2.2 z hzl e1 e2 hout]; exact hz⟩
  have hnx : h.next ≤ H.next := by omega
  have hlt := hA.lt
  have hml := hA.mlt
  have e4 : (S.qs.map (stampq now)).map Qn.ent = S.qs.map Qn.ent := by
    rw [List.map_map]; exact List.map_congr_left fun q _ => (stampq_ent now q).1
  have mem : ∀ q ∈ S.qs.map (stampq now), ∃ p ∈ S.qs, q = stampq now p ∧ q.row = p.row ∧ q.id = p.id ∧ q.born = p.born ∧ q.msg = p.msg := fun q hq => by
    obtain ⟨p, hp, rfl⟩ := List.mem_map.1 hq
    have := stampq_ent now p
    exact ⟨p, hp, rfl, this.2.2.2.1, this.2.2.1, this.2.2.2.2, this.2.1⟩
  refine ⟨b, H, g1, g2, g3, ⟨by omega, by simp only; omega, hA.rm, ?_, ?_, ?_, ?_, ?_, ?_, ?_, ?_, hA.l0⟩, hnx, fun z hz k1 k2 k3 => by rw [g4 z hz, setQs_out now h k3]⟩
  · rw [g4 r hlt, setQs_out now h fun q hq => (hA.rows q hq).2.1]; exact hA.row
  · simp only [e4]
    rw [g4 S.m hml, setQs_out now h fun q hq => (hA.rows q hq).2.2.1]; exact hA.map
  · intro q hq
    obtain ⟨p, hp, _, _, _, e, _⟩ := mem q hq
    simp only [e]; exact hA.born p hp
  · rw [List.pairwise_map]; exact hA.borns.imp fun {a b} hab => by rw [(stampq_ent now a).2.2.2.2, (stampq_ent now b).2.2.2.2]; exact hab
  · rw [List.pairwise_map]; exact hA.ids.imp fun {a b} hab => by rw [(stampq_ent now a).2.2.1, (stampq_ent now b).2.2.1]; exact hab
  · intro q hq
    obtain ⟨p, hp, _, _, e1, _, e2⟩ := mem q hq
    rw [e1, e2]; exact hA.idr p hp
  · intro q hq
    obtain ⟨p, hp, e0, e1, _, _, _⟩ := mem q hq
    obtain ⟨l1, l2, l3, l4⟩ := hA.rows p hp
    refine ⟨by omega, by rw [e1]; exact l2, by rw [e1]; exact l3, ?_⟩
    rw [e1, g4 p.row l1, setQs_in now h hA.rowd hp, e0]
  · rw [List.pairwise_map]; exact hA.rowd.imp fun {a b} hab => by rw [(stampq_ent now a).2.2.2.1, (stampq_ent now b).2.2.2.1]; exact hab
end Go.Proofs.Ytmokbpphniafpaa
