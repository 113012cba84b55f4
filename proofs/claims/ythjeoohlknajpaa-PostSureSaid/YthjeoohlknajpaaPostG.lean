/-
  Contracts of the package post: Trim, Again.
-/
import Derived.Test.YthjeoohlknajpaaPostF
namespace Go.Proofs.Ythjeoohlknajpaa
open Go.Ab
set_option linter.unusedSimpArgs false
set_option linter.unusedVariables false
set_option maxRecDepth 10000

theorem trim_c (h : AHeap) (p : Nat) (S : PS) (R : Option Nat) (hP : PA h p S R) (lsn : Int) (n : Nat) (hb : 0 ≤ S.base) (hb1 : S.base + S.ops.length < 18446744073709551616) (hl0 : 0 ≤ lsn) (hl1 : lsn < 18446744073709551616) (hlen : S.ops.length ≤ 1000000000)
    (hn : (if pref S.base S.ops < (if S.base > lsn then S.base else lsn) then pref S.base S.ops else (if S.base > lsn then S.base else lsn)) - S.base = n) (hnl : n ≤ S.ops.length) :
    FWp Try.prog 14 [P0 p, U64 lsn] h fun u h' => PA h' p ⟨S.base + n, S.ops.drop n, S.waits⟩ R ∧ Fr h h' p R := by
  have hP0 := hP
  obtain ⟨hpn, s, hp, hs⟩ := hP
  have w1 : IntKind.u64.wrap ((if pref S.base S.ops < (if S.base > lsn then S.base else lsn) then pref S.base S.ops else (if S.base > lsn then S.base else lsn)) - S.base) = n := by rw [hn]; exact wrap_u64 (by omega) (by omega)
  have w2 : IntKind.u64.wrap (S.base + n) = S.base + n := wrap_u64 (by omega) (by omega)
  cases hs with
  | none e =>
    have n0 : n = 0 := by rw [e] at hnl; simpa using hnl
    subst n0
    refine W.enter tyOK Try.func14 rfl rfl ?_
    simp only [entry]
    refine W.seq <| W.seq <| W.reg <| 
        OSuf.aop tyOK rfl (so_move (by simp only [lk] <;> rfl)) rfl <|
        OSuf.aopF tyOK rfl (so_bin (by simp only [lk] <;> rfl) (by simp only [lk] <;> rfl) (bi_nil ⟨_, _, ty23, rfl⟩)) (fun _ => rfl) rfl <|
        OSuf.nil <| SQ.normal ?_
    refine W.no (by simp only [lk] <;> rfl) <| CWp.skip <| SQ.normal ?_
    refine W.seq <| CWp.sqd tyOK mixed (ms := [0, 0, 2, 6, 14, 31, 0, 64, 255, 0, 512, 1536, 3584, 8191, 16383]) (by kernel_rfl) (
        .free rfl rfl (so_move (by simp only [lk] <;> rfl)) rfl <|
        .free rfl rfl (so_move (by simp only [lk] <;> rfl)) rfl <|
        .free rfl rfl (so_nilCheck (by simp only [lk] <;> rfl)) rfl <|
        .free rfl rfl (so_fieldAddr (by simp only [lk] <;> rfl) (fa_ok (k := 0) ty41 rfl rfl ty25 rfl rfl)) rfl <|
        .read rfl rfl (so_load (by simp only [lk] <;> rfl) (by simp (disch := first | assumption | omega | (simp only [nx] <;> omega) | fail) only [aLoad, ty25, rowOf, hpl, hp, w1, w2, Value.cells] <;> rfl)) (by first | rfl | simp [veq, veq1, veqs]) trivial rfl <|
        .read rfl rfl (so_max (by simp only [aopnds, lk] <;> rfl)) (by first | rfl | simp [veq, veq1, veqs]) trivial rfl <|
        .free rfl rfl (so_move (by simp only [lk] <;> rfl)) rfl <|
        .call rfl rfl (fcallO (by simp only [aopnds, lk] <;> rfl) en9 (prefix_c _ p S none hP0 hlen)) rfl ⟨.inr (so_max (by simp only [aopnds, lk] <;> rfl)), .inr (so_load (by simp only [lk] <;> rfl) (by simp (disch := first | assumption | omega | (simp only [nx] <;> omega) | fail) only [aLoad, ty25, rowOf, hpl, hp, w1, w2, Value.cells] <;> rfl)), trivial⟩ rfl <|
        .read rfl rfl (so_min (by simp only [aopnds, lk] <;> rfl)) (by first | rfl | simp [veq, veq1, veqs]) ⟨.inl rfl, trivial⟩ rfl <|
        .free rfl rfl (so_move (by simp only [lk] <;> rfl)) rfl <|
        .free rfl rfl (so_nilCheck (by simp only [lk] <;> rfl)) rfl <|
        .free rfl rfl (so_fieldAddr (by simp only [lk] <;> rfl) (fa_ok (k := 0) ty41 rfl rfl ty25 rfl rfl)) rfl <|
        .read rfl rfl (so_load (by simp only [lk] <;> rfl) (by simp (disch := first | assumption | omega | (simp only [nx] <;> omega) | fail) only [aLoad, ty25, rowOf, hpl, hp, w1, w2, Value.cells] <;> rfl)) (by first | rfl | simp [veq, veq1, veqs]) ⟨.inr (so_load (by simp only [lk] <;> rfl) (by simp (disch := first | assumption | omega | (simp only [nx] <;> omega) | fail) only [aLoad, ty25, rowOf, hpl, hp, w1, w2, Value.cells] <;> rfl)), trivial⟩ rfl <|
        .free rfl rfl (so_bin (by simp only [lk] <;> rfl) (by simp only [lk] <;> rfl) (bi_w bi_sub rfl)) rfl <|
        .free rfl rfl (so_assign (by simp only [lk] <;> rfl)) rfl <|
        .nil) <| SQ.normal ?_
    refine W.seq <| W.reg <| 
        OSuf.aop tyOK rfl (so_move (by simp only [lk] <;> rfl)) rfl <|
        OSuf.aop tyOK rfl (so_nilCheck (by simp only [lk] <;> rfl)) rfl <|
        OSuf.aop tyOK rfl (so_fieldAddr (by simp only [lk] <;> rfl) (fa_ok (k := 1) ty41 rfl rfl ty39 rfl rfl)) rfl <|
        OSuf.aop tyOK rfl (so_load (by simp only [lk] <;> rfl) (by simp (disch := first | assumption | omega | (simp only [nx] <;> omega) | fail) only [aLoad, ty39, rowOf, hpl, hp, w1, w2, Value.cells] <;> rfl)) rfl <|
        OSuf.aop tyOK rfl (so_move (by simp only [lk] <;> rfl)) rfl <|
        OSuf.aop tyOK rfl (so_slice (by simp only [lk] <;> rfl) (by simp only [oopnd, lk] <;> rfl) (by simp only [oopnd, lk] <;> rfl) (by simp only [oopnd, lk] <;> rfl) (sl_0 ty39 rfl ty43 (by simp only [w1]; rfl))) rfl <|
        OSuf.aop tyOK rfl (so_clear (by simp only [aopnds, lk] <;> rfl) (cl_0 rfl ty39 rfl)) rfl <|
        OSuf.nil <| SQ.normal ?_
    refine W.seq <| W.reg <| 
        OSuf.aop tyOK rfl (so_move (by simp only [lk] <;> rfl)) rfl <|
        OSuf.aop tyOK rfl (so_move (by simp only [lk] <;> rfl)) rfl <|
        OSuf.aop tyOK rfl (so_nilCheck (by simp only [lk] <;> rfl)) rfl <|
        OSuf.aop tyOK rfl (so_fieldAddr (by simp only [lk] <;> rfl) (fa_ok (k := 1) ty41 rfl rfl ty39 rfl rfl)) rfl <|
        OSuf.aop tyOK rfl (so_load (by simp only [lk] <;> rfl) (by simp (disch := first | assumption | omega | (simp only [nx] <;> omega) | fail) only [aLoad, ty39, rowOf, hpl, hp, w1, w2, Value.cells] <;> rfl)) rfl <|
        OSuf.aop tyOK rfl (so_move (by simp only [lk] <;> rfl)) rfl <|
        OSuf.aop tyOK rfl (so_slice (by simp only [lk] <;> rfl) (by simp only [oopnd, lk] <;> rfl) (by simp only [oopnd, lk] <;> rfl) (by simp only [oopnd, lk] <;> rfl) (sl_0 ty39 rfl ty43 (by simp only [w1]; rfl))) rfl <|
        OSuf.aop tyOK rfl (so_nilCheck (by simp only [lk] <;> rfl)) rfl <|
        OSuf.aop tyOK rfl (so_fieldAddr (by simp only [lk] <;> rfl) (fa_ok (k := 1) ty41 rfl rfl ty39 rfl rfl)) rfl <|
        OSuf.aop tyOK rfl (so_store (by simp only [lk] <;> rfl) (by simp only [lk] <;> rfl) (by simp (disch := first | assumption | omega | (simp only [nx] <;> omega) | fail) only [aStore, ty39, writeRow, hpl, hp, w1, w2, Value.cells] <;> rfl)) rfl <|
        OSuf.nil <| SQ.normal ?_
    refine W.reg <| 
        OSuf.aop tyOK rfl (so_move (by simp only [lk] <;> rfl)) rfl <|
        OSuf.aop tyOK rfl (so_nilCheck (by simp only [lk] <;> rfl)) rfl <|
        OSuf.aop tyOK rfl (so_fieldAddr (by simp only [lk] <;> rfl) (fa_ok (k := 0) ty41 rfl rfl ty25 rfl rfl)) rfl <|
        OSuf.aop tyOK rfl (so_load (by simp only [lk] <;> rfl) (by simp (disch := first | assumption | omega | (simp only [nx] <;> omega) | fail) only [aLoad, ty25, rowOf, hpl, hp, w1, w2, Value.cells] <;> rfl)) rfl <|
        OSuf.aop tyOK rfl (so_move (by simp only [lk] <;> rfl)) rfl <|
        OSuf.aop tyOK rfl (so_bin (by simp only [lk] <;> rfl) (by simp only [lk] <;> rfl) (bi_w bi_add rfl)) rfl <|
        OSuf.aop tyOK rfl (so_nilCheck (by simp only [lk] <;> rfl)) rfl <|
        OSuf.aop tyOK rfl (so_fieldAddr (by simp only [lk] <;> rfl) (fa_ok (k := 0) ty41 rfl rfl ty25 rfl rfl)) rfl <|
        OSuf.aop tyOK rfl (so_store (by simp only [lk] <;> rfl) (by simp only [lk] <;> rfl) (by simp (disch := first | assumption | omega | (simp only [nx] <;> omega) | fail) only [aStore, ty25, writeRow, hpl, hp, w1, w2, Value.cells] <;> rfl)) rfl <|
        OSuf.nil <| FQ.normal (by simp only [aRet, Try.f14, aResults, aResult, lk] <;> rfl) ?_
    -- leaf: end
    refine ⟨⟨?_, _, by simp only [AHeap.get_set_same]; rfl, ?_⟩, ?_, fun q hq h3 h4 => ?_⟩
    · simp only [AHeap.next_set]; exact hpn
    · exact .none (by rw [e]; rfl)
    · simp only [AHeap.next_set]; exact Nat.le_refl _
    · simp (disch := first | assumption | omega | (simp only [nx] <;> omega) | fail) only [AHeap.get_set_ne]
  | @some r off pre hpre hrn hpr hg =>
    have hpr' : ¬ r = p := fun e => hpr e.symm
    by_cases n0 : n = 0
    · subst n0
      refine W.enter tyOK Try.func14 rfl rfl ?_
      simp only [entry]
      refine W.seq <| W.seq <| W.reg <| 
          OSuf.aop tyOK rfl (so_move (by simp only [lk] <;> rfl)) rfl <|
          OSuf.aopF tyOK rfl (so_bin (by simp only [lk] <;> rfl) (by simp only [lk] <;> rfl) (bi_nil ⟨_, _, ty23, rfl⟩)) (fun _ => rfl) rfl <|
          OSuf.nil <| SQ.normal ?_
      refine W.no (by simp only [lk] <;> rfl) <| CWp.skip <| SQ.normal ?_
      refine W.seq <| CWp.sqd tyOK mixed (ms := [0, 0, 2, 6, 14, 31, 0, 64, 255, 0, 512, 1536, 3584, 8191, 16383]) (by kernel_rfl) (
          .free rfl rfl (so_move (by simp only [lk] <;> rfl)) rfl <|
          .free rfl rfl (so_move (by simp only [lk] <;> rfl)) rfl <|
          .free rfl rfl (so_nilCheck (by simp only [lk] <;> rfl)) rfl <|
          .free rfl rfl (so_fieldAddr (by simp only [lk] <;> rfl) (fa_ok (k := 0) ty41 rfl rfl ty25 rfl rfl)) rfl <|
          .read rfl rfl (so_load (by simp only [lk] <;> rfl) (by simp (disch := first | assumption | omega | (simp only [nx] <;> omega) | fail) only [aLoad, ty25, rowOf, hpl, hp, hg, w1, w2, Value.cells] <;> rfl)) (by first | rfl | simp [veq, veq1, veqs]) trivial rfl <|
          .read rfl rfl (so_max (by simp only [aopnds, lk] <;> rfl)) (by first | rfl | simp [veq, veq1, veqs]) trivial rfl <|
          .free rfl rfl (so_move (by simp only [lk] <;> rfl)) rfl <|
          .call rfl rfl (fcallO (by simp only [aopnds, lk] <;> rfl) en9 (prefix_c _ p S _ hP0 hlen)) rfl ⟨.inr (so_max (by simp only [aopnds, lk] <;> rfl)), .inr (so_load (by simp only [lk] <;> rfl) (by simp (disch := first | assumption | omega | (simp only [nx] <;> omega) | fail) only [aLoad, ty25, rowOf, hpl, hp, hg, w1, w2, Value.cells] <;> rfl)), trivial⟩ rfl <|
          .read rfl rfl (so_min (by simp only [aopnds, lk] <;> rfl)) (by first | rfl | simp [veq, veq1, veqs]) ⟨.inl rfl, trivial⟩ rfl <|
          .free rfl rfl (so_move (by simp only [lk] <;> rfl)) rfl <|
          .free rfl rfl (so_nilCheck (by simp only [lk] <;> rfl)) rfl <|
          .free rfl rfl (so_fieldAddr (by simp only [lk] <;> rfl) (fa_ok (k := 0) ty41 rfl rfl ty25 rfl rfl)) rfl <|
          .read rfl rfl (so_load (by simp only [lk] <;> rfl) (by simp (disch := first | assumption | omega | (simp only [nx] <;> omega) | fail) only [aLoad, ty25, rowOf, hpl, hp, hg, w1, w2, Value.cells] <;> rfl)) (by first | rfl | simp [veq, veq1, veqs]) ⟨.inr (so_load (by simp only [lk] <;> rfl) (by simp (disch := first | assumption | omega | (simp only [nx] <;> omega) | fail) only [aLoad, ty25, rowOf, hpl, hp, hg, w1, w2, Value.cells] <;> rfl)), trivial⟩ rfl <|
          .free rfl rfl (so_bin (by simp only [lk] <;> rfl) (by simp only [lk] <;> rfl) (bi_w bi_sub rfl)) rfl <|
          .free rfl rfl (so_assign (by simp only [lk] <;> rfl)) rfl <|
          .nil) <| SQ.normal ?_
      refine W.seq <| W.reg <| 
          OSuf.aop tyOK rfl (so_move (by simp only [lk] <;> rfl)) rfl <|
          OSuf.aop tyOK rfl (so_nilCheck (by simp only [lk] <;> rfl)) rfl <|
          OSuf.aop tyOK rfl (so_fieldAddr (by simp only [lk] <;> rfl) (fa_ok (k := 1) ty41 rfl rfl ty39 rfl rfl)) rfl <|
          OSuf.aop tyOK rfl (so_load (by simp only [lk] <;> rfl) (by simp (disch := first | assumption | omega | (simp only [nx] <;> omega) | fail) only [aLoad, ty39, rowOf, hpl, hp, hg, w1, w2, Value.cells] <;> rfl)) rfl <|
          OSuf.aop tyOK rfl (so_move (by simp only [lk] <;> rfl)) rfl <|
          OSuf.aop tyOK rfl (so_slice (by simp only [lk] <;> rfl) (by simp only [oopnd, lk] <;> rfl) (by simp only [oopnd, lk] <;> rfl) (by simp only [oopnd, lk] <;> rfl) (sl_u ty39 rfl ty43 (by simp only [w1]; exact bounds_hi hnl) (by simp (disch := first | assumption | omega | (simp only [nx] <;> omega) | fail) only [aCells, rowOf, hpl, hp, hg, w1, w2, Value.cells] <;> rfl))) rfl <|
          OSuf.aop tyOK rfl (so_clear (by simp only [aopnds, lk] <;> rfl) (cl_e rfl ty39 rfl)) rfl <|
          OSuf.nil <| SQ.normal ?_
      refine W.seq <| W.reg <| 
          OSuf.aop tyOK rfl (so_move (by simp only [lk] <;> rfl)) rfl <|
          OSuf.aop tyOK rfl (so_move (by simp only [lk] <;> rfl)) rfl <|
          OSuf.aop tyOK rfl (so_nilCheck (by simp only [lk] <;> rfl)) rfl <|
          OSuf.aop tyOK rfl (so_fieldAddr (by simp only [lk] <;> rfl) (fa_ok (k := 1) ty41 rfl rfl ty39 rfl rfl)) rfl <|
          OSuf.aop tyOK rfl (so_load (by simp only [lk] <;> rfl) (by simp (disch := first | assumption | omega | (simp only [nx] <;> omega) | fail) only [aLoad, ty39, rowOf, hpl, hp, hg, w1, w2, Value.cells] <;> rfl)) rfl <|
          OSuf.aop tyOK rfl (so_move (by simp only [lk] <;> rfl)) rfl <|
          OSuf.aop tyOK rfl (so_slice (by simp only [lk] <;> rfl) (by simp only [oopnd, lk] <;> rfl) (by simp only [oopnd, lk] <;> rfl) (by simp only [oopnd, lk] <;> rfl) (sl_u ty39 rfl ty43 (by simp only [w1]; exact bounds_lo hnl) (by simp (disch := first | assumption | omega | (simp only [nx] <;> omega) | fail) only [aCells, rowOf, hpl, hp, hg, w1, w2, Value.cells] <;> rfl))) rfl <|
          OSuf.aop tyOK rfl (so_nilCheck (by simp only [lk] <;> rfl)) rfl <|
          OSuf.aop tyOK rfl (so_fieldAddr (by simp only [lk] <;> rfl) (fa_ok (k := 1) ty41 rfl rfl ty39 rfl rfl)) rfl <|
          OSuf.aop tyOK rfl (so_store (by simp only [lk] <;> rfl) (by simp only [lk] <;> rfl) (by simp (disch := first | assumption | omega | (simp only [nx] <;> omega) | fail) only [aStore, ty39, writeRow, hpl, hp, hg, w1, w2, Value.cells] <;> rfl)) rfl <|
          OSuf.nil <| SQ.normal ?_
      refine W.reg <| 
          OSuf.aop tyOK rfl (so_move (by simp only [lk] <;> rfl)) rfl <|
          OSuf.aop tyOK rfl (so_nilCheck (by simp only [lk] <;> rfl)) rfl <|
          OSuf.aop tyOK rfl (so_fieldAddr (by simp only [lk] <;> rfl) (fa_ok (k := 0) ty41 rfl rfl ty25 rfl rfl)) rfl <|
          OSuf.aop tyOK rfl (so_load (by simp only [lk] <;> rfl) (by simp (disch := first | assumption | omega | (simp only [nx] <;> omega) | fail) only [aLoad, ty25, rowOf, hpl, hp, hg, w1, w2, Value.cells] <;> rfl)) rfl <|
          OSuf.aop tyOK rfl (so_move (by simp only [lk] <;> rfl)) rfl <|
          OSuf.aop tyOK rfl (so_bin (by simp only [lk] <;> rfl) (by simp only [lk] <;> rfl) (bi_w bi_add rfl)) rfl <|
          OSuf.aop tyOK rfl (so_nilCheck (by simp only [lk] <;> rfl)) rfl <|
          OSuf.aop tyOK rfl (so_fieldAddr (by simp only [lk] <;> rfl) (fa_ok (k := 0) ty41 rfl rfl ty25 rfl rfl)) rfl <|
          OSuf.aop tyOK rfl (so_store (by simp only [lk] <;> rfl) (by simp only [lk] <;> rfl) (by simp (disch := first | assumption | omega | (simp only [nx] <;> omega) | fail) only [aStore, ty25, writeRow, hpl, hp, hg, w1, w2, Value.cells] <;> rfl)) rfl <|
          OSuf.nil <| FQ.normal (by simp only [aRet, Try.f14, aResults, aResult, lk] <;> rfl) ?_
      -- leaf: end
      refine ⟨⟨?_, _, by simp only [AHeap.get_set_same]; rfl, ?_⟩, ?_, fun q hq h3 h4 => ?_⟩
      · simp only [AHeap.next_set]; exact hpn
      · refine opsAt_mk (by simp) (by simpa using hpre) ?_ hpr ?_
        · simp only [AHeap.next_set]; exact hrn
        · simp (disch := first | assumption | omega | (simp only [nx] <;> omega) | fail) only [AHeap.get_set_ne]; exact hg
      · simp only [AHeap.next_set]; exact Nat.le_refl _
      · simp (disch := first | assumption | omega | (simp only [nx] <;> omega) | fail) only [AHeap.get_set_ne]
    · have hg' : h.get r = some (.cells (pre ++ (flats (S.ops.take n) ++ flats (S.ops.drop n))) 7) := by rw [hg, ← flats_append, List.take_append_drop]
      refine W.enter tyOK Try.func14 rfl rfl ?_
      simp only [entry]
      refine W.seq <| W.seq <| W.reg <| 
          OSuf.aop tyOK rfl (so_move (by simp only [lk] <;> rfl)) rfl <|
          OSuf.aopF tyOK rfl (so_bin (by simp only [lk] <;> rfl) (by simp only [lk] <;> rfl) (bi_nil ⟨_, _, ty23, rfl⟩)) (fun _ => rfl) rfl <|
          OSuf.nil <| SQ.normal ?_
      refine W.no (by simp only [lk] <;> rfl) <| CWp.skip <| SQ.normal ?_
      refine W.seq <| CWp.sqd tyOK mixed (ms := [0, 0, 2, 6, 14, 31, 0, 64, 255, 0, 512, 1536, 3584, 8191, 16383]) (by kernel_rfl) (
          .free rfl rfl (so_move (by simp only [lk] <;> rfl)) rfl <|
          .free rfl rfl (so_move (by simp only [lk] <;> rfl)) rfl <|
          .free rfl rfl (so_nilCheck (by simp only [lk] <;> rfl)) rfl <|
          .free rfl rfl (so_fieldAddr (by simp only [lk] <;> rfl) (fa_ok (k := 0) ty41 rfl rfl ty25 rfl rfl)) rfl <|
          .read rfl rfl (so_load (by simp only [lk] <;> rfl) (by simp (disch := first | assumption | omega | (simp only [nx] <;> omega) | fail) only [aLoad, ty25, rowOf, hpl, hp, hg', w1, w2, Value.cells] <;> rfl)) (by first | rfl | simp [veq, veq1, veqs]) trivial rfl <|
          .read rfl rfl (so_max (by simp only [aopnds, lk] <;> rfl)) (by first | rfl | simp [veq, veq1, veqs]) trivial rfl <|
          .free rfl rfl (so_move (by simp only [lk] <;> rfl)) rfl <|
          .call rfl rfl (fcallO (by simp only [aopnds, lk] <;> rfl) en9 (prefix_c _ p S _ hP0 hlen)) rfl ⟨.inr (so_max (by simp only [aopnds, lk] <;> rfl)), .inr (so_load (by simp only [lk] <;> rfl) (by simp (disch := first | assumption | omega | (simp only [nx] <;> omega) | fail) only [aLoad, ty25, rowOf, hpl, hp, hg', w1, w2, Value.cells] <;> rfl)), trivial⟩ rfl <|
          .read rfl rfl (so_min (by simp only [aopnds, lk] <;> rfl)) (by first | rfl | simp [veq, veq1, veqs]) ⟨.inl rfl, trivial⟩ rfl <|
          .free rfl rfl (so_move (by simp only [lk] <;> rfl)) rfl <|
          .free rfl rfl (so_nilCheck (by simp only [lk] <;> rfl)) rfl <|
          .free rfl rfl (so_fieldAddr (by simp only [lk] <;> rfl) (fa_ok (k := 0) ty41 rfl rfl ty25 rfl rfl)) rfl <|
          .read rfl rfl (so_load (by simp only [lk] <;> rfl) (by simp (disch := first | assumption | omega | (simp only [nx] <;> omega) | fail) only [aLoad, ty25, rowOf, hpl, hp, hg', w1, w2, Value.cells] <;> rfl)) (by first | rfl | simp [veq, veq1, veqs]) ⟨.inr (so_load (by simp only [lk] <;> rfl) (by simp (disch := first | assumption | omega | (simp only [nx] <;> omega) | fail) only [aLoad, ty25, rowOf, hpl, hp, hg', w1, w2, Value.cells] <;> rfl)), trivial⟩ rfl <|
          .free rfl rfl (so_bin (by simp only [lk] <;> rfl) (by simp only [lk] <;> rfl) (bi_w bi_sub rfl)) rfl <|
          .free rfl rfl (so_assign (by simp only [lk] <;> rfl)) rfl <|
          .nil) <| SQ.normal ?_
      refine W.seq <| W.reg <| 
          OSuf.aop tyOK rfl (so_move (by simp only [lk] <;> rfl)) rfl <|
          OSuf.aop tyOK rfl (so_nilCheck (by simp only [lk] <;> rfl)) rfl <|
          OSuf.aop tyOK rfl (so_fieldAddr (by simp only [lk] <;> rfl) (fa_ok (k := 1) ty41 rfl rfl ty39 rfl rfl)) rfl <|
          OSuf.aop tyOK rfl (so_load (by simp only [lk] <;> rfl) (by simp (disch := first | assumption | omega | (simp only [nx] <;> omega) | fail) only [aLoad, ty39, rowOf, hpl, hp, hg', w1, w2, Value.cells] <;> rfl)) rfl <|
          OSuf.aop tyOK rfl (so_move (by simp only [lk] <;> rfl)) rfl <|
          OSuf.aop tyOK rfl (so_slice (by simp only [lk] <;> rfl) (by simp only [oopnd, lk] <;> rfl) (by simp only [oopnd, lk] <;> rfl) (by simp only [oopnd, lk] <;> rfl) (sl_u ty39 rfl ty43 (by simp only [w1]; exact bounds_hi hnl) (by simp (disch := first | assumption | omega | (simp only [nx] <;> omega) | fail) only [aCells, rowOf, hpl, hp, hg', w1, w2, Value.cells] <;> rfl))) rfl <|
          OSuf.aop tyOK rfl (so_clear (by simp only [aopnds, lk] <;> rfl) (cl_u rfl ty39 rfl ty43 rfl rfl rfl (by simp (disch := first | assumption | omega | (simp only [nx] <;> omega) | fail) only [aCells, rowOf, hpl, hp, hg', w1, w2, Value.cells] <;> rfl) (by omega) (by rw [flats_length, List.length_take]; simp [Value.cells]; omega) (by omega))) rfl <|
          OSuf.nil <| SQ.normal ?_
      refine W.seq <| W.reg <| 
          OSuf.aop tyOK rfl (so_move (by simp only [lk] <;> rfl)) rfl <|
          OSuf.aop tyOK rfl (so_move (by simp only [lk] <;> rfl)) rfl <|
          OSuf.aop tyOK rfl (so_nilCheck (by simp only [lk] <;> rfl)) rfl <|
          OSuf.aop tyOK rfl (so_fieldAddr (by simp only [lk] <;> rfl) (fa_ok (k := 1) ty41 rfl rfl ty39 rfl rfl)) rfl <|
          OSuf.aop tyOK rfl (so_load (by simp only [lk] <;> rfl) (by simp (disch := first | assumption | omega | (simp only [nx] <;> omega) | fail) only [aLoad, ty39, rowOf, hpl, hp, hg', w1, w2, Value.cells] <;> rfl)) rfl <|
          OSuf.aop tyOK rfl (so_move (by simp only [lk] <;> rfl)) rfl <|
          OSuf.aop tyOK rfl (so_slice (by simp only [lk] <;> rfl) (by simp only [oopnd, lk] <;> rfl) (by simp only [oopnd, lk] <;> rfl) (by simp only [oopnd, lk] <;> rfl) (sl_u ty39 rfl ty43 (by simp only [w1]; exact bounds_lo hnl) (by simp (disch := first | assumption | omega | (simp only [nx] <;> omega) | fail) only [aCells, rowOf, hpl, hp, hg', w1, w2, Value.cells] <;> rfl))) rfl <|
          OSuf.aop tyOK rfl (so_nilCheck (by simp only [lk] <;> rfl)) rfl <|
          OSuf.aop tyOK rfl (so_fieldAddr (by simp only [lk] <;> rfl) (fa_ok (k := 1) ty41 rfl rfl ty39 rfl rfl)) rfl <|
          OSuf.aop tyOK rfl (so_store (by simp only [lk] <;> rfl) (by simp only [lk] <;> rfl) (by simp (disch := first | assumption | omega | (simp only [nx] <;> omega) | fail) only [aStore, ty39, writeRow, hpl, hp, hg', w1, w2, Value.cells] <;> rfl)) rfl <|
          OSuf.nil <| SQ.normal ?_
      refine W.reg <| 
          OSuf.aop tyOK rfl (so_move (by simp only [lk] <;> rfl)) rfl <|
          OSuf.aop tyOK rfl (so_nilCheck (by simp only [lk] <;> rfl)) rfl <|
          OSuf.aop tyOK rfl (so_fieldAddr (by simp only [lk] <;> rfl) (fa_ok (k := 0) ty41 rfl rfl ty25 rfl rfl)) rfl <|
          OSuf.aop tyOK rfl (so_load (by simp only [lk] <;> rfl) (by simp (disch := first | assumption | omega | (simp only [nx] <;> omega) | fail) only [aLoad, ty25, rowOf, hpl, hp, hg', w1, w2, Value.cells] <;> rfl)) rfl <|
          OSuf.aop tyOK rfl (so_move (by simp only [lk] <;> rfl)) rfl <|
          OSuf.aop tyOK rfl (so_bin (by simp only [lk] <;> rfl) (by simp only [lk] <;> rfl) (bi_w bi_add rfl)) rfl <|
          OSuf.aop tyOK rfl (so_nilCheck (by simp only [lk] <;> rfl)) rfl <|
          OSuf.aop tyOK rfl (so_fieldAddr (by simp only [lk] <;> rfl) (fa_ok (k := 0) ty41 rfl rfl ty25 rfl rfl)) rfl <|
          OSuf.aop tyOK rfl (so_store (by simp only [lk] <;> rfl) (by simp only [lk] <;> rfl) (by simp (disch := first | assumption | omega | (simp only [nx] <;> omega) | fail) only [aStore, ty25, writeRow, hpl, hp, hg', w1, w2, Value.cells] <;> rfl)) rfl <|
          OSuf.nil <| FQ.normal (by simp only [aRet, Try.f14, aResults, aResult, lk] <;> rfl) ?_
      -- leaf: end
      refine ⟨⟨?_, _, by simp only [AHeap.get_set_same]; rfl, ?_⟩, ?_, fun q hq h3 h4 => ?_⟩
      · simp only [AHeap.next_set]; exact hpn
      · refine opsAt_mk (pre := pre ++ zeros [.string ⟨#[]⟩, U64 0, .bool false, .string ⟨#[]⟩, .bool false, .bool false, U64 0] (n - 0)) (by simp) ?_ ?_ hpr ?_
        · rw [List.length_append, zeros_length, hpre]; simp [Value.cells]
        · simp only [AHeap.next_set]; exact hrn
        · simp (disch := first | assumption | omega | (simp only [nx] <;> omega) | fail) only [AHeap.get_set_ne, AHeap.get_set_same, List.append_assoc]
      · simp only [AHeap.next_set]; exact Nat.le_refl _
      · have h5 : ¬ r = q := fun e => h4 (by rw [e])
        simp (disch := first | assumption | omega | (simp only [nx] <;> omega) | fail) only [AHeap.get_set_ne]

theorem add_bad (h : AHeap) (p : Nat) (S : PS) (R : Option Nat) (hP : PA h p S R) (key val : ByteArray) (del : Bool) (lsn : Int) (hb : 0 ≤ S.base) (hb2 : S.base + S.ops.length + 1 < 18446744073709551616) (hlen : S.ops.length ≤ 1000000000) (hl : ¬ lsn = S.base + S.ops.length + 1) :
    FWp Try.prog 7 [P0 p, .agg #[.string key, U64 lsn, .bool del, .string val]] h fun u h' => u = I64 2 ∧ h' = h := by
  obtain ⟨hpn, s, hp, hs⟩ := hP
  obtain ⟨b, c, rfl⟩ := ops_slice hs
  have w1 : IntKind.u64.wrap (S.ops.length : Int) = S.ops.length := wrap_u64 (by omega) (by omega)
  have w2 : IntKind.u64.wrap (S.base + S.ops.length) = S.base + S.ops.length := wrap_u64 (by omega) (by omega)
  have w3 : IntKind.u64.wrap (S.base + S.ops.length + 1) = S.base + S.ops.length + 1 := wrap_u64 (by omega) (by omega)
  refine FWp.gcs (.flat rfl) (W.enter tyOK Try.func7 rfl rfl ?_)
  simp only [entry]
  refine W.seq <| W.reg <| 
      OSuf.aop tyOK rfl (so_box (by simp only [lk] <;> rfl)) rfl <|
      OSuf.aop tyOK rfl (so_assign (by simp only [lk] <;> rfl)) rfl <|
      OSuf.nil <| SQ.normal ?_
  refine W.seq <| W.block <| W.seq <| W.reg <| 
      OSuf.aop tyOK rfl (so_move (by simp only [lk] <;> rfl)) rfl <|
      OSuf.aopF tyOK rfl (so_bin (by simp only [lk] <;> rfl) (by simp only [lk] <;> rfl) (bi_nil ⟨_, _, ty23, rfl⟩)) (fun _ => rfl) rfl <|
      OSuf.aopF tyOK rfl (so_assign (by simp only [lk] <;> rfl)) (fun _ => rfl) rfl <|
      OSuf.nil <| SQ.normal ?_
  refine W.no (by simp only [lk] <;> rfl) <| W.seq <| W.regD tyOK mixed (by kernel_rfl) <| 
      SqW.aop rfl (so_fieldAddr (by simp only [lk] <;> rfl) (fa_ok (k := 1) ty29 rfl rfl ty25 rfl rfl)) rfl <|
      SqW.aop rfl (so_load (by simp only [lk] <;> rfl) (by simp (disch := first | assumption | omega | (simp only [nx] <;> omega) | fail) only [aLoad, ty25, rowOf, hpl, hp, Value.cells] <;> rfl)) rfl <|
      SqW.aop rfl (so_move (by simp only [lk] <;> rfl)) rfl <|
      SqW.aop rfl (so_nilCheck (by simp only [lk] <;> rfl)) rfl <|
      SqW.aop rfl (so_fieldAddr (by simp only [lk] <;> rfl) (fa_ok (k := 0) ty41 rfl rfl ty25 rfl rfl)) rfl <|
      SqW.aop rfl (so_load (by simp only [lk] <;> rfl) (by simp (disch := first | assumption | omega | (simp only [nx] <;> omega) | fail) only [aLoad, ty25, rowOf, hpl, hp, Value.cells] <;> rfl)) rfl <|
      SqW.aop rfl (so_move (by simp only [lk] <;> rfl)) rfl <|
      SqW.aop rfl (so_nilCheck (by simp only [lk] <;> rfl)) rfl <|
      SqW.aop rfl (so_fieldAddr (by simp only [lk] <;> rfl) (fa_ok (k := 1) ty41 rfl rfl ty39 rfl rfl)) rfl <|
      SqW.aop rfl (so_load (by simp only [lk] <;> rfl) (by simp (disch := first | assumption | omega | (simp only [nx] <;> omega) | fail) only [aLoad, ty39, rowOf, hpl, hp, Value.cells] <;> rfl)) rfl <|
      SqW.aop rfl (so_len (by simp only [aopnds, lk] <;> rfl) (by simp (disch := first | assumption | omega | (simp only [nx] <;> omega) | fail) only [aLenOf, ty39, hpl, hp, Value.cells] <;> rfl)) rfl <|
      SqW.aop rfl (so_conw (so_conv tyOK (by simp only [lk] <;> rfl) ty3 ⟨_, rfl⟩ ty25 rfl) rfl) rfl <|
      SqW.aop rfl (so_bin (by simp only [lk] <;> rfl) (by simp only [lk] <;> rfl) (bi_w bi_add rfl)) rfl <|
      SqW.aop rfl (so_bin (by simp only [lk] <;> rfl) (by simp only [lk] <;> rfl) (bi_w bi_add rfl)) rfl <|
      SqW.aopT rfl (so_bin (by simp only [lk] <;> rfl) (by simp only [lk] <;> rfl) bi_neq) (fun _ => rfl) (by simp only [w1, w2, w3, bne_iff_ne, ne_eq]; exact hl) <|
      SqW.aopT rfl (so_assign (by simp only [lk] <;> rfl)) (fun _ => rfl) rfl <|
      SqW.nil <| SQ.normal ?_
  refine W.yes (by simp only [lk] <;> rfl) <| W.seq <| W.reg <| 
      OSuf.aop tyOK rfl (so_assign (by simp only [lk] <;> rfl)) rfl <|
      OSuf.nil <| SQ.normal ?_
  refine CWp.ret <| BQ.ret <| SQ.ret <| FQ.ret (by simp only [aRet, Try.f7, aResults, aResult, lk] <;> rfl) ?_
  -- leaf: end
  refine ⟨rfl, fun r o hr ho => ?_⟩
  rw [AHeap.get_new_ne (by omega)]; exact ho
end Go.Proofs.Ythjeoohlknajpaa
