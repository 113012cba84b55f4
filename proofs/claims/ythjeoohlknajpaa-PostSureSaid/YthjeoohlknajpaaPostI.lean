/-
  Contracts of the package post: Due.
-/
import Derived.Test.YthjeoohlknajpaaPostH
namespace Go.Proofs.Ythjeoohlknajpaa
open Go.Ab
set_option linter.unusedSimpArgs false
set_option linter.unusedVariables false
set_option maxRecDepth 10000
set_option maxHeartbeats 4000000

theorem due_some (h : AHeap) (p r off : Nat) (pre : List Value) (S : PS) (now : Int) (hpn : p < h.next) (hrn : r < h.next) (hpr : ¬ p = r) (hpre : pre.length = off) (hlen : S.ops.length ≤ 1000000)
    (hp : h.get p = some (.cells [U64 S.base, .slice (some ⟨r, off, none⟩) S.ops.length 0, I64 S.waits] 1)) (hg : h.get r = some (.cells (pre ++ flats S.ops) 7))
    (hn0 : 0 ≤ now) (hn1 : now < 1000000000) (hat : ∀ o ∈ S.ops, 0 ≤ o.at_ ∧ o.at_ ≤ now) :
    FWp Try.prog 8 [P0 p, U64 now] h fun u h' => h'.get p = some (.cells [U64 S.base, .slice (some ⟨r, off, none⟩) S.ops.length 0, I64 S.waits] 1) ∧ h'.get r = some (.cells (pre ++ flats (sn now 8 S.ops)) 7) ∧ h.next ≤ h'.next ∧ (∀ z, z < h.next → ¬ z = r → h'.get z = h.get z) ∧ RecsAt h' h.next (dl now 8 S.ops) u := by
  refine W.enter tyOK Try.func8 rfl rfl ?_
  simp only [entry]
  refine W.seq <| W.reg <| 
      OSuf.aop tyOK rfl (so_box (by simp only [lk] <;> rfl)) rfl <|
      OSuf.aop tyOK rfl (so_assign (by simp only [lk] <;> rfl)) rfl <|
      OSuf.nil <| SQ.normal ?_
  refine W.seq <| W.reg <| 
      OSuf.aop tyOK rfl (so_alloc (by simp only [aAlloc, ty30] <;> rfl)) rfl <|
      OSuf.nil <| SQ.normal ?_
  refine W.seq <| W.seq <| W.reg <| 
      OSuf.aop tyOK rfl (so_move (by simp only [lk] <;> rfl)) rfl <|
      OSuf.aopF tyOK rfl (so_bin (by simp only [lk] <;> rfl) (by simp only [lk] <;> rfl) (bi_nil ⟨_, _, ty23, rfl⟩)) (fun _ => rfl) rfl <|
      OSuf.nil <| SQ.normal ?_
  refine W.no (by simp only [lk] <;> rfl) <| CWp.skip <| SQ.normal ?_
  refine W.seq <| W.seq <| W.reg <| 
      OSuf.aop tyOK rfl (so_move (by simp only [lk] <;> rfl)) rfl <|
      OSuf.callD rfl (by simp only [aopnds, lk] <;> rfl) en15 (first_c _ p) rfl <|
      OSuf.nil <| SQ.normal ?_
  -- leaf: loop
  refine W.block (CWp.rangeFunc (by simp only [aopnd, Tr.get_put, Nat.reduceEqDiff, reduceIte] <;> rfl) (fun l hl => by cases hl) (VWp.func en16 ?_))
  show FWp _ _ [_, _] _ _
  generalize hLP : (ALoop.mk _ _ _ _ _ _ _ _) = LP
  have yield : ∀ (g : AHeap) (cur rs : List Op) (i : Nat) (o : Op), DSt h p S.base S.waits (.slice (some ⟨r, off, none⟩) S.ops.length 0) r pre now LP cur rs g → cur.length ≤ 1000000 → rs.length ≤ 1000000 → cur[i]? = some o → 0 ≤ o.at_ ∧ o.at_ ≤ now →
      VWp Try.prog (.func (.yield (h.next + 3)) #[] #[]) [.pointer (some ⟨r, off + i * 7, none⟩)] g fun u g' => u = .bool true ∧ DSt h p S.base S.waits (.slice (some ⟨r, off, none⟩) S.ops.length 0) r pre now LP (cur.set i (stamp now o)) (rs ++ bif dueb now o then [o] else []) g' := by
    intro g cur rs i o hK hcl hrl ho hoat
    obtain ⟨k1, k2, ⟨ov, k3, k3'⟩, k4, k5, k6, k7, k8⟩ := hK
    have hl := k5
    rw [← hLP] at hl
    have hil : i < cur.length := (List.getElem?_eq_some_iff.1 ho).1
    have r5 : (pre ++ flats cur)[off + i * 7 + 5]? = some (.bool o.sent) := row_get ho hpre (by omega)
    have r6 : (pre ++ flats cur)[off + i * 7 + 6]? = some (U64 o.at_) := row_get ho hpre (by omega)
    have w1 : IntKind.u64.wrap (now - o.at_) = now - o.at_ := wrap_u64 (by omega) (by omega)
    refine VWp.yield hl rfl ?_
    refine W.reg <| 
        OSuf.aop tyOK rfl (so_assign (by simp only [lk] <;> rfl)) rfl <|
        OSuf.nil <| ?_
    -- leaf: stop
    refine ⟨rfl, _, hl, rfl, ?_⟩
    have s1 : splice (pre ++ flats cur) (off + i * 7 + 5) [.bool true] = pre ++ flats (cur.set i { o with sent := true }) := row_set ho hpre (by omega) rfl
    have b1 : Nat.ble (off + i * 7 + 5 + 1) (pre ++ flats cur).length = true := row_ble hpre hil (by omega)
    have ho1 : (cur.set i { o with sent := true })[i]? = some { o with sent := true } := by simp [hil]
    have s2 : splice (pre ++ flats (cur.set i { o with sent := true })) (off + i * 7 + 6) [U64 now] = pre ++ flats (cur.set i { o with sent := true, at_ := now }) := by
      rw [row_set (o' := { o with sent := true, at_ := now }) ho1 hpre (by omega) rfl, List.set_set]
    have b2 : Nat.ble (off + i * 7 + 6 + 1) (pre ++ flats (cur.set i { o with sent := true })).length = true := row_ble hpre (by simpa using hil) (by omega)
    have rc : cellsOf (pre ++ flats (cur.set i { o with sent := true, at_ := now })) (off + i * 7 + 0) 4 = some [.string o.key, U64 o.lsn, .bool o.del, .string o.val] := row_rec (o := { o with sent := true, at_ := now }) (by simp [hil]) hpre
    have st1 : dueb now o = true → stamp now o = { o with sent := true, at_ := now } ∧ (bif dueb now o then [o] else []) = [o] := fun e => by simp [stamp, e]
    have st0 : dueb now o = false → stamp now o = o ∧ (bif dueb now o then [o] else []) = [] := fun e => by simp [stamp, e]
    have hrz : ¬ r = h.next ∧ ¬ r = h.next + 1 ∧ ¬ r = h.next + 3 ∧ ¬ p = h.next ∧ ¬ p = h.next + 1 ∧ ¬ p = h.next + 3 := by omega
    obtain ⟨z1, z2, z3, z4, z5, z6⟩ := hrz
    have hpr' : ¬ r = p := fun e => hpr e.symm
    cases hs : o.sent
    · obtain ⟨st1a, st1b⟩ := st1 (by simp [dueb, hs])
      rw [st1a, st1b]
      cases k3' with
      | none e =>
        refine W.block <| W.seq <| W.regD tyOK mixed (by kernel_rfl) <| 
            SqW.aop rfl (so_move (by simp only [lk] <;> rfl)) rfl <|
            SqW.aop rfl (so_nilCheck (by simp only [lk] <;> rfl)) rfl <|
            SqW.aop rfl (so_fieldAddr (by simp only [lk] <;> rfl) (fa_ok (k := 5) ty43 rfl rfl ty4 rfl rfl)) rfl <|
            SqW.aopF rfl (so_load (by simp only [lk] <;> rfl) (by simp (disch := first | assumption | omega | (simp only [nx] <;> omega) | fail) only [aLoad, ty4, rowOf, hpl, k2, k3, k7, r5, r6, s1, b1, s2, b2, rc, Value.cells, List.length_cons, List.length_nil, Nat.zero_add, oneCells, List.all_cons, List.all_nil, Value.oneCell', Bool.and_self, cond_true] <;> rfl)) (fun _ => rfl) (hs) <|
            SqW.aopT rfl (so_not (by simp only [lk] <;> rfl)) (fun _ => rfl) rfl <|
            SqW.aopT rfl (so_move (by simp only [lk] <;> rfl)) (fun _ => rfl) rfl <|
            SqW.pass (aguard_of rfl rfl (by simp only [lk] <;> rfl) rfl) rfl <|
            SqW.pass (aguard_of rfl rfl (by simp only [lk] <;> rfl) rfl) rfl <|
            SqW.pass (aguard_of rfl rfl (by simp only [lk] <;> rfl) rfl) rfl <|
            SqW.pass (aguard_of rfl rfl (by simp only [lk] <;> rfl) rfl) rfl <|
            SqW.pass (aguard_of rfl rfl (by simp only [lk] <;> rfl) rfl) rfl <|
            SqW.pass (aguard_of rfl rfl (by simp only [lk] <;> rfl) rfl) rfl <|
            SqW.pass (aguard_of rfl rfl (by simp only [lk] <;> rfl) rfl) rfl <|
            SqW.pass (aguard_un rfl rfl (by simp only [lk] <;> rfl)) rfl <|
            SqW.pass (aguard_un rfl rfl (by simp only [lk] <;> rfl)) rfl <|
            SqW.pass (aguard_un rfl rfl (by simp only [lk] <;> rfl)) rfl <|
            SqW.pass (aguard_un rfl rfl (by simp only [lk] <;> rfl)) rfl <|
            SqW.pass (aguard_un rfl rfl (by simp only [lk] <;> rfl)) rfl <|
            SqW.pass (aguard_un rfl rfl (by simp only [lk] <;> rfl)) rfl <|
            SqW.pass (aguard_un rfl rfl (by simp only [lk] <;> rfl)) rfl <|
            SqW.pass (aguard_of rfl rfl (by simp only [lk] <;> rfl) rfl) rfl <|
            SqW.aopT rfl (so_pick (by simp only [lk] <;> rfl) (by simp only [lk, cond_true, cond_false] <;> rfl)) (fun _ => rfl) rfl <|
            SqW.nil <| SQ.normal ?_
        refine W.yes (by simp only [lk] <;> rfl) <| W.seq <| CWp.sqd tyOK mixed (ms := [0, 0, 0, 1, 9, 25, 63, 127, 255]) (by kernel_rfl) (
            .free rfl rfl (so_move (by simp only [lk] <;> rfl)) rfl <|
            .free rfl rfl (so_move (by simp only [lk] <;> rfl)) rfl <|
            .read rfl rfl (so_load (by simp only [lk] <;> rfl) (by simp (disch := first | assumption | omega | (simp only [nx] <;> omega) | fail) only [aLoad, ty25, rowOf, hpl, k2, k3, k7, r5, r6, s1, b1, s2, b2, rc, Value.cells, List.length_cons, List.length_nil, Nat.zero_add, oneCells, List.all_cons, List.all_nil, Value.oneCell', Bool.and_self, cond_true] <;> rfl)) (by first | rfl | (simp [veq, veq1, veqs]; done) | (simp [veq, veq1, veqs, splice]; done)) trivial rfl <|
            .free rfl rfl (so_nilCheck (by simp only [lk] <;> rfl)) rfl <|
            .free rfl rfl (so_fieldAddr (by simp only [lk] <;> rfl) (fa_ok (k := 5) ty43 rfl rfl ty4 rfl rfl)) rfl <|
            .change rfl rfl (so_store (by simp only [lk] <;> rfl) (by simp only [lk] <;> rfl) (by simp (disch := first | assumption | omega | (simp only [nx] <;> omega) | fail) only [aStore, ty4, writeRow, hpl, k2, k3, k7, r5, r6, s1, b1, s2, b2, rc, Value.cells, List.length_cons, List.length_nil, Nat.zero_add, oneCells, List.all_cons, List.all_nil, Value.oneCell', Bool.and_self, cond_true] <;> rfl)) rfl ⟨.inr (so_load (by simp only [lk] <;> rfl) (by simp (disch := first | assumption | omega | (simp only [nx] <;> omega) | fail) only [aLoad, ty25, rowOf, hpl, k2, k3, k7, r5, r6, s1, b1, s2, b2, rc, Value.cells, List.length_cons, List.length_nil, Nat.zero_add, oneCells, List.all_cons, List.all_nil, Value.oneCell', Bool.and_self, cond_true] <;> rfl)), trivial⟩ rfl <|
            .free rfl rfl (so_nilCheck (by simp only [lk] <;> rfl)) rfl <|
            .free rfl rfl (so_fieldAddr (by simp only [lk] <;> rfl) (fa_ok (k := 6) ty43 rfl rfl ty25 rfl rfl)) rfl <|
            .change rfl rfl (so_store (by simp only [lk] <;> rfl) (by simp only [lk] <;> rfl) (by simp (disch := first | assumption | omega | (simp only [nx] <;> omega) | fail) only [aStore, ty25, writeRow, hpl, k2, k3, k7, r5, r6, s1, b1, s2, b2, rc, Value.cells, List.length_cons, List.length_nil, Nat.zero_add, oneCells, List.all_cons, List.all_nil, Value.oneCell', Bool.and_self, cond_true] <;> rfl)) rfl ⟨.inl rfl, trivial⟩ rfl <|
            .nil) <| SQ.normal ?_
        refine CWp.sqd tyOK mixed (ms := [0, 0, 2, 6, 14, 30, 63, 127]) (by kernel_rfl) (
            .read rfl rfl (so_load (by simp only [lk] <;> rfl) (by simp (disch := first | assumption | omega | (simp only [nx] <;> omega) | fail) only [aLoad, ty30, rowOf, hpl, k2, k3, k7, r5, r6, s1, b1, s2, b2, rc, Value.cells, List.length_cons, List.length_nil, Nat.zero_add, oneCells, List.all_cons, List.all_nil, Value.oneCell', Bool.and_self, cond_true] <;> rfl)) (by first | rfl | (simp [veq, veq1, veqs]; done) | (simp [veq, veq1, veqs, splice]; done)) trivial rfl <|
            .free rfl rfl (so_move (by simp only [lk] <;> rfl)) rfl <|
            .free rfl rfl (so_nilCheck (by simp only [lk] <;> rfl)) rfl <|
            .free rfl rfl (so_fieldAddr (by simp only [lk] <;> rfl) (fa_ok (k := 0) ty43 rfl rfl ty29 rfl rfl)) rfl <|
            .read rfl rfl (so_load (by simp only [lk] <;> rfl) (by simp (disch := first | assumption | omega | (simp only [nx] <;> omega) | fail) only [aLoad, ty29, rowOf, hpl, k2, k3, k7, r5, r6, s1, b1, s2, b2, rc, Value.cells, List.length_cons, List.length_nil, Nat.zero_add, oneCells, List.all_cons, List.all_nil, Value.oneCell', Bool.and_self, cond_true] <;> rfl)) (by first | rfl | (simp [veq, veq1, veqs]; done) | (simp [veq, veq1, veqs, splice]; done)) trivial rfl <|
            .change rfl rfl (so_buildSlice (by simp only [aparts, lk] <;> rfl) (by simp (disch := first | assumption | omega | (simp only [nx] <;> omega) | fail) only [aBuildSlice, ty30, ty29, hpl, k2, k3, k7, r5, r6, s1, b1, s2, b2, rc, Value.cells, List.length_cons, List.length_nil, Nat.zero_add, oneCells, List.all_cons, List.all_nil, Value.oneCell', Bool.and_self, cond_true] <;> rfl)) rfl ⟨.inl rfl, .inr (so_load (by simp only [lk] <;> rfl) (by simp (disch := first | assumption | omega | (simp only [nx] <;> omega) | fail) only [aLoad, ty30, rowOf, hpl, k2, k3, k7, r5, r6, s1, b1, s2, b2, rc, Value.cells, List.length_cons, List.length_nil, Nat.zero_add, oneCells, List.all_cons, List.all_nil, Value.oneCell', Bool.and_self, cond_true] <;> rfl)), trivial⟩ rfl <|
            .change rfl rfl (so_append (by simp only [aopnds, lk] <;> rfl) (ap_0 (by simp only [appT, ty30, ty29] <;> rfl) rfl (by simp (disch := first | assumption | omega | (simp only [nx] <;> omega) | fail) only [aCells, rowOf, hpl, k2, k3, k7, r5, r6, s1, b1, s2, b2, rc, Value.cells, List.length_cons, List.length_nil, Nat.zero_add, oneCells, List.all_cons, List.all_nil, Value.oneCell', Bool.and_self, cond_true] <;> rfl) (by decide) rfl)) rfl ⟨.inl rfl, .inl rfl, trivial⟩ rfl <|
            .change rfl rfl (so_store (by simp only [lk] <;> rfl) (by simp only [lk] <;> rfl) (by simp (disch := first | assumption | omega | (simp only [nx] <;> omega) | fail) only [aStore, ty30, writeRow, hpl, k2, k3, k7, r5, r6, s1, b1, s2, b2, rc, Value.cells, List.length_cons, List.length_nil, Nat.zero_add, oneCells, List.all_cons, List.all_nil, Value.oneCell', Bool.and_self, cond_true] <;> rfl)) rfl ⟨.inl rfl, .inl rfl, trivial⟩ rfl <|
            .nil) <| BQ.normal <| ?_
        -- leaf: stop
        refine ⟨_, by (simp (disch := first | assumption | omega | (simp only [nx] <;> omega) | fail) only [hpl]; rfl), rfl, ?_, ?_, ⟨.slice (some ⟨g.next + 1, 0, none⟩) 1 0, ?_, .some (x := g.next + 1) (by simp) ?_ ?_ ?_ ?_⟩, ?_, ?_, ?_, ?_, ?_⟩
        · simp only [nx]; omega
        · simp (disch := first | assumption | omega | (simp only [nx] <;> omega) | fail) only [hpl]; exact k2
        · simp (disch := first | assumption | omega | (simp only [nx] <;> omega) | fail) only [hpl]; rfl
        · simp [e]
        · omega
        · simp only [nx]; omega
        · simp (disch := first | assumption | omega | (simp only [nx] <;> omega) | fail) only [hpl]; simp [e, flatsR]; rfl
        · simp (disch := first | assumption | omega | (simp only [nx] <;> omega) | fail) only [hpl]; exact k4
        · rw [AHeap.get_set_same, ← hLP]; rfl
        · simp (disch := first | assumption | omega | (simp only [nx] <;> omega) | fail) only [hpl]; exact k6
        · simp (disch := first | assumption | omega | (simp only [nx] <;> omega) | fail) only [hpl]
        · intro z hz hz2
          have hz2' : ¬ r = z := fun e => hz2 e.symm
          simp (disch := first | assumption | omega | (simp only [nx] <;> omega) | fail) only [hpl]; exact k8 z hz hz2
      | @some x1 n1 ne e e1 e2 e3 =>
        have hc : cellsOf (flatsR rs) 0 (n1 * 4) = some (flatsR rs) := cellsOf_all (by rw [e, flatsR_length])
        have hn1 : n1 ≤ 1000000 := by omega
        refine W.block <| W.seq <| W.regD tyOK mixed (by kernel_rfl) <| 
            SqW.aop rfl (so_move (by simp only [lk] <;> rfl)) rfl <|
            SqW.aop rfl (so_nilCheck (by simp only [lk] <;> rfl)) rfl <|
            SqW.aop rfl (so_fieldAddr (by simp only [lk] <;> rfl) (fa_ok (k := 5) ty43 rfl rfl ty4 rfl rfl)) rfl <|
            SqW.aopF rfl (so_load (by simp only [lk] <;> rfl) (by simp (disch := first | assumption | omega | (simp only [nx] <;> omega) | fail) only [aLoad, ty4, rowOf, hpl, k2, k3, k7, r5, r6, s1, b1, s2, b2, rc, e3, Value.cells, List.length_cons, List.length_nil, Nat.zero_add, oneCells, List.all_cons, List.all_nil, Value.oneCell', Bool.and_self, cond_true] <;> rfl)) (fun _ => rfl) (hs) <|
            SqW.aopT rfl (so_not (by simp only [lk] <;> rfl)) (fun _ => rfl) rfl <|
            SqW.aopT rfl (so_move (by simp only [lk] <;> rfl)) (fun _ => rfl) rfl <|
            SqW.pass (aguard_of rfl rfl (by simp only [lk] <;> rfl) rfl) rfl <|
            SqW.pass (aguard_of rfl rfl (by simp only [lk] <;> rfl) rfl) rfl <|
            SqW.pass (aguard_of rfl rfl (by simp only [lk] <;> rfl) rfl) rfl <|
            SqW.pass (aguard_of rfl rfl (by simp only [lk] <;> rfl) rfl) rfl <|
            SqW.pass (aguard_of rfl rfl (by simp only [lk] <;> rfl) rfl) rfl <|
            SqW.pass (aguard_of rfl rfl (by simp only [lk] <;> rfl) rfl) rfl <|
            SqW.pass (aguard_of rfl rfl (by simp only [lk] <;> rfl) rfl) rfl <|
            SqW.pass (aguard_un rfl rfl (by simp only [lk] <;> rfl)) rfl <|
            SqW.pass (aguard_un rfl rfl (by simp only [lk] <;> rfl)) rfl <|
            SqW.pass (aguard_un rfl rfl (by simp only [lk] <;> rfl)) rfl <|
            SqW.pass (aguard_un rfl rfl (by simp only [lk] <;> rfl)) rfl <|
            SqW.pass (aguard_un rfl rfl (by simp only [lk] <;> rfl)) rfl <|
            SqW.pass (aguard_un rfl rfl (by simp only [lk] <;> rfl)) rfl <|
            SqW.pass (aguard_un rfl rfl (by simp only [lk] <;> rfl)) rfl <|
            SqW.pass (aguard_of rfl rfl (by simp only [lk] <;> rfl) rfl) rfl <|
            SqW.aopT rfl (so_pick (by simp only [lk] <;> rfl) (by simp only [lk, cond_true, cond_false] <;> rfl)) (fun _ => rfl) rfl <|
            SqW.nil <| SQ.normal ?_
        refine W.yes (by simp only [lk] <;> rfl) <| W.seq <| CWp.sqd tyOK mixed (ms := [0, 0, 0, 1, 9, 25, 63, 127, 255]) (by kernel_rfl) (
            .free rfl rfl (so_move (by simp only [lk] <;> rfl)) rfl <|
            .free rfl rfl (so_move (by simp only [lk] <;> rfl)) rfl <|
            .read rfl rfl (so_load (by simp only [lk] <;> rfl) (by simp (disch := first | assumption | omega | (simp only [nx] <;> omega) | fail) only [aLoad, ty25, rowOf, hpl, k2, k3, k7, r5, r6, s1, b1, s2, b2, rc, e3, Value.cells, List.length_cons, List.length_nil, Nat.zero_add, oneCells, List.all_cons, List.all_nil, Value.oneCell', Bool.and_self, cond_true] <;> rfl)) (by first | rfl | (simp [veq, veq1, veqs]; done) | (simp [veq, veq1, veqs, splice]; done)) trivial rfl <|
            .free rfl rfl (so_nilCheck (by simp only [lk] <;> rfl)) rfl <|
            .free rfl rfl (so_fieldAddr (by simp only [lk] <;> rfl) (fa_ok (k := 5) ty43 rfl rfl ty4 rfl rfl)) rfl <|
            .change rfl rfl (so_store (by simp only [lk] <;> rfl) (by simp only [lk] <;> rfl) (by simp (disch := first | assumption | omega | (simp only [nx] <;> omega) | fail) only [aStore, ty4, writeRow, hpl, k2, k3, k7, r5, r6, s1, b1, s2, b2, rc, e3, Value.cells, List.length_cons, List.length_nil, Nat.zero_add, oneCells, List.all_cons, List.all_nil, Value.oneCell', Bool.and_self, cond_true] <;> rfl)) rfl ⟨.inr (so_load (by simp only [lk] <;> rfl) (by simp (disch := first | assumption | omega | (simp only [nx] <;> omega) | fail) only [aLoad, ty25, rowOf, hpl, k2, k3, k7, r5, r6, s1, b1, s2, b2, rc, e3, Value.cells, List.length_cons, List.length_nil, Nat.zero_add, oneCells, List.all_cons, List.all_nil, Value.oneCell', Bool.and_self, cond_true] <;> rfl)), trivial⟩ rfl <|
            .free rfl rfl (so_nilCheck (by simp only [lk] <;> rfl)) rfl <|
            .free rfl rfl (so_fieldAddr (by simp only [lk] <;> rfl) (fa_ok (k := 6) ty43 rfl rfl ty25 rfl rfl)) rfl <|
            .change rfl rfl (so_store (by simp only [lk] <;> rfl) (by simp only [lk] <;> rfl) (by simp (disch := first | assumption | omega | (simp only [nx] <;> omega) | fail) only [aStore, ty25, writeRow, hpl, k2, k3, k7, r5, r6, s1, b1, s2, b2, rc, e3, Value.cells, List.length_cons, List.length_nil, Nat.zero_add, oneCells, List.all_cons, List.all_nil, Value.oneCell', Bool.and_self, cond_true] <;> rfl)) rfl ⟨.inl rfl, trivial⟩ rfl <|
            .nil) <| SQ.normal ?_
        refine CWp.sqd tyOK mixed (ms := [0, 0, 2, 6, 14, 30, 63, 127]) (by kernel_rfl) (
            .read rfl rfl (so_load (by simp only [lk] <;> rfl) (by simp (disch := first | assumption | omega | (simp only [nx] <;> omega) | fail) only [aLoad, ty30, rowOf, hpl, k2, k3, k7, r5, r6, s1, b1, s2, b2, rc, e3, Value.cells, List.length_cons, List.length_nil, Nat.zero_add, oneCells, List.all_cons, List.all_nil, Value.oneCell', Bool.and_self, cond_true] <;> rfl)) (by first | rfl | (simp [veq, veq1, veqs]; done) | (simp [veq, veq1, veqs, splice]; done)) trivial rfl <|
            .free rfl rfl (so_move (by simp only [lk] <;> rfl)) rfl <|
            .free rfl rfl (so_nilCheck (by simp only [lk] <;> rfl)) rfl <|
            .free rfl rfl (so_fieldAddr (by simp only [lk] <;> rfl) (fa_ok (k := 0) ty43 rfl rfl ty29 rfl rfl)) rfl <|
            .read rfl rfl (so_load (by simp only [lk] <;> rfl) (by simp (disch := first | assumption | omega | (simp only [nx] <;> omega) | fail) only [aLoad, ty29, rowOf, hpl, k2, k3, k7, r5, r6, s1, b1, s2, b2, rc, e3, Value.cells, List.length_cons, List.length_nil, Nat.zero_add, oneCells, List.all_cons, List.all_nil, Value.oneCell', Bool.and_self, cond_true] <;> rfl)) (by first | rfl | (simp [veq, veq1, veqs]; done) | (simp [veq, veq1, veqs, splice]; done)) trivial rfl <|
            .change rfl rfl (so_buildSlice (by simp only [aparts, lk] <;> rfl) (by simp (disch := first | assumption | omega | (simp only [nx] <;> omega) | fail) only [aBuildSlice, ty30, ty29, hpl, k2, k3, k7, r5, r6, s1, b1, s2, b2, rc, e3, Value.cells, List.length_cons, List.length_nil, Nat.zero_add, oneCells, List.all_cons, List.all_nil, Value.oneCell', Bool.and_self, cond_true] <;> rfl)) rfl ⟨.inl rfl, .inr (so_load (by simp only [lk] <;> rfl) (by simp (disch := first | assumption | omega | (simp only [nx] <;> omega) | fail) only [aLoad, ty30, rowOf, hpl, k2, k3, k7, r5, r6, s1, b1, s2, b2, rc, e3, Value.cells, List.length_cons, List.length_nil, Nat.zero_add, oneCells, List.all_cons, List.all_nil, Value.oneCell', Bool.and_self, cond_true] <;> rfl)), trivial⟩ rfl <|
            .change rfl rfl (so_append (by simp only [aopnds, lk] <;> rfl) (ap_u (by simp only [appT, ty30, ty29] <;> rfl) rfl (by simp (disch := first | assumption | omega | (simp only [nx] <;> omega) | fail) only [aCells, rowOf, hpl, k2, k3, k7, r5, r6, s1, b1, s2, b2, rc, e3, Value.cells, List.length_cons, List.length_nil, Nat.zero_add, oneCells, List.all_cons, List.all_nil, Value.oneCell', Bool.and_self, cond_true] <;> rfl) (by show (2 * (n1 + 1) + 256) * 48 ≤ _; omega) rfl (by simp (disch := first | assumption | omega | (simp only [nx] <;> omega) | fail) only [aCells, rowOf, hpl, k2, k3, k7, r5, r6, s1, b1, s2, b2, rc, e3, Value.cells, List.length_cons, List.length_nil, Nat.zero_add, oneCells, List.all_cons, List.all_nil, Value.oneCell', Bool.and_self, cond_true] <;> rfl) rfl hc)) rfl ⟨.inl rfl, .inl rfl, trivial⟩ rfl <|
            .change rfl rfl (so_store (by simp only [lk] <;> rfl) (by simp only [lk] <;> rfl) (by simp (disch := first | assumption | omega | (simp only [nx] <;> omega) | fail) only [aStore, ty30, writeRow, hpl, k2, k3, k7, r5, r6, s1, b1, s2, b2, rc, e3, Value.cells, List.length_cons, List.length_nil, Nat.zero_add, oneCells, List.all_cons, List.all_nil, Value.oneCell', Bool.and_self, cond_true] <;> rfl)) rfl ⟨.inl rfl, .inl rfl, trivial⟩ rfl <|
            .nil) <| BQ.normal <| ?_
        -- leaf: stop
        refine ⟨_, by (simp (disch := first | assumption | omega | (simp only [nx] <;> omega) | fail) only [hpl]; rfl), rfl, ?_, ?_, ⟨.slice (some ⟨g.next + 1, 0, none⟩) (n1 + 1) 0, ?_, .some (x := g.next + 1) (by simp) ?_ ?_ ?_ ?_⟩, ?_, ?_, ?_, ?_, ?_⟩
        · simp only [nx]; omega
        · simp (disch := first | assumption | omega | (simp only [nx] <;> omega) | fail) only [hpl]; exact k2
        · simp (disch := first | assumption | omega | (simp only [nx] <;> omega) | fail) only [hpl]; rfl
        · simp [e]
        · omega
        · simp only [nx]; omega
        · simp (disch := first | assumption | omega | (simp only [nx] <;> omega) | fail) only [hpl]; simp [flatsR_append, flatsR]; rfl
        · simp (disch := first | assumption | omega | (simp only [nx] <;> omega) | fail) only [hpl]; exact k4
        · rw [AHeap.get_set_same, ← hLP]; rfl
        · simp (disch := first | assumption | omega | (simp only [nx] <;> omega) | fail) only [hpl]; exact k6
        · simp (disch := first | assumption | omega | (simp only [nx] <;> omega) | fail) only [hpl]
        · intro z hz hz2
          have hz2' : ¬ r = z := fun e => hz2 e.symm
          simp (disch := first | assumption | omega | (simp only [nx] <;> omega) | fail) only [hpl]; exact k8 z hz hz2
    · by_cases h8 : 8 ≤ now - o.at_
      · obtain ⟨st1a, st1b⟩ := st1 (by simp [dueb, h8])
        rw [st1a, st1b]
        cases k3' with
        | none e =>
          refine W.block <| W.seq <| W.regD tyOK mixed (by kernel_rfl) <| 
              SqW.aop rfl (so_move (by simp only [lk] <;> rfl)) rfl <|
              SqW.aop rfl (so_nilCheck (by simp only [lk] <;> rfl)) rfl <|
              SqW.aop rfl (so_fieldAddr (by simp only [lk] <;> rfl) (fa_ok (k := 5) ty43 rfl rfl ty4 rfl rfl)) rfl <|
              SqW.aopT rfl (so_load (by simp only [lk] <;> rfl) (by simp (disch := first | assumption | omega | (simp only [nx] <;> omega) | fail) only [aLoad, ty4, rowOf, hpl, k2, k3, k7, r5, r6, s1, b1, s2, b2, rc, Value.cells, List.length_cons, List.length_nil, Nat.zero_add, oneCells, List.all_cons, List.all_nil, Value.oneCell', Bool.and_self, cond_true] <;> rfl)) (fun _ => rfl) (hs) <|
              SqW.aopF rfl (so_not (by simp only [lk] <;> rfl)) (fun _ => rfl) rfl <|
              SqW.aopF rfl (so_move (by simp only [lk] <;> rfl)) (fun _ => rfl) rfl <|
              SqW.aop (aguard_of rfl rfl (by simp only [lk] <;> rfl) rfl) (so_load (by simp only [lk] <;> rfl) (by simp (disch := first | assumption | omega | (simp only [nx] <;> omega) | fail) only [aLoad, ty25, rowOf, hpl, k2, k3, k7, r5, r6, s1, b1, s2, b2, rc, Value.cells, List.length_cons, List.length_nil, Nat.zero_add, oneCells, List.all_cons, List.all_nil, Value.oneCell', Bool.and_self, cond_true] <;> rfl)) rfl <|
              SqW.aop (aguard_of rfl rfl (by simp only [lk] <;> rfl) rfl) (so_move (by simp only [lk] <;> rfl)) rfl <|
              SqW.aop (aguard_of rfl rfl (by simp only [lk] <;> rfl) rfl) (so_nilCheck (by simp only [lk] <;> rfl)) rfl <|
              SqW.aop (aguard_of rfl rfl (by simp only [lk] <;> rfl) rfl) (so_fieldAddr (by simp only [lk] <;> rfl) (fa_ok (k := 6) ty43 rfl rfl ty25 rfl rfl)) rfl <|
              SqW.aop (aguard_of rfl rfl (by simp only [lk] <;> rfl) rfl) (so_load (by simp only [lk] <;> rfl) (by simp (disch := first | assumption | omega | (simp only [nx] <;> omega) | fail) only [aLoad, ty25, rowOf, hpl, k2, k3, k7, r5, r6, s1, b1, s2, b2, rc, Value.cells, List.length_cons, List.length_nil, Nat.zero_add, oneCells, List.all_cons, List.all_nil, Value.oneCell', Bool.and_self, cond_true] <;> rfl)) rfl <|
              SqW.aopT (aguard_of rfl rfl (by simp only [lk] <;> rfl) rfl) (so_bin (by simp only [lk] <;> rfl) (by simp only [lk] <;> rfl) bi_geq) (fun _ => rfl) (by first | rfl | assumption | ((simp only [bl, k2, k3, k7, r5, r6, s1, b1, s2, b2, rc, Value.cells, List.length_cons, List.length_nil, Nat.zero_add, oneCells, List.all_cons, List.all_nil, Value.oneCell', Bool.and_self, cond_true]) <;> first | done | assumption | omega) | (simp [k2, k3, k7, r5, r6, s1, b1, s2, b2, rc, Value.cells, List.length_cons, List.length_nil, Nat.zero_add, oneCells, List.all_cons, List.all_nil, Value.oneCell', Bool.and_self, cond_true]; done) | (simp [k2, k3, k7, r5, r6, s1, b1, s2, b2, rc, Value.cells, List.length_cons, List.length_nil, Nat.zero_add, oneCells, List.all_cons, List.all_nil, Value.oneCell', Bool.and_self, cond_true]; omega)) <|
              SqW.aopT (aguard_of rfl rfl (by simp only [lk] <;> rfl) rfl) (so_move (by simp only [lk] <;> rfl)) (fun _ => rfl) rfl <|
              SqW.aop (aguard_of rfl rfl (by simp only [lk] <;> rfl) rfl) (so_load (by simp only [lk] <;> rfl) (by simp (disch := first | assumption | omega | (simp only [nx] <;> omega) | fail) only [aLoad, ty25, rowOf, hpl, k2, k3, k7, r5, r6, s1, b1, s2, b2, rc, Value.cells, List.length_cons, List.length_nil, Nat.zero_add, oneCells, List.all_cons, List.all_nil, Value.oneCell', Bool.and_self, cond_true] <;> rfl)) rfl <|
              SqW.aop (aguard_of rfl rfl (by simp only [lk] <;> rfl) rfl) (so_move (by simp only [lk] <;> rfl)) rfl <|
              SqW.aop (aguard_of rfl rfl (by simp only [lk] <;> rfl) rfl) (so_nilCheck (by simp only [lk] <;> rfl)) rfl <|
              SqW.aop (aguard_of rfl rfl (by simp only [lk] <;> rfl) rfl) (so_fieldAddr (by simp only [lk] <;> rfl) (fa_ok (k := 6) ty43 rfl rfl ty25 rfl rfl)) rfl <|
              SqW.aop (aguard_of rfl rfl (by simp only [lk] <;> rfl) rfl) (so_load (by simp only [lk] <;> rfl) (by simp (disch := first | assumption | omega | (simp only [nx] <;> omega) | fail) only [aLoad, ty25, rowOf, hpl, k2, k3, k7, r5, r6, s1, b1, s2, b2, rc, Value.cells, List.length_cons, List.length_nil, Nat.zero_add, oneCells, List.all_cons, List.all_nil, Value.oneCell', Bool.and_self, cond_true] <;> rfl)) rfl <|
              SqW.aop (aguard_of rfl rfl (by simp only [lk] <;> rfl) rfl) (so_bin (by simp only [lk] <;> rfl) (by simp only [lk] <;> rfl) (bi_w bi_sub (by first | (simp only [w1] <;> rfl) | rfl))) rfl <|
              SqW.aopT (aguard_of rfl rfl (by simp only [lk] <;> rfl) rfl) (so_bin (by simp only [lk] <;> rfl) (by simp only [lk] <;> rfl) bi_geq) (fun _ => rfl) (decide_eq_true h8) <|
              SqW.aopT (aguard_of rfl rfl (by simp only [lk] <;> rfl) rfl) (so_pick (by simp only [lk] <;> rfl) (by simp only [lk, cond_true, cond_false] <;> rfl)) (fun _ => rfl) rfl <|
              SqW.aopT rfl (so_pick (by simp only [lk] <;> rfl) (by simp only [lk, cond_true, cond_false] <;> rfl)) (fun _ => rfl) rfl <|
              SqW.nil <| SQ.normal ?_
          refine W.yes (by simp only [lk] <;> rfl) <| W.seq <| CWp.sqd tyOK mixed (ms := [0, 0, 0, 1, 9, 25, 63, 127, 255]) (by kernel_rfl) (
              .free rfl rfl (so_move (by simp only [lk] <;> rfl)) rfl <|
              .free rfl rfl (so_move (by simp only [lk] <;> rfl)) rfl <|
              .read rfl rfl (so_load (by simp only [lk] <;> rfl) (by simp (disch := first | assumption | omega | (simp only [nx] <;> omega) | fail) only [aLoad, ty25, rowOf, hpl, k2, k3, k7, r5, r6, s1, b1, s2, b2, rc, Value.cells, List.length_cons, List.length_nil, Nat.zero_add, oneCells, List.all_cons, List.all_nil, Value.oneCell', Bool.and_self, cond_true] <;> rfl)) (by first | rfl | (simp [veq, veq1, veqs]; done) | (simp [veq, veq1, veqs, splice]; done)) trivial rfl <|
              .free rfl rfl (so_nilCheck (by simp only [lk] <;> rfl)) rfl <|
              .free rfl rfl (so_fieldAddr (by simp only [lk] <;> rfl) (fa_ok (k := 5) ty43 rfl rfl ty4 rfl rfl)) rfl <|
              .change rfl rfl (so_store (by simp only [lk] <;> rfl) (by simp only [lk] <;> rfl) (by simp (disch := first | assumption | omega | (simp only [nx] <;> omega) | fail) only [aStore, ty4, writeRow, hpl, k2, k3, k7, r5, r6, s1, b1, s2, b2, rc, Value.cells, List.length_cons, List.length_nil, Nat.zero_add, oneCells, List.all_cons, List.all_nil, Value.oneCell', Bool.and_self, cond_true] <;> rfl)) rfl ⟨.inr (so_load (by simp only [lk] <;> rfl) (by simp (disch := first | assumption | omega | (simp only [nx] <;> omega) | fail) only [aLoad, ty25, rowOf, hpl, k2, k3, k7, r5, r6, s1, b1, s2, b2, rc, Value.cells, List.length_cons, List.length_nil, Nat.zero_add, oneCells, List.all_cons, List.all_nil, Value.oneCell', Bool.and_self, cond_true] <;> rfl)), trivial⟩ rfl <|
              .free rfl rfl (so_nilCheck (by simp only [lk] <;> rfl)) rfl <|
              .free rfl rfl (so_fieldAddr (by simp only [lk] <;> rfl) (fa_ok (k := 6) ty43 rfl rfl ty25 rfl rfl)) rfl <|
              .change rfl rfl (so_store (by simp only [lk] <;> rfl) (by simp only [lk] <;> rfl) (by simp (disch := first | assumption | omega | (simp only [nx] <;> omega) | fail) only [aStore, ty25, writeRow, hpl, k2, k3, k7, r5, r6, s1, b1, s2, b2, rc, Value.cells, List.length_cons, List.length_nil, Nat.zero_add, oneCells, List.all_cons, List.all_nil, Value.oneCell', Bool.and_self, cond_true] <;> rfl)) rfl ⟨.inl rfl, trivial⟩ rfl <|
              .nil) <| SQ.normal ?_
          refine CWp.sqd tyOK mixed (ms := [0, 0, 2, 6, 14, 30, 63, 127]) (by kernel_rfl) (
              .read rfl rfl (so_load (by simp only [lk] <;> rfl) (by simp (disch := first | assumption | omega | (simp only [nx] <;> omega) | fail) only [aLoad, ty30, rowOf, hpl, k2, k3, k7, r5, r6, s1, b1, s2, b2, rc, Value.cells, List.length_cons, List.length_nil, Nat.zero_add, oneCells, List.all_cons, List.all_nil, Value.oneCell', Bool.and_self, cond_true] <;> rfl)) (by first | rfl | (simp [veq, veq1, veqs]; done) | (simp [veq, veq1, veqs, splice]; done)) trivial rfl <|
              .free rfl rfl (so_move (by simp only [lk] <;> rfl)) rfl <|
              .free rfl rfl (so_nilCheck (by simp only [lk] <;> rfl)) rfl <|
              .free rfl rfl (so_fieldAddr (by simp only [lk] <;> rfl) (fa_ok (k := 0) ty43 rfl rfl ty29 rfl rfl)) rfl <|
              .read rfl rfl (so_load (by simp only [lk] <;> rfl) (by simp (disch := first | assumption | omega | (simp only [nx] <;> omega) | fail) only [aLoad, ty29, rowOf, hpl, k2, k3, k7, r5, r6, s1, b1, s2, b2, rc, Value.cells, List.length_cons, List.length_nil, Nat.zero_add, oneCells, List.all_cons, List.all_nil, Value.oneCell', Bool.and_self, cond_true] <;> rfl)) (by first | rfl | (simp [veq, veq1, veqs]; done) | (simp [veq, veq1, veqs, splice]; done)) trivial rfl <|
              .change rfl rfl (so_buildSlice (by simp only [aparts, lk] <;> rfl) (by simp (disch := first | assumption | omega | (simp only [nx] <;> omega) | fail) only [aBuildSlice, ty30, ty29, hpl, k2, k3, k7, r5, r6, s1, b1, s2, b2, rc, Value.cells, List.length_cons, List.length_nil, Nat.zero_add, oneCells, List.all_cons, List.all_nil, Value.oneCell', Bool.and_self, cond_true] <;> rfl)) rfl ⟨.inl rfl, .inr (so_load (by simp only [lk] <;> rfl) (by simp (disch := first | assumption | omega | (simp only [nx] <;> omega) | fail) only [aLoad, ty30, rowOf, hpl, k2, k3, k7, r5, r6, s1, b1, s2, b2, rc, Value.cells, List.length_cons, List.length_nil, Nat.zero_add, oneCells, List.all_cons, List.all_nil, Value.oneCell', Bool.and_self, cond_true] <;> rfl)), trivial⟩ rfl <|
              .change rfl rfl (so_append (by simp only [aopnds, lk] <;> rfl) (ap_0 (by simp only [appT, ty30, ty29] <;> rfl) rfl (by simp (disch := first | assumption | omega | (simp only [nx] <;> omega) | fail) only [aCells, rowOf, hpl, k2, k3, k7, r5, r6, s1, b1, s2, b2, rc, Value.cells, List.length_cons, List.length_nil, Nat.zero_add, oneCells, List.all_cons, List.all_nil, Value.oneCell', Bool.and_self, cond_true] <;> rfl) (by decide) rfl)) rfl ⟨.inl rfl, .inl rfl, trivial⟩ rfl <|
              .change rfl rfl (so_store (by simp only [lk] <;> rfl) (by simp only [lk] <;> rfl) (by simp (disch := first | assumption | omega | (simp only [nx] <;> omega) | fail) only [aStore, ty30, writeRow, hpl, k2, k3, k7, r5, r6, s1, b1, s2, b2, rc, Value.cells, List.length_cons, List.length_nil, Nat.zero_add, oneCells, List.all_cons, List.all_nil, Value.oneCell', Bool.and_self, cond_true] <;> rfl)) rfl ⟨.inl rfl, .inl rfl, trivial⟩ rfl <|
              .nil) <| BQ.normal <| ?_
          -- leaf: stop
          refine ⟨_, by (simp (disch := first | assumption | omega | (simp only [nx] <;> omega) | fail) only [hpl]; rfl), rfl, ?_, ?_, ⟨.slice (some ⟨g.next + 1, 0, none⟩) 1 0, ?_, .some (x := g.next + 1) (by simp) ?_ ?_ ?_ ?_⟩, ?_, ?_, ?_, ?_, ?_⟩
          · simp only [nx]; omega
          · simp (disch := first | assumption | omega | (simp only [nx] <;> omega) | fail) only [hpl]; exact k2
          · simp (disch := first | assumption | omega | (simp only [nx] <;> omega) | fail) only [hpl]; rfl
          · simp [e]
          · omega
          · simp only [nx]; omega
          · simp (disch := first | assumption | omega | (simp only [nx] <;> omega) | fail) only [hpl]; simp [e, flatsR]; rfl
          · simp (disch := first | assumption | omega | (simp only [nx] <;> omega) | fail) only [hpl]; exact k4
          · rw [AHeap.get_set_same, ← hLP]; rfl
          · simp (disch := first | assumption | omega | (simp only [nx] <;> omega) | fail) only [hpl]; exact k6
          · simp (disch := first | assumption | omega | (simp only [nx] <;> omega) | fail) only [hpl]
          · intro z hz hz2
            have hz2' : ¬ r = z := fun e => hz2 e.symm
            simp (disch := first | assumption | omega | (simp only [nx] <;> omega) | fail) only [hpl]; exact k8 z hz hz2
        | @some x1 n1 ne e e1 e2 e3 =>
          have hc : cellsOf (flatsR rs) 0 (n1 * 4) = some (flatsR rs) := cellsOf_all (by rw [e, flatsR_length])
          have hn1 : n1 ≤ 1000000 := by omega
          refine W.block <| W.seq <| W.regD tyOK mixed (by kernel_rfl) <| 
              SqW.aop rfl (so_move (by simp only [lk] <;> rfl)) rfl <|
              SqW.aop rfl (so_nilCheck (by simp only [lk] <;> rfl)) rfl <|
              SqW.aop rfl (so_fieldAddr (by simp only [lk] <;> rfl) (fa_ok (k := 5) ty43 rfl rfl ty4 rfl rfl)) rfl <|
              SqW.aopT rfl (so_load (by simp only [lk] <;> rfl) (by simp (disch := first | assumption | omega | (simp only [nx] <;> omega) | fail) only [aLoad, ty4, rowOf, hpl, k2, k3, k7, r5, r6, s1, b1, s2, b2, rc, e3, Value.cells, List.length_cons, List.length_nil, Nat.zero_add, oneCells, List.all_cons, List.all_nil, Value.oneCell', Bool.and_self, cond_true] <;> rfl)) (fun _ => rfl) (hs) <|
              SqW.aopF rfl (so_not (by simp only [lk] <;> rfl)) (fun _ => rfl) rfl <|
              SqW.aopF rfl (so_move (by simp only [lk] <;> rfl)) (fun _ => rfl) rfl <|
              SqW.aop (aguard_of rfl rfl (by simp only [lk] <;> rfl) rfl) (so_load (by simp only [lk] <;> rfl) (by simp (disch := first | assumption | omega | (simp only [nx] <;> omega) | fail) only [aLoad, ty25, rowOf, hpl, k2, k3, k7, r5, r6, s1, b1, s2, b2, rc, e3, Value.cells, List.length_cons, List.length_nil, Nat.zero_add, oneCells, List.all_cons, List.all_nil, Value.oneCell', Bool.and_self, cond_true] <;> rfl)) rfl <|
              SqW.aop (aguard_of rfl rfl (by simp only [lk] <;> rfl) rfl) (so_move (by simp only [lk] <;> rfl)) rfl <|
              SqW.aop (aguard_of rfl rfl (by simp only [lk] <;> rfl) rfl) (so_nilCheck (by simp only [lk] <;> rfl)) rfl <|
              SqW.aop (aguard_of rfl rfl (by simp only [lk] <;> rfl) rfl) (so_fieldAddr (by simp only [lk] <;> rfl) (fa_ok (k := 6) ty43 rfl rfl ty25 rfl rfl)) rfl <|
              SqW.aop (aguard_of rfl rfl (by simp only [lk] <;> rfl) rfl) (so_load (by simp only [lk] <;> rfl) (by simp (disch := first | assumption | omega | (simp only [nx] <;> omega) | fail) only [aLoad, ty25, rowOf, hpl, k2, k3, k7, r5, r6, s1, b1, s2, b2, rc, e3, Value.cells, List.length_cons, List.length_nil, Nat.zero_add, oneCells, List.all_cons, List.all_nil, Value.oneCell', Bool.and_self, cond_true] <;> rfl)) rfl <|
              SqW.aopT (aguard_of rfl rfl (by simp only [lk] <;> rfl) rfl) (so_bin (by simp only [lk] <;> rfl) (by simp only [lk] <;> rfl) bi_geq) (fun _ => rfl) (by first | rfl | assumption | ((simp only [bl, k2, k3, k7, r5, r6, s1, b1, s2, b2, rc, e3, Value.cells, List.length_cons, List.length_nil, Nat.zero_add, oneCells, List.all_cons, List.all_nil, Value.oneCell', Bool.and_self, cond_true]) <;> first | done | assumption | omega) | (simp [k2, k3, k7, r5, r6, s1, b1, s2, b2, rc, e3, Value.cells, List.length_cons, List.length_nil, Nat.zero_add, oneCells, List.all_cons, List.all_nil, Value.oneCell', Bool.and_self, cond_true]; done) | (simp [k2, k3, k7, r5, r6, s1, b1, s2, b2, rc, e3, Value.cells, List.length_cons, List.length_nil, Nat.zero_add, oneCells, List.all_cons, List.all_nil, Value.oneCell', Bool.and_self, cond_true]; omega)) <|
              SqW.aopT (aguard_of rfl rfl (by simp only [lk] <;> rfl) rfl) (so_move (by simp only [lk] <;> rfl)) (fun _ => rfl) rfl <|
              SqW.aop (aguard_of rfl rfl (by simp only [lk] <;> rfl) rfl) (so_load (by simp only [lk] <;> rfl) (by simp (disch := first | assumption | omega | (simp only [nx] <;> omega) | fail) only [aLoad, ty25, rowOf, hpl, k2, k3, k7, r5, r6, s1, b1, s2, b2, rc, e3, Value.cells, List.length_cons, List.length_nil, Nat.zero_add, oneCells, List.all_cons, List.all_nil, Value.oneCell', Bool.and_self, cond_true] <;> rfl)) rfl <|
              SqW.aop (aguard_of rfl rfl (by simp only [lk] <;> rfl) rfl) (so_move (by simp only [lk] <;> rfl)) rfl <|
              SqW.aop (aguard_of rfl rfl (by simp only [lk] <;> rfl) rfl) (so_nilCheck (by simp only [lk] <;> rfl)) rfl <|
              SqW.aop (aguard_of rfl rfl (by simp only [lk] <;> rfl) rfl) (so_fieldAddr (by simp only [lk] <;> rfl) (fa_ok (k := 6) ty43 rfl rfl ty25 rfl rfl)) rfl <|
              SqW.aop (aguard_of rfl rfl (by simp only [lk] <;> rfl) rfl) (so_load (by simp only [lk] <;> rfl) (by simp (disch := first | assumption | omega | (simp only [nx] <;> omega) | fail) only [aLoad, ty25, rowOf, hpl, k2, k3, k7, r5, r6, s1, b1, s2, b2, rc, e3, Value.cells, List.length_cons, List.length_nil, Nat.zero_add, oneCells, List.all_cons, List.all_nil, Value.oneCell', Bool.and_self, cond_true] <;> rfl)) rfl <|
              SqW.aop (aguard_of rfl rfl (by simp only [lk] <;> rfl) rfl) (so_bin (by simp only [lk] <;> rfl) (by simp only [lk] <;> rfl) (bi_w bi_sub (by first | (simp only [w1] <;> rfl) | rfl))) rfl <|
              SqW.aopT (aguard_of rfl rfl (by simp only [lk] <;> rfl) rfl) (so_bin (by simp only [lk] <;> rfl) (by simp only [lk] <;> rfl) bi_geq) (fun _ => rfl) (decide_eq_true h8) <|
              SqW.aopT (aguard_of rfl rfl (by simp only [lk] <;> rfl) rfl) (so_pick (by simp only [lk] <;> rfl) (by simp only [lk, cond_true, cond_false] <;> rfl)) (fun _ => rfl) rfl <|
              SqW.aopT rfl (so_pick (by simp only [lk] <;> rfl) (by simp only [lk, cond_true, cond_false] <;> rfl)) (fun _ => rfl) rfl <|
              SqW.nil <| SQ.normal ?_
          refine W.yes (by simp only [lk] <;> rfl) <| W.seq <| CWp.sqd tyOK mixed (ms := [0, 0, 0, 1, 9, 25, 63, 127, 255]) (by kernel_rfl) (
              .free rfl rfl (so_move (by simp only [lk] <;> rfl)) rfl <|
              .free rfl rfl (so_move (by simp only [lk] <;> rfl)) rfl <|
              .read rfl rfl (so_load (by simp only [lk] <;> rfl) (by simp (disch := first | assumption | omega | (simp only [nx] <;> omega) | fail) only [aLoad, ty25, rowOf, hpl, k2, k3, k7, r5, r6, s1, b1, s2, b2, rc, e3, Value.cells, List.length_cons, List.length_nil, Nat.zero_add, oneCells, List.all_cons, List.all_nil, Value.oneCell', Bool.and_self, cond_true] <;> rfl)) (by first | rfl | (simp [veq, veq1, veqs]; done) | (simp [veq, veq1, veqs, splice]; done)) trivial rfl <|
              .free rfl rfl (so_nilCheck (by simp only [lk] <;> rfl)) rfl <|
              .free rfl rfl (so_fieldAddr (by simp only [lk] <;> rfl) (fa_ok (k := 5) ty43 rfl rfl ty4 rfl rfl)) rfl <|
              .change rfl rfl (so_store (by simp only [lk] <;> rfl) (by simp only [lk] <;> rfl) (by simp (disch := first | assumption | omega | (simp only [nx] <;> omega) | fail) only [aStore, ty4, writeRow, hpl, k2, k3, k7, r5, r6, s1, b1, s2, b2, rc, e3, Value.cells, List.length_cons, List.length_nil, Nat.zero_add, oneCells, List.all_cons, List.all_nil, Value.oneCell', Bool.and_self, cond_true] <;> rfl)) rfl ⟨.inr (so_load (by simp only [lk] <;> rfl) (by simp (disch := first | assumption | omega | (simp only [nx] <;> omega) | fail) only [aLoad, ty25, rowOf, hpl, k2, k3, k7, r5, r6, s1, b1, s2, b2, rc, e3, Value.cells, List.length_cons, List.length_nil, Nat.zero_add, oneCells, List.all_cons, List.all_nil, Value.oneCell', Bool.and_self, cond_true] <;> rfl)), trivial⟩ rfl <|
              .free rfl rfl (so_nilCheck (by simp only [lk] <;> rfl)) rfl <|
              .free rfl rfl (so_fieldAddr (by simp only [lk] <;> rfl) (fa_ok (k := 6) ty43 rfl rfl ty25 rfl rfl)) rfl <|
              .change rfl rfl (so_store (by simp only [lk] <;> rfl) (by simp only [lk] <;> rfl) (by simp (disch := first | assumption | omega | (simp only [nx] <;> omega) | fail) only [aStore, ty25, writeRow, hpl, k2, k3, k7, r5, r6, s1, b1, s2, b2, rc, e3, Value.cells, List.length_cons, List.length_nil, Nat.zero_add, oneCells, List.all_cons, List.all_nil, Value.oneCell', Bool.and_self, cond_true] <;> rfl)) rfl ⟨.inl rfl, trivial⟩ rfl <|
              .nil) <| SQ.normal ?_
          refine CWp.sqd tyOK mixed (ms := [0, 0, 2, 6, 14, 30, 63, 127]) (by kernel_rfl) (
              .read rfl rfl (so_load (by simp only [lk] <;> rfl) (by simp (disch := first | assumption | omega | (simp only [nx] <;> omega) | fail) only [aLoad, ty30, rowOf, hpl, k2, k3, k7, r5, r6, s1, b1, s2, b2, rc, e3, Value.cells, List.length_cons, List.length_nil, Nat.zero_add, oneCells, List.all_cons, List.all_nil, Value.oneCell', Bool.and_self, cond_true] <;> rfl)) (by first | rfl | (simp [veq, veq1, veqs]; done) | (simp [veq, veq1, veqs, splice]; done)) trivial rfl <|
              .free rfl rfl (so_move (by simp only [lk] <;> rfl)) rfl <|
              .free rfl rfl (so_nilCheck (by simp only [lk] <;> rfl)) rfl <|
              .free rfl rfl (so_fieldAddr (by simp only [lk] <;> rfl) (fa_ok (k := 0) ty43 rfl rfl ty29 rfl rfl)) rfl <|
              .read rfl rfl (so_load (by simp only [lk] <;> rfl) (by simp (disch := first | assumption | omega | (simp only [nx] <;> omega) | fail) only [aLoad, ty29, rowOf, hpl, k2, k3, k7, r5, r6, s1, b1, s2, b2, rc, e3, Value.cells, List.length_cons, List.length_nil, Nat.zero_add, oneCells, List.all_cons, List.all_nil, Value.oneCell', Bool.and_self, cond_true] <;> rfl)) (by first | rfl | (simp [veq, veq1, veqs]; done) | (simp [veq, veq1, veqs, splice]; done)) trivial rfl <|
              .change rfl rfl (so_buildSlice (by simp only [aparts, lk] <;> rfl) (by simp (disch := first | assumption | omega | (simp only [nx] <;> omega) | fail) only [aBuildSlice, ty30, ty29, hpl, k2, k3, k7, r5, r6, s1, b1, s2, b2, rc, e3, Value.cells, List.length_cons, List.length_nil, Nat.zero_add, oneCells, List.all_cons, List.all_nil, Value.oneCell', Bool.and_self, cond_true] <;> rfl)) rfl ⟨.inl rfl, .inr (so_load (by simp only [lk] <;> rfl) (by simp (disch := first | assumption | omega | (simp only [nx] <;> omega) | fail) only [aLoad, ty30, rowOf, hpl, k2, k3, k7, r5, r6, s1, b1, s2, b2, rc, e3, Value.cells, List.length_cons, List.length_nil, Nat.zero_add, oneCells, List.all_cons, List.all_nil, Value.oneCell', Bool.and_self, cond_true] <;> rfl)), trivial⟩ rfl <|
              .change rfl rfl (so_append (by simp only [aopnds, lk] <;> rfl) (ap_u (by simp only [appT, ty30, ty29] <;> rfl) rfl (by simp (disch := first | assumption | omega | (simp only [nx] <;> omega) | fail) only [aCells, rowOf, hpl, k2, k3, k7, r5, r6, s1, b1, s2, b2, rc, e3, Value.cells, List.length_cons, List.length_nil, Nat.zero_add, oneCells, List.all_cons, List.all_nil, Value.oneCell', Bool.and_self, cond_true] <;> rfl) (by show (2 * (n1 + 1) + 256) * 48 ≤ _; omega) rfl (by simp (disch := first | assumption | omega | (simp only [nx] <;> omega) | fail) only [aCells, rowOf, hpl, k2, k3, k7, r5, r6, s1, b1, s2, b2, rc, e3, Value.cells, List.length_cons, List.length_nil, Nat.zero_add, oneCells, List.all_cons, List.all_nil, Value.oneCell', Bool.and_self, cond_true] <;> rfl) rfl hc)) rfl ⟨.inl rfl, .inl rfl, trivial⟩ rfl <|
              .change rfl rfl (so_store (by simp only [lk] <;> rfl) (by simp only [lk] <;> rfl) (by simp (disch := first | assumption | omega | (simp only [nx] <;> omega) | fail) only [aStore, ty30, writeRow, hpl, k2, k3, k7, r5, r6, s1, b1, s2, b2, rc, e3, Value.cells, List.length_cons, List.length_nil, Nat.zero_add, oneCells, List.all_cons, List.all_nil, Value.oneCell', Bool.and_self, cond_true] <;> rfl)) rfl ⟨.inl rfl, .inl rfl, trivial⟩ rfl <|
              .nil) <| BQ.normal <| ?_
          -- leaf: stop
          refine ⟨_, by (simp (disch := first | assumption | omega | (simp only [nx] <;> omega) | fail) only [hpl]; rfl), rfl, ?_, ?_, ⟨.slice (some ⟨g.next + 1, 0, none⟩) (n1 + 1) 0, ?_, .some (x := g.next + 1) (by simp) ?_ ?_ ?_ ?_⟩, ?_, ?_, ?_, ?_, ?_⟩
          · simp only [nx]; omega
          · simp (disch := first | assumption | omega | (simp only [nx] <;> omega) | fail) only [hpl]; exact k2
          · simp (disch := first | assumption | omega | (simp only [nx] <;> omega) | fail) only [hpl]; rfl
          · simp [e]
          · omega
          · simp only [nx]; omega
          · simp (disch := first | assumption | omega | (simp only [nx] <;> omega) | fail) only [hpl]; simp [flatsR_append, flatsR]; rfl
          · simp (disch := first | assumption | omega | (simp only [nx] <;> omega) | fail) only [hpl]; exact k4
          · rw [AHeap.get_set_same, ← hLP]; rfl
          · simp (disch := first | assumption | omega | (simp only [nx] <;> omega) | fail) only [hpl]; exact k6
          · simp (disch := first | assumption | omega | (simp only [nx] <;> omega) | fail) only [hpl]
          · intro z hz hz2
            have hz2' : ¬ r = z := fun e => hz2 e.symm
            simp (disch := first | assumption | omega | (simp only [nx] <;> omega) | fail) only [hpl]; exact k8 z hz hz2
      · obtain ⟨st1a, st1b⟩ := st0 (by simp [dueb, hs, h8])
        rw [st1a, st1b]
        refine W.block <| W.seq <| W.regD tyOK mixed (by kernel_rfl) <| 
            SqW.aop rfl (so_move (by simp only [lk] <;> rfl)) rfl <|
            SqW.aop rfl (so_nilCheck (by simp only [lk] <;> rfl)) rfl <|
            SqW.aop rfl (so_fieldAddr (by simp only [lk] <;> rfl) (fa_ok (k := 5) ty43 rfl rfl ty4 rfl rfl)) rfl <|
            SqW.aopT rfl (so_load (by simp only [lk] <;> rfl) (by simp (disch := first | assumption | omega | (simp only [nx] <;> omega) | fail) only [aLoad, ty4, rowOf, hpl, k2, k7, r5, r6, Value.cells] <;> rfl)) (fun _ => rfl) (hs) <|
            SqW.aopF rfl (so_not (by simp only [lk] <;> rfl)) (fun _ => rfl) rfl <|
            SqW.aopF rfl (so_move (by simp only [lk] <;> rfl)) (fun _ => rfl) rfl <|
            SqW.aop (aguard_of rfl rfl (by simp only [lk] <;> rfl) rfl) (so_load (by simp only [lk] <;> rfl) (by simp (disch := first | assumption | omega | (simp only [nx] <;> omega) | fail) only [aLoad, ty25, rowOf, hpl, k2, k7, r5, r6, Value.cells] <;> rfl)) rfl <|
            SqW.aop (aguard_of rfl rfl (by simp only [lk] <;> rfl) rfl) (so_move (by simp only [lk] <;> rfl)) rfl <|
            SqW.aop (aguard_of rfl rfl (by simp only [lk] <;> rfl) rfl) (so_nilCheck (by simp only [lk] <;> rfl)) rfl <|
            SqW.aop (aguard_of rfl rfl (by simp only [lk] <;> rfl) rfl) (so_fieldAddr (by simp only [lk] <;> rfl) (fa_ok (k := 6) ty43 rfl rfl ty25 rfl rfl)) rfl <|
            SqW.aop (aguard_of rfl rfl (by simp only [lk] <;> rfl) rfl) (so_load (by simp only [lk] <;> rfl) (by simp (disch := first | assumption | omega | (simp only [nx] <;> omega) | fail) only [aLoad, ty25, rowOf, hpl, k2, k7, r5, r6, Value.cells] <;> rfl)) rfl <|
            SqW.aopT (aguard_of rfl rfl (by simp only [lk] <;> rfl) rfl) (so_bin (by simp only [lk] <;> rfl) (by simp only [lk] <;> rfl) bi_geq) (fun _ => rfl) (by first | rfl | assumption | ((simp only [bl, k2, k7, r5, r6, Value.cells]) <;> first | done | assumption | omega) | (simp [k2, k7, r5, r6, Value.cells]; done) | (simp [k2, k7, r5, r6, Value.cells]; omega)) <|
            SqW.aopT (aguard_of rfl rfl (by simp only [lk] <;> rfl) rfl) (so_move (by simp only [lk] <;> rfl)) (fun _ => rfl) rfl <|
            SqW.aop (aguard_of rfl rfl (by simp only [lk] <;> rfl) rfl) (so_load (by simp only [lk] <;> rfl) (by simp (disch := first | assumption | omega | (simp only [nx] <;> omega) | fail) only [aLoad, ty25, rowOf, hpl, k2, k7, r5, r6, Value.cells] <;> rfl)) rfl <|
            SqW.aop (aguard_of rfl rfl (by simp only [lk] <;> rfl) rfl) (so_move (by simp only [lk] <;> rfl)) rfl <|
            SqW.aop (aguard_of rfl rfl (by simp only [lk] <;> rfl) rfl) (so_nilCheck (by simp only [lk] <;> rfl)) rfl <|
            SqW.aop (aguard_of rfl rfl (by simp only [lk] <;> rfl) rfl) (so_fieldAddr (by simp only [lk] <;> rfl) (fa_ok (k := 6) ty43 rfl rfl ty25 rfl rfl)) rfl <|
            SqW.aop (aguard_of rfl rfl (by simp only [lk] <;> rfl) rfl) (so_load (by simp only [lk] <;> rfl) (by simp (disch := first | assumption | omega | (simp only [nx] <;> omega) | fail) only [aLoad, ty25, rowOf, hpl, k2, k7, r5, r6, Value.cells] <;> rfl)) rfl <|
            SqW.aop (aguard_of rfl rfl (by simp only [lk] <;> rfl) rfl) (so_bin (by simp only [lk] <;> rfl) (by simp only [lk] <;> rfl) (bi_w bi_sub (by first | (simp only [w1] <;> rfl) | rfl))) rfl <|
            SqW.aopF (aguard_of rfl rfl (by simp only [lk] <;> rfl) rfl) (so_bin (by simp only [lk] <;> rfl) (by simp only [lk] <;> rfl) bi_geq) (fun _ => rfl) (decide_eq_false h8) <|
            SqW.aopF (aguard_of rfl rfl (by simp only [lk] <;> rfl) rfl) (so_pick (by simp only [lk] <;> rfl) (by simp only [lk, cond_true, cond_false] <;> rfl)) (fun _ => rfl) rfl <|
            SqW.aopF rfl (so_pick (by simp only [lk] <;> rfl) (by simp only [lk, cond_true, cond_false] <;> rfl)) (fun _ => rfl) rfl <|
            SqW.nil <| SQ.normal ?_
        refine W.no (by simp only [lk] <;> rfl) <| CWp.skip <| BQ.normal <| ?_
        -- leaf: stop
        have es : cur.set i o = cur := by
          rw [List.getElem?_eq_some_iff] at ho; obtain ⟨_, rfl⟩ := ho; exact List.set_getElem_self _
        rw [es, List.append_nil]
        refine ⟨_, by (simp (disch := first | assumption | omega | (simp only [nx] <;> omega) | fail) only [hpl]; rfl), rfl, ?_, ?_, ⟨ov, ?_, ?_⟩, ?_, ?_, ?_, ?_, ?_⟩
        · simp only [nx]; omega
        · simp (disch := first | assumption | omega | (simp only [nx] <;> omega) | fail) only [hpl]; exact k2
        · simp (disch := first | assumption | omega | (simp only [nx] <;> omega) | fail) only [hpl]; exact k3
        · cases k3' with
          | none e => exact .none e
          | some ne e e1 e2 e3 => exact .some ne e e1 (by simp only [nx]; omega) (by simp (disch := first | assumption | omega | (simp only [nx] <;> omega) | fail) only [hpl]; exact e3)
        · simp (disch := first | assumption | omega | (simp only [nx] <;> omega) | fail) only [hpl]; exact k4
        · rw [AHeap.get_set_same, ← hLP]; rfl
        · simp (disch := first | assumption | omega | (simp only [nx] <;> omega) | fail) only [hpl]; exact k6
        · simp (disch := first | assumption | omega | (simp only [nx] <;> omega) | fail) only [hpl]; exact k7
        · intro z hz hz2
          simp (disch := first | assumption | omega | (simp only [nx] <;> omega) | fail) only [hpl]; exact k8 z hz hz2
  have hb : (LP.state == .busy) = false := by rw [← hLP]; rfl
  have hj : jumpExit LP.pending = some .normal := by rw [← hLP]; rfl
  clear hLP
  refine FWp.mono (K := fun _ h2 => DSt h p S.base S.waits (.slice (some ⟨r, off, none⟩) S.ops.length 0) r pre now LP (sn now 8 S.ops) (dl now 8 S.ops) h2) ?_ (fun v h2 hK => ?_)
  rotate_left
  · refine ⟨LP, .normal, hK.loop, hb, hj, ?_⟩
    obtain ⟨o, ho1, ho2⟩ := hK.out
    have hnx : h.next + 4 ≤ h2.next := hK.next
    refine BQ.normal <| SQ.normal ?_
    refine W.seq <| W.reg <| 
        OSuf.aop tyOK rfl (so_load (by simp only [lk] <;> rfl) (by simp (disch := first | assumption | omega | (simp only [nx] <;> omega) | fail) only [aLoad, ty30, rowOf, hpl, ho1] <;> rfl)) rfl <|
        OSuf.aop tyOK rfl (so_assign (by simp only [lk] <;> rfl)) rfl <|
        OSuf.nil <| SQ.normal ?_
    refine CWp.ret <| FQ.ret (by simp only [aRet, Try.f8, aResults, aResult, lk, Nat.reduceEqDiff, reduceIte] <;> rfl) ?_
    -- leaf: end
    have hrz : ¬ h.next + 3 = r ∧ ¬ h.next + 3 = p := by omega
    obtain ⟨z1, z2⟩ := hrz
    refine ⟨?_, ?_, ?_, fun z hz hz2 => ?_, ?_⟩
    · simp (disch := first | assumption | omega | (simp only [nx] <;> omega) | fail) only [hpl]; exact hK.prow
    · simp (disch := first | assumption | omega | (simp only [nx] <;> omega) | fail) only [hpl]; exact hK.ops
    · simp only [nx]; omega
    · simp (disch := first | assumption | omega | (simp only [nx] <;> omega) | fail) only [hpl]; exact hK.old z hz hz2
    · cases ho2 with
      | none e => exact .none e
      | some ne e h5 h6 h7 => exact .some ne e (by omega) (by simp only [nx]; omega) (by simp (disch := first | assumption | omega | (simp only [nx] <;> omega) | fail) only [hpl]; exact h7)
  refine first1_c h _ p r off pre S now LP hpre hlen hat ⟨?_, ?_, ⟨_, ?_, .none rfl⟩, ?_, ?_, ?_, ?_, ?_⟩ yield
  · simp only [nx]; omega
  · simp (disch := first | assumption | omega | (simp only [nx] <;> omega) | fail) only [hpl]; rfl
  · simp (disch := first | assumption | omega | (simp only [nx] <;> omega) | fail) only [hpl]; rfl
  · simp (disch := first | assumption | omega | (simp only [nx] <;> omega) | fail) only [hpl]
  · simp (disch := first | assumption | omega | (simp only [nx] <;> omega) | fail) only [hpl]
  · simp (disch := first | assumption | omega | (simp only [nx] <;> omega) | fail) only [hpl]; exact hp
  · simp (disch := first | assumption | omega | (simp only [nx] <;> omega) | fail) only [hpl]; exact hg
  · intro z hz hz2; simp (disch := first | assumption | omega | (simp only [nx] <;> omega) | fail) only [hpl]

theorem sn_length (now : Int) : ∀ (w : Nat) (l : List Op), (sn now w l).length = l.length
  | 0, l => by rw [sn_zero]
  | w + 1, [] => rfl
  | w + 1, o :: l => by simp only [sn]; cases o.acked <;> simp [sn_length now _ l]
theorem due_c (h : AHeap) (p : Nat) (S : PS) (R : Option Nat) (hP : PA h p S R) (now : Int) (hlen : S.ops.length ≤ 1000000) (hn0 : 0 ≤ now) (hn1 : now < 1000000000) (hat : ∀ o ∈ S.ops, 0 ≤ o.at_ ∧ o.at_ ≤ now) :
    FWp Try.prog 8 [P0 p, U64 now] h fun u h' => PA h' p ⟨S.base, sn now 8 S.ops, S.waits⟩ R ∧ Fr h h' p R ∧ RecsAt h' h.next (dl now 8 S.ops) u := by
  obtain ⟨hpn, s, hp, hs⟩ := hP
  cases hs with
  | none e =>
    refine W.enter tyOK Try.func8 rfl rfl ?_
    simp only [entry]
    refine W.seq <| W.reg <| 
        OSuf.aop tyOK rfl (so_box (by simp only [lk] <;> rfl)) rfl <|
        OSuf.aop tyOK rfl (so_assign (by simp only [lk] <;> rfl)) rfl <|
        OSuf.nil <| SQ.normal ?_
    refine W.seq <| W.reg <| 
        OSuf.aop tyOK rfl (so_alloc (by simp only [aAlloc, ty30] <;> rfl)) rfl <|
        OSuf.nil <| SQ.normal ?_
    refine W.seq <| W.seq <| W.reg <| 
        OSuf.aop tyOK rfl (so_move (by simp only [lk] <;> rfl)) rfl <|
        OSuf.aopF tyOK rfl (so_bin (by simp only [lk] <;> rfl) (by simp only [lk] <;> rfl) (bi_nil ⟨_, _, ty23, rfl⟩)) (fun _ => rfl) rfl <|
        OSuf.nil <| SQ.normal ?_
    refine W.no (by simp only [lk] <;> rfl) <| CWp.skip <| SQ.normal ?_
    refine W.seq <| W.seq <| W.reg <| 
        OSuf.aop tyOK rfl (so_move (by simp only [lk] <;> rfl)) rfl <|
        OSuf.callD rfl (by simp only [aopnds, lk] <;> rfl) en15 (first_c _ p) rfl <|
        OSuf.nil <| SQ.normal ?_
    -- leaf: loop
    refine W.block (CWp.rangeFunc (by simp only [aopnd, Tr.get_put, Nat.reduceEqDiff, reduceIte] <;> rfl) (fun l hl => by cases hl) (VWp.func en16 ?_))
    show FWp _ _ [_, _] _ _
    generalize hLP : (ALoop.mk _ _ _ _ _ _ _ _) = LP
    have hb : (LP.state == .busy) = false := by rw [← hLP]; rfl
    have hj : jumpExit LP.pending = some .normal := by rw [← hLP]; rfl
    clear hLP
    refine FWp.mono (K := fun _ h2 => h2 = (((h.new (.cells [U64 now] 1)).new (.cells [.slice none 0 0] 1)).new (.cells [P0 p] 1)).new (.loop LP)) ?_ (fun v h2 hK => ?_)
    rotate_left
    · subst hK
      refine ⟨LP, .normal, by (simp (disch := first | assumption | omega | (simp only [nx] <;> omega) | fail) only [hpl]), hb, hj, ?_⟩
      refine BQ.normal <| SQ.normal ?_
      refine W.seq <| W.reg <| 
          OSuf.aop tyOK rfl (so_load (by simp only [lk] <;> rfl) (by simp (disch := first | assumption | omega | (simp only [nx] <;> omega) | fail) only [aLoad, ty30, rowOf, hpl] <;> rfl)) rfl <|
          OSuf.aop tyOK rfl (so_assign (by simp only [lk] <;> rfl)) rfl <|
          OSuf.nil <| SQ.normal ?_
      refine CWp.ret <| FQ.ret (by simp only [aRet, Try.f8, aResults, aResult, lk, Nat.reduceEqDiff, reduceIte] <;> rfl) ?_
      -- leaf: end
      have e0 : sn now 8 S.ops = [] := by rw [e]; rfl
      have e1 : dl now 8 S.ops = [] := by rw [e]; rfl
      refine ⟨⟨by simp only [nx]; omega, _, by (simp (disch := first | assumption | omega | (simp only [nx] <;> omega) | fail) only [hpl]; exact hp), .none e0⟩, ⟨by simp only [nx]; omega, fun q hq _ _ => by simp (disch := first | assumption | omega | (simp only [nx] <;> omega) | fail) only [hpl]⟩, .none e1⟩
    refine W.enter tyOK Try.func16 rfl rfl ?_
    simp only [entry]
    refine W.seq <| W.reg <| 
        OSuf.aop tyOK rfl (so_assign (by simp only [lk] <;> rfl)) rfl <|
        OSuf.nil <| SQ.normal ?_
    refine W.seq <| W.reg <| 
        OSuf.aop tyOK rfl (so_load (by simp only [lk] <;> rfl) (by simp (disch := first | assumption | omega | (simp only [nx] <;> omega) | fail) only [aLoad, ty23, rowOf, hpl, hp, Value.cells] <;> rfl)) rfl <|
        OSuf.aop tyOK rfl (so_nilCheck (by simp only [lk] <;> rfl)) rfl <|
        OSuf.aop tyOK rfl (so_fieldAddr (by simp only [lk] <;> rfl) (fa_ok (k := 1) ty41 rfl rfl ty39 rfl rfl)) rfl <|
        OSuf.aop tyOK rfl (so_load (by simp only [lk] <;> rfl) (by simp (disch := first | assumption | omega | (simp only [nx] <;> omega) | fail) only [aLoad, ty39, rowOf, hpl, hp, Value.cells] <;> rfl)) rfl <|
        OSuf.aop tyOK rfl (so_len (by simp only [aopnds, lk] <;> rfl) (by simp (disch := first | assumption | omega | (simp only [nx] <;> omega) | fail) only [aLenOf, ty39, hpl, hp, Value.cells] <;> rfl)) rfl <|
        OSuf.aop tyOK rfl (so_move (by simp only [lk] <;> rfl)) rfl <|
        OSuf.nil <| SQ.normal ?_
    -- leaf: loop
    refine W.cut (fun L h2 => h2 = (((h.new (.cells [U64 now] 1)).new (.cells [.slice none 0 0] 1)).new (.cells [P0 p] 1)).new (.loop LP)) (W.block (W.loop (fun n L h2 => h2 = (((h.new (.cells [U64 now] 1)).new (.cells [.slice none 0 0] 1)).new (.cells [P0 p] 1)).new (.loop LP) ∧ L = [(10, I64 0), (11, I64 0)]) (n := 0) ⟨rfl, rfl⟩ ?_ ?_)) ?_
    · simp [HasA, Tr.get_put]
    · rintro n L h2 ⟨rfl, rfl⟩
      simp only [mkA]
      refine W.seq <| W.reg <| 
          OSuf.aopF tyOK rfl (so_bin (by simp only [lk] <;> rfl) (by simp only [lk] <;> rfl) bi_lss) (fun _ => rfl) (by decide) <|
          OSuf.nil <| SQ.normal ?_
      refine W.seq <| W.no (by simp only [lk] <;> rfl) <| CWp.exit <| SQ.exit <| LQ.exit <| BQ.exit <| ?_
      -- leaf: cut
      exact NQ.normal (L := []) trivial rfl
    rintro L a' h2 ha hK
    exact FQ.normal (by simp only [aRet, Try.f16, aResults] <;> rfl) hK
  | @some r off pre hl hn hpr hg =>
    refine FWp.mono (due_some h p r off pre S now hpn hn hpr hl hlen hp hg hn0 hn1 hat) ?_
    rintro u h' ⟨h1, h2, h3, h4, h5⟩
    refine ⟨⟨by omega, _, h1, opsAt_mk (sn_length _ _ _).symm hl (by omega) hpr h2⟩, ⟨h3, fun q hq hq1 hq2 => h4 q hq fun e => hq2 (by rw [e])⟩, h5⟩
end Go.Proofs.Ythjeoohlknajpaa
