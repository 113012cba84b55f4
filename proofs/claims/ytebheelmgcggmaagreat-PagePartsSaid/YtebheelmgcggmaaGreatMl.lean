/-
  Merged: QgG, QgH, QgI, QgJ, QgK.
-/
import Derived.Test.YtebheelmgcggmaaGreatMk
import Derived.Test.YtebheelmgcggmaaGreatMj
import Derived.Test.YtebheelmgcggmaaGreatAb39
import Derived.Test.YtebheelmgcggmaaGreatMa
set_option linter.unusedSimpArgs false
set_option linter.unusedVariables false
set_option maxRecDepth 10000
set_option maxHeartbeats 8000000
namespace Go.Proofs.YtebheelmgcggmaaGreat
open Go.Ab Go.Sort
def JoinPost (h : AHeap) (a b : Lf) (u : Value) (g : AHeap) : Prop := h.next ≤ g.next ∧ (∀ z, z < h.next → g.get z = h.get z) ∧
  ((joinOK a b = true ∧ ∃ (ds : List Rec) (v : Value), ds.Perm (a.deltas ++ b.deltas) ∧ (ds.Pairwise fun x y => x.lsn ≤ y.lsn) ∧ chk (joinD a b ds) = true ∧ u = .tuple #[v, I64 0] ∧ LVs g h.next (joinD a b ds) v) ∨
   ((joinOK a b = false ∨ ∃ ds : List Rec, ds.Perm (a.deltas ++ b.deltas) ∧ (ds.Pairwise fun x y => x.lsn ≤ y.lsn) ∧ chk (joinD a b ds) = false) ∧ u = .tuple #[LV0, I64 2]))
structure Mrg (a b : List Rec) (i k : Nat) (ds : List Rec) : Prop where
  perm : ds.Perm (a.take i ++ b.take k)
  pw : ds.Pairwise fun x y => x.lsn ≤ y.lsn
  la : ∀ x ∈ ds, ∀ y ∈ a.drop i, x.lsn ≤ y.lsn
  lb : ∀ x ∈ ds, ∀ y ∈ b.drop k, x.lsn ≤ y.lsn
theorem drop_cons' {l : List Rec} {i : Nat} {x : Rec} (hx : l[i]? = some x) : l.drop i = x :: l.drop (i + 1) := by
  obtain ⟨hi, rfl⟩ := List.getElem?_eq_some_iff.1 hx
  exact List.drop_eq_getElem_cons hi
theorem take_snoc {l : List Rec} {i : Nat} {x : Rec} (hx : l[i]? = some x) : l.take (i + 1) = l.take i ++ [x] := by rw [List.take_add_one, hx]; rfl
theorem rise_drop {l : List Rec} {i : Nat} {x : Rec} (h : l.Pairwise fun a b => ltL a b = true) (hx : l[i]? = some x) : ∀ y ∈ l.drop (i + 1), x.lsn ≤ y.lsn := fun y hy => by
  have h1 := h.sublist (List.drop_sublist i l)
  rw [drop_cons' hx] at h1
  have := (List.pairwise_cons.1 h1).1 y hy
  simp only [ltL, decide_eq_true_eq] at this
  omega
theorem Mrg.stepA {a b : List Rec} {i k : Nat} {ds : List Rec} {x : Rec} (m : Mrg a b i k ds) (ha : a.Pairwise fun a b => ltL a b = true) (hx : a[i]? = some x) (hb : ∀ y ∈ b.drop k, x.lsn ≤ y.lsn) : Mrg a b (i + 1) k (ds ++ [x]) := by
  have hxd : x ∈ a.drop i := by rw [drop_cons' hx]; exact List.mem_cons_self
  refine ⟨?_, ?_, fun z hz y hy => ?_, fun z hz y hy => ?_⟩
  · rw [take_snoc hx]
    have h1 : (ds ++ [x]).Perm ((a.take i ++ b.take k) ++ [x]) := m.perm.append_right _
    refine h1.trans ?_
    rw [List.append_assoc, List.append_assoc]
    exact (List.perm_append_comm).append_left _
  · refine List.pairwise_append.2 ⟨m.pw, by simp, fun y hy z hz => ?_⟩
    rw [List.mem_singleton.1 hz]
    exact m.la y hy x hxd
  · have hy' : y ∈ a.drop i := by rw [drop_cons' hx]; exact List.mem_cons_of_mem _ hy
    rcases List.mem_append.1 hz with hz | hz
    · exact m.la z hz y hy'
    · rw [List.mem_singleton.1 hz]; exact rise_drop ha hx y hy
  · rcases List.mem_append.1 hz with hz | hz
    · exact m.lb z hz y hy
    · rw [List.mem_singleton.1 hz]; exact hb y hy
theorem Mrg.stepB {a b : List Rec} {i k : Nat} {ds : List Rec} {x : Rec} (m : Mrg a b i k ds) (hb : b.Pairwise fun a b => ltL a b = true) (hx : b[k]? = some x) (ha : ∀ y ∈ a.drop i, x.lsn ≤ y.lsn) : Mrg a b i (k + 1) (ds ++ [x]) := by
  have hxd : x ∈ b.drop k := by rw [drop_cons' hx]; exact List.mem_cons_self
  refine ⟨?_, ?_, fun z hz y hy => ?_, fun z hz y hy => ?_⟩
  · rw [take_snoc hx, ← List.append_assoc]
    exact m.perm.append_right _
  · refine List.pairwise_append.2 ⟨m.pw, by simp, fun y hy z hz => ?_⟩
    rw [List.mem_singleton.1 hz]
    exact m.lb y hy x hxd
  · rcases List.mem_append.1 hz with hz | hz
    · exact m.la z hz y hy
    · rw [List.mem_singleton.1 hz]; exact ha y hy
  · have hy' : y ∈ b.drop k := by rw [drop_cons' hx]; exact List.mem_cons_of_mem _ hy
    rcases List.mem_append.1 hz with hz | hz
    · exact m.lb z hz y hy'
    · rw [List.mem_singleton.1 hz]; exact rise_drop hb hx y hy
theorem joinOK_no {a b : Lf} (h : chk a = false ∨ chk b = false ∨ a.high = [] ∨ ¬ a.high = b.low ∨ ¬ a.full = b.full) : joinOK a b = false := by
  simp only [joinOK]
  rcases h with h | h | h | h | h
  · simp [h]
  · simp [h]
  · simp [h]
  · simp [h]
  · simp [h]
theorem join0_c (h : AHeap) (a b : Lf) (av aw bv bw : Value) (ha : RS h a.base av) (ha' : RS h a.deltas aw) (hb : RS h b.base bv) (hb' : RS h b.deltas bw) (l1 : a.base.length ≤ 1000000) (l2 : a.deltas.length ≤ 1000000) (l3 : b.base.length ≤ 1000000) (l4 : b.deltas.length ≤ 1000000) (hl : (a.deltas ++ b.deltas).length ≤ 1000000) (hl' : (a.base ++ b.base).length ≤ 1000000) (lba : LB a) (lbb : LB b) :
    FWp Tryz.prog 33 [LV a av aw, LV b bv bw] h fun u g => JoinPost h a b u g := by
  have tb33 := And.intro ty22 (And.intro ty23 (And.intro ty25 (And.intro ty27 (ty9))))
  obtain ⟨b1, c1, rfl⟩ := ha.form
  obtain ⟨b2, c2, rfl⟩ := ha'.form
  obtain ⟨b3, c3, rfl⟩ := hb.form
  obtain ⟨b4, c4, rfl⟩ := hb'.form
  obtain ⟨h3, hh3⟩ : ∃ h3, h3 = ((h.new (LR a (.slice b1 a.base.length c1) (.slice b2 a.deltas.length c2))).new (LR b (.slice b3 b.base.length c3) (.slice b4 b.deltas.length c4))).new (.cells zlf 1) := ⟨_, rfl⟩
  have e3 : h3.next = h.next + 3 := by rw [hh3]; rfl
  have k3 : ∀ z, z < h.next → h3.get z = h.get z := fun z hz => by rw [hh3]; simp (disch := first | omega | simp only [nx]; omega) only [hpl]
  have m1 := check0_c h3 a _ _ (ha.mono (by omega) k3) (ha'.mono (by omega) k3) l1 l2 lba
  have m2 := check0_c h3 b _ _ (hb.mono (by omega) k3) (hb'.mono (by omega) k3) l3 l4 lbb
  rw [hh3] at m1 m2
  have bad : joinOK a b = false → ∀ g : AHeap, h.next ≤ g.next → (∀ z, z < h.next → g.get z = h.get z) → JoinPost h a b (.tuple #[LV0, I64 2]) g := fun h1 g h2 h3 => ⟨h2, h3, .inr ⟨.inl h1, rfl⟩⟩
  cases f1 : chk a with
  | false =>
    rw [if_neg (by rw [f1]; decide)] at m1
    refine W.enter tyOK Tryz.func33 rfl rfl ?_
    simp only [entry]
    refine Wr <| Oa rfl Zx rfl <| Oa rfl Zx rfl <| Oa rfl (so_alloc (by simp only [aAlloc, ty25] <;> rfl)) rfl <| Oa rfl za rfl <| On ?_
    refine W.seq <| Wr <| Oa rfl (zl (hv := by simp (disch := first | omega | simp only [nx]; omega) only [aLoad, ty25, rowOf, hpl, rcl, Value.cells] <;> rfl)) rfl <| OSuf.callD rfl (by simp only [aopnds, lk] <;> rfl) en14 (m1) rfl <| Ot rfl (zb (hv := bi_neq)) rfl (rfl) <| Ot rfl sm rfl rfl <| Pa ag rfl <| Pa ag rfl <| Pa ag rfl <| Ot rfl Zp rfl rfl <| Ot rfl sm rfl rfl <| Pa ag rfl <| Pa ag rfl <| Pa ag rfl <| Ot rfl Zp rfl rfl <| Ot rfl sm rfl rfl <| Pa ag rfl <| Pa ag rfl <| Pa ag rfl <| Pa ag rfl <| Pa ag rfl <| Ot rfl Zp rfl rfl <| Ot rfl sm rfl rfl <| Pa ag rfl <| Pa ag rfl <| Pa ag rfl <| Pa ag rfl <| Pa ag rfl <| Ot rfl Zp rfl rfl <| On ?_
    refine Wy <| Wr <| Oa rfl (so_build (by simp only [aparts, lk] <;> rfl) (by simp only [aBuild, ty25, rcl, Value.cells, places, tb33] <;> rfl)) rfl <| Oa rfl (zs (hv := by simp (disch := first | omega | simp only [nx]; omega) only [aStore, ty25, writeRow, hpl, rcl, Value.cells] <;> rfl)) rfl <| Oa rfl za rfl <| On ?_
    refine CWp.ret <| SQ.ret <| FQ.ret (by simp (disch := first | omega | simp only [nx]; omega) only [aRet, Tryz.f33, aResults, aResult, lk, Nat.reduceEqDiff, reduceIte, aLoad, rowOf, hpl, rcl, Value.cells, places, tb33] <;> rfl) ?_
    exact bad (joinOK_no (.inl f1)) _ (by simp only [nx]; omega) (fun z hz => by simp (disch := first | omega | simp only [nx]; omega) only [hpl])
  | true =>
  rw [if_pos f1] at m1
  cases f2 : chk b with
  | false =>
    rw [if_neg (by rw [f2]; decide)] at m2
    refine W.enter tyOK Tryz.func33 rfl rfl ?_
    simp only [entry]
    refine Wr <| Oa rfl Zx rfl <| Oa rfl Zx rfl <| Oa rfl (so_alloc (by simp only [aAlloc, ty25] <;> rfl)) rfl <| Oa rfl za rfl <| On ?_
    refine W.seq <| Wr <| Oa rfl (zl (hv := by simp (disch := first | omega | simp only [nx]; omega) only [aLoad, ty25, rowOf, hpl, rcl, Value.cells] <;> rfl)) rfl <| OSuf.callD rfl (by simp only [aopnds, lk] <;> rfl) en14 (m1) rfl <| Of rfl (zb (hv := bi_neq)) rfl (rfl) <| Of rfl sm rfl rfl <| Oa ag (zl (hv := by simp (disch := first | omega | simp only [nx]; omega) only [aLoad, ty25, rowOf, hpl, rcl, Value.cells] <;> rfl)) rfl <| OSuf.callD ag (by simp only [aopnds, lk] <;> rfl) en14 (m2) rfl <| Ot ag (zb (hv := bi_neq)) rfl (rfl) <| Ot rfl Zp rfl rfl <| Ot rfl sm rfl rfl <| Pa ag rfl <| Pa ag rfl <| Pa ag rfl <| Ot rfl Zp rfl rfl <| Ot rfl sm rfl rfl <| Pa ag rfl <| Pa ag rfl <| Pa ag rfl <| Pa ag rfl <| Pa ag rfl <| Ot rfl Zp rfl rfl <| Ot rfl sm rfl rfl <| Pa ag rfl <| Pa ag rfl <| Pa ag rfl <| Pa ag rfl <| Pa ag rfl <| Ot rfl Zp rfl rfl <| On ?_
    refine Wy <| Wr <| Oa rfl (so_build (by simp only [aparts, lk] <;> rfl) (by simp only [aBuild, ty25, rcl, Value.cells, places, tb33] <;> rfl)) rfl <| Oa rfl (zs (hv := by simp (disch := first | omega | simp only [nx]; omega) only [aStore, ty25, writeRow, hpl, rcl, Value.cells] <;> rfl)) rfl <| Oa rfl za rfl <| On ?_
    refine CWp.ret <| SQ.ret <| FQ.ret (by simp (disch := first | omega | simp only [nx]; omega) only [aRet, Tryz.f33, aResults, aResult, lk, Nat.reduceEqDiff, reduceIte, aLoad, rowOf, hpl, rcl, Value.cells, places, tb33] <;> rfl) ?_
    exact bad (joinOK_no (.inr (.inl f2))) _ (by simp only [nx]; omega) (fun z hz => by simp (disch := first | omega | simp only [nx]; omega) only [hpl])
  | true =>
  rw [if_pos f2] at m2
  by_cases j1 : a.high = []
  · refine W.enter tyOK Tryz.func33 rfl rfl ?_
    simp only [entry]
    refine Wr <| Oa rfl Zx rfl <| Oa rfl Zx rfl <| Oa rfl (so_alloc (by simp only [aAlloc, ty25] <;> rfl)) rfl <| Oa rfl za rfl <| On ?_
    refine W.seq <| Wr <| Oa rfl (zl (hv := by simp (disch := first | omega | simp only [nx]; omega) only [aLoad, ty25, rowOf, hpl, rcl, Value.cells] <;> rfl)) rfl <| OSuf.callD rfl (by simp only [aopnds, lk] <;> rfl) en14 (m1) rfl <| Of rfl (zb (hv := bi_neq)) rfl (rfl) <| Of rfl sm rfl rfl <| Oa ag (zl (hv := by simp (disch := first | omega | simp only [nx]; omega) only [aLoad, ty25, rowOf, hpl, rcl, Value.cells] <;> rfl)) rfl <| OSuf.callD ag (by simp only [aopnds, lk] <;> rfl) en14 (m2) rfl <| Of ag (zb (hv := bi_neq)) rfl (rfl) <| Of rfl Zp rfl rfl <| Of rfl sm rfl rfl <| Oa ag (zf (hv := fa_ok (k := 1) ty25 rfl rfl ty9 rfl rfl)) rfl <| Oa ag (zl (hv := by simp (disch := first | omega | simp only [nx]; omega) only [aLoad, ty9, rowOf, hpl, rcl, Value.cells] <;> rfl)) rfl <| Ot ag (zb (hv := bs_eql)) rfl (by simp [sst, j1]) <| Ot rfl Zp rfl rfl <| Ot rfl sm rfl rfl <| Pa ag rfl <| Pa ag rfl <| Pa ag rfl <| Pa ag rfl <| Pa ag rfl <| Ot rfl Zp rfl rfl <| Ot rfl sm rfl rfl <| Pa ag rfl <| Pa ag rfl <| Pa ag rfl <| Pa ag rfl <| Pa ag rfl <| Ot rfl Zp rfl rfl <| On ?_
    refine Wy <| Wr <| Oa rfl (so_build (by simp only [aparts, lk] <;> rfl) (by simp only [aBuild, ty25, rcl, Value.cells, places, tb33] <;> rfl)) rfl <| Oa rfl (zs (hv := by simp (disch := first | omega | simp only [nx]; omega) only [aStore, ty25, writeRow, hpl, rcl, Value.cells] <;> rfl)) rfl <| Oa rfl za rfl <| On ?_
    refine CWp.ret <| SQ.ret <| FQ.ret (by simp (disch := first | omega | simp only [nx]; omega) only [aRet, Tryz.f33, aResults, aResult, lk, Nat.reduceEqDiff, reduceIte, aLoad, rowOf, hpl, rcl, Value.cells, places, tb33] <;> rfl) ?_
    exact bad (joinOK_no (.inr (.inr (.inl j1)))) _ (by simp only [nx]; omega) (fun z hz => by simp (disch := first | omega | simp only [nx]; omega) only [hpl])
  by_cases j2 : ¬ a.high = b.low
  · refine W.enter tyOK Tryz.func33 rfl rfl ?_
    simp only [entry]
    refine Wr <| Oa rfl Zx rfl <| Oa rfl Zx rfl <| Oa rfl (so_alloc (by simp only [aAlloc, ty25] <;> rfl)) rfl <| Oa rfl za rfl <| On ?_
    refine W.seq <| Wr <| Oa rfl (zl (hv := by simp (disch := first | omega | simp only [nx]; omega) only [aLoad, ty25, rowOf, hpl, rcl, Value.cells] <;> rfl)) rfl <| OSuf.callD rfl (by simp only [aopnds, lk] <;> rfl) en14 (m1) rfl <| Of rfl (zb (hv := bi_neq)) rfl (rfl) <| Of rfl sm rfl rfl <| Oa ag (zl (hv := by simp (disch := first | omega | simp only [nx]; omega) only [aLoad, ty25, rowOf, hpl, rcl, Value.cells] <;> rfl)) rfl <| OSuf.callD ag (by simp only [aopnds, lk] <;> rfl) en14 (m2) rfl <| Of ag (zb (hv := bi_neq)) rfl (rfl) <| Of rfl Zp rfl rfl <| Of rfl sm rfl rfl <| Oa ag (zf (hv := fa_ok (k := 1) ty25 rfl rfl ty9 rfl rfl)) rfl <| Oa ag (zl (hv := by simp (disch := first | omega | simp only [nx]; omega) only [aLoad, ty9, rowOf, hpl, rcl, Value.cells] <;> rfl)) rfl <| Of ag (zb (hv := bs_eql)) rfl (by simp [sst, j1]) <| Of rfl Zp rfl rfl <| Of rfl sm rfl rfl <| Oa ag (zf (hv := fa_ok (k := 1) ty25 rfl rfl ty9 rfl rfl)) rfl <| Oa ag (zl (hv := by simp (disch := first | omega | simp only [nx]; omega) only [aLoad, ty9, rowOf, hpl, rcl, Value.cells] <;> rfl)) rfl <| Oa ag (zf (hv := fa_ok (k := 0) ty25 rfl rfl ty9 rfl rfl)) rfl <| Oa ag (zl (hv := by simp (disch := first | omega | simp only [nx]; omega) only [aLoad, ty9, rowOf, hpl, rcl, Value.cells] <;> rfl)) rfl <| Ot ag (zb (hv := bs_neq)) rfl (by simp [sst, j2]) <| Ot rfl Zp rfl rfl <| Ot rfl sm rfl rfl <| Pa ag rfl <| Pa ag rfl <| Pa ag rfl <| Pa ag rfl <| Pa ag rfl <| Ot rfl Zp rfl rfl <| On ?_
    refine Wy <| Wr <| Oa rfl (so_build (by simp only [aparts, lk] <;> rfl) (by simp only [aBuild, ty25, rcl, Value.cells, places, tb33] <;> rfl)) rfl <| Oa rfl (zs (hv := by simp (disch := first | omega | simp only [nx]; omega) only [aStore, ty25, writeRow, hpl, rcl, Value.cells] <;> rfl)) rfl <| Oa rfl za rfl <| On ?_
    refine CWp.ret <| SQ.ret <| FQ.ret (by simp (disch := first | omega | simp only [nx]; omega) only [aRet, Tryz.f33, aResults, aResult, lk, Nat.reduceEqDiff, reduceIte, aLoad, rowOf, hpl, rcl, Value.cells, places, tb33] <;> rfl) ?_
    exact bad (joinOK_no (.inr (.inr (.inr (.inl j2))))) _ (by simp only [nx]; omega) (fun z hz => by simp (disch := first | omega | simp only [nx]; omega) only [hpl])
  have j2 := Classical.not_not.1 j2
  by_cases j3 : ¬ a.full = b.full
  · refine W.enter tyOK Tryz.func33 rfl rfl ?_
    simp only [entry]
    refine Wr <| Oa rfl Zx rfl <| Oa rfl Zx rfl <| Oa rfl (so_alloc (by simp only [aAlloc, ty25] <;> rfl)) rfl <| Oa rfl za rfl <| On ?_
    refine W.seq <| Wr <| Oa rfl (zl (hv := by simp (disch := first | omega | simp only [nx]; omega) only [aLoad, ty25, rowOf, hpl, rcl, Value.cells] <;> rfl)) rfl <| OSuf.callD rfl (by simp only [aopnds, lk] <;> rfl) en14 (m1) rfl <| Of rfl (zb (hv := bi_neq)) rfl (rfl) <| Of rfl sm rfl rfl <| Oa ag (zl (hv := by simp (disch := first | omega | simp only [nx]; omega) only [aLoad, ty25, rowOf, hpl, rcl, Value.cells] <;> rfl)) rfl <| OSuf.callD ag (by simp only [aopnds, lk] <;> rfl) en14 (m2) rfl <| Of ag (zb (hv := bi_neq)) rfl (rfl) <| Of rfl Zp rfl rfl <| Of rfl sm rfl rfl <| Oa ag (zf (hv := fa_ok (k := 1) ty25 rfl rfl ty9 rfl rfl)) rfl <| Oa ag (zl (hv := by simp (disch := first | omega | simp only [nx]; omega) only [aLoad, ty9, rowOf, hpl, rcl, Value.cells] <;> rfl)) rfl <| Of ag (zb (hv := bs_eql)) rfl (by simp [sst, j1]) <| Of rfl Zp rfl rfl <| Of rfl sm rfl rfl <| Oa ag (zf (hv := fa_ok (k := 1) ty25 rfl rfl ty9 rfl rfl)) rfl <| Oa ag (zl (hv := by simp (disch := first | omega | simp only [nx]; omega) only [aLoad, ty9, rowOf, hpl, rcl, Value.cells] <;> rfl)) rfl <| Oa ag (zf (hv := fa_ok (k := 0) ty25 rfl rfl ty9 rfl rfl)) rfl <| Oa ag (zl (hv := by simp (disch := first | omega | simp only [nx]; omega) only [aLoad, ty9, rowOf, hpl, rcl, Value.cells] <;> rfl)) rfl <| Of ag (zb (hv := bs_neq)) rfl (by simp [sst, j2]) <| Of rfl Zp rfl rfl <| Of rfl sm rfl rfl <| Oa ag (zf (hv := fa_ok (k := 2) ty25 rfl rfl ty22 rfl rfl)) rfl <| Oa ag (zl (hv := by simp (disch := first | omega | simp only [nx]; omega) only [aLoad, ty22, rowOf, hpl, rcl, Value.cells] <;> rfl)) rfl <| Oa ag (zf (hv := fa_ok (k := 2) ty25 rfl rfl ty22 rfl rfl)) rfl <| Oa ag (zl (hv := by simp (disch := first | omega | simp only [nx]; omega) only [aLoad, ty22, rowOf, hpl, rcl, Value.cells] <;> rfl)) rfl <| Ot ag (zb (hv := bi_neq)) rfl (by simp [j3]) <| Ot rfl Zp rfl rfl <| On ?_
    refine Wy <| Wr <| Oa rfl (so_build (by simp only [aparts, lk] <;> rfl) (by simp only [aBuild, ty25, rcl, Value.cells, places, tb33] <;> rfl)) rfl <| Oa rfl (zs (hv := by simp (disch := first | omega | simp only [nx]; omega) only [aStore, ty25, writeRow, hpl, rcl, Value.cells] <;> rfl)) rfl <| Oa rfl za rfl <| On ?_
    refine CWp.ret <| SQ.ret <| FQ.ret (by simp (disch := first | omega | simp only [nx]; omega) only [aRet, Tryz.f33, aResults, aResult, lk, Nat.reduceEqDiff, reduceIte, aLoad, rowOf, hpl, rcl, Value.cells, places, tb33] <;> rfl) ?_
    exact bad (joinOK_no (.inr (.inr (.inr (.inr j3))))) _ (by simp only [nx]; omega) (fun z hz => by simp (disch := first | omega | simp only [nx]; omega) only [hpl])
  have j3 := Classical.not_not.1 j3
  have hok : joinOK a b = true := by simp only [joinOK, f1, f2, Bool.true_and, decide_eq_true_eq]; exact ⟨j1, j2, j3⟩
  refine W.enter tyOK Tryz.func33 rfl rfl ?_
  simp only [entry]
  refine Wr <| Oa rfl Zx rfl <| Oa rfl Zx rfl <| Oa rfl (so_alloc (by simp only [aAlloc, ty25] <;> rfl)) rfl <| Oa rfl za rfl <| On ?_
  refine W.seq <| Wr <| Oa rfl (zl (hv := by simp (disch := first | omega | simp only [nx]; omega) only [aLoad, ty25, rowOf, hpl, rcl, Value.cells] <;> rfl)) rfl <| OSuf.callD rfl (by simp only [aopnds, lk] <;> rfl) en14 (m1) rfl <| Of rfl (zb (hv := bi_neq)) rfl (rfl) <| Of rfl sm rfl rfl <| Oa ag (zl (hv := by simp (disch := first | omega | simp only [nx]; omega) only [aLoad, ty25, rowOf, hpl, rcl, Value.cells] <;> rfl)) rfl <| OSuf.callD ag (by simp only [aopnds, lk] <;> rfl) en14 (m2) rfl <| Of ag (zb (hv := bi_neq)) rfl (rfl) <| Of rfl Zp rfl rfl <| Of rfl sm rfl rfl <| Oa ag (zf (hv := fa_ok (k := 1) ty25 rfl rfl ty9 rfl rfl)) rfl <| Oa ag (zl (hv := by simp (disch := first | omega | simp only [nx]; omega) only [aLoad, ty9, rowOf, hpl, rcl, Value.cells] <;> rfl)) rfl <| Of ag (zb (hv := bs_eql)) rfl (by simp [sst, j1]) <| Of rfl Zp rfl rfl <| Of rfl sm rfl rfl <| Oa ag (zf (hv := fa_ok (k := 1) ty25 rfl rfl ty9 rfl rfl)) rfl <| Oa ag (zl (hv := by simp (disch := first | omega | simp only [nx]; omega) only [aLoad, ty9, rowOf, hpl, rcl, Value.cells] <;> rfl)) rfl <| Oa ag (zf (hv := fa_ok (k := 0) ty25 rfl rfl ty9 rfl rfl)) rfl <| Oa ag (zl (hv := by simp (disch := first | omega | simp only [nx]; omega) only [aLoad, ty9, rowOf, hpl, rcl, Value.cells] <;> rfl)) rfl <| Of ag (zb (hv := bs_neq)) rfl (by simp [sst, j2]) <| Of rfl Zp rfl rfl <| Of rfl sm rfl rfl <| Oa ag (zf (hv := fa_ok (k := 2) ty25 rfl rfl ty22 rfl rfl)) rfl <| Oa ag (zl (hv := by simp (disch := first | omega | simp only [nx]; omega) only [aLoad, ty22, rowOf, hpl, rcl, Value.cells] <;> rfl)) rfl <| Oa ag (zf (hv := fa_ok (k := 2) ty25 rfl rfl ty22 rfl rfl)) rfl <| Oa ag (zl (hv := by simp (disch := first | omega | simp only [nx]; omega) only [aLoad, ty22, rowOf, hpl, rcl, Value.cells] <;> rfl)) rfl <| Of ag (zb (hv := bi_neq)) rfl (by simp [j3]) <| Of rfl Zp rfl rfl <| On ?_
  refine Wn <| CWp.skip <| SQ.normal ?_
  refine Wr <| Oa rfl (zf (hv := fa_ok (k := 0) ty25 rfl rfl ty9 rfl rfl)) rfl <| Oa rfl (zl (hv := by simp (disch := first | omega | simp only [nx]; omega) only [aLoad, ty9, rowOf, hpl, rcl, Value.cells] <;> rfl)) rfl <| Oa rfl (zf (hv := fa_ok (k := 1) ty25 rfl rfl ty9 rfl rfl)) rfl <| Oa rfl (zl (hv := by simp (disch := first | omega | simp only [nx]; omega) only [aLoad, ty9, rowOf, hpl, rcl, Value.cells] <;> rfl)) rfl <| Oa rfl (zf (hv := fa_ok (k := 2) ty25 rfl rfl ty22 rfl rfl)) rfl <| Oa rfl (zl (hv := by simp (disch := first | omega | simp only [nx]; omega) only [aLoad, ty22, rowOf, hpl, rcl, Value.cells] <;> rfl)) rfl <| Oa rfl (so_build (by simp only [aparts, lk] <;> rfl) (by simp only [aBuild, ty25, rcl, Value.cells, places, tb33] <;> rfl)) rfl <| Oa rfl (so_alloc (by simp only [aAlloc, ty25] <;> rfl)) rfl <| Oa rfl (zs (hv := by simp (disch := first | omega | simp only [nx]; omega) only [aStore, ty25, writeRow, hpl, rcl, Value.cells] <;> rfl)) rfl <| On ?_
  obtain ⟨J, hJ⟩ : ∃ J, J = joinD a b [] := ⟨_, rfl⟩
  have eJ : ∀ x y : Value, lcs J x y = [encS a.low, encS b.high, U64 a.full, x, y] := fun x y => by rw [hJ]; rfl
  obtain ⟨G4, hG4⟩ : ∃ G4, G4 = (h3.new (.cells zlf 1)).set (h.next + 3) (LR J (.slice none 0 0) (.slice none 0 0)) := ⟨_, rfl⟩
  have n4 : G4.next = h.next + 4 := by rw [hG4]; simp only [nx]; omega
  have q4a : G4.get h.next = some (LR a (.slice b1 a.base.length c1) (.slice b2 a.deltas.length c2)) := by rw [hG4, hh3]; simp (disch := first | omega | simp only [nx]; omega) only [hpl]
  have q4b : G4.get (h.next + 1) = some (LR b (.slice b3 b.base.length c3) (.slice b4 b.deltas.length c4)) := by rw [hG4, hh3]; simp (disch := first | omega | simp only [nx]; omega) only [hpl]
  have q4z : G4.get (h.next + 2) = some (.cells zlf 1) := by rw [hG4, hh3]; simp (disch := first | omega | simp only [nx]; omega) only [hpl]
  have q4j : G4.get (h.next + 3) = some (LR J (.slice none 0 0) (.slice none 0 0)) := by rw [hG4]; exact Gp
  have old4 : ∀ z, z < h.next → G4.get z = h.get z := fun z hz => by rw [hG4, hh3]; simp (disch := first | omega | simp only [nx]; omega) only [hpl]
  have hG4' : G4 = (h3.new (.cells zlf 1)).set (h.next + 3) (.cells [encS a.low, encS b.high, U64 a.full, .slice none 0 0, .slice none 0 0] 1) := by rw [hG4, LR, eJ]
  rw [hh3] at hG4'
  show CWp _ _ _ _ (((((h.new (LR a (.slice b1 a.base.length c1) (.slice b2 a.deltas.length c2))).new (LR b (.slice b3 b.base.length c3) (.slice b4 b.deltas.length c4))).new (.cells zlf 1)).new (.cells zlf 1)).set (h.next + 3) (.cells [encS a.low, encS b.high, U64 a.full, .slice none 0 0, .slice none 0 0] 1)) _
  rw [← hG4']
  refine CWp.known (L := [(2, P0 h.next), (3, P0 (h.next + 1)), (4, P0 (h.next + 2)), (6, P0 (h.next + 3))]) ⟨(by simp only [lk] <;> rfl), (by simp only [lk] <;> rfl), (by simp only [lk] <;> rfl), (by simp only [lk] <;> rfl), trivial⟩ ?_
  simp only [mkA]
  have hr := recs0_c G4 a.base _ (ha.mono (by omega) old4) l1
  obtain ⟨H5, hH5⟩ : ∃ H5, H5 = rheap G4 a.base := ⟨_, rfl⟩
  have n5 := rheap_next G4 a.base
  have k5 : ∀ z, z < G4.next → H5.get z = G4.get z := fun z hz => by rw [hH5]; exact rheap_old _ _ z hz
  have sv5 := rval_sv G4 a.base
  rw [← hH5] at hr n5 sv5
  have hvl : vLen (rval G4 a.base) = a.base.length := sv_len sv5
  obtain ⟨v5, H6, ap1, sv6, n6, n6', k6, hrow, hvl2⟩ := ap_any sv5 (x := .slice b3 b.base.length c3) rfl (hb.cells fun z hz => by rw [k5 z (by omega)]; exact old4 z hz) (fl_length _) (fl_ones _) (by rw [hvl]; rw [List.length_append] at hl'; omega) (by omega)
  rw [← fl_app] at sv6
  obtain ⟨x5, ev5⟩ := sv_form sv6
  subst ev5
  have k46 : ∀ z, z < G4.next → H6.get z = G4.get z := fun z hz => by rw [k6 z (by omega) (fun e => by have := sv5.row e; omega), k5 z hz]
  have q5a : H5.get h.next = some (LR a (.slice b1 a.base.length c1) (.slice b2 a.deltas.length c2)) := by rw [k5 _ (by omega)]; exact q4a
  have q5b : H5.get (h.next + 1) = some (LR b (.slice b3 b.base.length c3) (.slice b4 b.deltas.length c4)) := by rw [k5 _ (by omega)]; exact q4b
  have q6a : H6.get h.next = some (LR a (.slice b1 a.base.length c1) (.slice b2 a.deltas.length c2)) := by rw [k46 _ (by omega)]; exact q4a
  have q6b : H6.get (h.next + 1) = some (LR b (.slice b3 b.base.length c3) (.slice b4 b.deltas.length c4)) := by rw [k46 _ (by omega)]; exact q4b
  have q6j : H6.get (h.next + 3) = some (LR J (.slice none 0 0) (.slice none 0 0)) := by rw [k46 _ (by omega)]; exact q4j
  refine W.seq <| CWp.sqd tyOK mixed (ms := [0, 1, 3, 0, 8, 31, 63, 127]) (by kernel_rfl) (
      .free rfl rfl (zf (hv := fa_ok (k := 3) ty25 rfl rfl ty23 rfl rfl)) rfl <| .read rfl rfl (zl (hv := by simp (disch := first | omega | simp only [nx]; omega) only [aLoad, ty23, rowOf, hpl, q4a, q4b, q5a, q5b, q6a, q6b, q6j, Value.cells] <;> rfl)) (by first | rfl | (simp [veq, veq1, veqs]; done) | (simp [veq, veq1, veqs, splice]; done)) trivial rfl <| .call rfl rfl (fcallO (by simp only [aopnds, lk] <;> rfl) en44 (hr)) rfl ⟨.inl rfl, trivial⟩ rfl <| .free rfl rfl (zf (hv := fa_ok (k := 3) ty25 rfl rfl ty23 rfl rfl)) rfl <| .read rfl rfl (zl (hv := by simp (disch := first | omega | simp only [nx]; omega) only [aLoad, ty23, rowOf, hpl, q4a, q4b, q5a, q5b, q6a, q6b, q6j, Value.cells] <;> rfl)) (by first | rfl | (simp [veq, veq1, veqs]; done) | (simp [veq, veq1, veqs, splice]; done)) ⟨.inr (zl (hv := by simp (disch := first | omega | simp only [nx]; omega) only [aLoad, ty23, rowOf, hpl, q4a, q4b, q5a, q5b, q6a, q6b, q6j, Value.cells] <;> rfl)), trivial⟩ rfl <| .change rfl rfl (so_append (by simp only [aopnds, lk] <;> rfl) (ap1 _ _ (by simp only [appT, ty23, ty27] <;> rfl) rfl (by decide))) rfl ⟨.inl rfl, .inl rfl, trivial⟩ rfl <| .free rfl rfl (zf (hv := fa_ok (k := 3) ty25 rfl rfl ty23 rfl rfl)) rfl <| .change rfl rfl (zs (hv := by simp (disch := first | omega | simp only [nx]; omega) only [aStore, ty23, writeRow, hpl, q4a, q4b, q5a, q5b, q6a, q6b, q6j, Value.cells] <;> rfl)) rfl ⟨.inl rfl, .inl rfl, trivial⟩ rfl <| .nil) <| SQ.normal ?_
  obtain ⟨H7, hH7⟩ : ∃ H7, H7 = H6.set (h.next + 3) (LR J (.slice x5 (a.base ++ b.base).length 0) (.slice none 0 0)) := ⟨_, rfl⟩
  show CWp _ _ _ _ (H6.set (h.next + 3) (LR J (.slice x5 (a.base ++ b.base).length 0) (.slice none 0 0))) _
  rw [← hH7]
  refine CWp.known (L := [(2, P0 h.next), (3, P0 (h.next + 1)), (4, P0 (h.next + 2)), (6, P0 (h.next + 3))]) ⟨(by simp only [lk] <;> rfl), (by simp only [lk] <;> rfl), (by simp only [lk] <;> rfl), (by simp only [lk] <;> rfl), trivial⟩ ?_
  simp only [mkA]
  have n7 : H7.next = H6.next := by rw [hH7]; rfl
  have k7 : ∀ z, ¬ z = h.next + 3 → H7.get z = H6.get z := fun z hz => by rw [hH7]; exact Gs (by omega)
  have q7a : H7.get h.next = some (LR a (.slice b1 a.base.length c1) (.slice b2 a.deltas.length c2)) := by rw [k7 _ (by omega)]; exact q6a
  have q7b : H7.get (h.next + 1) = some (LR b (.slice b3 b.base.length c3) (.slice b4 b.deltas.length c4)) := by rw [k7 _ (by omega)]; exact q6b
  have q7z : H7.get (h.next + 2) = some (.cells zlf 1) := by rw [k7 _ (by omega), k46 _ (by omega)]; exact q4z
  have q7j : H7.get (h.next + 3) = some (LR J (.slice x5 (a.base ++ b.base).length 0) (.slice none 0 0)) := by rw [hH7]; exact Gp
  have old7 : ∀ z, z < h.next → H7.get z = h.get z := fun z hz => by rw [k7 _ (by omega), k46 _ (by omega)]; exact old4 z hz
  have pA := (fits_of f1).2.2.1
  have pB := (fits_of f2).2.2.1
  refine Wr <| Oa rfl za rfl <| On ?_
  refine Wr <| Oa rfl za rfl <| On ?_
  refine W.seq <| ?_
  refine W.cut (fun L g => (∃ (ds : List Rec) (xd : Option Addr), ds.Perm (a.deltas ++ b.deltas) ∧ (ds.Pairwise fun x y => x.lsn ≤ y.lsn) ∧ SV g 4 H7.next (fl ds) (.slice xd ds.length 0) ∧ g.get (h.next + 3) = some (LR J (.slice x5 (a.base ++ b.base).length 0) (.slice xd ds.length 0))) ∧ H7.next ≤ g.next ∧ (∀ z, z < H7.next → ¬ z = h.next + 3 → g.get z = H7.get z) ∧ L = [(4, P0 (h.next + 2)), (6, P0 (h.next + 3))]) (W.block (W.loop (fun m L g => ∃ (i k : Nat) (ds : List Rec) (xd : Option Addr), m + (i + k) = a.deltas.length + b.deltas.length ∧ i ≤ a.deltas.length ∧ k ≤ b.deltas.length ∧ Mrg a.deltas b.deltas i k ds ∧ SV g 4 H7.next (fl ds) (.slice xd ds.length 0) ∧ g.get (h.next + 3) = some (LR J (.slice x5 (a.base ++ b.base).length 0) (.slice xd ds.length 0)) ∧ H7.next ≤ g.next ∧ (∀ z, z < H7.next → ¬ z = h.next + 3 → g.get z = H7.get z) ∧ L = [(2, P0 h.next), (3, P0 (h.next + 1)), (4, P0 (h.next + 2)), (6, P0 (h.next + 3)), (7, I64 i), (8, I64 k)]) (n := a.deltas.length + b.deltas.length) ⟨0, 0, [], none, rfl, Nat.zero_le _, Nat.zero_le _, ⟨by simp, .nil, by simp, by simp⟩, .nil, q7j, Nat.le_refl _, fun _ _ _ => rfl, rfl⟩ ?_ ?_)) ?_
  · simp [HasA, Tr.get_put]
  · rintro m L g ⟨i, k, ds, xd, hm, hi, hk, mg, sv, gj, gn, gk, rfl⟩
    simp only [mkA]
    have wi : IntKind.i64.wrap ((i : Int) + 1) = ((i + 1 : Nat) : Int) := by rw [wrap_i64 (by omega) (by omega)]; omega
    have wk : IntKind.i64.wrap ((k : Int) + 1) = ((k + 1 : Nat) : Int) := by rw [List.length_append] at hl; rw [wrap_i64 (by omega) (by omega)]; omega
    have ga : g.get h.next = some (LR a (.slice b1 a.base.length c1) (.slice b2 a.deltas.length c2)) := by rw [gk _ (by omega) (by omega)]; exact q7a
    have gb : g.get (h.next + 1) = some (LR b (.slice b3 b.base.length c3) (.slice b4 b.deltas.length c4)) := by rw [gk _ (by omega) (by omega)]; exact q7b
    have gold : ∀ z, z < h.next → g.get z = h.get z := fun z hz => by rw [gk z (by omega) (by omega)]; exact old7 z hz
    have hdl : ds.length = i + k := by
      have := mg.perm.length_eq
      rw [List.length_append, List.length_take, List.length_take] at this; omega
    have nxd : ∀ z, z < H7.next → ¬ svRow (.slice xd ds.length 0) = some z := fun z hz e => by have := sv.row e; omega
    by_cases ci : (i : Int) < (a.deltas.length : Int)
    · obtain ⟨x, hx⟩ : ∃ x, a.deltas[i]? = some x := ⟨a.deltas[i]'(by omega), by simp⟩
      obtain ⟨_, qa, oa, rfl, ra, hra⟩ := RS.at_ ha' hx
      have hc1 : (0 ≤ (i : Int) ∧ (i : Int) < (a.deltas.length : Int)) := by omega
      by_cases ck : (k : Int) < (b.deltas.length : Int)
      · obtain ⟨y, hy⟩ : ∃ y, b.deltas[k]? = some y := ⟨b.deltas[k]'(by omega), by simp⟩
        obtain ⟨_, qb, ob, rfl, rb, hrb⟩ := RS.at_ hb' hy
        have hc2 : (0 ≤ (k : Int) ∧ (k : Int) < (b.deltas.length : Int)) := by omega
        have ck1 : ((k : Int) == (b.deltas.length : Int)) = false := by simp; omega
        by_cases cl : x.lsn ≤ y.lsn
        · skip
          obtain ⟨v', G, a1, a2, a3, a4⟩ := sv_one sv x (by omega) (by omega)
          obtain ⟨xd', rfl, a5, a6⟩ : ∃ xd', v' = .slice xd' (ds ++ [x]).length 0 ∧ SV (G.set (h.next + 3) (LR J (.slice x5 (a.base ++ b.base).length 0) (.slice xd' (ds ++ [x]).length 0))) 4 H7.next (fl (ds ++ [x])) (.slice xd' (ds ++ [x]).length 0) ∧ ∀ z, z < H7.next → ¬ z = h.next + 3 → (G.set (h.next + 3) (LR J (.slice x5 (a.base ++ b.base).length 0) (.slice xd' (ds ++ [x]).length 0))).get z = H7.get z := by
            obtain ⟨xd', rfl⟩ := sv_form a2
            exact ⟨xd', rfl, a2.mono (by simp) (fun z hz he => Gs (by have := a2.row he; omega)), fun z hz h9 => by rw [Gs (by omega), a4 z (by omega) (nxd z hz)]; exact gk z hz h9⟩
          have Ga := (a4 _ (by omega) (nxd _ (by omega))).trans ga
          have Gb := (a4 _ (by omega) (nxd _ (by omega))).trans gb
          have Gj : G.get (h.next + 3) = some (LR J (.slice x5 (a.base ++ b.base).length 0) (.slice xd ds.length 0)) := by rw [a4 _ (by omega) (nxd _ (by omega))]; exact gj
          refine W.seq <| Wr <| Oa rfl sm rfl <| Oa rfl (zf (hv := fa_ok (k := 4) ty25 rfl rfl ty23 rfl rfl)) rfl <| Oa rfl (zl (hv := by simp (disch := first | omega | simp only [nx]; omega) only [aLoad, ty23, rowOf, hpl, ga, gb, gj, Ga, Gb, Gj, hc1, hc2, rcl, sb, Value.cells] <;> rfl)) rfl <| Oa rfl (Zn (hv := by simp (disch := first | omega | simp only [nx]; omega) only [aLenOf, ty23, hpl, ga, gb, gj, Ga, Gb, Gj, hc1, hc2, rcl, sb, Value.cells, places, tb33] <;> rfl)) rfl <| Ot rfl (zb (hv := bi_lss)) rfl (by first | rfl | assumption | ((simp only [bl, ga, gb, gj, Ga, Gb, Gj, hc1, hc2, rcl, sb, Value.cells, places, tb33]) <;> first | done | assumption | omega) | (simp; done) | (simp; omega)) <| Ot rfl sm rfl rfl <| Pa ag rfl <| Pa ag rfl <| Pa ag rfl <| Pa ag rfl <| Pa ag rfl <| Ot rfl Zp rfl rfl <| On ?_
          refine Wy <| CWp.skip <| SQ.normal ?_
          refine W.block <| Wd <| Sa rfl sm rfl <| Sa rfl (zf (hv := fa_ok (k := 4) ty25 rfl rfl ty23 rfl rfl)) rfl <| Sa rfl (zl (hv := by simp (disch := first | omega | simp only [nx]; omega) only [aLoad, ty23, rowOf, hpl, ga, gb, gj, Ga, Gb, Gj, hc1, hc2, rcl, sb, Value.cells] <;> rfl)) rfl <| Sa rfl (Zn (hv := by simp (disch := first | omega | simp only [nx]; omega) only [aLenOf, ty23, hpl, ga, gb, gj, Ga, Gb, Gj, hc1, hc2, rcl, sb, Value.cells, places, tb33] <;> rfl)) rfl <| Sf rfl (zb (hv := bi_eql)) rfl (ck1) <| Sf rfl sm rfl rfl <| Sa ag sm rfl <| Sa ag (zf (hv := fa_ok (k := 4) ty25 rfl rfl ty23 rfl rfl)) rfl <| Sa ag (zl (hv := by simp (disch := first | omega | simp only [nx]; omega) only [aLoad, ty23, rowOf, hpl, ga, gb, gj, Ga, Gb, Gj, hc1, hc2, rcl, sb, Value.cells] <;> rfl)) rfl <| Sa ag (Zn (hv := by simp (disch := first | omega | simp only [nx]; omega) only [aLenOf, ty23, hpl, ga, gb, gj, Ga, Gb, Gj, hc1, hc2, rcl, sb, Value.cells, places, tb33] <;> rfl)) rfl <| St ag (zb (hv := bi_lss)) rfl (by first | rfl | assumption | ((simp only [bl, ga, gb, gj, Ga, Gb, Gj, hc1, hc2, rcl, sb, Value.cells, places, tb33]) <;> first | done | assumption | omega) | (simp; done) | (simp; omega)) <| St ag sm rfl rfl <| Sa ag (zf (hv := fa_ok (k := 4) ty25 rfl rfl ty23 rfl rfl)) rfl <| Sa ag (zl (hv := by simp (disch := first | omega | simp only [nx]; omega) only [aLoad, ty23, rowOf, hpl, ga, gb, gj, Ga, Gb, Gj, hc1, hc2, rcl, sb, Value.cells] <;> rfl)) rfl <| Sa ag sm rfl <| Sa ag (zi (hv := by simp (disch := first | omega | simp only [nx]; omega) only [aIndexAddr, ty23, ty27, hpl, ga, gb, gj, Ga, Gb, Gj, hc1, hc2, rcl, sb, Value.cells, places, tb33] <;> rfl)) rfl <| Sa ag (zf (hv := fa_ok (k := 1) ty27 rfl rfl ty22 rfl rfl)) rfl <| Sa ag (zl (hv := (hra _ (gold _ ra)).2 1 _ _ _ ty22 rfl rfl)) rfl <| Sa ag (zf (hv := fa_ok (k := 4) ty25 rfl rfl ty23 rfl rfl)) rfl <| Sa ag (zl (hv := by simp (disch := first | omega | simp only [nx]; omega) only [aLoad, ty23, rowOf, hpl, ga, gb, gj, Ga, Gb, Gj, hc1, hc2, rcl, sb, Value.cells] <;> rfl)) rfl <| Sa ag sm rfl <| Sa ag (zi (hv := by simp (disch := first | omega | simp only [nx]; omega) only [aIndexAddr, ty23, ty27, hpl, ga, gb, gj, Ga, Gb, Gj, hc1, hc2, rcl, sb, Value.cells, places, tb33] <;> rfl)) rfl <| Sa ag (zf (hv := fa_ok (k := 1) ty27 rfl rfl ty22 rfl rfl)) rfl <| Sa ag (zl (hv := (hrb _ (gold _ rb)).2 1 _ _ _ ty22 rfl rfl)) rfl <| St ag (zb (hv := bi_leq)) rfl (by simp [cl]) <| St ag Zp rfl rfl <| St rfl Zp rfl rfl <| Sn ?_
          refine Wy <| W.seq <| CWp.sqd tyOK mixed (ms := [0, 1, 0, 4, 0, 28, 60, 124, 255, 511, 1023]) (by kernel_rfl) (
              .free rfl rfl (zf (hv := fa_ok (k := 4) ty25 rfl rfl ty23 rfl rfl)) rfl <| .read rfl rfl (zl (hv := by simp (disch := first | omega | simp only [nx]; omega) only [aLoad, ty23, rowOf, hpl, ga, gb, gj, Ga, Gb, Gj, hc1, hc2, rcl, sb, Value.cells] <;> rfl)) (by first | rfl | (simp [veq, veq1, veqs]; done) | (simp [veq, veq1, veqs, splice]; done)) trivial rfl <| .free rfl rfl (zf (hv := fa_ok (k := 4) ty25 rfl rfl ty23 rfl rfl)) rfl <| .read rfl rfl (zl (hv := by simp (disch := first | omega | simp only [nx]; omega) only [aLoad, ty23, rowOf, hpl, ga, gb, gj, Ga, Gb, Gj, hc1, hc2, rcl, sb, Value.cells] <;> rfl)) (by first | rfl | (simp [veq, veq1, veqs]; done) | (simp [veq, veq1, veqs, splice]; done)) trivial rfl <| .free rfl rfl sm rfl <| .free rfl rfl (zi (hv := by simp (disch := first | omega | simp only [nx]; omega) only [aIndexAddr, ty23, ty27, hpl, ga, gb, gj, Ga, Gb, Gj, hc1, hc2, rcl, sb, Value.cells, places, tb33] <;> rfl)) rfl <| .read rfl rfl (zl (hv := (show aLoad T _ _ _ = some (Value.agg #[encS x.key, U64 x.lsn, .bool x.del, encS x.val]) from (hra _ (by first | exact gold _ ra | (rw [Gn (by omega)]; exact gold _ ra))).1 _ _ ty27 rfl rfl))) (by first | rfl | (simp [veq, veq1, veqs]; done) | (simp [veq, veq1, veqs, splice]; done)) trivial rfl <| .change rfl rfl (so_buildSlice (by simp only [aparts, lk] <;> rfl) (by simp only [aBuildSlice, ty23, ty27, ga, gb, gj, Ga, Gb, Gj, hc1, hc2, rcl, sb, Value.cells, places, tb33] <;> rfl)) rfl ⟨.inl rfl, .inl rfl, .inr (zl (hv := by simp (disch := first | omega | simp only [nx]; omega) only [aLoad, ty23, rowOf, hpl, ga, gb, gj, Ga, Gb, Gj, hc1, hc2, rcl, sb, Value.cells] <;> rfl)), trivial⟩ rfl <| .change rfl rfl (so_append (by simp only [aopnds, lk] <;> rfl) (a1 _ _ (by simp only [appT, ty23, ty27] <;> rfl) rfl (by decide))) rfl ⟨.inl rfl, .inl rfl, .inl rfl, trivial⟩ rfl <| .free rfl rfl (zf (hv := fa_ok (k := 4) ty25 rfl rfl ty23 rfl rfl)) rfl <| .change rfl rfl (zs (hv := by simp (disch := first | omega | simp only [nx]; omega) only [aStore, ty23, writeRow, hpl, ga, gb, gj, Ga, Gb, Gj, hc1, hc2, rcl, sb, Value.cells] <;> rfl)) rfl ⟨.inl rfl, .inl rfl, .inl rfl, trivial⟩ rfl <| .nil) <| SQ.normal ?_
          refine W.reg <| Oa rfl sm rfl <| Oa rfl (zb (hv := bi_w bi_add (by first | (simp only [wi] <;> rfl) | rfl))) rfl <| Oa rfl za rfl <| OSuf.nil <| BQ.normal <| ?_
          refine LQ.normal (m := m - 1) (L := [(2, P0 h.next), (3, P0 (h.next + 1)), (4, P0 (h.next + 2)), (6, P0 (h.next + 3)), (7, I64 (i + 1 : Nat)), (8, I64 k)]) (by omega) ?_ ⟨i + 1, k, ds ++ [x], xd', by omega, by omega, by omega, mg.stepA pA hx (fun z hz => by rw [drop_cons' hy] at hz; rcases List.mem_cons.1 hz with rfl | hz; exact cl; exact Int.le_trans cl (rise_drop pB hy z hz)), a5, Gp, by simp only [nx]; omega, a6, rfl⟩
          simp only [HasA, Tr.get_put, Nat.reduceEqDiff, reduceIte, wi, and_self]
        · skip
          obtain ⟨v', G, a1, a2, a3, a4⟩ := sv_one sv y (by omega) (by omega)
          obtain ⟨xd', rfl, a5, a6⟩ : ∃ xd', v' = .slice xd' (ds ++ [y]).length 0 ∧ SV (G.set (h.next + 3) (LR J (.slice x5 (a.base ++ b.base).length 0) (.slice xd' (ds ++ [y]).length 0))) 4 H7.next (fl (ds ++ [y])) (.slice xd' (ds ++ [y]).length 0) ∧ ∀ z, z < H7.next → ¬ z = h.next + 3 → (G.set (h.next + 3) (LR J (.slice x5 (a.base ++ b.base).length 0) (.slice xd' (ds ++ [y]).length 0))).get z = H7.get z := by
            obtain ⟨xd', rfl⟩ := sv_form a2
            exact ⟨xd', rfl, a2.mono (by simp) (fun z hz he => Gs (by have := a2.row he; omega)), fun z hz h9 => by rw [Gs (by omega), a4 z (by omega) (nxd z hz)]; exact gk z hz h9⟩
          have Ga := (a4 _ (by omega) (nxd _ (by omega))).trans ga
          have Gb := (a4 _ (by omega) (nxd _ (by omega))).trans gb
          have Gj : G.get (h.next + 3) = some (LR J (.slice x5 (a.base ++ b.base).length 0) (.slice xd ds.length 0)) := by rw [a4 _ (by omega) (nxd _ (by omega))]; exact gj
          refine W.seq <| Wr <| Oa rfl sm rfl <| Oa rfl (zf (hv := fa_ok (k := 4) ty25 rfl rfl ty23 rfl rfl)) rfl <| Oa rfl (zl (hv := by simp (disch := first | omega | simp only [nx]; omega) only [aLoad, ty23, rowOf, hpl, ga, gb, gj, Ga, Gb, Gj, hc1, hc2, rcl, sb, Value.cells] <;> rfl)) rfl <| Oa rfl (Zn (hv := by simp (disch := first | omega | simp only [nx]; omega) only [aLenOf, ty23, hpl, ga, gb, gj, Ga, Gb, Gj, hc1, hc2, rcl, sb, Value.cells, places, tb33] <;> rfl)) rfl <| Ot rfl (zb (hv := bi_lss)) rfl (by first | rfl | assumption | ((simp only [bl, ga, gb, gj, Ga, Gb, Gj, hc1, hc2, rcl, sb, Value.cells, places, tb33]) <;> first | done | assumption | omega) | (simp; done) | (simp; omega)) <| Ot rfl sm rfl rfl <| Pa ag rfl <| Pa ag rfl <| Pa ag rfl <| Pa ag rfl <| Pa ag rfl <| Ot rfl Zp rfl rfl <| On ?_
          refine Wy <| CWp.skip <| SQ.normal ?_
          refine W.block <| Wd <| Sa rfl sm rfl <| Sa rfl (zf (hv := fa_ok (k := 4) ty25 rfl rfl ty23 rfl rfl)) rfl <| Sa rfl (zl (hv := by simp (disch := first | omega | simp only [nx]; omega) only [aLoad, ty23, rowOf, hpl, ga, gb, gj, Ga, Gb, Gj, hc1, hc2, rcl, sb, Value.cells] <;> rfl)) rfl <| Sa rfl (Zn (hv := by simp (disch := first | omega | simp only [nx]; omega) only [aLenOf, ty23, hpl, ga, gb, gj, Ga, Gb, Gj, hc1, hc2, rcl, sb, Value.cells, places, tb33] <;> rfl)) rfl <| Sf rfl (zb (hv := bi_eql)) rfl (ck1) <| Sf rfl sm rfl rfl <| Sa ag sm rfl <| Sa ag (zf (hv := fa_ok (k := 4) ty25 rfl rfl ty23 rfl rfl)) rfl <| Sa ag (zl (hv := by simp (disch := first | omega | simp only [nx]; omega) only [aLoad, ty23, rowOf, hpl, ga, gb, gj, Ga, Gb, Gj, hc1, hc2, rcl, sb, Value.cells] <;> rfl)) rfl <| Sa ag (Zn (hv := by simp (disch := first | omega | simp only [nx]; omega) only [aLenOf, ty23, hpl, ga, gb, gj, Ga, Gb, Gj, hc1, hc2, rcl, sb, Value.cells, places, tb33] <;> rfl)) rfl <| St ag (zb (hv := bi_lss)) rfl (by first | rfl | assumption | ((simp only [bl, ga, gb, gj, Ga, Gb, Gj, hc1, hc2, rcl, sb, Value.cells, places, tb33]) <;> first | done | assumption | omega) | (simp; done) | (simp; omega)) <| St ag sm rfl rfl <| Sa ag (zf (hv := fa_ok (k := 4) ty25 rfl rfl ty23 rfl rfl)) rfl <| Sa ag (zl (hv := by simp (disch := first | omega | simp only [nx]; omega) only [aLoad, ty23, rowOf, hpl, ga, gb, gj, Ga, Gb, Gj, hc1, hc2, rcl, sb, Value.cells] <;> rfl)) rfl <| Sa ag sm rfl <| Sa ag (zi (hv := by simp (disch := first | omega | simp only [nx]; omega) only [aIndexAddr, ty23, ty27, hpl, ga, gb, gj, Ga, Gb, Gj, hc1, hc2, rcl, sb, Value.cells, places, tb33] <;> rfl)) rfl <| Sa ag (zf (hv := fa_ok (k := 1) ty27 rfl rfl ty22 rfl rfl)) rfl <| Sa ag (zl (hv := (hra _ (gold _ ra)).2 1 _ _ _ ty22 rfl rfl)) rfl <| Sa ag (zf (hv := fa_ok (k := 4) ty25 rfl rfl ty23 rfl rfl)) rfl <| Sa ag (zl (hv := by simp (disch := first | omega | simp only [nx]; omega) only [aLoad, ty23, rowOf, hpl, ga, gb, gj, Ga, Gb, Gj, hc1, hc2, rcl, sb, Value.cells] <;> rfl)) rfl <| Sa ag sm rfl <| Sa ag (zi (hv := by simp (disch := first | omega | simp only [nx]; omega) only [aIndexAddr, ty23, ty27, hpl, ga, gb, gj, Ga, Gb, Gj, hc1, hc2, rcl, sb, Value.cells, places, tb33] <;> rfl)) rfl <| Sa ag (zf (hv := fa_ok (k := 1) ty27 rfl rfl ty22 rfl rfl)) rfl <| Sa ag (zl (hv := (hrb _ (gold _ rb)).2 1 _ _ _ ty22 rfl rfl)) rfl <| Sf ag (zb (hv := bi_leq)) rfl (by simp [cl]) <| Sf ag Zp rfl rfl <| Sf rfl Zp rfl rfl <| Sn ?_
          refine Wn <| W.seq <| CWp.sqd tyOK mixed (ms := [0, 1, 0, 4, 0, 28, 60, 124, 255, 511, 1023]) (by kernel_rfl) (
              .free rfl rfl (zf (hv := fa_ok (k := 4) ty25 rfl rfl ty23 rfl rfl)) rfl <| .read rfl rfl (zl (hv := by simp (disch := first | omega | simp only [nx]; omega) only [aLoad, ty23, rowOf, hpl, ga, gb, gj, Ga, Gb, Gj, hc1, hc2, rcl, sb, Value.cells] <;> rfl)) (by first | rfl | (simp [veq, veq1, veqs]; done) | (simp [veq, veq1, veqs, splice]; done)) trivial rfl <| .free rfl rfl (zf (hv := fa_ok (k := 4) ty25 rfl rfl ty23 rfl rfl)) rfl <| .read rfl rfl (zl (hv := by simp (disch := first | omega | simp only [nx]; omega) only [aLoad, ty23, rowOf, hpl, ga, gb, gj, Ga, Gb, Gj, hc1, hc2, rcl, sb, Value.cells] <;> rfl)) (by first | rfl | (simp [veq, veq1, veqs]; done) | (simp [veq, veq1, veqs, splice]; done)) trivial rfl <| .free rfl rfl sm rfl <| .free rfl rfl (zi (hv := by simp (disch := first | omega | simp only [nx]; omega) only [aIndexAddr, ty23, ty27, hpl, ga, gb, gj, Ga, Gb, Gj, hc1, hc2, rcl, sb, Value.cells, places, tb33] <;> rfl)) rfl <| .read rfl rfl (zl (hv := (show aLoad T _ _ _ = some (Value.agg #[encS y.key, U64 y.lsn, .bool y.del, encS y.val]) from (hrb _ (by first | exact gold _ rb | (rw [Gn (by omega)]; exact gold _ rb))).1 _ _ ty27 rfl rfl))) (by first | rfl | (simp [veq, veq1, veqs]; done) | (simp [veq, veq1, veqs, splice]; done)) trivial rfl <| .change rfl rfl (so_buildSlice (by simp only [aparts, lk] <;> rfl) (by simp only [aBuildSlice, ty23, ty27, ga, gb, gj, Ga, Gb, Gj, hc1, hc2, rcl, sb, Value.cells, places, tb33] <;> rfl)) rfl ⟨.inl rfl, .inl rfl, .inr (zl (hv := by simp (disch := first | omega | simp only [nx]; omega) only [aLoad, ty23, rowOf, hpl, ga, gb, gj, Ga, Gb, Gj, hc1, hc2, rcl, sb, Value.cells] <;> rfl)), trivial⟩ rfl <| .change rfl rfl (so_append (by simp only [aopnds, lk] <;> rfl) (a1 _ _ (by simp only [appT, ty23, ty27] <;> rfl) rfl (by decide))) rfl ⟨.inl rfl, .inl rfl, .inl rfl, trivial⟩ rfl <| .free rfl rfl (zf (hv := fa_ok (k := 4) ty25 rfl rfl ty23 rfl rfl)) rfl <| .change rfl rfl (zs (hv := by simp (disch := first | omega | simp only [nx]; omega) only [aStore, ty23, writeRow, hpl, ga, gb, gj, Ga, Gb, Gj, hc1, hc2, rcl, sb, Value.cells] <;> rfl)) rfl ⟨.inl rfl, .inl rfl, .inl rfl, trivial⟩ rfl <| .nil) <| SQ.normal ?_
          refine W.reg <| Oa rfl sm rfl <| Oa rfl (zb (hv := bi_w bi_add (by first | (simp only [wk] <;> rfl) | rfl))) rfl <| Oa rfl za rfl <| OSuf.nil <| BQ.normal <| ?_
          refine LQ.normal (m := m - 1) (L := [(2, P0 h.next), (3, P0 (h.next + 1)), (4, P0 (h.next + 2)), (6, P0 (h.next + 3)), (7, I64 i), (8, I64 (k + 1 : Nat))]) (by omega) ?_ ⟨i, k + 1, ds ++ [y], xd', by omega, by omega, by omega, mg.stepB pB hy (fun z hz => by rw [drop_cons' hx] at hz; rcases List.mem_cons.1 hz with rfl | hz; omega; have := rise_drop pA hx z hz; omega), a5, Gp, by simp only [nx]; omega, a6, rfl⟩
          simp only [HasA, Tr.get_put, Nat.reduceEqDiff, reduceIte, wk, and_self]
      · have ck1 : ((k : Int) == (b.deltas.length : Int)) = true := by simp; omega
        obtain ⟨v', G, a1, a2, a3, a4⟩ := sv_one sv x (by omega) (by omega)
        obtain ⟨xd', rfl, a5, a6⟩ : ∃ xd', v' = .slice xd' (ds ++ [x]).length 0 ∧ SV (G.set (h.next + 3) (LR J (.slice x5 (a.base ++ b.base).length 0) (.slice xd' (ds ++ [x]).length 0))) 4 H7.next (fl (ds ++ [x])) (.slice xd' (ds ++ [x]).length 0) ∧ ∀ z, z < H7.next → ¬ z = h.next + 3 → (G.set (h.next + 3) (LR J (.slice x5 (a.base ++ b.base).length 0) (.slice xd' (ds ++ [x]).length 0))).get z = H7.get z := by
          obtain ⟨xd', rfl⟩ := sv_form a2
          exact ⟨xd', rfl, a2.mono (by simp) (fun z hz he => Gs (by have := a2.row he; omega)), fun z hz h9 => by rw [Gs (by omega), a4 z (by omega) (nxd z hz)]; exact gk z hz h9⟩
        have Ga := (a4 _ (by omega) (nxd _ (by omega))).trans ga
        have Gb := (a4 _ (by omega) (nxd _ (by omega))).trans gb
        have Gj : G.get (h.next + 3) = some (LR J (.slice x5 (a.base ++ b.base).length 0) (.slice xd ds.length 0)) := by rw [a4 _ (by omega) (nxd _ (by omega))]; exact gj
        refine W.seq <| Wr <| Oa rfl sm rfl <| Oa rfl (zf (hv := fa_ok (k := 4) ty25 rfl rfl ty23 rfl rfl)) rfl <| Oa rfl (zl (hv := by simp (disch := first | omega | simp only [nx]; omega) only [aLoad, ty23, rowOf, hpl, ga, gb, gj, Ga, Gb, Gj, hc1, rcl, sb, Value.cells] <;> rfl)) rfl <| Oa rfl (Zn (hv := by simp (disch := first | omega | simp only [nx]; omega) only [aLenOf, ty23, hpl, ga, gb, gj, Ga, Gb, Gj, hc1, rcl, sb, Value.cells, places, tb33] <;> rfl)) rfl <| Ot rfl (zb (hv := bi_lss)) rfl (by first | rfl | assumption | ((simp only [bl, ga, gb, gj, Ga, Gb, Gj, hc1, rcl, sb, Value.cells, places, tb33]) <;> first | done | assumption | omega) | (simp; done) | (simp; omega)) <| Ot rfl sm rfl rfl <| Pa ag rfl <| Pa ag rfl <| Pa ag rfl <| Pa ag rfl <| Pa ag rfl <| Ot rfl Zp rfl rfl <| On ?_
        refine Wy <| CWp.skip <| SQ.normal ?_
        refine W.block <| Wd <| Sa rfl sm rfl <| Sa rfl (zf (hv := fa_ok (k := 4) ty25 rfl rfl ty23 rfl rfl)) rfl <| Sa rfl (zl (hv := by simp (disch := first | omega | simp only [nx]; omega) only [aLoad, ty23, rowOf, hpl, ga, gb, gj, Ga, Gb, Gj, hc1, rcl, sb, Value.cells] <;> rfl)) rfl <| Sa rfl (Zn (hv := by simp (disch := first | omega | simp only [nx]; omega) only [aLenOf, ty23, hpl, ga, gb, gj, Ga, Gb, Gj, hc1, rcl, sb, Value.cells, places, tb33] <;> rfl)) rfl <| St rfl (zb (hv := bi_eql)) rfl (ck1) <| St rfl sm rfl rfl <| Pb ag rfl <| Pb ag rfl <| Pb ag rfl <| Pb ag rfl <| Pb ag rfl <| Pb ag rfl <| Pb (aguard_un rfl rfl (by simp only [lk] <;> rfl)) rfl <| Pb (aguard_un rfl rfl (by simp only [lk] <;> rfl)) rfl <| Pb (aguard_un rfl rfl (by simp only [lk] <;> rfl)) rfl <| Pb (aguard_un rfl rfl (by simp only [lk] <;> rfl)) rfl <| Pb (aguard_un rfl rfl (by simp only [lk] <;> rfl)) rfl <| Pb (aguard_un rfl rfl (by simp only [lk] <;> rfl)) rfl <| Pb (aguard_un rfl rfl (by simp only [lk] <;> rfl)) rfl <| Pb (aguard_un rfl rfl (by simp only [lk] <;> rfl)) rfl <| Pb (aguard_un rfl rfl (by simp only [lk] <;> rfl)) rfl <| Pb (aguard_un rfl rfl (by simp only [lk] <;> rfl)) rfl <| Pb (aguard_un rfl rfl (by simp only [lk] <;> rfl)) rfl <| Pb (aguard_un rfl rfl (by simp only [lk] <;> rfl)) rfl <| Pb (aguard_un rfl rfl (by simp only [lk] <;> rfl)) rfl <| Pb ag rfl <| St rfl Zp rfl rfl <| Sn ?_
        refine Wy <| W.seq <| CWp.sqd tyOK mixed (ms := [0, 1, 0, 4, 0, 28, 60, 124, 255, 511, 1023]) (by kernel_rfl) (
            .free rfl rfl (zf (hv := fa_ok (k := 4) ty25 rfl rfl ty23 rfl rfl)) rfl <| .read rfl rfl (zl (hv := by simp (disch := first | omega | simp only [nx]; omega) only [aLoad, ty23, rowOf, hpl, ga, gb, gj, Ga, Gb, Gj, hc1, rcl, sb, Value.cells] <;> rfl)) (by first | rfl | (simp [veq, veq1, veqs]; done) | (simp [veq, veq1, veqs, splice]; done)) trivial rfl <| .free rfl rfl (zf (hv := fa_ok (k := 4) ty25 rfl rfl ty23 rfl rfl)) rfl <| .read rfl rfl (zl (hv := by simp (disch := first | omega | simp only [nx]; omega) only [aLoad, ty23, rowOf, hpl, ga, gb, gj, Ga, Gb, Gj, hc1, rcl, sb, Value.cells] <;> rfl)) (by first | rfl | (simp [veq, veq1, veqs]; done) | (simp [veq, veq1, veqs, splice]; done)) trivial rfl <| .free rfl rfl sm rfl <| .free rfl rfl (zi (hv := by simp (disch := first | omega | simp only [nx]; omega) only [aIndexAddr, ty23, ty27, hpl, ga, gb, gj, Ga, Gb, Gj, hc1, rcl, sb, Value.cells, places, tb33] <;> rfl)) rfl <| .read rfl rfl (zl (hv := (show aLoad T _ _ _ = some (Value.agg #[encS x.key, U64 x.lsn, .bool x.del, encS x.val]) from (hra _ (by first | exact gold _ ra | (rw [Gn (by omega)]; exact gold _ ra))).1 _ _ ty27 rfl rfl))) (by first | rfl | (simp [veq, veq1, veqs]; done) | (simp [veq, veq1, veqs, splice]; done)) trivial rfl <| .change rfl rfl (so_buildSlice (by simp only [aparts, lk] <;> rfl) (by simp only [aBuildSlice, ty23, ty27, ga, gb, gj, Ga, Gb, Gj, hc1, rcl, sb, Value.cells, places, tb33] <;> rfl)) rfl ⟨.inl rfl, .inl rfl, .inr (zl (hv := by simp (disch := first | omega | simp only [nx]; omega) only [aLoad, ty23, rowOf, hpl, ga, gb, gj, Ga, Gb, Gj, hc1, rcl, sb, Value.cells] <;> rfl)), trivial⟩ rfl <| .change rfl rfl (so_append (by simp only [aopnds, lk] <;> rfl) (a1 _ _ (by simp only [appT, ty23, ty27] <;> rfl) rfl (by decide))) rfl ⟨.inl rfl, .inl rfl, .inl rfl, trivial⟩ rfl <| .free rfl rfl (zf (hv := fa_ok (k := 4) ty25 rfl rfl ty23 rfl rfl)) rfl <| .change rfl rfl (zs (hv := by simp (disch := first | omega | simp only [nx]; omega) only [aStore, ty23, writeRow, hpl, ga, gb, gj, Ga, Gb, Gj, hc1, rcl, sb, Value.cells] <;> rfl)) rfl ⟨.inl rfl, .inl rfl, .inl rfl, trivial⟩ rfl <| .nil) <| SQ.normal ?_
        refine W.reg <| Oa rfl sm rfl <| Oa rfl (zb (hv := bi_w bi_add (by first | (simp only [wi] <;> rfl) | rfl))) rfl <| Oa rfl za rfl <| OSuf.nil <| BQ.normal <| ?_
        refine LQ.normal (m := m - 1) (L := [(2, P0 h.next), (3, P0 (h.next + 1)), (4, P0 (h.next + 2)), (6, P0 (h.next + 3)), (7, I64 (i + 1 : Nat)), (8, I64 k)]) (by omega) ?_ ⟨i + 1, k, ds ++ [x], xd', by omega, by omega, by omega, mg.stepA pA hx (fun z hz => by rw [List.drop_of_length_le (by omega)] at hz; cases hz), a5, Gp, by simp only [nx]; omega, a6, rfl⟩
        simp only [HasA, Tr.get_put, Nat.reduceEqDiff, reduceIte, wi, and_self]
    · by_cases ck : (k : Int) < (b.deltas.length : Int)
      · obtain ⟨y, hy⟩ : ∃ y, b.deltas[k]? = some y := ⟨b.deltas[k]'(by omega), by simp⟩
        obtain ⟨_, qb, ob, rfl, rb, hrb⟩ := RS.at_ hb' hy
        have hc2 : (0 ≤ (k : Int) ∧ (k : Int) < (b.deltas.length : Int)) := by omega
        have ck1 : ((k : Int) == (b.deltas.length : Int)) = false := by simp; omega
        obtain ⟨v', G, a1, a2, a3, a4⟩ := sv_one sv y (by omega) (by omega)
        obtain ⟨xd', rfl, a5, a6⟩ : ∃ xd', v' = .slice xd' (ds ++ [y]).length 0 ∧ SV (G.set (h.next + 3) (LR J (.slice x5 (a.base ++ b.base).length 0) (.slice xd' (ds ++ [y]).length 0))) 4 H7.next (fl (ds ++ [y])) (.slice xd' (ds ++ [y]).length 0) ∧ ∀ z, z < H7.next → ¬ z = h.next + 3 → (G.set (h.next + 3) (LR J (.slice x5 (a.base ++ b.base).length 0) (.slice xd' (ds ++ [y]).length 0))).get z = H7.get z := by
          obtain ⟨xd', rfl⟩ := sv_form a2
          exact ⟨xd', rfl, a2.mono (by simp) (fun z hz he => Gs (by have := a2.row he; omega)), fun z hz h9 => by rw [Gs (by omega), a4 z (by omega) (nxd z hz)]; exact gk z hz h9⟩
        have Ga := (a4 _ (by omega) (nxd _ (by omega))).trans ga
        have Gb := (a4 _ (by omega) (nxd _ (by omega))).trans gb
        have Gj : G.get (h.next + 3) = some (LR J (.slice x5 (a.base ++ b.base).length 0) (.slice xd ds.length 0)) := by rw [a4 _ (by omega) (nxd _ (by omega))]; exact gj
        refine W.seq <| Wr <| Oa rfl sm rfl <| Oa rfl (zf (hv := fa_ok (k := 4) ty25 rfl rfl ty23 rfl rfl)) rfl <| Oa rfl (zl (hv := by simp (disch := first | omega | simp only [nx]; omega) only [aLoad, ty23, rowOf, hpl, ga, gb, gj, Ga, Gb, Gj, hc2, rcl, sb, Value.cells] <;> rfl)) rfl <| Oa rfl (Zn (hv := by simp (disch := first | omega | simp only [nx]; omega) only [aLenOf, ty23, hpl, ga, gb, gj, Ga, Gb, Gj, hc2, rcl, sb, Value.cells, places, tb33] <;> rfl)) rfl <| Of rfl (zb (hv := bi_lss)) rfl (by first | rfl | assumption | ((simp only [bl, ga, gb, gj, Ga, Gb, Gj, hc2, rcl, sb, Value.cells, places, tb33]) <;> first | done | assumption | omega) | (simp; done) | (simp; omega)) <| Of rfl sm rfl rfl <| Oa ag sm rfl <| Oa ag (zf (hv := fa_ok (k := 4) ty25 rfl rfl ty23 rfl rfl)) rfl <| Oa ag (zl (hv := by simp (disch := first | omega | simp only [nx]; omega) only [aLoad, ty23, rowOf, hpl, ga, gb, gj, Ga, Gb, Gj, hc2, rcl, sb, Value.cells] <;> rfl)) rfl <| Oa ag (Zn (hv := by simp (disch := first | omega | simp only [nx]; omega) only [aLenOf, ty23, hpl, ga, gb, gj, Ga, Gb, Gj, hc2, rcl, sb, Value.cells, places, tb33] <;> rfl)) rfl <| Ot ag (zb (hv := bi_lss)) rfl (by first | rfl | assumption | ((simp only [bl, ga, gb, gj, Ga, Gb, Gj, hc2, rcl, sb, Value.cells, places, tb33]) <;> first | done | assumption | omega) | (simp; done) | (simp; omega)) <| Ot rfl Zp rfl rfl <| On ?_
        refine Wy <| CWp.skip <| SQ.normal ?_
        refine W.block <| Wd <| Sa rfl sm rfl <| Sa rfl (zf (hv := fa_ok (k := 4) ty25 rfl rfl ty23 rfl rfl)) rfl <| Sa rfl (zl (hv := by simp (disch := first | omega | simp only [nx]; omega) only [aLoad, ty23, rowOf, hpl, ga, gb, gj, Ga, Gb, Gj, hc2, rcl, sb, Value.cells] <;> rfl)) rfl <| Sa rfl (Zn (hv := by simp (disch := first | omega | simp only [nx]; omega) only [aLenOf, ty23, hpl, ga, gb, gj, Ga, Gb, Gj, hc2, rcl, sb, Value.cells, places, tb33] <;> rfl)) rfl <| Sf rfl (zb (hv := bi_eql)) rfl (ck1) <| Sf rfl sm rfl rfl <| Sa ag sm rfl <| Sa ag (zf (hv := fa_ok (k := 4) ty25 rfl rfl ty23 rfl rfl)) rfl <| Sa ag (zl (hv := by simp (disch := first | omega | simp only [nx]; omega) only [aLoad, ty23, rowOf, hpl, ga, gb, gj, Ga, Gb, Gj, hc2, rcl, sb, Value.cells] <;> rfl)) rfl <| Sa ag (Zn (hv := by simp (disch := first | omega | simp only [nx]; omega) only [aLenOf, ty23, hpl, ga, gb, gj, Ga, Gb, Gj, hc2, rcl, sb, Value.cells, places, tb33] <;> rfl)) rfl <| Sf ag (zb (hv := bi_lss)) rfl (by first | rfl | assumption | ((simp only [bl, ga, gb, gj, Ga, Gb, Gj, hc2, rcl, sb, Value.cells, places, tb33]) <;> first | done | assumption | omega) | (simp; done) | (simp; omega)) <| Sf ag sm rfl rfl <| Pb ag rfl <| Pb ag rfl <| Pb ag rfl <| Pb ag rfl <| Pb ag rfl <| Pb ag rfl <| Pb ag rfl <| Pb ag rfl <| Pb ag rfl <| Pb ag rfl <| Pb ag rfl <| Pb ag rfl <| Pb ag rfl <| Sf ag Zp rfl rfl <| Sf rfl Zp rfl rfl <| Sn ?_
        refine Wn <| W.seq <| CWp.sqd tyOK mixed (ms := [0, 1, 0, 4, 0, 28, 60, 124, 255, 511, 1023]) (by kernel_rfl) (
            .free rfl rfl (zf (hv := fa_ok (k := 4) ty25 rfl rfl ty23 rfl rfl)) rfl <| .read rfl rfl (zl (hv := by simp (disch := first | omega | simp only [nx]; omega) only [aLoad, ty23, rowOf, hpl, ga, gb, gj, Ga, Gb, Gj, hc2, rcl, sb, Value.cells] <;> rfl)) (by first | rfl | (simp [veq, veq1, veqs]; done) | (simp [veq, veq1, veqs, splice]; done)) trivial rfl <| .free rfl rfl (zf (hv := fa_ok (k := 4) ty25 rfl rfl ty23 rfl rfl)) rfl <| .read rfl rfl (zl (hv := by simp (disch := first | omega | simp only [nx]; omega) only [aLoad, ty23, rowOf, hpl, ga, gb, gj, Ga, Gb, Gj, hc2, rcl, sb, Value.cells] <;> rfl)) (by first | rfl | (simp [veq, veq1, veqs]; done) | (simp [veq, veq1, veqs, splice]; done)) trivial rfl <| .free rfl rfl sm rfl <| .free rfl rfl (zi (hv := by simp (disch := first | omega | simp only [nx]; omega) only [aIndexAddr, ty23, ty27, hpl, ga, gb, gj, Ga, Gb, Gj, hc2, rcl, sb, Value.cells, places, tb33] <;> rfl)) rfl <| .read rfl rfl (zl (hv := (show aLoad T _ _ _ = some (Value.agg #[encS y.key, U64 y.lsn, .bool y.del, encS y.val]) from (hrb _ (by first | exact gold _ rb | (rw [Gn (by omega)]; exact gold _ rb))).1 _ _ ty27 rfl rfl))) (by first | rfl | (simp [veq, veq1, veqs]; done) | (simp [veq, veq1, veqs, splice]; done)) trivial rfl <| .change rfl rfl (so_buildSlice (by simp only [aparts, lk] <;> rfl) (by simp only [aBuildSlice, ty23, ty27, ga, gb, gj, Ga, Gb, Gj, hc2, rcl, sb, Value.cells, places, tb33] <;> rfl)) rfl ⟨.inl rfl, .inl rfl, .inr (zl (hv := by simp (disch := first | omega | simp only [nx]; omega) only [aLoad, ty23, rowOf, hpl, ga, gb, gj, Ga, Gb, Gj, hc2, rcl, sb, Value.cells] <;> rfl)), trivial⟩ rfl <| .change rfl rfl (so_append (by simp only [aopnds, lk] <;> rfl) (a1 _ _ (by simp only [appT, ty23, ty27] <;> rfl) rfl (by decide))) rfl ⟨.inl rfl, .inl rfl, .inl rfl, trivial⟩ rfl <| .free rfl rfl (zf (hv := fa_ok (k := 4) ty25 rfl rfl ty23 rfl rfl)) rfl <| .change rfl rfl (zs (hv := by simp (disch := first | omega | simp only [nx]; omega) only [aStore, ty23, writeRow, hpl, ga, gb, gj, Ga, Gb, Gj, hc2, rcl, sb, Value.cells] <;> rfl)) rfl ⟨.inl rfl, .inl rfl, .inl rfl, trivial⟩ rfl <| .nil) <| SQ.normal ?_
        refine W.reg <| Oa rfl sm rfl <| Oa rfl (zb (hv := bi_w bi_add (by first | (simp only [wk] <;> rfl) | rfl))) rfl <| Oa rfl za rfl <| OSuf.nil <| BQ.normal <| ?_
        refine LQ.normal (m := m - 1) (L := [(2, P0 h.next), (3, P0 (h.next + 1)), (4, P0 (h.next + 2)), (6, P0 (h.next + 3)), (7, I64 i), (8, I64 (k + 1 : Nat))]) (by omega) ?_ ⟨i, k + 1, ds ++ [y], xd', by omega, by omega, by omega, mg.stepB pB hy (fun z hz => by rw [List.drop_of_length_le (by omega)] at hz; cases hz), a5, Gp, by simp only [nx]; omega, a6, rfl⟩
        simp only [HasA, Tr.get_put, Nat.reduceEqDiff, reduceIte, wk, and_self]
      · refine W.seq <| Wr <| Oa rfl sm rfl <| Oa rfl (zf (hv := fa_ok (k := 4) ty25 rfl rfl ty23 rfl rfl)) rfl <| Oa rfl (zl (hv := by simp (disch := first | omega | simp only [nx]; omega) only [aLoad, ty23, rowOf, hpl, ga, gb, gj, Value.cells] <;> rfl)) rfl <| Oa rfl (Zn (hv := by simp (disch := first | omega | simp only [nx]; omega) only [aLenOf, ty23, hpl, ga, gb, gj, Value.cells, places, tb33] <;> rfl)) rfl <| Of rfl (zb (hv := bi_lss)) rfl (by first | rfl | assumption | ((simp only [bl, ga, gb, gj, Value.cells, places, tb33]) <;> first | done | assumption | omega) | (simp; done) | (simp; omega)) <| Of rfl sm rfl rfl <| Oa ag sm rfl <| Oa ag (zf (hv := fa_ok (k := 4) ty25 rfl rfl ty23 rfl rfl)) rfl <| Oa ag (zl (hv := by simp (disch := first | omega | simp only [nx]; omega) only [aLoad, ty23, rowOf, hpl, ga, gb, gj, Value.cells] <;> rfl)) rfl <| Oa ag (Zn (hv := by simp (disch := first | omega | simp only [nx]; omega) only [aLenOf, ty23, hpl, ga, gb, gj, Value.cells, places, tb33] <;> rfl)) rfl <| Of ag (zb (hv := bi_lss)) rfl (by first | rfl | assumption | ((simp only [bl, ga, gb, gj, Value.cells, places, tb33]) <;> first | done | assumption | omega) | (simp; done) | (simp; omega)) <| Of rfl Zp rfl rfl <| On ?_
        refine Wn <| CWp.exit <| SQ.exit <| LQ.exit <| BQ.exit <| ?_
        refine NQ.normal (L := [(4, P0 (h.next + 2)), (6, P0 (h.next + 3))]) ?_ ⟨⟨ds, xd, ?_, mg.pw, sv, gj⟩, gn, gk, rfl⟩
        · simp only [HasA, Tr.get_put, Nat.reduceEqDiff, reduceIte, and_self]
        · have := mg.perm
          rw [List.take_of_length_le (by omega), List.take_of_length_le (by omega)] at this
          exact this
  rintro L a' g ha ⟨⟨ds, xd, d1, d2, sv, gj⟩, gn, gk, rfl⟩
  have gz : g.get (h.next + 2) = some (.cells zlf 1) := by rw [gk _ (by omega) (by omega)]; exact q7z
  have gold : ∀ z, z < h.next → g.get z = h.get z := fun z hz => by rw [gk z (by omega) (by omega)]; exact old7 z hz
  have gj' : g.get (h.next + 3) = some (LR (joinD a b ds) (.slice x5 (a.base ++ b.base).length 0) (.slice xd ds.length 0)) := by rw [gj, hJ]; rfl
  have sb6 : SV g 4 G4.next (fl (a.base ++ b.base)) (.slice x5 (a.base ++ b.base).length 0) := (sv6.mono (h' := H7) (by omega) (fun z hz he => k7 z (by have := sv6.row he; omega))).mono (by omega) (fun z hz he => gk z (by omega) (by have := sv6.row he; omega))
  have lbj : LB (joinD a b ds) := ⟨lba.low, lbb.high, fun r hr => by
    rcases List.mem_append.1 hr with hr | hr
    · rcases List.mem_append.1 hr with hr | hr
      · exact lba.ky r (List.mem_append.2 (.inl hr))
      · exact lbb.ky r (List.mem_append.2 (.inl hr))
    · rcases List.mem_append.1 (d1.mem_iff.1 hr) with hr | hr
      · exact lba.ky r (List.mem_append.2 (.inr hr))
      · exact lbb.ky r (List.mem_append.2 (.inr hr))⟩
  have hck := check0_c g (joinD a b ds) (.slice x5 (a.base ++ b.base).length 0) (.slice xd ds.length 0) (sv_rs sb6) (sv_rs sv) hl' (by show ds.length ≤ _; rw [d1.length_eq]; exact hl) lbj
  cases hc : chk (joinD a b ds) with
  | false =>
    rw [if_neg (by rw [hc]; decide)] at hck
    refine SQ.normal <| CWp.known ha ?_
    simp only [mkA]
    refine W.seq <| Wr <| Oa rfl (zl (hv := by simp (disch := first | omega | simp only [nx]; omega) only [aLoad, ty25, rowOf, hpl, gj', gz, rcl, Value.cells] <;> rfl)) rfl <| OSuf.callD rfl (by simp only [aopnds, lk] <;> rfl) en14 (hck) rfl <| Ot rfl (zb (hv := bi_neq)) rfl (rfl) <| On ?_
    refine Wy <| Wr <| Oa rfl (so_build (by simp only [aparts, lk] <;> rfl) (by simp only [aBuild, ty25, gj', gz, rcl, Value.cells, places, tb33] <;> rfl)) rfl <| Oa rfl (zs (hv := by simp (disch := first | omega | simp only [nx]; omega) only [aStore, ty25, writeRow, hpl, gj', gz, rcl, Value.cells] <;> rfl)) rfl <| Oa rfl za rfl <| On ?_
    refine CWp.ret <| SQ.ret <| FQ.ret (by simp (disch := first | omega | simp only [nx]; omega) only [aRet, Tryz.f33, aResults, aResult, lk, Nat.reduceEqDiff, reduceIte, aLoad, rowOf, hpl, gj', gz, rcl, Value.cells, places, tb33] <;> rfl) ?_
    exact ⟨by simp only [nx]; omega, fun z hz => by simp (disch := first | omega | simp only [nx]; omega) only [hpl]; exact gold z hz, .inr ⟨.inr ⟨ds, d1, d2, hc⟩, rfl⟩⟩
  | true =>
    rw [if_pos hc] at hck
    refine SQ.normal <| CWp.known ha ?_
    simp only [mkA]
    refine W.seq <| Wr <| Oa rfl (zl (hv := by simp (disch := first | omega | simp only [nx]; omega) only [aLoad, ty25, rowOf, hpl, gj', gz, rcl, Value.cells] <;> rfl)) rfl <| OSuf.callD rfl (by simp only [aopnds, lk] <;> rfl) en14 (hck) rfl <| Of rfl (zb (hv := bi_neq)) rfl (rfl) <| On ?_
    refine Wn <| CWp.skip <| SQ.normal ?_
    refine Wr <| Oa rfl (zl (hv := by simp (disch := first | omega | simp only [nx]; omega) only [aLoad, ty25, rowOf, hpl, gj', gz, rcl, Value.cells] <;> rfl)) rfl <| Oa rfl (zs (hv := by simp (disch := first | omega | simp only [nx]; omega) only [aStore, ty25, writeRow, hpl, gj', gz, rcl, Value.cells] <;> rfl)) rfl <| Oa rfl za rfl <| On ?_
    refine CWp.ret <| FQ.ret (by simp (disch := first | omega | simp only [nx]; omega) only [aRet, Tryz.f33, aResults, aResult, lk, Nat.reduceEqDiff, reduceIte, aLoad, rowOf, hpl, gj', gz, rcl, Value.cells, places, tb33] <;> rfl) ?_
    refine ⟨by simp only [nx]; omega, fun z hz => by simp (disch := first | omega | simp only [nx]; omega) only [hpl]; exact gold z hz, .inl ⟨hok, ds, _, d1, d2, hc, rfl, ⟨x5, 0, xd, 0, rfl, ?_, ?_⟩⟩⟩
    · exact (sv_rsl sb6).mono (by omega) (by simp only [nx]; omega) (fun z h8 h9 => by simp (disch := first | omega | simp only [nx]; omega) only [hpl])
    · exact (sv_rsl sv).mono (by omega) (by simp only [nx]; omega) (fun z h8 h9 => by simp (disch := first | omega | simp only [nx]; omega) only [hpl])
end Go.Proofs.YtebheelmgcggmaaGreat
namespace Go.Proofs.YtebheelmgcggmaaGreat
open Go.Ab Go.Sort
theorem join_g (h : AHeap) (a b : Lf) (av aw bv bw : Value) (ha : RS h a.base av) (ha' : RS h a.deltas aw) (hb : RS h b.base bv) (hb' : RS h b.deltas bw) (l1 : a.base.length ≤ 1000000) (l2 : a.deltas.length ≤ 1000000) (l3 : b.base.length ≤ 1000000) (l4 : b.deltas.length ≤ 1000000) (hl : (a.deltas ++ b.deltas).length ≤ 1000000) (hl' : (a.base ++ b.base).length ≤ 1000000) :
    FWp Tryz.prog 32 [LV a av aw, LV b bv bw] h fun u g => JoinPost h a b u g := by
  have tb32 := And.intro ty22 (And.intro ty23 (And.intro ty25 (And.intro ty9 (ty95))))
  obtain ⟨b1, c1, rfl⟩ := ha.form
  obtain ⟨b2, c2, rfl⟩ := ha'.form
  obtain ⟨b3, c3, rfl⟩ := hb.form
  obtain ⟨b4, c4, rfl⟩ := hb'.form
  obtain ⟨h3, hh3⟩ : ∃ h3, h3 = ((h.new (LR a (.slice b1 a.base.length c1) (.slice b2 a.deltas.length c2))).new (LR b (.slice b3 b.base.length c3) (.slice b4 b.deltas.length c4))).new (.cells zlf 1) := ⟨_, rfl⟩
  have e3 : h3.next = h.next + 3 := by rw [hh3]; rfl
  have k3 : ∀ z, z < h.next → h3.get z = h.get z := fun z hz => by rw [hh3]; simp (disch := first | omega | simp only [nx]; omega) only [hpl]
  have m1 := may'_c h3 a _ _ (ha.mono (by omega) k3) (ha'.mono (by omega) k3) l1 l2
  have m2 := may'_c h3 b _ _ (hb.mono (by omega) k3) (hb'.mono (by omega) k3) l3 l4
  have bad : joinOK a b = false → ∀ g : AHeap, h.next ≤ g.next → (∀ z, z < h.next → g.get z = h.get z) → JoinPost h a b (.tuple #[LV0, I64 2]) g := fun h1 g h2 h3 => ⟨h2, h3, .inr ⟨.inl h1, rfl⟩⟩
  cases f1 : chk a with
  | false =>
    rw [f1] at m1
    refine W.enter tyOK Tryz.func32 rfl rfl ?_
    simp only [entry]
    refine Wr <| Oa rfl Zx rfl <| Oa rfl Zx rfl <| Oa rfl (so_alloc (by simp only [aAlloc, ty25] <;> rfl)) rfl <| Oa rfl za rfl <| On ?_
    refine W.seq <| Wr <| Oa rfl (zl (hv := by simp (disch := first | omega | simp only [nx]; omega) only [aLoad, ty25, rowOf, hpl, rcl, Value.cells] <;> rfl)) rfl <| OSuf.callD rfl (by simp only [aopnds, lk] <;> rfl) en37 ((by rw [hh3] at m1; exact m1)) rfl <| Ot rfl Zt rfl rfl <| Ot rfl sm rfl rfl <| Pa ag rfl <| Pa ag rfl <| Pa ag rfl <| Ot rfl Zp rfl rfl <| Ot rfl sm rfl rfl <| Pa ag rfl <| Pa ag rfl <| Pa ag rfl <| Ot rfl Zp rfl rfl <| Ot rfl sm rfl rfl <| Pa ag rfl <| Pa ag rfl <| Pa ag rfl <| Pa ag rfl <| Pa ag rfl <| Ot rfl Zp rfl rfl <| Ot rfl sm rfl rfl <| Pa ag rfl <| Pa ag rfl <| Pa ag rfl <| Pa ag rfl <| Pa ag rfl <| Ot rfl Zp rfl rfl <| On ?_
    refine Wy <| Wr <| Oa rfl (so_build (by simp only [aparts, lk] <;> rfl) (by simp only [aBuild, ty25, rcl, Value.cells, places, tb32] <;> rfl)) rfl <| Oa rfl (zs (hv := by simp (disch := first | omega | simp only [nx]; omega) only [aStore, ty25, writeRow, hpl, rcl, Value.cells] <;> rfl)) rfl <| Oa rfl za rfl <| On ?_
    refine CWp.ret <| SQ.ret <| FQ.ret (by simp (disch := first | omega | simp only [nx]; omega) only [aRet, Tryz.f32, aResults, aResult, lk, Nat.reduceEqDiff, reduceIte, aLoad, rowOf, hpl, rcl, Value.cells, places, tb32] <;> rfl) ?_
    exact bad (joinOK_no (.inl f1)) _ (by simp only [nx]; omega) (fun z hz => by simp (disch := first | omega | simp only [nx]; omega) only [hpl])
  | true =>
  rw [f1] at m1
  cases f2 : chk b with
  | false =>
    rw [f2] at m2
    refine W.enter tyOK Tryz.func32 rfl rfl ?_
    simp only [entry]
    refine Wr <| Oa rfl Zx rfl <| Oa rfl Zx rfl <| Oa rfl (so_alloc (by simp only [aAlloc, ty25] <;> rfl)) rfl <| Oa rfl za rfl <| On ?_
    refine W.seq <| Wr <| Oa rfl (zl (hv := by simp (disch := first | omega | simp only [nx]; omega) only [aLoad, ty25, rowOf, hpl, rcl, Value.cells] <;> rfl)) rfl <| OSuf.callD rfl (by simp only [aopnds, lk] <;> rfl) en37 ((by rw [hh3] at m1; exact m1)) rfl <| Of rfl Zt rfl rfl <| Of rfl sm rfl rfl <| Oa ag (zl (hv := by simp (disch := first | omega | simp only [nx]; omega) only [aLoad, ty25, rowOf, hpl, rcl, Value.cells] <;> rfl)) rfl <| OSuf.callD ag (by simp only [aopnds, lk] <;> rfl) en37 ((by rw [hh3] at m2; exact m2)) rfl <| Ot ag Zt rfl rfl <| Ot rfl Zp rfl rfl <| Ot rfl sm rfl rfl <| Pa ag rfl <| Pa ag rfl <| Pa ag rfl <| Ot rfl Zp rfl rfl <| Ot rfl sm rfl rfl <| Pa ag rfl <| Pa ag rfl <| Pa ag rfl <| Pa ag rfl <| Pa ag rfl <| Ot rfl Zp rfl rfl <| Ot rfl sm rfl rfl <| Pa ag rfl <| Pa ag rfl <| Pa ag rfl <| Pa ag rfl <| Pa ag rfl <| Ot rfl Zp rfl rfl <| On ?_
    refine Wy <| Wr <| Oa rfl (so_build (by simp only [aparts, lk] <;> rfl) (by simp only [aBuild, ty25, rcl, Value.cells, places, tb32] <;> rfl)) rfl <| Oa rfl (zs (hv := by simp (disch := first | omega | simp only [nx]; omega) only [aStore, ty25, writeRow, hpl, rcl, Value.cells] <;> rfl)) rfl <| Oa rfl za rfl <| On ?_
    refine CWp.ret <| SQ.ret <| FQ.ret (by simp (disch := first | omega | simp only [nx]; omega) only [aRet, Tryz.f32, aResults, aResult, lk, Nat.reduceEqDiff, reduceIte, aLoad, rowOf, hpl, rcl, Value.cells, places, tb32] <;> rfl) ?_
    exact bad (joinOK_no (.inr (.inl f2))) _ (by simp only [nx]; omega) (fun z hz => by simp (disch := first | omega | simp only [nx]; omega) only [hpl])
  | true =>
  rw [f2] at m2
  by_cases j1 : a.high = []
  · refine W.enter tyOK Tryz.func32 rfl rfl ?_
    simp only [entry]
    refine Wr <| Oa rfl Zx rfl <| Oa rfl Zx rfl <| Oa rfl (so_alloc (by simp only [aAlloc, ty25] <;> rfl)) rfl <| Oa rfl za rfl <| On ?_
    refine W.seq <| Wr <| Oa rfl (zl (hv := by simp (disch := first | omega | simp only [nx]; omega) only [aLoad, ty25, rowOf, hpl, rcl, Value.cells] <;> rfl)) rfl <| OSuf.callD rfl (by simp only [aopnds, lk] <;> rfl) en37 ((by rw [hh3] at m1; exact m1)) rfl <| Of rfl Zt rfl rfl <| Of rfl sm rfl rfl <| Oa ag (zl (hv := by simp (disch := first | omega | simp only [nx]; omega) only [aLoad, ty25, rowOf, hpl, rcl, Value.cells] <;> rfl)) rfl <| OSuf.callD ag (by simp only [aopnds, lk] <;> rfl) en37 ((by rw [hh3] at m2; exact m2)) rfl <| Of ag Zt rfl rfl <| Of rfl Zp rfl rfl <| Of rfl sm rfl rfl <| Oa ag (zf (hv := fa_ok (k := 1) ty25 rfl rfl ty9 rfl rfl)) rfl <| Oa ag (zl (hv := by simp (disch := first | omega | simp only [nx]; omega) only [aLoad, ty9, rowOf, hpl, rcl, Value.cells] <;> rfl)) rfl <| Ot ag (zb (hv := bs_eql)) rfl (by simp [sst, j1]) <| Ot rfl Zp rfl rfl <| Ot rfl sm rfl rfl <| Pa ag rfl <| Pa ag rfl <| Pa ag rfl <| Pa ag rfl <| Pa ag rfl <| Ot rfl Zp rfl rfl <| Ot rfl sm rfl rfl <| Pa ag rfl <| Pa ag rfl <| Pa ag rfl <| Pa ag rfl <| Pa ag rfl <| Ot rfl Zp rfl rfl <| On ?_
    refine Wy <| Wr <| Oa rfl (so_build (by simp only [aparts, lk] <;> rfl) (by simp only [aBuild, ty25, rcl, Value.cells, places, tb32] <;> rfl)) rfl <| Oa rfl (zs (hv := by simp (disch := first | omega | simp only [nx]; omega) only [aStore, ty25, writeRow, hpl, rcl, Value.cells] <;> rfl)) rfl <| Oa rfl za rfl <| On ?_
    refine CWp.ret <| SQ.ret <| FQ.ret (by simp (disch := first | omega | simp only [nx]; omega) only [aRet, Tryz.f32, aResults, aResult, lk, Nat.reduceEqDiff, reduceIte, aLoad, rowOf, hpl, rcl, Value.cells, places, tb32] <;> rfl) ?_
    exact bad (joinOK_no (.inr (.inr (.inl j1)))) _ (by simp only [nx]; omega) (fun z hz => by simp (disch := first | omega | simp only [nx]; omega) only [hpl])
  by_cases j2 : ¬ a.high = b.low
  · refine W.enter tyOK Tryz.func32 rfl rfl ?_
    simp only [entry]
    refine Wr <| Oa rfl Zx rfl <| Oa rfl Zx rfl <| Oa rfl (so_alloc (by simp only [aAlloc, ty25] <;> rfl)) rfl <| Oa rfl za rfl <| On ?_
    refine W.seq <| Wr <| Oa rfl (zl (hv := by simp (disch := first | omega | simp only [nx]; omega) only [aLoad, ty25, rowOf, hpl, rcl, Value.cells] <;> rfl)) rfl <| OSuf.callD rfl (by simp only [aopnds, lk] <;> rfl) en37 ((by rw [hh3] at m1; exact m1)) rfl <| Of rfl Zt rfl rfl <| Of rfl sm rfl rfl <| Oa ag (zl (hv := by simp (disch := first | omega | simp only [nx]; omega) only [aLoad, ty25, rowOf, hpl, rcl, Value.cells] <;> rfl)) rfl <| OSuf.callD ag (by simp only [aopnds, lk] <;> rfl) en37 ((by rw [hh3] at m2; exact m2)) rfl <| Of ag Zt rfl rfl <| Of rfl Zp rfl rfl <| Of rfl sm rfl rfl <| Oa ag (zf (hv := fa_ok (k := 1) ty25 rfl rfl ty9 rfl rfl)) rfl <| Oa ag (zl (hv := by simp (disch := first | omega | simp only [nx]; omega) only [aLoad, ty9, rowOf, hpl, rcl, Value.cells] <;> rfl)) rfl <| Of ag (zb (hv := bs_eql)) rfl (by simp [sst, j1]) <| Of rfl Zp rfl rfl <| Of rfl sm rfl rfl <| Oa ag (zf (hv := fa_ok (k := 1) ty25 rfl rfl ty9 rfl rfl)) rfl <| Oa ag (zl (hv := by simp (disch := first | omega | simp only [nx]; omega) only [aLoad, ty9, rowOf, hpl, rcl, Value.cells] <;> rfl)) rfl <| Oa ag (zf (hv := fa_ok (k := 0) ty25 rfl rfl ty9 rfl rfl)) rfl <| Oa ag (zl (hv := by simp (disch := first | omega | simp only [nx]; omega) only [aLoad, ty9, rowOf, hpl, rcl, Value.cells] <;> rfl)) rfl <| Ot ag (zb (hv := bs_neq)) rfl (by simp [sst, j2]) <| Ot rfl Zp rfl rfl <| Ot rfl sm rfl rfl <| Pa ag rfl <| Pa ag rfl <| Pa ag rfl <| Pa ag rfl <| Pa ag rfl <| Ot rfl Zp rfl rfl <| On ?_
    refine Wy <| Wr <| Oa rfl (so_build (by simp only [aparts, lk] <;> rfl) (by simp only [aBuild, ty25, rcl, Value.cells, places, tb32] <;> rfl)) rfl <| Oa rfl (zs (hv := by simp (disch := first | omega | simp only [nx]; omega) only [aStore, ty25, writeRow, hpl, rcl, Value.cells] <;> rfl)) rfl <| Oa rfl za rfl <| On ?_
    refine CWp.ret <| SQ.ret <| FQ.ret (by simp (disch := first | omega | simp only [nx]; omega) only [aRet, Tryz.f32, aResults, aResult, lk, Nat.reduceEqDiff, reduceIte, aLoad, rowOf, hpl, rcl, Value.cells, places, tb32] <;> rfl) ?_
    exact bad (joinOK_no (.inr (.inr (.inr (.inl j2))))) _ (by simp only [nx]; omega) (fun z hz => by simp (disch := first | omega | simp only [nx]; omega) only [hpl])
  have j2 := Classical.not_not.1 j2
  by_cases j3 : ¬ a.full = b.full
  · refine W.enter tyOK Tryz.func32 rfl rfl ?_
    simp only [entry]
    refine Wr <| Oa rfl Zx rfl <| Oa rfl Zx rfl <| Oa rfl (so_alloc (by simp only [aAlloc, ty25] <;> rfl)) rfl <| Oa rfl za rfl <| On ?_
    refine W.seq <| Wr <| Oa rfl (zl (hv := by simp (disch := first | omega | simp only [nx]; omega) only [aLoad, ty25, rowOf, hpl, rcl, Value.cells] <;> rfl)) rfl <| OSuf.callD rfl (by simp only [aopnds, lk] <;> rfl) en37 ((by rw [hh3] at m1; exact m1)) rfl <| Of rfl Zt rfl rfl <| Of rfl sm rfl rfl <| Oa ag (zl (hv := by simp (disch := first | omega | simp only [nx]; omega) only [aLoad, ty25, rowOf, hpl, rcl, Value.cells] <;> rfl)) rfl <| OSuf.callD ag (by simp only [aopnds, lk] <;> rfl) en37 ((by rw [hh3] at m2; exact m2)) rfl <| Of ag Zt rfl rfl <| Of rfl Zp rfl rfl <| Of rfl sm rfl rfl <| Oa ag (zf (hv := fa_ok (k := 1) ty25 rfl rfl ty9 rfl rfl)) rfl <| Oa ag (zl (hv := by simp (disch := first | omega | simp only [nx]; omega) only [aLoad, ty9, rowOf, hpl, rcl, Value.cells] <;> rfl)) rfl <| Of ag (zb (hv := bs_eql)) rfl (by simp [sst, j1]) <| Of rfl Zp rfl rfl <| Of rfl sm rfl rfl <| Oa ag (zf (hv := fa_ok (k := 1) ty25 rfl rfl ty9 rfl rfl)) rfl <| Oa ag (zl (hv := by simp (disch := first | omega | simp only [nx]; omega) only [aLoad, ty9, rowOf, hpl, rcl, Value.cells] <;> rfl)) rfl <| Oa ag (zf (hv := fa_ok (k := 0) ty25 rfl rfl ty9 rfl rfl)) rfl <| Oa ag (zl (hv := by simp (disch := first | omega | simp only [nx]; omega) only [aLoad, ty9, rowOf, hpl, rcl, Value.cells] <;> rfl)) rfl <| Of ag (zb (hv := bs_neq)) rfl (by simp [sst, j2]) <| Of rfl Zp rfl rfl <| Of rfl sm rfl rfl <| Oa ag (zf (hv := fa_ok (k := 2) ty25 rfl rfl ty22 rfl rfl)) rfl <| Oa ag (zl (hv := by simp (disch := first | omega | simp only [nx]; omega) only [aLoad, ty22, rowOf, hpl, rcl, Value.cells] <;> rfl)) rfl <| Oa ag (zf (hv := fa_ok (k := 2) ty25 rfl rfl ty22 rfl rfl)) rfl <| Oa ag (zl (hv := by simp (disch := first | omega | simp only [nx]; omega) only [aLoad, ty22, rowOf, hpl, rcl, Value.cells] <;> rfl)) rfl <| Ot ag (zb (hv := bi_neq)) rfl (by simp [j3]) <| Ot rfl Zp rfl rfl <| On ?_
    refine Wy <| Wr <| Oa rfl (so_build (by simp only [aparts, lk] <;> rfl) (by simp only [aBuild, ty25, rcl, Value.cells, places, tb32] <;> rfl)) rfl <| Oa rfl (zs (hv := by simp (disch := first | omega | simp only [nx]; omega) only [aStore, ty25, writeRow, hpl, rcl, Value.cells] <;> rfl)) rfl <| Oa rfl za rfl <| On ?_
    refine CWp.ret <| SQ.ret <| FQ.ret (by simp (disch := first | omega | simp only [nx]; omega) only [aRet, Tryz.f32, aResults, aResult, lk, Nat.reduceEqDiff, reduceIte, aLoad, rowOf, hpl, rcl, Value.cells, places, tb32] <;> rfl) ?_
    exact bad (joinOK_no (.inr (.inr (.inr (.inr j3))))) _ (by simp only [nx]; omega) (fun z hz => by simp (disch := first | omega | simp only [nx]; omega) only [hpl])
  have j3 := Classical.not_not.1 j3
  have hok : joinOK a b = true := by simp only [joinOK, f1, f2, Bool.true_and, decide_eq_true_eq]; exact ⟨j1, j2, j3⟩
  have r0 : h3.get h.next = some (LR a (.slice b1 a.base.length c1) (.slice b2 a.deltas.length c2)) := by rw [hh3]; simp (disch := first | omega | simp only [nx]; omega) only [hpl]
  have r1 : h3.get (h.next + 1) = some (LR b (.slice b3 b.base.length c3) (.slice b4 b.deltas.length c4)) := by rw [hh3]; simp (disch := first | omega | simp only [nx]; omega) only [hpl]
  have r2 : h3.get (h.next + 2) = some (.cells zlf 1) := by rw [hh3]; simp (disch := first | omega | simp only [nx]; omega) only [hpl]
  obtain ⟨G1, hG1⟩ : ∃ G1, G1 = h3.new (.cells [.slice b1 a.base.length c1, .slice b3 b.base.length c3] 1) := ⟨_, rfl⟩
  have n1 : G1.next = h.next + 4 := by rw [hG1]; simp; omega
  have kG1 : ∀ z, z < h3.next → G1.get z = h3.get z := fun z hz => by rw [hG1]; exact Gn (by omega)
  have old1 : ∀ z, z < h.next → G1.get z = h.get z := fun z hz => by rw [kG1 _ (by omega)]; exact k3 z hz
  obtain ⟨v1, H1, w1, o1, hn1, k1⟩ := concat_c G1 h3.next a.base b.base b1 b3 c1 c3 (ha.mono (by omega) old1) (hb.mono (by omega) old1) l1 l3 (by omega) (by rw [hG1]; exact Gq)
  obtain ⟨G2, hG2⟩ : ∃ G2, G2 = H1.new (.cells [.slice b2 a.deltas.length c2, .slice b4 b.deltas.length c4] 1) := ⟨_, rfl⟩
  have n2 : G2.next = H1.next + 1 := by rw [hG2]; rfl
  have kG2 : ∀ z, z < H1.next → G2.get z = H1.get z := fun z hz => by rw [hG2]; exact Gn (by omega)
  have old2 : ∀ z, z < h.next → G2.get z = h.get z := fun z hz => by rw [kG2 _ (by omega), k1 _ (by omega)]; exact old1 z hz
  obtain ⟨v2, H2, w2, o2, hn2, k2⟩ := concat_c G2 H1.next a.deltas b.deltas b2 b4 c2 c4 (ha'.mono (by omega) old2) (hb'.mono (by omega) old2) l2 l4 (by omega) (by rw [hG2]; exact Gq)
  obtain ⟨x1, y1, rfl⟩ := o1.form
  obtain ⟨x2, y2, rfl⟩ := o2.form
  have r01 : H1.get h.next = some (LR a (.slice b1 a.base.length c1) (.slice b2 a.deltas.length c2)) := by rw [k1 _ (by omega), kG1 _ (by omega)]; exact r0
  have r11 : H1.get (h.next + 1) = some (LR b (.slice b3 b.base.length c3) (.slice b4 b.deltas.length c4)) := by rw [k1 _ (by omega), kG1 _ (by omega)]; exact r1
  have kk : ∀ z, z < H1.next → H2.get z = H1.get z := fun z hz => by rw [k2 _ (by omega), kG2 _ hz]
  have r02 : H2.get h.next = some (LR a (.slice b1 a.base.length c1) (.slice b2 a.deltas.length c2)) := by rw [kk _ (by omega)]; exact r01
  have r12 : H2.get (h.next + 1) = some (LR b (.slice b3 b.base.length c3) (.slice b4 b.deltas.length c4)) := by rw [kk _ (by omega)]; exact r11
  have r22 : H2.get (h.next + 2) = some (.cells zlf 1) := by rw [kk _ (by omega), k1 _ (by omega), kG1 _ (by omega)]; exact r2
  have old : ∀ z, z < h.next → H2.get z = h.get z := fun z hz => by rw [kk _ (by omega), k1 _ (by omega)]; exact old1 z hz
  obtain ⟨G3, hG3⟩ : ∃ G3, G3 = H2.new (LR (joinD a b (a.deltas ++ b.deltas)) (.slice x1 (a.base ++ b.base).length y1) (.slice x2 (a.deltas ++ b.deltas).length y2)) := ⟨_, rfl⟩
  have n3 : G3.next = H2.next + 1 := by rw [hG3]; rfl
  have kG3 : ∀ z, z < H2.next → G3.get z = H2.get z := fun z hz => by rw [hG3]; exact Gn (by omega)
  have hs := sort_os G3 G2.next (a.deltas ++ b.deltas) _ (o2.mono (by omega) (fun z _ hz => kG3 z hz)) hl (fun x hx => by
    rcases List.mem_append.1 hx with hx | hx
    · exact fit_le ((fits_of f1).1 x (List.mem_append.2 (.inr hx)))
    · exact fit_le ((fits_of f2).1 x (List.mem_append.2 (.inr hx))))
  rw [hG3] at hs
  have rG3 : G3.get H2.next = some (LR (joinD a b (a.deltas ++ b.deltas)) (.slice x1 (a.base ++ b.base).length y1) (.slice x2 (a.deltas ++ b.deltas).length y2)) := by rw [hG3]; exact Gq
  have nd1 : ∀ z, (z < G2.next ∨ H2.next ≤ z) → ∀ n c, Value.slice x2 (a.deltas ++ b.deltas).length y2 ≠ .slice (some ⟨z, 0, none⟩) n c := fun z hz n c e => by
    rw [e] at o2
    have := o2.row; omega
  refine W.enter tyOK Tryz.func32 rfl rfl ?_
  simp only [entry]
  refine Wr <| Oa rfl Zx rfl <| Oa rfl Zx rfl <| Oa rfl (so_alloc (by simp only [aAlloc, ty25] <;> rfl)) rfl <| Oa rfl za rfl <| On ?_
  refine W.seq <| Wr <| Oa rfl (zl (hv := by simp (disch := first | omega | simp only [nx]; omega) only [aLoad, ty25, rowOf, hpl, r0, r1, r01, r11, r02, r12, rcl, Value.cells] <;> rfl)) rfl <| OSuf.callD rfl (by simp only [aopnds, lk] <;> rfl) en37 ((by rw [hh3] at m1; exact m1)) rfl <| Of rfl Zt rfl rfl <| Of rfl sm rfl rfl <| Oa ag (zl (hv := by simp (disch := first | omega | simp only [nx]; omega) only [aLoad, ty25, rowOf, hpl, r0, r1, r01, r11, r02, r12, rcl, Value.cells] <;> rfl)) rfl <| OSuf.callD ag (by simp only [aopnds, lk] <;> rfl) en37 ((by rw [hh3] at m2; exact m2)) rfl <| Of ag Zt rfl rfl <| Of rfl Zp rfl rfl <| Of rfl sm rfl rfl <| Oa ag (zf (hv := fa_ok (k := 1) ty25 rfl rfl ty9 rfl rfl)) rfl <| Oa ag (zl (hv := by simp (disch := first | omega | simp only [nx]; omega) only [aLoad, ty9, rowOf, hpl, r0, r1, r01, r11, r02, r12, rcl, Value.cells] <;> rfl)) rfl <| Of ag (zb (hv := bs_eql)) rfl (by simp [sst, j1]) <| Of rfl Zp rfl rfl <| Of rfl sm rfl rfl <| Oa ag (zf (hv := fa_ok (k := 1) ty25 rfl rfl ty9 rfl rfl)) rfl <| Oa ag (zl (hv := by simp (disch := first | omega | simp only [nx]; omega) only [aLoad, ty9, rowOf, hpl, r0, r1, r01, r11, r02, r12, rcl, Value.cells] <;> rfl)) rfl <| Oa ag (zf (hv := fa_ok (k := 0) ty25 rfl rfl ty9 rfl rfl)) rfl <| Oa ag (zl (hv := by simp (disch := first | omega | simp only [nx]; omega) only [aLoad, ty9, rowOf, hpl, r0, r1, r01, r11, r02, r12, rcl, Value.cells] <;> rfl)) rfl <| Of ag (zb (hv := bs_neq)) rfl (by simp [sst, j2]) <| Of rfl Zp rfl rfl <| Of rfl sm rfl rfl <| Oa ag (zf (hv := fa_ok (k := 2) ty25 rfl rfl ty22 rfl rfl)) rfl <| Oa ag (zl (hv := by simp (disch := first | omega | simp only [nx]; omega) only [aLoad, ty22, rowOf, hpl, r0, r1, r01, r11, r02, r12, rcl, Value.cells] <;> rfl)) rfl <| Oa ag (zf (hv := fa_ok (k := 2) ty25 rfl rfl ty22 rfl rfl)) rfl <| Oa ag (zl (hv := by simp (disch := first | omega | simp only [nx]; omega) only [aLoad, ty22, rowOf, hpl, r0, r1, r01, r11, r02, r12, rcl, Value.cells] <;> rfl)) rfl <| Of ag (zb (hv := bi_neq)) rfl (by simp [j3]) <| Of rfl Zp rfl rfl <| On ?_
  refine Wn <| CWp.skip <| SQ.normal ?_
  refine W.seq <| CWp.sql tyOK mixed (ms := [0, 1, 0, 4, 0, 16, 0, 64, 0, 256, 960, 1984, 0, 4096, 0, 16384, 61440, 131008, 262143, 0, 1048575]) (by kernel_rfl) (
      .free rfl rfl rfl (zf (hv := fa_ok (k := 0) ty25 rfl rfl ty9 rfl rfl)) rfl <| .read rfl rfl rfl (zl (hv := by simp (disch := first | omega | simp only [nx]; omega) only [aLoad, ty9, rowOf, hpl, r0, r1, r01, r11, r02, r12, rcl, Value.cells] <;> rfl)) (by first | rfl | (simp [veq, veq1, veqs]; done) | (simp [veq, veq1, veqs, splice]; done)) trivial rfl <| .free rfl rfl rfl (zf (hv := fa_ok (k := 1) ty25 rfl rfl ty9 rfl rfl)) rfl <| .read rfl rfl rfl (zl (hv := by simp (disch := first | omega | simp only [nx]; omega) only [aLoad, ty9, rowOf, hpl, r0, r1, r01, r11, r02, r12, rcl, Value.cells] <;> rfl)) (by first | rfl | (simp [veq, veq1, veqs]; done) | (simp [veq, veq1, veqs, splice]; done)) trivial rfl <| .free rfl rfl rfl (zf (hv := fa_ok (k := 2) ty25 rfl rfl ty22 rfl rfl)) rfl <| .read rfl rfl rfl (zl (hv := by simp (disch := first | omega | simp only [nx]; omega) only [aLoad, ty22, rowOf, hpl, r0, r1, r01, r11, r02, r12, rcl, Value.cells] <;> rfl)) (by first | rfl | (simp [veq, veq1, veqs]; done) | (simp [veq, veq1, veqs, splice]; done)) trivial rfl <| .free rfl rfl rfl (zf (hv := fa_ok (k := 3) ty25 rfl rfl ty23 rfl rfl)) rfl <| .read rfl rfl rfl (zl (hv := by simp (disch := first | omega | simp only [nx]; omega) only [aLoad, ty23, rowOf, hpl, r0, r1, r01, r11, r02, r12, rcl, Value.cells] <;> rfl)) (by first | rfl | (simp [veq, veq1, veqs]; done) | (simp [veq, veq1, veqs, splice]; done)) trivial rfl <| .free rfl rfl rfl (zf (hv := fa_ok (k := 3) ty25 rfl rfl ty23 rfl rfl)) rfl <| .read rfl rfl rfl (zl (hv := by simp (disch := first | omega | simp only [nx]; omega) only [aLoad, ty23, rowOf, hpl, r0, r1, r01, r11, r02, r12, rcl, Value.cells] <;> rfl)) (by first | rfl | (simp [veq, veq1, veqs]; done) | (simp [veq, veq1, veqs, splice]; done)) trivial rfl <| .change rfl rfl rfl (so_buildSlice (by simp only [aparts, lk] <;> rfl) (by simp only [aBuildSlice, ty95, ty23, r0, r1, r01, r11, r02, r12, rcl, Value.cells, places, tb32] <;> rfl)) rfl ⟨.inl rfl, .inl rfl, .inr (zl (hv := by simp (disch := first | omega | simp only [nx]; omega) only [aLoad, ty22, rowOf, hpl, r0, r1, r01, r11, r02, r12, rcl, Value.cells] <;> rfl)), .inr (zl (hv := by simp (disch := first | omega | simp only [nx]; omega) only [aLoad, ty9, rowOf, hpl, r0, r1, r01, r11, r02, r12, rcl, Value.cells] <;> rfl)), .inr (zl (hv := by simp (disch := first | omega | simp only [nx]; omega) only [aLoad, ty9, rowOf, hpl, r0, r1, r01, r11, r02, r12, rcl, Value.cells] <;> rfl)), trivial⟩ rfl <| .call rfl rfl rfl (fcallO (by simp only [aopnds, lk] <;> rfl) en72 ((by rw [hG1, hh3] at w1; exact w1))) rfl ⟨.inl rfl, .inl rfl, .inr (zl (hv := by simp (disch := first | omega | simp only [nx]; omega) only [aLoad, ty22, rowOf, hpl, r0, r1, r01, r11, r02, r12, rcl, Value.cells] <;> rfl)), .inr (zl (hv := by simp (disch := first | omega | simp only [nx]; omega) only [aLoad, ty9, rowOf, hpl, r0, r1, r01, r11, r02, r12, rcl, Value.cells] <;> rfl)), .inr (zl (hv := by simp (disch := first | omega | simp only [nx]; omega) only [aLoad, ty9, rowOf, hpl, r0, r1, r01, r11, r02, r12, rcl, Value.cells] <;> rfl)), trivial⟩ rfl <| .free rfl rfl rfl (zf (hv := fa_ok (k := 4) ty25 rfl rfl ty23 rfl rfl)) rfl <| .read rfl rfl rfl (zl (hv := by simp (disch := first | omega | simp only [nx]; omega) only [aLoad, ty23, rowOf, hpl, r0, r1, r01, r11, r02, r12, rcl, Value.cells] <;> rfl)) (by first | rfl | (simp [veq, veq1, veqs]; done) | (simp [veq, veq1, veqs, splice]; done)) ⟨.inr (zl (hv := by simp (disch := first | omega | simp only [nx]; omega) only [aLoad, ty23, rowOf, hpl, r0, r1, r01, r11, r02, r12, rcl, Value.cells] <;> rfl)), .inr (zl (hv := by simp (disch := first | omega | simp only [nx]; omega) only [aLoad, ty23, rowOf, hpl, r0, r1, r01, r11, r02, r12, rcl, Value.cells] <;> rfl)), trivial⟩ rfl <| .free rfl rfl rfl (zf (hv := fa_ok (k := 4) ty25 rfl rfl ty23 rfl rfl)) rfl <| .read rfl rfl rfl (zl (hv := by simp (disch := first | omega | simp only [nx]; omega) only [aLoad, ty23, rowOf, hpl, r0, r1, r01, r11, r02, r12, rcl, Value.cells] <;> rfl)) (by first | rfl | (simp [veq, veq1, veqs]; done) | (simp [veq, veq1, veqs, splice]; done)) ⟨.inr (zl (hv := by simp (disch := first | omega | simp only [nx]; omega) only [aLoad, ty23, rowOf, hpl, r0, r1, r01, r11, r02, r12, rcl, Value.cells] <;> rfl)), .inr (zl (hv := by simp (disch := first | omega | simp only [nx]; omega) only [aLoad, ty23, rowOf, hpl, r0, r1, r01, r11, r02, r12, rcl, Value.cells] <;> rfl)), trivial⟩ rfl <| .late rfl rfl rfl (so_buildSlice (by simp only [aparts, lk] <;> rfl) (by simp only [aBuildSlice, ty95, ty23, r0, r1, r01, r11, r02, r12, rcl, Value.cells, places, tb32] <;> rfl)) rfl rfl ⟨.inl rfl, .inl rfl, .inr (zl (hv := by simp (disch := first | omega | simp only [nx]; omega) only [aLoad, ty23, rowOf, hpl, r0, r1, r01, r11, r02, r12, rcl, Value.cells] <;> rfl)), .inr (zl (hv := by simp (disch := first | omega | simp only [nx]; omega) only [aLoad, ty23, rowOf, hpl, r0, r1, r01, r11, r02, r12, rcl, Value.cells] <;> rfl)), .inr (zl (hv := by simp (disch := first | omega | simp only [nx]; omega) only [aLoad, ty22, rowOf, hpl, r0, r1, r01, r11, r02, r12, rcl, Value.cells] <;> rfl)), .inr (zl (hv := by simp (disch := first | omega | simp only [nx]; omega) only [aLoad, ty9, rowOf, hpl, r0, r1, r01, r11, r02, r12, rcl, Value.cells] <;> rfl)), .inr (zl (hv := by simp (disch := first | omega | simp only [nx]; omega) only [aLoad, ty9, rowOf, hpl, r0, r1, r01, r11, r02, r12, rcl, Value.cells] <;> rfl)), trivial⟩ rfl <| .call rfl rfl rfl (fcallO (by simp only [aopnds, lk] <;> rfl) en72 ((by rw [hG2] at w2; exact w2))) rfl ⟨.inl rfl, .inl rfl, .inl rfl, .inl rfl, .inr (zl (hv := by simp (disch := first | omega | simp only [nx]; omega) only [aLoad, ty22, rowOf, hpl, r0, r1, r01, r11, r02, r12, rcl, Value.cells] <;> rfl)), .inr (zl (hv := by simp (disch := first | omega | simp only [nx]; omega) only [aLoad, ty9, rowOf, hpl, r0, r1, r01, r11, r02, r12, rcl, Value.cells] <;> rfl)), .inr (zl (hv := by simp (disch := first | omega | simp only [nx]; omega) only [aLoad, ty9, rowOf, hpl, r0, r1, r01, r11, r02, r12, rcl, Value.cells] <;> rfl)), trivial⟩ rfl <| .free rfl rfl rfl (so_build (by simp only [aparts, lk] <;> rfl) (by simp only [aBuild, ty25, r0, r1, r01, r11, r02, r12, rcl, Value.cells, places, tb32] <;> rfl)) rfl <| .late rfl rfl rfl (so_alloc (by simp only [aAlloc, ty25] <;> rfl)) rfl rfl ⟨.inr (zl (hv := by simp (disch := first | omega | simp only [nx]; omega) only [aLoad, ty23, rowOf, hpl, r0, r1, r01, r11, r02, r12, rcl, Value.cells] <;> rfl)), .inr (zl (hv := by simp (disch := first | omega | simp only [nx]; omega) only [aLoad, ty23, rowOf, hpl, r0, r1, r01, r11, r02, r12, rcl, Value.cells] <;> rfl)), .inr (zl (hv := by simp (disch := first | omega | simp only [nx]; omega) only [aLoad, ty23, rowOf, hpl, r0, r1, r01, r11, r02, r12, rcl, Value.cells] <;> rfl)), .inr (zl (hv := by simp (disch := first | omega | simp only [nx]; omega) only [aLoad, ty23, rowOf, hpl, r0, r1, r01, r11, r02, r12, rcl, Value.cells] <;> rfl)), .inr (zl (hv := by simp (disch := first | omega | simp only [nx]; omega) only [aLoad, ty22, rowOf, hpl, r0, r1, r01, r11, r02, r12, rcl, Value.cells] <;> rfl)), .inr (zl (hv := by simp (disch := first | omega | simp only [nx]; omega) only [aLoad, ty9, rowOf, hpl, r0, r1, r01, r11, r02, r12, rcl, Value.cells] <;> rfl)), .inr (zl (hv := by simp (disch := first | omega | simp only [nx]; omega) only [aLoad, ty9, rowOf, hpl, r0, r1, r01, r11, r02, r12, rcl, Value.cells] <;> rfl)), trivial⟩ rfl <| .change rfl rfl rfl (zs (hv := by simp (disch := first | omega | simp only [nx]; omega) only [aStore, ty25, writeRow, hpl, r0, r1, r01, r11, r02, r12, rcl, Value.cells] <;> rfl)) rfl ⟨.inl rfl, .inl rfl, .inl rfl, .inl rfl, .inl rfl, .inl rfl, .inl rfl, trivial⟩ rfl <| .nil) <| SQ.normal ?_
  refine Wr <| Oa rfl (zf (hv := fa_ok (k := 4) ty25 rfl rfl ty23 rfl rfl)) rfl <| Oa rfl (zl (hv := by simp (disch := first | omega | simp only [nx]; omega) only [aLoad, ty23, rowOf, hpl, r0, r1, r01, r11, r02, r12, rcl, Value.cells] <;> rfl)) rfl <| OSuf.call rfl (by simp only [aopnds, lk] <;> rfl) en73 (hs) ?_
  rintro _ g ⟨rfl, ds, d1, d2, d3, d4, d5⟩
  rw [← hG3] at d4 d5
  have q1 : g.get H2.next = some (LR (joinD a b ds) (.slice x1 (a.base ++ b.base).length y1) (.slice x2 (a.deltas ++ b.deltas).length y2)) := (by rw [d5 _ (nd1 _ (.inr (Nat.le_refl _)))]; exact rG3)
  have q2 : g.get (h.next + 2) = some (.cells zlf 1) := (by rw [d5 _ (nd1 _ (.inl (by omega))), kG3 _ (by omega)]; exact r22)
  have ob : OS g G1.next (a.base ++ b.base) (.slice x1 (a.base ++ b.base).length y1) := (o1.mono (by omega) (fun z h1 h2 => by rw [d5 _ (nd1 _ (.inl (by omega))), kG3 _ (by omega), kk _ h2]))
  have hm := may'_c g (joinD a b ds) _ _ ob.rs d3.rs hl' (by rw [show (joinD a b ds).deltas.length = (a.deltas ++ b.deltas).length from d1.length_eq]; exact hl)
  refine ⟨_, rfl, ?_⟩
  refine On ?_
  refine W.seq <| ?_
  cases hc : chk (joinD a b ds) with
  | false =>
    rw [hc] at hm
    refine Wr <| Oa rfl (zl (hv := by simp (disch := first | omega | simp only [nx]; omega) only [aLoad, ty25, rowOf, hpl, q1, q2, rcl, Value.cells] <;> rfl)) rfl <| OSuf.callD rfl (by simp only [aopnds, lk] <;> rfl) en37 (hm) rfl <| Ot rfl Zt rfl rfl <| On ?_
    refine Wy <| Wr <| Oa rfl (so_build (by simp only [aparts, lk] <;> rfl) (by simp only [aBuild, ty25, q1, q2, rcl, Value.cells, places, tb32] <;> rfl)) rfl <| Oa rfl (zs (hv := by simp (disch := first | omega | simp only [nx]; omega) only [aStore, ty25, writeRow, hpl, q1, q2, rcl, Value.cells] <;> rfl)) rfl <| Oa rfl za rfl <| On ?_
    refine CWp.ret <| SQ.ret <| FQ.ret (by simp (disch := first | omega | simp only [nx]; omega) only [aRet, Tryz.f32, aResults, aResult, lk, Nat.reduceEqDiff, reduceIte, aLoad, rowOf, hpl, q1, q2, rcl, Value.cells, places, tb32] <;> rfl) ?_
    exact ⟨by simp only [nx]; omega, fun z hz => by simp (disch := first | omega | simp only [nx]; omega) only [hpl]; rw [d5 _ (nd1 _ (.inl (by omega))), kG3 _ (by omega)]; exact old z hz, .inr ⟨.inr ⟨ds, d1, d2, hc⟩, rfl⟩⟩
  | true =>
    rw [hc] at hm
    refine Wr <| Oa rfl (zl (hv := by simp (disch := first | omega | simp only [nx]; omega) only [aLoad, ty25, rowOf, hpl, q1, q2, rcl, Value.cells] <;> rfl)) rfl <| OSuf.callD rfl (by simp only [aopnds, lk] <;> rfl) en37 (hm) rfl <| Of rfl Zt rfl rfl <| On ?_
    refine Wn <| CWp.skip <| SQ.normal ?_
    refine Wr <| Oa rfl (zl (hv := by simp (disch := first | omega | simp only [nx]; omega) only [aLoad, ty25, rowOf, hpl, q1, q2, rcl, Value.cells] <;> rfl)) rfl <| Oa rfl (zs (hv := by simp (disch := first | omega | simp only [nx]; omega) only [aStore, ty25, writeRow, hpl, q1, q2, rcl, Value.cells] <;> rfl)) rfl <| Oa rfl za rfl <| On ?_
    refine CWp.ret <| FQ.ret (by simp (disch := first | omega | simp only [nx]; omega) only [aRet, Tryz.f32, aResults, aResult, lk, Nat.reduceEqDiff, reduceIte, aLoad, rowOf, hpl, q1, q2, rcl, Value.cells, places, tb32] <;> rfl) ?_
    refine ⟨by simp only [nx]; omega, fun z hz => ?_, .inl ⟨hok, ds, _, d1, d2, hc, rfl, ⟨x1, y1, x2, y2, ?_, ?_, ?_⟩⟩⟩
    · simp (disch := first | omega | simp only [nx]; omega) only [hpl]
      rw [d5 _ (nd1 _ (.inl (by omega))), kG3 _ (by omega)]; exact old z hz
    · rw [show (joinD a b ds).deltas.length = (a.deltas ++ b.deltas).length from d1.length_eq]; rfl
    · exact ob.rsl.mono (by omega) (by simp) (fun z h1 h2 => Gs (by omega))
    · have e : ds.length = (a.deltas ++ b.deltas).length := d1.length_eq
      have := d3.rsl.mono (h' := g.set (h.next + 2) (LR (joinD a b ds) (.slice x1 (a.base ++ b.base).length y1) (.slice x2 (a.deltas ++ b.deltas).length y2))) (lo' := h.next) (by omega) (by simp) (fun z h1 h2 => Gs (by omega))
      show RSl _ h.next ds (.slice x2 ds.length y2)
      rw [e]
      exact this
end Go.Proofs.YtebheelmgcggmaaGreat
namespace Go.Proofs.YtebheelmgcggmaaGreat
open Go.Ab Go.Sort
def eqRb (x y : Rec) : Bool := (⟨⟨x.key⟩⟩ : ByteArray) == ⟨⟨y.key⟩⟩ && (x.lsn == y.lsn && (x.del == y.del && ((⟨⟨x.val⟩⟩ : ByteArray) == ⟨⟨y.val⟩⟩ && true)))
theorem eqRb_self (x : Rec) : eqRb x x = true := by simp [eqRb, beq_str]
theorem neR {t : TypeId} {p q : Operand} (x y : Rec) (ht : t = 27) : aBin Tryz.prog T .neq t p q x.V y.V = some (.bool (!eqRb x y)) := by
  subst ht
  have hs : pureRun Tryz.prog (Op.equal 27 x.V y.V) = some (eqRb x y) := by
    refine seq_equal Tryz.underlying27 (by kernel_rfl) ?_
    refine .cons (by decide) (x := encS x.key) (y := encS y.key) (by kernel_rfl) (by kernel_rfl) (eq_str Tryz.underlying9) ?_
    refine .cons (by decide) (x := U64 x.lsn) (y := U64 y.lsn) (by kernel_rfl) (by kernel_rfl) (eq_int Tryz.underlying22) ?_
    refine .cons (by decide) (x := .bool x.del) (y := .bool y.del) (by kernel_rfl) (by kernel_rfl) (eq_bool Tryz.underlying4) ?_
    refine .cons (by decide) (x := encS x.val) (y := encS y.val) (by kernel_rfl) (by kernel_rfl) (eq_str Tryz.underlying9) ?_
    exact .nil
  exact bi_sne rfl (by kernel_rfl) hs
theorem recs1_c (h : AHeap) (l : List Rec) (v w : Value) (hv : RS h l v) (hw : RS h l w) (hl : l.length ≤ 1000000) : FWp Tryz.prog 50 [v, w] h fun u h' => u = .bool true ∧ h' = h := by
  obtain ⟨b, c, rfl⟩ := hv.form
  obtain ⟨b', c', rfl⟩ := hw.form
  refine W.enter tyOK Tryz.func50 rfl rfl ?_
  simp only [entry]
  have b0 : ((l.length : Int) != (l.length : Int)) = false := by simp
  refine Wr <| Of rfl za rfl rfl <| On ?_
  refine W.seq <| Wr <| Oa rfl sm rfl <| Oa rfl (Zn (hv := by simp (disch := first | omega | simp only [nx]; omega) only [aLenOf, ty23, hpl] <;> rfl)) rfl <| Oa rfl sm rfl <| Oa rfl (Zn (hv := by simp (disch := first | omega | simp only [nx]; omega) only [aLenOf, ty23, hpl] <;> rfl)) rfl <| Of rfl (zb (hv := bi_neq)) rfl (b0) <| On ?_
  refine Wn <| CWp.skip <| SQ.normal ?_
  refine W.seq <| Wr <| Oa rfl za rfl <| On ?_
  refine W.block (W.loop (fun m L h' => ∃ k : Nat, m + k = l.length ∧ h = h' ∧ L = [(0, .slice b l.length c), (1, .slice b' l.length c'), (5, I64 k)]) (n := l.length) ⟨0, rfl, rfl, rfl⟩ ?_ ?_)
  · simp [HasA, Tr.get_put]
  rintro m L h' ⟨k, hm, rfl, rfl⟩
  simp only [mkA]
  have w2 : IntKind.i64.wrap ((k : Int) + 1) = ((k + 1 : Nat) : Int) := by rw [wrap_i64 (by omega) (by omega)]; omega
  by_cases hk : (k : Int) < (l.length : Int)
  · obtain ⟨x, hx⟩ : ∃ x, l[k]? = some x := ⟨l[k]'(by omega), by simp⟩
    obtain ⟨_, r, off, rfl, hr1, hr2⟩ := RS.at_ hv hx
    obtain ⟨_, r', off', rfl, hr1', hr2'⟩ := RS.at_ hw hx
    have hc1 : (0 ≤ (k : Int) ∧ (k : Int) < (l.length : Int)) := by omega
    refine W.seq <| Wr <| Oa rfl sm rfl <| Oa rfl sm rfl <| Oa rfl (Zn (hv := by simp (disch := first | omega | simp only [nx]; omega) only [aLenOf, ty23, hpl, hc1, sb] <;> rfl)) rfl <| Ot rfl (zb (hv := bi_lss)) rfl (by first | rfl | assumption | ((simp only [bl, hc1, sb]) <;> first | done | assumption | omega) | (simp; done) | (simp; omega)) <| On ?_
    refine Wy <| CWp.skip <| SQ.normal ?_
    refine W.seq <| W.block <| Wd <| Sa rfl sm rfl <| Sa rfl sm rfl <| Sa rfl (zi (hv := by simp (disch := first | omega | simp only [nx]; omega) only [aIndexAddr, ty23, ty27, hpl, hc1, sb] <;> rfl)) rfl <| Sa rfl (zl (hv := (hr2 _ rfl).1 _ _ ty27 rfl rfl)) rfl <| Sa rfl sm rfl <| Sa rfl sm rfl <| Sa rfl (zi (hv := by simp (disch := first | omega | simp only [nx]; omega) only [aIndexAddr, ty23, ty27, hpl, hc1, sb] <;> rfl)) rfl <| Sa rfl (zl (hv := (hr2' _ rfl).1 _ _ ty27 rfl rfl)) rfl <| Sf rfl (zb (hv := neR x x rfl)) rfl (by simp [eqRb_self]) <| Sn ?_
    refine Wn <| CWp.skip <| BQ.normal <| SQ.normal ?_
    refine W.reg <| Oa rfl sm rfl <| Oa rfl (zb (hv := bi_w bi_add (by first | (simp only [w2] <;> rfl) | rfl))) rfl <| Oa rfl za rfl <| OSuf.nil <| ?_
    refine LQ.normal (m := m - 1) (L := [(0, .slice (some ⟨r, off, none⟩) l.length c), (1, .slice (some ⟨r', off', none⟩) l.length c'), (5, I64 ((k + 1 : Nat) : Int))]) (by omega) ?_ ⟨k + 1, by omega, rfl, rfl⟩
    simp only [HasA, Tr.get_put, Nat.reduceEqDiff, reduceIte, w2, and_self]
  · refine W.seq <| Wr <| Oa rfl sm rfl <| Oa rfl sm rfl <| Oa rfl (Zn (hv := by simp (disch := first | omega | simp only [nx]; omega) only [aLenOf, ty23, hpl] <;> rfl)) rfl <| Ofb rfl (zb (hv := bi_lss)) rfl <| On ?_
    refine Wn <| CWp.exit <| SQ.exit <| LQ.exit <| BQ.exit <| SQ.normal ?_
    refine Wr <| Ot rfl za rfl rfl <| On ?_
    refine CWp.ret <| FQ.ret (by simp only [aRet, Tryz.f50, aResults, aResult, lk, Nat.reduceEqDiff, reduceIte] <;> rfl) ?_
    exact ⟨rfl, rfl⟩
theorem same0_c (h : AHeap) (p : Lf) (av aw bv bw : Value) (ha : RS h p.base av) (ha' : RS h p.deltas aw) (hb : RS h p.base bv) (hb' : RS h p.deltas bw) (l1 : p.base.length ≤ 1000000) (l2 : p.deltas.length ≤ 1000000) :
    FWp Tryz.prog 15 [LV p av aw, LV p bv bw] h fun u h' => u = .bool true ∧ h' = h := by
  have tb15 := And.intro ty22 (And.intro ty23 (And.intro ty25 (ty9)))
  refine FWp.gcs (.flat rfl) ?_
  have hn : ∀ z, z < h.next → ((h.new (.cells (lcs p av aw) 1)).new (.cells (lcs p bv bw) 1)).get z = h.get z := fun z hz => by simp (disch := first | omega | simp only [nx]; omega) only [hpl]
  have r1 := recs1_c ((h.new (.cells (lcs p av aw) 1)).new (.cells (lcs p bv bw) 1)) p.base av bv (ha.mono (by simp only [nx]; omega) hn) (hb.mono (by simp only [nx]; omega) hn) l1
  have r2 := recs1_c ((h.new (.cells (lcs p av aw) 1)).new (.cells (lcs p bv bw) 1)) p.deltas aw bw (ha'.mono (by simp only [nx]; omega) hn) (hb'.mono (by simp only [nx]; omega) hn) l2
  refine W.enter tyOK Tryz.func15 rfl rfl ?_
  simp only [entry]
  refine Wr <| Oa rfl Zx rfl <| Oa rfl Zx rfl <| Of rfl za rfl rfl <| On ?_
  refine Wr <| Oa rfl (zf (hv := fa_ok (k := 0) ty25 rfl rfl ty9 rfl rfl)) rfl <| Oa rfl (zl (hv := by simp (disch := first | omega | simp only [nx]; omega) only [aLoad, ty9, rowOf, hpl, Value.cells] <;> rfl)) rfl <| Oa rfl (zf (hv := fa_ok (k := 0) ty25 rfl rfl ty9 rfl rfl)) rfl <| Oa rfl (zl (hv := by simp (disch := first | omega | simp only [nx]; omega) only [aLoad, ty9, rowOf, hpl, Value.cells] <;> rfl)) rfl <| Ot rfl (zb (hv := bs_eql)) rfl (by simp [sst]) <| Ot rfl sm rfl rfl <| Oa ag (zf (hv := fa_ok (k := 1) ty25 rfl rfl ty9 rfl rfl)) rfl <| Oa ag (zl (hv := by simp (disch := first | omega | simp only [nx]; omega) only [aLoad, ty9, rowOf, hpl, Value.cells] <;> rfl)) rfl <| Oa ag (zf (hv := fa_ok (k := 1) ty25 rfl rfl ty9 rfl rfl)) rfl <| Oa ag (zl (hv := by simp (disch := first | omega | simp only [nx]; omega) only [aLoad, ty9, rowOf, hpl, Value.cells] <;> rfl)) rfl <| Ot ag (zb (hv := bs_eql)) rfl (by simp [sst]) <| Ot rfl Zp rfl rfl <| Ot rfl sm rfl rfl <| Oa ag (zf (hv := fa_ok (k := 2) ty25 rfl rfl ty22 rfl rfl)) rfl <| Oa ag (zl (hv := by simp (disch := first | omega | simp only [nx]; omega) only [aLoad, ty22, rowOf, hpl, Value.cells] <;> rfl)) rfl <| Oa ag (zf (hv := fa_ok (k := 2) ty25 rfl rfl ty22 rfl rfl)) rfl <| Oa ag (zl (hv := by simp (disch := first | omega | simp only [nx]; omega) only [aLoad, ty22, rowOf, hpl, Value.cells] <;> rfl)) rfl <| Ot ag (zb (hv := bi_eql)) rfl (by simp) <| Ot rfl Zp rfl rfl <| Ot rfl sm rfl rfl <| Oa ag (zf (hv := fa_ok (k := 3) ty25 rfl rfl ty23 rfl rfl)) rfl <| Oa ag (zl (hv := by simp (disch := first | omega | simp only [nx]; omega) only [aLoad, ty23, rowOf, hpl, Value.cells] <;> rfl)) rfl <| Oa ag (zf (hv := fa_ok (k := 3) ty25 rfl rfl ty23 rfl rfl)) rfl <| Oa ag (zl (hv := by simp (disch := first | omega | simp only [nx]; omega) only [aLoad, ty23, rowOf, hpl, Value.cells] <;> rfl)) rfl <| OSuf.callD ag (by simp only [aopnds, lk] <;> rfl) en50 (r1) rfl <| Ot rfl Zp rfl rfl <| Ot rfl sm rfl rfl <| Oa ag (zf (hv := fa_ok (k := 4) ty25 rfl rfl ty23 rfl rfl)) rfl <| Oa ag (zl (hv := by simp (disch := first | omega | simp only [nx]; omega) only [aLoad, ty23, rowOf, hpl, Value.cells] <;> rfl)) rfl <| Oa ag (zf (hv := fa_ok (k := 4) ty25 rfl rfl ty23 rfl rfl)) rfl <| Oa ag (zl (hv := by simp (disch := first | omega | simp only [nx]; omega) only [aLoad, ty23, rowOf, hpl, Value.cells] <;> rfl)) rfl <| OSuf.callD ag (by simp only [aopnds, lk] <;> rfl) en50 (r2) rfl <| Ot rfl Zp rfl rfl <| Ot rfl za rfl rfl <| On ?_
  refine CWp.ret <| FQ.ret (by simp only [aRet, Tryz.f15, aResults, aResult, lk, Nat.reduceEqDiff, reduceIte] <;> rfl) ?_
  exact ⟨rfl, fun r o hr ho => by simp (disch := first | omega | simp only [nx]; omega) only [hpl]; exact ho⟩
end Go.Proofs.YtebheelmgcggmaaGreat
namespace Go.Proofs.YtebheelmgcggmaaGreat
open Go.Ab Go.Sort
theorem max_sl {n : Nat} (h : n ≤ maxLen) : n < 9223372036854775808 := Nat.lt_of_le_of_lt h (by decide)
def AtB (b : Option Addr) (n : Nat) : Prop := (b = none ∧ n = 0) ∨ ∃ r, b = some ⟨r, 0, none⟩
theorem rd_recs {h : AHeap} {n : Nat} {w : Value} (hr : Rd Tryz.prog h (n + 3) 23 [w]) : ∃ (b : Option Addr) (l : List Rec), w = .slice b l.length 0 ∧ AtB b l.length ∧ RS h l (.slice b l.length 0) ∧ ∀ r ∈ l, SL r.key ∧ SL r.val := by
  unfold Rd at hr
  rw [Tryz.underlying23] at hr
  simp only at hr
  rcases hr with h1 | ⟨r, vss, h1, h2, h3, h4, h5⟩
  · exact ⟨none, [], by simpa using h1, .inl ⟨rfl, rfl⟩, ⟨_, _, rfl, .inl ⟨rfl, rfl, rfl⟩⟩, by simp⟩
  · have key : ∃ l : List Rec, vss = l.map Rec.cs ∧ ∀ r ∈ l, SL r.key ∧ SL r.val := by
      clear h1 h2 h4
      induction vss with
      | nil => exact ⟨[], rfl, by simp⟩
      | cons v vss ih =>
        obtain ⟨l, e1, e2⟩ := ih fun x hx => h5 x (List.mem_cons_of_mem _ hx)
        obtain ⟨fss, g1, g2, g3⟩ := Rd.fields Tryz.underlying27 (h5 v List.mem_cons_self).2
        match fss, g2 with
        | [a, b, c, d], _ =>
          obtain ⟨_, x1⟩ := g3 0 _ a rfl rfl
          obtain ⟨_, x2⟩ := g3 1 _ b rfl rfl
          obtain ⟨_, x3⟩ := g3 2 _ c rfl rfl
          obtain ⟨_, x4⟩ := g3 3 _ d rfl rfl
          obtain ⟨⟨⟨k⟩⟩, rfl, m1⟩ := Rd.string Tryz.underlying9 x1
          obtain ⟨i, rfl, _⟩ := Rd.int Tryz.underlying22 x2
          obtain ⟨o, rfl⟩ := Rd.bool Tryz.underlying4 x3
          obtain ⟨⟨⟨w⟩⟩, rfl, m4⟩ := Rd.string Tryz.underlying9 x4
          refine ⟨⟨k, i, o, w⟩ :: l, by rw [g1, e1]; rfl, fun x hx => ?_⟩
          cases hx with
          | head => exact ⟨max_sl m1, max_sl m4⟩
          | tail _ hx => exact e2 x hx
    obtain ⟨l, rfl, h6⟩ := key
    have hl : (l.map Rec.cs).length = l.length := List.length_map _
    rw [hl] at h1
    refine ⟨some ⟨r, 0, none⟩, l, by simpa using h1, .inr ⟨r, rfl⟩, ⟨_, _, rfl, .inr ⟨_, _, rfl, fun hn => ⟨h3, (l.map Rec.cs).flatten, ?_, cellsOf_all (fl_length l)⟩⟩⟩, h6⟩
    have := h4 (fun e => hn (by rw [← hl, e]; rfl))
    simp only [rowOf, this]
theorem rd_leaf {h : AHeap} {n : Nat} {v : Value} (hr : RdV Tryz.prog h (n + 4) 25 v) : ∃ (p : Lf) (b1 b2 : Option Addr), v = LV p (.slice b1 p.base.length 0) (.slice b2 p.deltas.length 0) ∧ AtB b1 p.base.length ∧ AtB b2 p.deltas.length ∧ RS h p.base (.slice b1 p.base.length 0) ∧ RS h p.deltas (.slice b2 p.deltas.length 0) ∧ LB p := by
  unfold RdV at hr
  rw [Tryz.underlying25] at hr
  simp only at hr
  obtain ⟨vs, rfl, hr⟩ := hr
  obtain ⟨fss, g1, g2, g3⟩ := Rd.fields Tryz.underlying25 hr
  match fss, g2 with
  | [a, b, c, d, e], _ =>
    obtain ⟨_, x1⟩ := g3 0 _ a rfl rfl
    obtain ⟨_, x2⟩ := g3 1 _ b rfl rfl
    obtain ⟨_, x3⟩ := g3 2 _ c rfl rfl
    obtain ⟨l4, x4⟩ := g3 3 _ d rfl rfl
    obtain ⟨l5, x5⟩ := g3 4 _ e rfl rfl
    obtain ⟨⟨⟨lo⟩⟩, rfl, m1⟩ := Rd.string Tryz.underlying9 x1
    obtain ⟨⟨⟨hi⟩⟩, rfl, m2⟩ := Rd.string Tryz.underlying9 x2
    obtain ⟨i, rfl, _⟩ := Rd.int Tryz.underlying22 x3
    match d, l4.trans (by kernel_rfl : _ = 1), e, l5.trans (by kernel_rfl : _ = 1) with
    | [w4], _, [w5], _ =>
      obtain ⟨b1, l1, rfl, a1, r1, s1⟩ := rd_recs x4
      obtain ⟨b2, l2, rfl, a2, r2, s2⟩ := rd_recs x5
      refine ⟨⟨lo, hi, i, l1, l2⟩, b1, b2, by rw [g1]; rfl, a1, a2, r1, r2, ⟨max_sl m1, max_sl m2, fun r hr => ?_⟩⟩
      rcases List.mem_append.1 hr with hr | hr
      · exact s1 r hr
      · exact s2 r hr
def cutM (p : Lf) : Lf := { p with base := p.base.take 70, deltas := p.deltas.take 70 }
theorem sl_cut {h : AHeap} {t elem : TypeId} {ti ei : TI} {b : Option Addr} {n m : Nat} (ht : T.get t = some ti) (hu : ti.und = .slice elem) (he : T.get elem = some ei) (hb : AtB b n) (hm : m ≤ n) : aSlice T t (.slice b n 0) none (some (I64 m)) none h = some (.slice b m 0) := by
  rcases hb with ⟨rfl, rfl⟩ | ⟨r, rfl⟩
  · obtain rfl : m = 0 := by omega
    exact sl_0 (x := (0, 0, 0)) ht hu he rfl
  · simp only [aSlice, ht, hu, he, bounds_hi hm]; rfl
theorem rs_take {h : AHeap} {l : List Rec} {b : Option Addr} {m : Nat} (s : RS h l (.slice b l.length 0)) (hm : m ≤ l.length) : RS h (l.take m) (.slice b m 0) := by
  have hl : (l.take m).length = m := by rw [List.length_take]; omega
  obtain ⟨b', c', e, hr⟩ := s.ex
  cases e
  refine ⟨b, 0, by rw [hl], ?_⟩
  rcases hr with ⟨rfl, h1, h2⟩ | ⟨r, off, rfl, hr⟩
  · exact .inl ⟨rfl, by rw [hl]; omega, rfl⟩
  · refine .inr ⟨r, off, rfl, fun h0 => ?_⟩
    rw [hl] at h0 ⊢
    obtain ⟨h1, vs, h2, h3⟩ := hr (by omega)
    refine ⟨h1, vs, h2, ?_⟩
    have e : fl l = fl (l.take m) ++ fl (l.drop m) := by rw [← fl_app, List.take_append_drop]
    have h4 : cellsOf (fl l) 0 (m * 4) = some (fl (l.take m)) := by
      rw [cellsOf_mk (by rw [fl_length]; omega), List.drop_zero, e, List.take_left' (by rw [fl_length, hl])]
    have := cellsOf_sub h3 h4
    rwa [Nat.add_zero] at this
theorem LB.cut {p : Lf} (l : LB p) : LB (cutM p) := ⟨l.low, l.high, fun r hr => by
  rcases List.mem_append.1 hr with hr | hr
  · exact l.ky r (List.mem_append.2 (.inl (List.mem_of_mem_take hr)))
  · exact l.ky r (List.mem_append.2 (.inr (List.mem_of_mem_take hr)))⟩
theorem cut_c (h : AHeap) (p : Lf) (b1 b2 : Option Addr) (h1 : AtB b1 p.base.length) (h2 : AtB b2 p.deltas.length) :
    FWp Tryz.prog 7 [LV p (.slice b1 p.base.length 0) (.slice b2 p.deltas.length 0)] h fun u g => u = LV (cutM p) (.slice b1 (cutM p).base.length 0) (.slice b2 (cutM p).deltas.length 0) ∧ h.next ≤ g.next ∧ ∀ z, z < h.next → g.get z = h.get z := by
  have tb7 := And.intro ty23 (And.intro ty25 (And.intro ty27 (ty3)))
  have e1 : (if (70 : Int) < ((p.base.length : Nat) : Int) then (70 : Int) else ((p.base.length : Nat) : Int)) = ((min 70 p.base.length : Nat) : Int) := by split <;> omega
  have e2 : (if (70 : Int) < ((p.deltas.length : Nat) : Int) then (70 : Int) else ((p.deltas.length : Nat) : Int)) = ((min 70 p.deltas.length : Nat) : Int) := by split <;> omega
  refine W.enter tyOK Tryz.func7 rfl rfl ?_
  simp only [entry]
  refine Wr <| Oa rfl Zx rfl <| Oa rfl (so_alloc (by simp only [aAlloc, ty25] <;> rfl)) rfl <| On ?_
  refine Wr <| Oa rfl (zf (hv := fa_ok (k := 3) ty25 rfl rfl ty23 rfl rfl)) rfl <| Oa rfl (zl (hv := by simp (disch := first | omega | simp only [nx]; omega) only [aLoad, ty23, rowOf, hpl, rcl, Value.cells] <;> rfl)) rfl <| Oa rfl (zf (hv := fa_ok (k := 3) ty25 rfl rfl ty23 rfl rfl)) rfl <| Oa rfl (zl (hv := by simp (disch := first | omega | simp only [nx]; omega) only [aLoad, ty23, rowOf, hpl, rcl, Value.cells] <;> rfl)) rfl <| Oa rfl (Zn (hv := by simp (disch := first | omega | simp only [nx]; omega) only [aLenOf, ty23, hpl, rcl, Value.cells, places, tb7] <;> rfl)) rfl <| Oa rfl (so_min (by simp only [aopnds, lk] <;> rfl)) rfl <| Oa rfl (so_slice (by simp only [lk] <;> rfl) (by simp only [oopnd, lk] <;> rfl) (by simp only [oopnd, lk] <;> rfl) (by simp only [oopnd, lk] <;> rfl) ((by rw [e1]; exact sl_cut ty23 rfl ty27 h1 (Nat.min_le_right _ _)))) rfl <| Oa rfl (zf (hv := fa_ok (k := 3) ty25 rfl rfl ty23 rfl rfl)) rfl <| Oa rfl (zs (hv := by simp (disch := first | omega | simp only [nx]; omega) only [aStore, ty23, writeRow, hpl, rcl, Value.cells] <;> rfl)) rfl <| On ?_
  refine Wr <| Oa rfl (zf (hv := fa_ok (k := 4) ty25 rfl rfl ty23 rfl rfl)) rfl <| Oa rfl (zl (hv := by simp (disch := first | omega | simp only [nx]; omega) only [aLoad, ty23, rowOf, hpl, rcl, Value.cells] <;> rfl)) rfl <| Oa rfl (zf (hv := fa_ok (k := 4) ty25 rfl rfl ty23 rfl rfl)) rfl <| Oa rfl (zl (hv := by simp (disch := first | omega | simp only [nx]; omega) only [aLoad, ty23, rowOf, hpl, rcl, Value.cells] <;> rfl)) rfl <| Oa rfl (Zn (hv := by simp (disch := first | omega | simp only [nx]; omega) only [aLenOf, ty23, hpl, rcl, Value.cells, places, tb7] <;> rfl)) rfl <| Oa rfl (so_min (by simp only [aopnds, lk] <;> rfl)) rfl <| Oa rfl (so_slice (by simp only [lk] <;> rfl) (by simp only [oopnd, lk] <;> rfl) (by simp only [oopnd, lk] <;> rfl) (by simp only [oopnd, lk] <;> rfl) ((by rw [e2]; exact sl_cut ty23 rfl ty27 h2 (Nat.min_le_right _ _)))) rfl <| Oa rfl (zf (hv := fa_ok (k := 4) ty25 rfl rfl ty23 rfl rfl)) rfl <| Oa rfl (zs (hv := by simp (disch := first | omega | simp only [nx]; omega) only [aStore, ty23, writeRow, hpl, rcl, Value.cells] <;> rfl)) rfl <| On ?_
  refine Wr <| Oa rfl (zl (hv := by simp (disch := first | omega | simp only [nx]; omega) only [aLoad, ty25, rowOf, hpl, rcl, Value.cells] <;> rfl)) rfl <| Oa rfl (zs (hv := by simp (disch := first | omega | simp only [nx]; omega) only [aStore, ty25, writeRow, hpl, rcl, Value.cells] <;> rfl)) rfl <| On ?_
  refine CWp.ret <| FQ.ret (by simp (disch := first | omega | simp only [nx]; omega) only [aRet, Tryz.f7, aResults, aResult, lk, Nat.reduceEqDiff, reduceIte, aLoad, rowOf, hpl, rcl, Value.cells, places, tb7] <;> rfl) ?_
  refine ⟨?_, by simp only [nx]; omega, fun z hz => by simp (disch := first | omega | simp only [nx]; omega) only [hpl]⟩
  simp only [cutM, List.length_take]
  rfl
end Go.Proofs.YtebheelmgcggmaaGreat
namespace Go.Proofs.YtebheelmgcggmaaGreat
open Go.Ab Go.Sort
abbrev L0 : Lf := ⟨[], [], 0, [], []⟩
def SR (p A B : Lf) (f : Bool) : Prop := ((keysM p).length < 2 ∧ A = L0 ∧ B = L0 ∧ f = false) ∨ ∃ s, 2 ≤ (keysM p).length ∧ (keysM p)[((keysM p).length + 1) / 2]? = some s ∧ A = partM p p.low s ∧ B = partM p s p.high ∧ f = true
theorem SR.one {p A B A' B' : Lf} {f f' : Bool} (h : SR p A B f) (h' : SR p A' B' f') : A = A' ∧ B = B' ∧ f = f' := by
  rcases h with ⟨h1, rfl, rfl, rfl⟩ | ⟨s, h1, h2, rfl, rfl, rfl⟩ <;> rcases h' with ⟨k1, rfl, rfl, rfl⟩ | ⟨s', k1, k2, rfl, rfl, rfl⟩
  · exact ⟨rfl, rfl, rfl⟩
  · omega
  · omega
  · rw [h2] at k2; cases k2; exact ⟨rfl, rfl, rfl⟩
def JR (a b R : Lf) (e : Int) : Prop := (joinOK a b = true ∧ ∃ ds : List Rec, ds.Perm (a.deltas ++ b.deltas) ∧ (ds.Pairwise fun x y => x.lsn ≤ y.lsn) ∧ chk (joinD a b ds) = true ∧ R = joinD a b ds ∧ e = 0) ∨
  ((joinOK a b = false ∨ ∃ ds : List Rec, ds.Perm (a.deltas ++ b.deltas) ∧ (ds.Pairwise fun x y => x.lsn ≤ y.lsn) ∧ chk (joinD a b ds) = false) ∧ R = L0 ∧ e = 2)
theorem chk_rd {a b : Lf} {ds : List Rec} (h : chk (joinD a b ds) = true) : ds.Pairwise fun x y => ltL x y = true := (fits_of h).2.2.1
theorem JR.one {a b R R' : Lf} {e e' : Int} (h : JR a b R e) (h' : JR a b R' e') : R = R' ∧ e = e' := by
  rcases h with ⟨h1, ds, h2, h3, h4, rfl, rfl⟩ | ⟨h1, rfl, rfl⟩ <;> rcases h' with ⟨k1, ds', k2, k3, k4, rfl, rfl⟩ | ⟨k1, rfl, rfl⟩
  · rw [perm_lsn (h2.trans k2.symm) h3 (chk_rd k4)]; exact ⟨rfl, rfl⟩
  · exfalso
    rcases k1 with k1 | ⟨ds', k2, k3, k4⟩
    · rw [h1] at k1; cases k1
    · rw [perm_lsn (k2.trans h2.symm) k3 (chk_rd h4), h4] at k4; cases k4
  · exfalso
    rcases h1 with h1 | ⟨ds, h2, h3, h4⟩
    · rw [h1] at k1; cases k1
    · rw [perm_lsn (h2.trans k2.symm) h3 (chk_rd k4), k4] at h4; cases h4
  · exact ⟨rfl, rfl⟩
def SP (h : AHeap) (p : Lf) (u : Value) (g : AHeap) : Prop := h.next ≤ g.next ∧ (∀ z, z < h.next → g.get z = h.get z) ∧ ∃ (A B : Lf) (f : Bool) (b1 : Option Addr) (c1 : Nat) (b2 : Option Addr) (c2 : Nat) (b3 : Option Addr) (c3 : Nat) (b4 : Option Addr) (c4 : Nat), SR p A B f ∧ u = .tuple #[LV A (.slice b1 A.base.length c1) (.slice b2 A.deltas.length c2), LV B (.slice b3 B.base.length c3) (.slice b4 B.deltas.length c4), .bool f] ∧ RSl g h.next A.base (.slice b1 A.base.length c1) ∧ RSl g h.next A.deltas (.slice b2 A.deltas.length c2) ∧ RSl g h.next B.base (.slice b3 B.base.length c3) ∧ RSl g h.next B.deltas (.slice b4 B.deltas.length c4)
def JP (h : AHeap) (a b : Lf) (u : Value) (g : AHeap) : Prop := h.next ≤ g.next ∧ (∀ z, z < h.next → g.get z = h.get z) ∧ ∃ (R : Lf) (e : Int) (b1 : Option Addr) (c1 : Nat) (b2 : Option Addr) (c2 : Nat), JR a b R e ∧ u = .tuple #[LV R (.slice b1 R.base.length c1) (.slice b2 R.deltas.length c2), I64 e] ∧ RSl g h.next R.base (.slice b1 R.base.length c1) ∧ RSl g h.next R.deltas (.slice b2 R.deltas.length c2)
theorem sp_of {h : AHeap} {p : Lf} {u : Value} {g : AHeap} (k : h.next ≤ g.next ∧ (∀ z, z < h.next → g.get z = h.get z) ∧
      (((keysM p).length < 2 ∧ u = .tuple #[LV0, LV0, .bool false]) ∨
       ∃ s va vb, 2 ≤ (keysM p).length ∧ (keysM p)[((keysM p).length + 1) / 2]? = some s ∧ u = .tuple #[va, vb, .bool true] ∧ LVs g h.next (partM p p.low s) va ∧ LVs g h.next (partM p s p.high) vb)) : SP h p u g := by
  obtain ⟨k1, k2, ⟨k3, rfl⟩ | ⟨s, va, vb, k3, k4, rfl, l1, l2⟩⟩ := k
  · exact ⟨k1, k2, L0, L0, false, none, 0, none, 0, none, 0, none, 0, .inl ⟨k3, rfl, rfl, rfl⟩, rfl, ⟨⟨_, _, rfl, .inl ⟨rfl, rfl, rfl⟩⟩, fun a n c e => by cases e⟩, ⟨⟨_, _, rfl, .inl ⟨rfl, rfl, rfl⟩⟩, fun a n c e => by cases e⟩, ⟨⟨_, _, rfl, .inl ⟨rfl, rfl, rfl⟩⟩, fun a n c e => by cases e⟩, ⟨⟨_, _, rfl, .inl ⟨rfl, rfl, rfl⟩⟩, fun a n c e => by cases e⟩⟩
  · obtain ⟨b1, c1, b2, c2, rfl, r1, r2⟩ := l1.ex
    obtain ⟨b3, c3, b4, c4, rfl, r3, r4⟩ := l2.ex
    exact ⟨k1, k2, _, _, true, b1, c1, b2, c2, b3, c3, b4, c4, .inr ⟨s, k3, k4, rfl, rfl, rfl⟩, rfl, r1, r2, r3, r4⟩
theorem jp_of {h : AHeap} {a b : Lf} {u : Value} {g : AHeap} (k : JoinPost h a b u g) : JP h a b u g := by
  obtain ⟨k1, k2, ⟨k3, ds, v, d1, d2, d3, rfl, l1⟩ | ⟨k3, rfl⟩⟩ := k
  · obtain ⟨b1, c1, b2, c2, rfl, r1, r2⟩ := l1.ex
    exact ⟨k1, k2, _, 0, b1, c1, b2, c2, .inl ⟨k3, ds, d1, d2, d3, rfl, rfl⟩, rfl, r1, r2⟩
  · exact ⟨k1, k2, L0, 2, none, 0, none, 0, .inr ⟨k3, rfl, rfl⟩, rfl, ⟨⟨_, _, rfl, .inl ⟨rfl, rfl, rfl⟩⟩, fun a n c e => by cases e⟩, ⟨⟨_, _, rfl, .inl ⟨rfl, rfl, rfl⟩⟩, fun a n c e => by cases e⟩⟩
theorem SR.len {p A B : Lf} {f : Bool} (h : SR p A B f) (h1 : p.base.length ≤ 70) (h2 : p.deltas.length ≤ 70) : (A.base.length ≤ 70 ∧ A.deltas.length ≤ 70) ∧ (B.base.length ≤ 70 ∧ B.deltas.length ≤ 70) := by
  rcases h with ⟨_, rfl, rfl, _⟩ | ⟨s, _, _, rfl, rfl, _⟩
  · exact ⟨⟨by simp, by simp⟩, by simp, by simp⟩
  · exact ⟨⟨Nat.le_trans (List.length_filter_le _ _) h1, Nat.le_trans (List.length_filter_le _ _) h2⟩, Nat.le_trans (List.length_filter_le _ _) h1, Nat.le_trans (List.length_filter_le _ _) h2⟩
theorem JR.len {a b R : Lf} {e : Int} (h : JR a b R e) (h1 : a.base.length ≤ 70) (h2 : a.deltas.length ≤ 70) (h3 : b.base.length ≤ 70) (h4 : b.deltas.length ≤ 70) : R.base.length ≤ 140 ∧ R.deltas.length ≤ 140 := by
  rcases h with ⟨_, ds, d1, _, _, rfl, _⟩ | ⟨_, rfl, _⟩
  · have := d1.length_eq
    simp only [joinD, List.length_append] at this ⊢
    omega
  · simp
theorem keys_big (P : Lf) (h1 : P.base.length ≤ 70) (h2 : P.deltas.length ≤ 70) : (keysM P).length ≤ 1000000 := by
  simp only [keysM]
  split
  · have := keysL_length P.all P.all.length
    rw [List.take_length, Lf.all, List.length_append] at this
    simp only [Lf.all] at this ⊢
    omega
  · simp
theorem parts_c (h : AHeap) (p q : Lf) (b1 b2 b3 b4 : Option Addr) (a1 : AtB b1 p.base.length) (a2 : AtB b2 p.deltas.length) (a3 : AtB b3 q.base.length) (a4 : AtB b4 q.deltas.length)
    (h1 : RS h p.base (.slice b1 p.base.length 0)) (h2 : RS h p.deltas (.slice b2 p.deltas.length 0)) (h3 : RS h q.base (.slice b3 q.base.length 0)) (h4 : RS h q.deltas (.slice b4 q.deltas.length 0)) (lbp : LB p) (lbq : LB q) :
    FWp Tryz.prog 5 [LV p (.slice b1 p.base.length 0) (.slice b2 p.deltas.length 0), LV q (.slice b3 q.base.length 0) (.slice b4 q.deltas.length 0)] h fun u _ => u = .bool true := by
  obtain ⟨P, hP⟩ : ∃ P, P = cutM p := ⟨_, rfl⟩
  obtain ⟨Q, hQ⟩ : ∃ Q, Q = cutM q := ⟨_, rfl⟩
  have lP : P.base.length ≤ 70 ∧ P.deltas.length ≤ 70 := by rw [hP]; simp only [cutM, List.length_take]; omega
  have lQ : Q.base.length ≤ 70 ∧ Q.deltas.length ≤ 70 := by rw [hQ]; simp only [cutM, List.length_take]; omega
  have lbP : LB P := by rw [hP]; exact lbp.cut
  have lbQ : LB Q := by rw [hQ]; exact lbq.cut
  have tk : ∀ (l : List Rec) (b : Option Addr), RS h l (.slice b l.length 0) → RS h (l.take 70) (.slice b (l.take 70).length 0) := fun l b s => by
    have hl : (l.take 70).length = min 70 l.length := List.length_take
    have e : l.take 70 = l.take (min 70 l.length) := by
      rcases Nat.le_total 70 l.length with h9 | h9
      · rw [Nat.min_eq_left h9]
      · rw [Nat.min_eq_right h9, List.take_of_length_le h9, List.take_of_length_le (Nat.le_refl _)]
    rw [hl, e]
    exact rs_take s (Nat.min_le_right _ _)
  have s1 : RS h P.base (.slice b1 P.base.length 0) := by rw [hP]; exact tk _ _ h1
  have s2 : RS h P.deltas (.slice b2 P.deltas.length 0) := by rw [hP]; exact tk _ _ h2
  have s3 : RS h Q.base (.slice b3 Q.base.length 0) := by rw [hQ]; exact tk _ _ h3
  have s4 : RS h Q.deltas (.slice b4 Q.deltas.length 0) := by rw [hQ]; exact tk _ _ h4
  have cp := fun G : AHeap => cut_c G p b1 b2 a1 a2
  have cq := fun G : AHeap => cut_c G q b3 b4 a3 a4
  rw [← hP] at cp
  rw [← hQ] at cq
  refine W.enter tyOK Tryz.func5 rfl rfl ?_
  simp only [entry]
  refine Wr <| Oa rfl Zx rfl <| Oa rfl Zx rfl <| Of rfl za rfl rfl <| On ?_
  refine Wr <| Oa rfl (zl (hv := by simp (disch := first | omega | simp only [nx]; omega) only [aLoad, ty25, rowOf, hpl, rcl, Value.cells, ty25, ty4] <;> rfl)) rfl <| OSuf.call rfl (by simp only [aopnds, lk] <;> rfl) en7 (cp _) ?_
  rintro _ G1 ⟨rfl, n1, k1⟩
  simp only [nx] at n1
  have qp1 : G1.get h.next = some (LR p (.slice b1 p.base.length 0) (.slice b2 p.deltas.length 0)) := (by rw [k1 _ (by simp only [nx]; omega)]; simp (disch := first | omega | simp only [nx]; omega) only [hpl] <;> rfl)
  have qq1 : G1.get (h.next + 1) = some (LR q (.slice b3 q.base.length 0) (.slice b4 q.deltas.length 0)) := (by rw [k1 _ (by simp only [nx]; omega)]; simp (disch := first | omega | simp only [nx]; omega) only [hpl] <;> rfl)
  have old1 : ∀ z, z < h.next → G1.get z = h.get z := (fun z hz => by rw [k1 _ (by simp only [nx]; omega)]; simp (disch := first | omega | simp only [nx]; omega) only [hpl])
  refine ⟨_, rfl, ?_⟩
  refine Oa rfl (zs (hv := by simp (disch := first | omega | simp only [nx]; omega) only [aStore, ty25, writeRow, hpl, rcl, Value.cells, ty25, ty4, qp1, qq1] <;> rfl)) rfl <| On ?_
  obtain ⟨A1, hA1⟩ : ∃ A1, A1 = G1.set h.next (LR P (.slice b1 P.base.length 0) (.slice b2 P.deltas.length 0)) := ⟨_, rfl⟩
  show CWp _ _ _ _ (G1.set h.next (LR P (.slice b1 P.base.length 0) (.slice b2 P.deltas.length 0))) _
  rw [← hA1]
  have nA1 : A1.next = G1.next := by rw [hA1]; rfl
  have qpA1 : A1.get h.next = some (LR P (.slice b1 P.base.length 0) (.slice b2 P.deltas.length 0)) := by rw [hA1]; exact Gp
  have qqA1 : A1.get (h.next + 1) = some (LR q (.slice b3 q.base.length 0) (.slice b4 q.deltas.length 0)) := by rw [hA1, Gs (by omega)]; exact qq1
  have oldA1 : ∀ z, z < h.next → A1.get z = h.get z := fun z hz => by rw [hA1, Gs (by omega)]; exact old1 z hz
  refine CWp.known (L := [(2, P0 h.next), (3, P0 (h.next + 1))]) ⟨(by simp only [lk] <;> rfl), (by simp only [lk] <;> rfl), trivial⟩ ?_
  simp only [mkA]
  refine Wr <| Oa rfl (zl (hv := by simp (disch := first | omega | simp only [nx]; omega) only [aLoad, ty25, rowOf, hpl, qpA1, qqA1, Value.cells, ty25, ty4] <;> rfl)) rfl <| OSuf.call rfl (by simp only [aopnds, lk] <;> rfl) en7 (cq A1) ?_
  rintro _ G2 ⟨rfl, n2, k2⟩
  have qp2 : G2.get h.next = some (LR P (.slice b1 P.base.length 0) (.slice b2 P.deltas.length 0)) := (by rw [k2 _ (by omega)]; exact qpA1)
  have qq2 : G2.get (h.next + 1) = some (LR q (.slice b3 q.base.length 0) (.slice b4 q.deltas.length 0)) := (by rw [k2 _ (by omega)]; exact qqA1)
  refine ⟨_, rfl, ?_⟩
  refine Oa rfl (zs (hv := by simp (disch := first | omega | simp only [nx]; omega) only [aStore, ty25, writeRow, hpl, qpA1, qqA1, Value.cells, ty25, ty4, qp2, qq2] <;> rfl)) rfl <| On ?_
  obtain ⟨A2, hA2⟩ : ∃ A2, A2 = G2.set (h.next + 1) (LR Q (.slice b3 Q.base.length 0) (.slice b4 Q.deltas.length 0)) := ⟨_, rfl⟩
  show CWp _ _ _ _ (G2.set (h.next + 1) (LR Q (.slice b3 Q.base.length 0) (.slice b4 Q.deltas.length 0))) _
  rw [← hA2]
  have nA2 : h.next + 2 ≤ A2.next := by rw [hA2]; simp only [nx]; omega
  have qp : A2.get h.next = some (LR P (.slice b1 P.base.length 0) (.slice b2 P.deltas.length 0)) := by rw [hA2, Gs (by omega)]; exact qp2
  have qq : A2.get (h.next + 1) = some (LR Q (.slice b3 Q.base.length 0) (.slice b4 Q.deltas.length 0)) := by rw [hA2]; exact Gp
  have old : ∀ z, z < h.next → A2.get z = h.get z := fun z hz => by rw [hA2, Gs (by omega), k2 z (by omega)]; exact oldA1 z hz
  refine CWp.known (L := [(2, P0 h.next), (3, P0 (h.next + 1))]) ⟨(by simp only [lk] <;> rfl), (by simp only [lk] <;> rfl), trivial⟩ ?_
  simp only [mkA]
  have t1 := s1.mono (h' := A2) (by omega) old
  have t2 := s2.mono (h' := A2) (by omega) old
  have t3 := s3.mono (h' := A2) (by omega) old
  have t4 := s4.mono (h' := A2) (by omega) old
  -- everything behind keeps what A2 has
  have w3 := (split_c A2 P _ _ t1 t2 (by omega) (by omega) (keys_big P lP.1 lP.2)).mono fun u g hu => sp_of hu
  refine Wr <| Oa rfl (zl (hv := by simp (disch := first | omega | simp only [nx]; omega) only [aLoad, ty25, rowOf, hpl, qp, Value.cells, ty25, ty4] <;> rfl)) rfl <| OSuf.call rfl (by simp only [aopnds, lk] <;> rfl) en30 (w3) ?_
  rintro _ B3 ⟨n3, k3, A, B, f, x1, y1, x2, y2, x3, y3, x4, y4, r3, rfl, v1, v2, v3, v4⟩
  refine ⟨_, rfl, ?_⟩
  refine Oa rfl sm rfl <| Oa rfl (ze (hv := by simp (disch := first | omega | simp only [nx]; omega) only [aExtract, hpl, qp, Value.cells, places, ty25, ty4] <;> rfl)) rfl <| Oa rfl (ze (hv := by simp (disch := first | omega | simp only [nx]; omega) only [aExtract, hpl, qp, Value.cells, places, ty25, ty4] <;> rfl)) rfl <| Oa rfl (ze (hv := by simp (disch := first | omega | simp only [nx]; omega) only [aExtract, hpl, qp, Value.cells, places, ty25, ty4] <;> rfl)) rfl <| Oa rfl (so_alloc (by simp only [aAlloc, ty25] <;> rfl)) rfl <| Oa rfl (so_alloc (by simp only [aAlloc, ty25] <;> rfl)) rfl <| Oa rfl (zs (hv := by simp (disch := first | omega | simp only [nx]; omega) only [aStore, ty25, writeRow, hpl, qp, Value.cells, ty25, ty4] <;> rfl)) rfl <| Oa rfl (zs (hv := by simp (disch := first | omega | simp only [nx]; omega) only [aStore, ty25, writeRow, hpl, qp, Value.cells, ty25, ty4] <;> rfl)) rfl <| Oa rfl za rfl <| On ?_
  obtain ⟨A4, hA4⟩ : ∃ A4, A4 = ((((B3.new (.cells zlf 1)).new (.cells zlf 1)).set B3.next (LR A (.slice x1 A.base.length y1) (.slice x2 A.deltas.length y2))).set (B3.next + 1) (LR B (.slice x3 B.base.length y3) (.slice x4 B.deltas.length y4))) := ⟨_, rfl⟩
  show CWp _ _ _ _ ((((B3.new (.cells zlf 1)).new (.cells zlf 1)).set B3.next (LR A (.slice x1 A.base.length y1) (.slice x2 A.deltas.length y2))).set (B3.next + 1) (LR B (.slice x3 B.base.length y3) (.slice x4 B.deltas.length y4))) _
  rw [← hA4]
  have m3 : A4.next = B3.next + 2 := by rw [hA4]; rfl
  have j3 : ∀ z, z < B3.next → A4.get z = B3.get z := fun z hz => by rw [hA4]; simp (disch := first | omega | simp only [nx]; omega) only [hpl]
  have i3 : ∀ z, z < A2.next → A4.get z = A2.get z := fun z hz => by rw [j3 z (by omega)]; exact k3 z hz
  have ra3 : A4.get B3.next = some (LR A (.slice x1 A.base.length y1) (.slice x2 A.deltas.length y2)) := by rw [hA4]; simp (disch := first | omega | simp only [nx]; omega) only [hpl]
  have rb3 : A4.get (B3.next + 1) = some (LR B (.slice x3 B.base.length y3) (.slice x4 B.deltas.length y4)) := by rw [hA4]; simp (disch := first | omega | simp only [nx]; omega) only [hpl]
  refine CWp.known (L := [(2, P0 h.next), (3, P0 (h.next + 1)), (5, P0 B3.next), (6, P0 (B3.next + 1)), (7, .bool f)]) ⟨(by simp only [lk] <;> rfl), (by simp only [lk] <;> rfl), (by simp only [lk] <;> rfl), (by simp only [lk] <;> rfl), (by simp only [lk] <;> rfl), trivial⟩ ?_
  simp only [mkA]
  have qp4 : A4.get h.next = some (LR P (.slice b1 P.base.length 0) (.slice b2 P.deltas.length 0)) := by rw [i3 _ (by omega)]; exact qp
  have qq4 : A4.get (h.next + 1) = some (LR Q (.slice b3 Q.base.length 0) (.slice b4 Q.deltas.length 0)) := by rw [i3 _ (by omega)]; exact qq
  have old4 : ∀ z, z < h.next → A4.get z = h.get z := fun z hz => by rw [i3 z (by omega)]; exact old z hz
  have w4 := (split0_c A4 P _ _ (s1.mono (by omega) old4) (s2.mono (by omega) old4) (by omega) (by omega) lbP).mono fun u g hu => sp_of hu
  refine Wr <| Oa rfl (zl (hv := by simp (disch := first | omega | simp only [nx]; omega) only [aLoad, ty25, rowOf, hpl, qp4, Value.cells, ty25, ty4] <;> rfl)) rfl <| OSuf.call rfl (by simp only [aopnds, lk] <;> rfl) en31 (w4) ?_
  rintro _ B4 ⟨n4, k4, A', B', f', x5, y5, x6, y6, x7, y7, x8, y8, r4, rfl, v5, v6, v7, v8⟩
  obtain ⟨rfl, rfl, rfl⟩ := r3.one r4
  refine ⟨_, rfl, ?_⟩
  refine Oa rfl sm rfl <| Oa rfl (ze (hv := by simp (disch := first | omega | simp only [nx]; omega) only [aExtract, hpl, qp4, Value.cells, places, ty25, ty4] <;> rfl)) rfl <| Oa rfl (ze (hv := by simp (disch := first | omega | simp only [nx]; omega) only [aExtract, hpl, qp4, Value.cells, places, ty25, ty4] <;> rfl)) rfl <| Oa rfl (ze (hv := by simp (disch := first | omega | simp only [nx]; omega) only [aExtract, hpl, qp4, Value.cells, places, ty25, ty4] <;> rfl)) rfl <| Oa rfl (so_alloc (by simp only [aAlloc, ty25] <;> rfl)) rfl <| Oa rfl (so_alloc (by simp only [aAlloc, ty25] <;> rfl)) rfl <| Oa rfl (zs (hv := by simp (disch := first | omega | simp only [nx]; omega) only [aStore, ty25, writeRow, hpl, qp4, Value.cells, ty25, ty4] <;> rfl)) rfl <| Oa rfl (zs (hv := by simp (disch := first | omega | simp only [nx]; omega) only [aStore, ty25, writeRow, hpl, qp4, Value.cells, ty25, ty4] <;> rfl)) rfl <| Oa rfl za rfl <| On ?_
  obtain ⟨A5, hA5⟩ : ∃ A5, A5 = ((((B4.new (.cells zlf 1)).new (.cells zlf 1)).set B4.next (LR A (.slice x5 A.base.length y5) (.slice x6 A.deltas.length y6))).set (B4.next + 1) (LR B (.slice x7 B.base.length y7) (.slice x8 B.deltas.length y8))) := ⟨_, rfl⟩
  show CWp _ _ _ _ ((((B4.new (.cells zlf 1)).new (.cells zlf 1)).set B4.next (LR A (.slice x5 A.base.length y5) (.slice x6 A.deltas.length y6))).set (B4.next + 1) (LR B (.slice x7 B.base.length y7) (.slice x8 B.deltas.length y8))) _
  rw [← hA5]
  have m4 : A5.next = B4.next + 2 := by rw [hA5]; rfl
  have j4 : ∀ z, z < B4.next → A5.get z = B4.get z := fun z hz => by rw [hA5]; simp (disch := first | omega | simp only [nx]; omega) only [hpl]
  have i4 : ∀ z, z < A4.next → A5.get z = A4.get z := fun z hz => by rw [j4 z (by omega)]; exact k4 z hz
  have ra4 : A5.get B4.next = some (LR A (.slice x5 A.base.length y5) (.slice x6 A.deltas.length y6)) := by rw [hA5]; simp (disch := first | omega | simp only [nx]; omega) only [hpl]
  have rb4 : A5.get (B4.next + 1) = some (LR B (.slice x7 B.base.length y7) (.slice x8 B.deltas.length y8)) := by rw [hA5]; simp (disch := first | omega | simp only [nx]; omega) only [hpl]
  refine CWp.known (L := [(2, P0 h.next), (3, P0 (h.next + 1)), (5, P0 B3.next), (6, P0 (B3.next + 1)), (7, .bool f), (8, P0 B4.next), (9, P0 (B4.next + 1)), (10, .bool f)]) ⟨(by simp only [lk] <;> rfl), (by simp only [lk] <;> rfl), (by simp only [lk] <;> rfl), (by simp only [lk] <;> rfl), (by simp only [lk] <;> rfl), (by simp only [lk] <;> rfl), (by simp only [lk] <;> rfl), (by simp only [lk] <;> rfl), trivial⟩ ?_
  simp only [mkA]
  have qp5 : A5.get h.next = some (LR P (.slice b1 P.base.length 0) (.slice b2 P.deltas.length 0)) := by rw [i4 _ (by omega)]; exact qp4
  have qq5 : A5.get (h.next + 1) = some (LR Q (.slice b3 Q.base.length 0) (.slice b4 Q.deltas.length 0)) := by rw [i4 _ (by omega)]; exact qq4
  have old5 : ∀ z, z < h.next → A5.get z = h.get z := fun z hz => by rw [i4 z (by omega)]; exact old4 z hz
  have w5 := (join_g A5 P Q _ _ _ _ (s1.mono (by omega) old5) (s2.mono (by omega) old5) (s3.mono (by omega) old5) (s4.mono (by omega) old5) (by omega) (by omega) (by omega) (by omega) (by rw [List.length_append]; omega) (by rw [List.length_append]; omega)).mono fun u g hu => jp_of hu
  refine Wr <| Oa rfl (zl (hv := by simp (disch := first | omega | simp only [nx]; omega) only [aLoad, ty25, rowOf, hpl, qp5, qq5, rcl, Value.cells, ty25, ty4] <;> rfl)) rfl <| Oa rfl (zl (hv := by simp (disch := first | omega | simp only [nx]; omega) only [aLoad, ty25, rowOf, hpl, qp5, qq5, rcl, Value.cells, ty25, ty4] <;> rfl)) rfl <| OSuf.call rfl (by simp only [aopnds, lk] <;> rfl) en32 (w5) ?_
  rintro _ B5 ⟨n5, k5, R, e, x9, y9, x10, y10, r5, rfl, v9, v10⟩
  refine ⟨_, rfl, ?_⟩
  refine Oa rfl sm rfl <| Oa rfl (ze (hv := by simp (disch := first | omega | simp only [nx]; omega) only [aExtract, hpl, qp5, qq5, rcl, Value.cells, places, ty25, ty4] <;> rfl)) rfl <| Oa rfl (ze (hv := by simp (disch := first | omega | simp only [nx]; omega) only [aExtract, hpl, qp5, qq5, rcl, Value.cells, places, ty25, ty4] <;> rfl)) rfl <| Oa rfl (so_alloc (by simp only [aAlloc, ty25] <;> rfl)) rfl <| Oa rfl (zs (hv := by simp (disch := first | omega | simp only [nx]; omega) only [aStore, ty25, writeRow, hpl, qp5, qq5, rcl, Value.cells, ty25, ty4] <;> rfl)) rfl <| Oa rfl za rfl <| On ?_
  obtain ⟨A6, hA6⟩ : ∃ A6, A6 = (B5.new (LR R (.slice x9 R.base.length y9) (.slice x10 R.deltas.length y10))) := ⟨_, rfl⟩
  show CWp _ _ _ _ (B5.new (LR R (.slice x9 R.base.length y9) (.slice x10 R.deltas.length y10))) _
  rw [← hA6]
  have m5 : A6.next = B5.next + 1 := by rw [hA6]; rfl
  have j5 : ∀ z, z < B5.next → A6.get z = B5.get z := fun z hz => by rw [hA6]; simp (disch := first | omega | simp only [nx]; omega) only [hpl]
  have i5 : ∀ z, z < A5.next → A6.get z = A5.get z := fun z hz => by rw [j5 z (by omega)]; exact k5 z hz
  have ra5 : A6.get B5.next = some (LR R (.slice x9 R.base.length y9) (.slice x10 R.deltas.length y10)) := by rw [hA6]; exact Gq
  refine CWp.known (L := [(2, P0 h.next), (3, P0 (h.next + 1)), (5, P0 B3.next), (6, P0 (B3.next + 1)), (7, .bool f), (8, P0 B4.next), (9, P0 (B4.next + 1)), (10, .bool f), (11, P0 B5.next), (12, I64 e)]) ⟨(by simp only [lk] <;> rfl), (by simp only [lk] <;> rfl), (by simp only [lk] <;> rfl), (by simp only [lk] <;> rfl), (by simp only [lk] <;> rfl), (by simp only [lk] <;> rfl), (by simp only [lk] <;> rfl), (by simp only [lk] <;> rfl), (by simp only [lk] <;> rfl), (by simp only [lk] <;> rfl), trivial⟩ ?_
  simp only [mkA]
  have qp6 : A6.get h.next = some (LR P (.slice b1 P.base.length 0) (.slice b2 P.deltas.length 0)) := by rw [i5 _ (by omega)]; exact qp5
  have qq6 : A6.get (h.next + 1) = some (LR Q (.slice b3 Q.base.length 0) (.slice b4 Q.deltas.length 0)) := by rw [i5 _ (by omega)]; exact qq5
  have old6 : ∀ z, z < h.next → A6.get z = h.get z := fun z hz => by rw [i5 z (by omega)]; exact old5 z hz
  have w6 := (join0_c A6 P Q _ _ _ _ (s1.mono (by omega) old6) (s2.mono (by omega) old6) (s3.mono (by omega) old6) (s4.mono (by omega) old6) (by omega) (by omega) (by omega) (by omega) (by rw [List.length_append]; omega) (by rw [List.length_append]; omega) lbP lbQ).mono fun u g hu => jp_of hu
  refine Wr <| Oa rfl (zl (hv := by simp (disch := first | omega | simp only [nx]; omega) only [aLoad, ty25, rowOf, hpl, qp6, qq6, rcl, Value.cells, ty25, ty4] <;> rfl)) rfl <| Oa rfl (zl (hv := by simp (disch := first | omega | simp only [nx]; omega) only [aLoad, ty25, rowOf, hpl, qp6, qq6, rcl, Value.cells, ty25, ty4] <;> rfl)) rfl <| OSuf.call rfl (by simp only [aopnds, lk] <;> rfl) en33 (w6) ?_
  rintro _ B6 ⟨n6, k6, R', e', x11, y11, x12, y12, r6, rfl, v11, v12⟩
  obtain ⟨rfl, rfl⟩ := r5.one r6
  refine ⟨_, rfl, ?_⟩
  refine Oa rfl sm rfl <| Oa rfl (ze (hv := by simp (disch := first | omega | simp only [nx]; omega) only [aExtract, hpl, qp6, qq6, rcl, Value.cells, places, ty25, ty4] <;> rfl)) rfl <| Oa rfl (ze (hv := by simp (disch := first | omega | simp only [nx]; omega) only [aExtract, hpl, qp6, qq6, rcl, Value.cells, places, ty25, ty4] <;> rfl)) rfl <| Oa rfl (so_alloc (by simp only [aAlloc, ty25] <;> rfl)) rfl <| Oa rfl (zs (hv := by simp (disch := first | omega | simp only [nx]; omega) only [aStore, ty25, writeRow, hpl, qp6, qq6, rcl, Value.cells, ty25, ty4] <;> rfl)) rfl <| Oa rfl za rfl <| On ?_
  obtain ⟨A7, hA7⟩ : ∃ A7, A7 = (B6.new (LR R (.slice x11 R.base.length y11) (.slice x12 R.deltas.length y12))) := ⟨_, rfl⟩
  show CWp _ _ _ _ (B6.new (LR R (.slice x11 R.base.length y11) (.slice x12 R.deltas.length y12))) _
  rw [← hA7]
  have m6 : A7.next = B6.next + 1 := by rw [hA7]; rfl
  have j6 : ∀ z, z < B6.next → A7.get z = B6.get z := fun z hz => by rw [hA7]; simp (disch := first | omega | simp only [nx]; omega) only [hpl]
  have i6 : ∀ z, z < A6.next → A7.get z = A6.get z := fun z hz => by rw [j6 z (by omega)]; exact k6 z hz
  have ra6 : A7.get B6.next = some (LR R (.slice x11 R.base.length y11) (.slice x12 R.deltas.length y12)) := by rw [hA7]; exact Gq
  refine CWp.known (L := [(2, P0 h.next), (3, P0 (h.next + 1)), (5, P0 B3.next), (6, P0 (B3.next + 1)), (7, .bool f), (8, P0 B4.next), (9, P0 (B4.next + 1)), (10, .bool f), (11, P0 B5.next), (12, I64 e), (13, P0 B6.next), (14, I64 e)]) ⟨(by simp only [lk] <;> rfl), (by simp only [lk] <;> rfl), (by simp only [lk] <;> rfl), (by simp only [lk] <;> rfl), (by simp only [lk] <;> rfl), (by simp only [lk] <;> rfl), (by simp only [lk] <;> rfl), (by simp only [lk] <;> rfl), (by simp only [lk] <;> rfl), (by simp only [lk] <;> rfl), (by simp only [lk] <;> rfl), (by simp only [lk] <;> rfl), trivial⟩ ?_
  simp only [mkA]
  have z3 : ∀ z, z < A4.next → A7.get z = A4.get z := fun z hz => by rw [i6 z (by omega), i5 z (by omega), i4 z hz]
  have z4 : ∀ z, z < A5.next → A7.get z = A5.get z := fun z hz => by rw [i6 z (by omega), i5 z hz]
  have z5 : ∀ z, z < A6.next → A7.get z = A6.get z := i6
  have ua : A7.get B3.next = some (LR A (.slice x1 A.base.length y1) (.slice x2 A.deltas.length y2)) := by rw [z3 _ (by omega)]; exact ra3
  have ub : A7.get (B3.next + 1) = some (LR B (.slice x3 B.base.length y3) (.slice x4 B.deltas.length y4)) := by rw [z3 _ (by omega)]; exact rb3
  have uc : A7.get B4.next = some (LR A (.slice x5 A.base.length y5) (.slice x6 A.deltas.length y6)) := by rw [z4 _ (by omega)]; exact ra4
  have ud : A7.get (B4.next + 1) = some (LR B (.slice x7 B.base.length y7) (.slice x8 B.deltas.length y8)) := by rw [z4 _ (by omega)]; exact rb4
  have ue : A7.get B5.next = some (LR R (.slice x9 R.base.length y9) (.slice x10 R.deltas.length y10)) := by rw [z5 _ (by omega)]; exact ra5
  have c3 : ∀ z, z < B3.next → A7.get z = B3.get z := fun z hz => by rw [z3 z (by omega), j3 z hz]
  have c4 : ∀ z, z < B4.next → A7.get z = B4.get z := fun z hz => by rw [z4 z (by omega), j4 z hz]
  have c5 : ∀ z, z < B5.next → A7.get z = B5.get z := fun z hz => by rw [z5 z (by omega), j5 z hz]
  have c6 : ∀ z, z < B6.next → A7.get z = B6.get z := j6
  obtain ⟨⟨g1, g2⟩, g3, g4⟩ := r3.len lP.1 lP.2
  obtain ⟨g5, g6⟩ := r5.len lP.1 lP.2 lQ.1 lQ.2
  have e1 := same0_c A7 A _ _ _ _ (v1.rs.mono (by omega) c3) (v2.rs.mono (by omega) c3) (v5.rs.mono (by omega) c4) (v6.rs.mono (by omega) c4) (by omega) (by omega)
  have e2 := same0_c A7 B _ _ _ _ (v3.rs.mono (by omega) c3) (v4.rs.mono (by omega) c3) (v7.rs.mono (by omega) c4) (v8.rs.mono (by omega) c4) (by omega) (by omega)
  have e3 := same0_c A7 R _ _ _ _ (v9.rs.mono (by omega) c5) (v10.rs.mono (by omega) c5) (v11.rs.mono (by omega) c6) (v12.rs.mono (by omega) c6) (by omega) (by omega)
  refine Wr <| Oa rfl sm rfl <| Oa rfl sm rfl <| Ot rfl (zb (hv := bb_eql tyOK ty4 rfl)) rfl (by simp) <| Ot rfl sm rfl rfl <| Oa ag (zl (hv := by simp (disch := first | omega | simp only [nx]; omega) only [aLoad, ty25, rowOf, hpl, ua, ub, uc, ud, ue, ra6, Value.cells, ty25, ty4] <;> rfl)) rfl <| Oa ag (zl (hv := by simp (disch := first | omega | simp only [nx]; omega) only [aLoad, ty25, rowOf, hpl, ua, ub, uc, ud, ue, ra6, Value.cells, ty25, ty4] <;> rfl)) rfl <| OSuf.callD ag (by simp only [aopnds, lk] <;> rfl) en15 (e1) rfl <| Ot rfl Zp rfl rfl <| Ot rfl sm rfl rfl <| Oa ag (zl (hv := by simp (disch := first | omega | simp only [nx]; omega) only [aLoad, ty25, rowOf, hpl, ua, ub, uc, ud, ue, ra6, Value.cells, ty25, ty4] <;> rfl)) rfl <| Oa ag (zl (hv := by simp (disch := first | omega | simp only [nx]; omega) only [aLoad, ty25, rowOf, hpl, ua, ub, uc, ud, ue, ra6, Value.cells, ty25, ty4] <;> rfl)) rfl <| OSuf.callD ag (by simp only [aopnds, lk] <;> rfl) en15 (e2) rfl <| Ot rfl Zp rfl rfl <| Ot rfl sm rfl rfl <| Oa ag sm rfl <| Oa ag sm rfl <| Ot ag (zb (hv := bi_eql)) rfl (by simp) <| Ot rfl Zp rfl rfl <| Ot rfl sm rfl rfl <| Oa ag (zl (hv := by simp (disch := first | omega | simp only [nx]; omega) only [aLoad, ty25, rowOf, hpl, ua, ub, uc, ud, ue, ra6, Value.cells, ty25, ty4] <;> rfl)) rfl <| Oa ag (zl (hv := by simp (disch := first | omega | simp only [nx]; omega) only [aLoad, ty25, rowOf, hpl, ua, ub, uc, ud, ue, ra6, Value.cells, ty25, ty4] <;> rfl)) rfl <| OSuf.callD ag (by simp only [aopnds, lk] <;> rfl) en15 (e3) rfl <| Ot rfl Zp rfl rfl <| Ot rfl sm rfl rfl <| OSuf.callD ag (by simp only [aopnds, lk] <;> rfl) en27 (works_c _) rfl <| Ot rfl Zp rfl rfl <| Ot rfl za rfl rfl <| On ?_
  refine CWp.ret <| FQ.ret (by simp only [aRet, Tryz.f5, aResults, aResult, lk, Nat.reduceEqDiff, reduceIte] <;> rfl) ?_
  rfl
end Go.Proofs.YtebheelmgcggmaaGreat
