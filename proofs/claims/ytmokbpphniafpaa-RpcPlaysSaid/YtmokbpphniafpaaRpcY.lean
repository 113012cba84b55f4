/-
  Ask, of the program and of the document: what becomes of the memory, exactly.
-/
import Derived.Test.YtmokbpphniafpaaRpcX
namespace Go.Proofs.Ytmokbpphniafpaa
open Go.Ab
set_option linter.unusedSimpArgs false
set_option linter.unusedVariables false
set_option maxRecDepth 10000
set_option maxHeartbeats 4000000

def Msg.at (m : Msg) (i : Int) : Msg := { m with id := i }
def newQ (last : Int) (w b : Nat) (m : Msg) : Qn := ⟨last + 1, w, b, m.at (last + 1), false, 0⟩
def askH (h : AHeap) (r : Nat) (S : RS) (m : Msg) : AHeap :=
  ((((h.new (.cells m.cs 1)).set r (.cells [U64 (S.last + 1), .map (some S.m)] 1)).set h.next (.cells (m.at (S.last + 1)).cs 1)).new (.cells (newQ S.last (h.next + 1) S.clock m).cs 1)).set S.m (.map (mkE .u64 (S.qs.map Qn.ent ++ [(newQ S.last (h.next + 1) S.clock m).ent])) (S.clock + 1))
theorem ask_e (h : AHeap) (r : Nat) (S : RS) (hA : RA h r S) (m : Msg) (hl : S.last < 1000000000) :
    FWp Try.prog 18 [P0 r, m.v] h fun u h' => u = U64 (S.last + 1) ∧ h' = askH h r S m := by
  have hrow := hA.row
  have hmap := hA.map
  have hlt := hA.lt
  have hml := hA.mlt
  have hrm := hA.rm
  have hrm' : ¬ S.m = r := fun e => hrm e.symm
  have h0 := hA.l0
  have w1 : IntKind.u64.wrap (S.last + 1) = S.last + 1 := wrap_u64 (by omega) (by omega)
  have hidx : idxI (S.last + 1) (S.qs.map Qn.ent) 0 = none := idxI_none fun x hx => by
    obtain ⟨q, hq, rfl⟩ := List.mem_map.1 hx
    have := (hA.idr q hq).2.1
    simp only [Qn.ent]; omega
  refine W.enter tyOK Try.func18 rfl rfl ?_
  simp only [entry, Msg.v]
  refine W.seq <| W.reg <| OSuf.aop tyOK rfl (so_box (by simp only [lk] <;> rfl)) rfl <| OSuf.aop tyOK rfl (so_assign (by simp only [lk] <;> rfl)) rfl <| OSuf.nil <| SQ.normal ?_
  refine W.seq <| W.seq <| W.reg <| OSuf.aop tyOK rfl (so_move (by simp only [lk] <;> rfl)) rfl <| OSuf.callD rfl (by simp only [aopnds, lk] <;> rfl) en23 (none_c _ r S (hA.mono (by simp) fun z hz => AHeap.get_new_ne (by omega))) rfl <| OSuf.nil <| SQ.normal ?_
  refine W.no (by simp only [lk] <;> rfl) <| CWp.skip <| SQ.normal ?_
  refine W.seq <| W.reg <| OSuf.aop tyOK rfl (so_move (by simp only [lk] <;> rfl)) rfl <| OSuf.aop tyOK rfl (so_nilCheck (by simp only [lk] <;> rfl)) rfl <| OSuf.aop tyOK rfl (so_fieldAddr (by simp only [lk] <;> rfl) (fa_ok (k := 0) ty59 rfl rfl ty27 rfl rfl)) rfl <| OSuf.aop tyOK rfl (so_load (by simp only [lk] <;> rfl) (by simp (disch := first | assumption | omega | (simp only [nx] <;> omega) | fail) only [aLoad, ty27, rowOf, hpl, hrow, hmap, Value.cells] <;> rfl)) rfl <| OSuf.aop tyOK rfl (so_bin (by simp only [lk] <;> rfl) (by simp only [lk] <;> rfl) (bi_w bi_add (by first | (simp only [w1] <;> rfl) | rfl))) rfl <| OSuf.aop tyOK rfl (so_nilCheck (by simp only [lk] <;> rfl)) rfl <| OSuf.aop tyOK rfl (so_fieldAddr (by simp only [lk] <;> rfl) (fa_ok (k := 0) ty59 rfl rfl ty27 rfl rfl)) rfl <| OSuf.aop tyOK rfl (so_store (by simp only [lk] <;> rfl) (by simp only [lk] <;> rfl) (by simp (disch := first | assumption | omega | (simp only [nx] <;> omega) | fail) only [aStore, ty27, writeRow, hpl, hrow, hmap, Value.cells] <;> rfl)) rfl <| OSuf.nil <| SQ.normal ?_
  refine W.seq <| W.reg <| OSuf.aop tyOK rfl (so_move (by simp only [lk] <;> rfl)) rfl <| OSuf.aop tyOK rfl (so_nilCheck (by simp only [lk] <;> rfl)) rfl <| OSuf.aop tyOK rfl (so_fieldAddr (by simp only [lk] <;> rfl) (fa_ok (k := 0) ty59 rfl rfl ty27 rfl rfl)) rfl <| OSuf.aop tyOK rfl (so_load (by simp only [lk] <;> rfl) (by simp (disch := first | assumption | omega | (simp only [nx] <;> omega) | fail) only [aLoad, ty27, rowOf, hpl, hrow, hmap, Value.cells] <;> rfl)) rfl <| OSuf.aop tyOK rfl (so_fieldAddr (by simp only [lk] <;> rfl) (fa_ok (k := 3) ty33 rfl rfl ty27 rfl rfl)) rfl <| OSuf.aop tyOK rfl (so_store (by simp only [lk] <;> rfl) (by simp only [lk] <;> rfl) (by simp (disch := first | assumption | omega | (simp only [nx] <;> omega) | fail) only [aStore, ty27, writeRow, hpl, hrow, hmap, Value.cells] <;> rfl)) rfl <| OSuf.nil <| SQ.normal ?_
  refine W.seq <| CWp.sqd tyOK mixed (ms := [0, 1, 3, 7, 0, 16, 0, 64, 192, 511]) (by kernel_rfl) (
      .free rfl rfl (so_move (by simp only [lk] <;> rfl)) rfl <| .free rfl rfl (so_nilCheck (by simp only [lk] <;> rfl)) rfl <| .free rfl rfl (so_fieldAddr (by simp only [lk] <;> rfl) (fa_ok (k := 1) ty59 rfl rfl ty57 rfl rfl)) rfl <| .read rfl rfl (so_load (by simp only [lk] <;> rfl) (by simp (disch := first | assumption | omega | (simp only [nx] <;> omega) | fail) only [aLoad, ty57, rowOf, hpl, hrow, hmap, Value.cells] <;> rfl)) (by first | rfl | (simp [veq, veq1, veqs]; done) | (simp [veq, veq1, veqs, splice]; done)) trivial rfl <| .free rfl rfl (so_fieldAddr (by simp only [lk] <;> rfl) (fa_ok (k := 3) ty33 rfl rfl ty27 rfl rfl)) rfl <| .read rfl rfl (so_load (by simp only [lk] <;> rfl) (by simp (disch := first | assumption | omega | (simp only [nx] <;> omega) | fail) only [aLoad, ty27, rowOf, hpl, hrow, hmap, Value.cells] <;> rfl)) (by first | rfl | (simp [veq, veq1, veqs]; done) | (simp [veq, veq1, veqs, splice]; done)) trivial rfl <| .read rfl rfl (so_load (by simp only [lk] <;> rfl) (by simp (disch := first | assumption | omega | (simp only [nx] <;> omega) | fail) only [aLoad, ty33, rowOf, hpl, hrow, hmap, Value.cells] <;> rfl)) (by first | rfl | (simp [veq, veq1, veqs]; done) | (simp [veq, veq1, veqs, splice]; done)) trivial rfl <| .free rfl rfl (so_build (by simp only [aparts, lk] <;> rfl) (by simp (disch := first | assumption | omega | (simp only [nx] <;> omega) | fail) only [aBuild, ty62, hpl, hrow, hmap, Value.cells] <;> rfl)) rfl <| .change rfl rfl (so_box (by simp only [lk] <;> rfl)) rfl ⟨.inl rfl, .inr (so_load (by simp only [lk] <;> rfl) (by simp (disch := first | assumption | omega | (simp only [nx] <;> omega) | fail) only [aLoad, ty27, rowOf, hpl, hrow, hmap, Value.cells] <;> rfl)), .inr (so_load (by simp only [lk] <;> rfl) (by simp (disch := first | assumption | omega | (simp only [nx] <;> omega) | fail) only [aLoad, ty57, rowOf, hpl, hrow, hmap, Value.cells] <;> rfl)), trivial⟩ rfl <| .change rfl rfl (so_mapUpdate (by simp only [lk] <;> rfl) (by simp only [lk] <;> rfl) (by simp only [lk] <;> rfl) (mu_new tyOK ty57 rfl ty27 rfl (by simp (disch := first | assumption | omega | (simp only [nx] <;> omega) | fail) only [aCells, rowOf, hpl, hrow, hmap, Value.cells] <;> rfl) hidx)) rfl ⟨.inl rfl, .inl rfl, .inl rfl, trivial⟩ rfl <| .nil) <| SQ.normal ?_
  refine W.seq <| W.reg <| OSuf.aop tyOK rfl (so_fieldAddr (by simp only [lk] <;> rfl) (fa_ok (k := 3) ty33 rfl rfl ty27 rfl rfl)) rfl <| OSuf.aop tyOK rfl (so_load (by simp only [lk] <;> rfl) (by simp (disch := first | assumption | omega | (simp only [nx] <;> omega) | fail) only [aLoad, ty27, rowOf, hpl, hrow, hmap, Value.cells] <;> rfl)) rfl <| OSuf.aop tyOK rfl (so_assign (by simp only [lk] <;> rfl)) rfl <| OSuf.nil <| SQ.normal ?_
  refine CWp.ret <| FQ.ret (by simp only [aRet, Try.f18, aResults, aResult, lk, Nat.reduceEqDiff, reduceIte] <;> rfl) ?_
  -- leaf: end
  exact ⟨rfl, rfl⟩
theorem ask_ra (h : AHeap) (r : Nat) (S : RS) (hA : RA h r S) (m : Msg) : RA (askH h r S m) r ⟨S.last + 1, S.qs ++ [newQ S.last (h.next + 1) S.clock m], S.clock + 1, S.m⟩ ∧ FrR h (askH h r S m) r S := by
  have hrow := hA.row
  have hmap := hA.map
  have hlt := hA.lt
  have hml := hA.mlt
  have hrm := hA.rm
  have hrm' : ¬ S.m = r := fun e => hrm e.symm
  have h0 := hA.l0
  unfold askH
  refine ⟨⟨?_, ?_, hrm, ?_, ?_, ?_, ?_, ?_, ?_, ?_, ?_, by simp only; omega⟩, ?_, ?_⟩
  · simp only [nx]; omega
  · simp only [nx]; omega
  · simp (disch := first | assumption | omega | (simp only [nx] <;> omega) | fail) only [hpl]
  · simp (disch := first | assumption | omega | (simp only [nx] <;> omega) | fail) only [hpl]; simp [Qn.ent]
  · intro q hq
    rcases List.mem_append.1 hq with h9 | h9
    · have := hA.born q h9; simp only; omega
    · simp at h9; subst h9; simp [newQ]
  · refine List.pairwise_append.2 ⟨hA.borns, by simp, fun a ha b hb => ?_⟩
    simp at hb; subst hb; exact hA.born a ha
  · refine List.pairwise_append.2 ⟨hA.ids, by simp, fun a ha b hb => ?_⟩
    simp at hb; subst hb; have := (hA.idr a ha).2.1; simp only [newQ]; omega
  · intro q hq
    rcases List.mem_append.1 hq with h9 | h9
    · have := hA.idr q h9; exact ⟨this.1, by simp only; omega, this.2.2⟩
    · simp at h9; subst h9; exact ⟨by simp only [newQ]; omega, by simp only [newQ]; omega, rfl⟩
  · intro q hq
    rcases List.mem_append.1 hq with h9 | h9
    · obtain ⟨g1, g2, g3, g4⟩ := hA.rows q h9
      have g2' : ¬ r = q.row := fun e => g2 e.symm
      have g3' : ¬ S.m = q.row := fun e => g3 e.symm
      refine ⟨by simp only [nx]; omega, g2, g3, ?_⟩
      simp (disch := first | assumption | omega | (simp only [nx] <;> omega) | fail) only [hpl]; exact g4
    · simp at h9; subst h9
      refine ⟨by simp only [nx, newQ]; omega, by simp only [newQ]; omega, by simp only [newQ]; omega, ?_⟩
      have g3' : ¬ S.m = h.next + 1 := by omega
      have e : (newQ S.last (h.next + 1) S.clock m).row = h.next + 1 := rfl
      rw [e]
      simp (disch := first | assumption | omega | (simp only [nx] <;> omega) | fail) only [hpl]
  · refine List.pairwise_append.2 ⟨hA.rowd, by simp, fun a ha b hb => ?_⟩
    simp at hb; subst hb; have := (hA.rows a ha).1; simp only [newQ]; omega
  · simp only [nx]; omega
  · intro z hz h1 h2 h3
    simp (disch := first | assumption | omega | (simp only [nx] <;> omega) | fail) only [hpl]

/-- The document's Ask. -/
theorem askr (h : AHeap) (s : Nat) (x : Option Nat) (last : Int) (qs : List Qn) (hB : RB h s x last qs) (m : Msg) (w b : Nat) (hl0 : 0 ≤ last) (hl : last < 1000000000) (hq : qs.length ≤ 1000000) :
    ∃ H y, FWp Try.prog 19 [P0 s, m.v] h (fun u h' => u = U64 (last + 1) ∧ h' = H) ∧ RB H s (some y) (last + 1) (qs ++ [newQ last w b m]) ∧ FrB h H s x ∧ h.next ≤ y ∧ H.next ≤ h.next + 10 := by
  obtain ⟨hlt, ⟨v, hv, hs⟩, hsx⟩ := hB
  have w1 : IntKind.u64.wrap (last + 1) = last + 1 := wrap_u64 (by omega) (by omega)
  cases hs with
  | none e hx =>
    subst e
    refine ⟨(((((h.new (.cells m.cs 1)).set s (.cells [.slice none 0 0, U64 (last + 1)] 1)).set h.next (.cells (m.at (last + 1)).cs 1)).new (.cells (newQ last w b m).cs 15)).new (.cells (newQ last w b m).cs 15)).set s (.cells [.slice (some ⟨h.next + 2, 0, none⟩) 1 0, U64 (last + 1)] 1), h.next + 2, ?_, ⟨?_, ⟨.slice (some ⟨h.next + 2, 0, none⟩) 1 0, by simp (disch := first | assumption | omega | (simp only [nx] <;> omega) | fail) only [hpl], .some (n := 1) (by simp) rfl ?_ ?_⟩, ?_⟩, ⟨?_, ?_⟩, by omega, ?_⟩
    · refine W.enter tyOK Try.func19 rfl rfl ?_
      simp only [entry, Msg.v]
      refine W.seq <| W.reg <| OSuf.aop tyOK rfl (so_box (by simp only [lk] <;> rfl)) rfl <| OSuf.aop tyOK rfl (so_assign (by simp only [lk] <;> rfl)) rfl <| OSuf.nil <| SQ.normal ?_
      refine W.seq <| W.reg <| OSuf.aop tyOK rfl (so_move (by simp only [lk] <;> rfl)) rfl <| OSuf.aop tyOK rfl (so_nilCheck (by simp only [lk] <;> rfl)) rfl <| OSuf.aop tyOK rfl (so_fieldAddr (by simp only [lk] <;> rfl) (fa_ok (k := 1) ty29 rfl rfl ty27 rfl rfl)) rfl <| OSuf.aop tyOK rfl (so_load (by simp only [lk] <;> rfl) (by simp (disch := first | assumption | omega | (simp only [nx] <;> omega) | fail) only [aLoad, ty27, rowOf, hpl, hv, Value.cells] <;> rfl)) rfl <| OSuf.aop tyOK rfl (so_bin (by simp only [lk] <;> rfl) (by simp only [lk] <;> rfl) (bi_w bi_add (by first | (simp only [w1] <;> rfl) | rfl))) rfl <| OSuf.aop tyOK rfl (so_nilCheck (by simp only [lk] <;> rfl)) rfl <| OSuf.aop tyOK rfl (so_fieldAddr (by simp only [lk] <;> rfl) (fa_ok (k := 1) ty29 rfl rfl ty27 rfl rfl)) rfl <| OSuf.aop tyOK rfl (so_store (by simp only [lk] <;> rfl) (by simp only [lk] <;> rfl) (by simp (disch := first | assumption | omega | (simp only [nx] <;> omega) | fail) only [aStore, ty27, writeRow, hpl, hv, Value.cells] <;> rfl)) rfl <| OSuf.nil <| SQ.normal ?_
      refine W.seq <| W.reg <| OSuf.aop tyOK rfl (so_move (by simp only [lk] <;> rfl)) rfl <| OSuf.aop tyOK rfl (so_nilCheck (by simp only [lk] <;> rfl)) rfl <| OSuf.aop tyOK rfl (so_fieldAddr (by simp only [lk] <;> rfl) (fa_ok (k := 1) ty29 rfl rfl ty27 rfl rfl)) rfl <| OSuf.aop tyOK rfl (so_load (by simp only [lk] <;> rfl) (by simp (disch := first | assumption | omega | (simp only [nx] <;> omega) | fail) only [aLoad, ty27, rowOf, hpl, hv, Value.cells] <;> rfl)) rfl <| OSuf.aop tyOK rfl (so_fieldAddr (by simp only [lk] <;> rfl) (fa_ok (k := 3) ty33 rfl rfl ty27 rfl rfl)) rfl <| OSuf.aop tyOK rfl (so_store (by simp only [lk] <;> rfl) (by simp only [lk] <;> rfl) (by simp (disch := first | assumption | omega | (simp only [nx] <;> omega) | fail) only [aStore, ty27, writeRow, hpl, hv, Value.cells] <;> rfl)) rfl <| OSuf.nil <| SQ.normal ?_
      refine W.seq <| CWp.sqd tyOK mixed (ms := [0, 0, 2, 6, 14, 0, 32, 96, 254, 511, 1023, 2047]) (by kernel_rfl) (
          .free rfl rfl (so_move (by simp only [lk] <;> rfl)) rfl <| .free rfl rfl (so_move (by simp only [lk] <;> rfl)) rfl <| .free rfl rfl (so_nilCheck (by simp only [lk] <;> rfl)) rfl <| .free rfl rfl (so_fieldAddr (by simp only [lk] <;> rfl) (fa_ok (k := 0) ty29 rfl rfl ty26 rfl rfl)) rfl <| .read rfl rfl (so_load (by simp only [lk] <;> rfl) (by simp (disch := first | assumption | omega | (simp only [nx] <;> omega) | fail) only [aLoad, ty26, rowOf, hpl, hv, Value.cells] <;> rfl)) (by first | rfl | (simp [veq, veq1, veqs]; done) | (simp [veq, veq1, veqs, splice]; done)) trivial rfl <| .read rfl rfl (so_load (by simp only [lk] <;> rfl) (by simp (disch := first | assumption | omega | (simp only [nx] <;> omega) | fail) only [aLoad, ty33, rowOf, hpl, hv, Value.cells] <;> rfl)) (by first | rfl | (simp [veq, veq1, veqs]; done) | (simp [veq, veq1, veqs, splice]; done)) trivial rfl <| .free rfl rfl (so_build (by simp only [aparts, lk] <;> rfl) (by simp (disch := first | assumption | omega | (simp only [nx] <;> omega) | fail) only [aBuild, ty64, hpl, hv, Value.cells] <;> rfl)) rfl <| .change rfl rfl (so_buildSlice (by simp only [aparts, lk] <;> rfl) (by simp (disch := first | assumption | omega | (simp only [nx] <;> omega) | fail) only [aBuildSlice, ty26, ty64, hpl, hv, Value.cells] <;> rfl)) rfl ⟨.inl rfl, .inr (so_load (by simp only [lk] <;> rfl) (by simp (disch := first | assumption | omega | (simp only [nx] <;> omega) | fail) only [aLoad, ty26, rowOf, hpl, hv, Value.cells] <;> rfl)), trivial⟩ rfl <| .change rfl rfl (so_append (by simp only [aopnds, lk] <;> rfl) (ap_0 (by simp only [appT, ty26, ty64] <;> rfl) rfl (by simp (disch := first | assumption | omega | (simp only [nx] <;> omega) | fail) only [aCells, rowOf, hpl, hv, Value.cells] <;> rfl) (by decide) rfl)) rfl ⟨.inl rfl, .inl rfl, trivial⟩ rfl <| .free rfl rfl (so_nilCheck (by simp only [lk] <;> rfl)) rfl <| .free rfl rfl (so_fieldAddr (by simp only [lk] <;> rfl) (fa_ok (k := 0) ty29 rfl rfl ty26 rfl rfl)) rfl <| .change rfl rfl (so_store (by simp only [lk] <;> rfl) (by simp only [lk] <;> rfl) (by simp (disch := first | assumption | omega | (simp only [nx] <;> omega) | fail) only [aStore, ty26, writeRow, hpl, hv, Value.cells] <;> rfl)) rfl ⟨.inl rfl, .inl rfl, trivial⟩ rfl <| .nil) <| SQ.normal ?_
      refine W.seq <| W.reg <| OSuf.aop tyOK rfl (so_move (by simp only [lk] <;> rfl)) rfl <| OSuf.aop tyOK rfl (so_nilCheck (by simp only [lk] <;> rfl)) rfl <| OSuf.aop tyOK rfl (so_fieldAddr (by simp only [lk] <;> rfl) (fa_ok (k := 1) ty29 rfl rfl ty27 rfl rfl)) rfl <| OSuf.aop tyOK rfl (so_load (by simp only [lk] <;> rfl) (by simp (disch := first | assumption | omega | (simp only [nx] <;> omega) | fail) only [aLoad, ty27, rowOf, hpl, hv, Value.cells] <;> rfl)) rfl <| OSuf.aop tyOK rfl (so_assign (by simp only [lk] <;> rfl)) rfl <| OSuf.nil <| SQ.normal ?_
      refine CWp.ret <| FQ.ret (by simp only [aRet, Try.f19, aResults, aResult, lk, Nat.reduceEqDiff, reduceIte] <;> rfl) ?_
      -- leaf: end
      exact ⟨rfl, rfl⟩
    · simp only [nx]; omega
    · simp only [nx]; omega
    · simp (disch := first | assumption | omega | (simp only [nx] <;> omega) | fail) only [hpl]; simp [flatsQ]
    · intro y hy; cases hy; simp only [nx]; omega
    · simp only [nx]; omega
    · intro z hz h1 h2
      simp (disch := first | assumption | omega | (simp only [nx] <;> omega) | fail) only [hpl]
    · simp only [nx]; omega
  | @some y n hn hx hy hg =>
    obtain ⟨hys, _⟩ := hsx y hx
    have hys' : ¬ s = y := fun e => hys e.symm
    have hcl : cellsOf (flatsQ qs) 0 (n * 15) = some (flatsQ qs) := cellsOf_all (by rw [hn, flatsQ_length])
    have hn1 : n ≤ 1000000 := by omega
    refine ⟨((((((h.new (.cells m.cs 1)).set s (.cells [.slice (some ⟨y, 0, none⟩) n 0, U64 (last + 1)] 1)).set h.next (.cells (m.at (last + 1)).cs 1)).new (.cells (newQ last w b m).cs 15)).kill y).new (.cells (flatsQ qs ++ (newQ last w b m).cs) 15)).set s (.cells [.slice (some ⟨h.next + 2, 0, none⟩) (n + 1) 0, U64 (last + 1)] 1), h.next + 2, ?_, ⟨?_, ⟨.slice (some ⟨h.next + 2, 0, none⟩) (n + 1) 0, by simp (disch := first | assumption | omega | (simp only [nx] <;> omega) | fail) only [hpl], .some (n := n + 1) (by simp [hn]) rfl ?_ ?_⟩, ?_⟩, ⟨?_, ?_⟩, by omega, ?_⟩
    · refine W.enter tyOK Try.func19 rfl rfl ?_
      simp only [entry, Msg.v]
      refine W.seq <| W.reg <| OSuf.aop tyOK rfl (so_box (by simp only [lk] <;> rfl)) rfl <| OSuf.aop tyOK rfl (so_assign (by simp only [lk] <;> rfl)) rfl <| OSuf.nil <| SQ.normal ?_
      refine W.seq <| W.reg <| OSuf.aop tyOK rfl (so_move (by simp only [lk] <;> rfl)) rfl <| OSuf.aop tyOK rfl (so_nilCheck (by simp only [lk] <;> rfl)) rfl <| OSuf.aop tyOK rfl (so_fieldAddr (by simp only [lk] <;> rfl) (fa_ok (k := 1) ty29 rfl rfl ty27 rfl rfl)) rfl <| OSuf.aop tyOK rfl (so_load (by simp only [lk] <;> rfl) (by simp (disch := first | assumption | omega | (simp only [nx] <;> omega) | fail) only [aLoad, ty27, rowOf, hpl, hv, hg, Value.cells] <;> rfl)) rfl <| OSuf.aop tyOK rfl (so_bin (by simp only [lk] <;> rfl) (by simp only [lk] <;> rfl) (bi_w bi_add (by first | (simp only [w1] <;> rfl) | rfl))) rfl <| OSuf.aop tyOK rfl (so_nilCheck (by simp only [lk] <;> rfl)) rfl <| OSuf.aop tyOK rfl (so_fieldAddr (by simp only [lk] <;> rfl) (fa_ok (k := 1) ty29 rfl rfl ty27 rfl rfl)) rfl <| OSuf.aop tyOK rfl (so_store (by simp only [lk] <;> rfl) (by simp only [lk] <;> rfl) (by simp (disch := first | assumption | omega | (simp only [nx] <;> omega) | fail) only [aStore, ty27, writeRow, hpl, hv, hg, Value.cells] <;> rfl)) rfl <| OSuf.nil <| SQ.normal ?_
      refine W.seq <| W.reg <| OSuf.aop tyOK rfl (so_move (by simp only [lk] <;> rfl)) rfl <| OSuf.aop tyOK rfl (so_nilCheck (by simp only [lk] <;> rfl)) rfl <| OSuf.aop tyOK rfl (so_fieldAddr (by simp only [lk] <;> rfl) (fa_ok (k := 1) ty29 rfl rfl ty27 rfl rfl)) rfl <| OSuf.aop tyOK rfl (so_load (by simp only [lk] <;> rfl) (by simp (disch := first | assumption | omega | (simp only [nx] <;> omega) | fail) only [aLoad, ty27, rowOf, hpl, hv, hg, Value.cells] <;> rfl)) rfl <| OSuf.aop tyOK rfl (so_fieldAddr (by simp only [lk] <;> rfl) (fa_ok (k := 3) ty33 rfl rfl ty27 rfl rfl)) rfl <| OSuf.aop tyOK rfl (so_store (by simp only [lk] <;> rfl) (by simp only [lk] <;> rfl) (by simp (disch := first | assumption | omega | (simp only [nx] <;> omega) | fail) only [aStore, ty27, writeRow, hpl, hv, hg, Value.cells] <;> rfl)) rfl <| OSuf.nil <| SQ.normal ?_
      refine W.seq <| CWp.sqd tyOK mixed (ms := [0, 0, 2, 6, 14, 0, 32, 96, 254, 511, 1023, 2047]) (by kernel_rfl) (
          .free rfl rfl (so_move (by simp only [lk] <;> rfl)) rfl <| .free rfl rfl (so_move (by simp only [lk] <;> rfl)) rfl <| .free rfl rfl (so_nilCheck (by simp only [lk] <;> rfl)) rfl <| .free rfl rfl (so_fieldAddr (by simp only [lk] <;> rfl) (fa_ok (k := 0) ty29 rfl rfl ty26 rfl rfl)) rfl <| .read rfl rfl (so_load (by simp only [lk] <;> rfl) (by simp (disch := first | assumption | omega | (simp only [nx] <;> omega) | fail) only [aLoad, ty26, rowOf, hpl, hv, hg, Value.cells] <;> rfl)) (by first | rfl | (simp [veq, veq1, veqs]; done) | (simp [veq, veq1, veqs, splice]; done)) trivial rfl <| .read rfl rfl (so_load (by simp only [lk] <;> rfl) (by simp (disch := first | assumption | omega | (simp only [nx] <;> omega) | fail) only [aLoad, ty33, rowOf, hpl, hv, hg, Value.cells] <;> rfl)) (by first | rfl | (simp [veq, veq1, veqs]; done) | (simp [veq, veq1, veqs, splice]; done)) trivial rfl <| .free rfl rfl (so_build (by simp only [aparts, lk] <;> rfl) (by simp (disch := first | assumption | omega | (simp only [nx] <;> omega) | fail) only [aBuild, ty64, hpl, hv, hg, Value.cells] <;> rfl)) rfl <| .change rfl rfl (so_buildSlice (by simp only [aparts, lk] <;> rfl) (by simp (disch := first | assumption | omega | (simp only [nx] <;> omega) | fail) only [aBuildSlice, ty26, ty64, hpl, hv, hg, Value.cells] <;> rfl)) rfl ⟨.inl rfl, .inr (so_load (by simp only [lk] <;> rfl) (by simp (disch := first | assumption | omega | (simp only [nx] <;> omega) | fail) only [aLoad, ty26, rowOf, hpl, hv, hg, Value.cells] <;> rfl)), trivial⟩ rfl <| .change rfl rfl (so_append (by simp only [aopnds, lk] <;> rfl) (ap_u (by simp only [appT, ty26, ty64] <;> rfl) rfl (by simp (disch := first | assumption | omega | (simp only [nx] <;> omega) | fail) only [aCells, rowOf, hpl, hv, hg, Value.cells] <;> rfl) (by show (2 * (n + 1) + 256) * 152 ≤ _; omega) rfl (by simp (disch := first | assumption | omega | (simp only [nx] <;> omega) | fail) only [aCells, rowOf, hpl, hv, hg, Value.cells] <;> rfl) rfl hcl)) rfl ⟨.inl rfl, .inl rfl, trivial⟩ rfl <| .free rfl rfl (so_nilCheck (by simp only [lk] <;> rfl)) rfl <| .free rfl rfl (so_fieldAddr (by simp only [lk] <;> rfl) (fa_ok (k := 0) ty29 rfl rfl ty26 rfl rfl)) rfl <| .change rfl rfl (so_store (by simp only [lk] <;> rfl) (by simp only [lk] <;> rfl) (by simp (disch := first | assumption | omega | (simp only [nx] <;> omega) | fail) only [aStore, ty26, writeRow, hpl, hv, hg, Value.cells] <;> rfl)) rfl ⟨.inl rfl, .inl rfl, trivial⟩ rfl <| .nil) <| SQ.normal ?_
      refine W.seq <| W.reg <| OSuf.aop tyOK rfl (so_move (by simp only [lk] <;> rfl)) rfl <| OSuf.aop tyOK rfl (so_nilCheck (by simp only [lk] <;> rfl)) rfl <| OSuf.aop tyOK rfl (so_fieldAddr (by simp only [lk] <;> rfl) (fa_ok (k := 1) ty29 rfl rfl ty27 rfl rfl)) rfl <| OSuf.aop tyOK rfl (so_load (by simp only [lk] <;> rfl) (by simp (disch := first | assumption | omega | (simp only [nx] <;> omega) | fail) only [aLoad, ty27, rowOf, hpl, hv, hg, Value.cells] <;> rfl)) rfl <| OSuf.aop tyOK rfl (so_assign (by simp only [lk] <;> rfl)) rfl <| OSuf.nil <| SQ.normal ?_
      refine CWp.ret <| FQ.ret (by simp only [aRet, Try.f19, aResults, aResult, lk, Nat.reduceEqDiff, reduceIte] <;> rfl) ?_
      -- leaf: end
      exact ⟨rfl, rfl⟩
    · simp only [nx]; omega
    · simp only [nx]; omega
    · simp (disch := first | assumption | omega | (simp only [nx] <;> omega) | fail) only [hpl]; simp [flatsQ, flatsQ_append]
    · intro z hz; cases hz; simp only [nx]; omega
    · simp only [nx]; omega
    · intro z hz h1 h2
      have h3 := h2 y hx
      simp (disch := first | assumption | omega | (simp only [nx] <;> omega) | fail) only [hpl]
    · simp only [nx]; omega
end Go.Proofs.Ytmokbpphniafpaa
