/-
  Contracts of the package deps: Gone.
-/
import Derived.Test.YtfbfihfmlenklaaDepsC
namespace Go.Proofs.Ytfbfihfmlenklaa
open Go.Ab
set_option linter.unusedSimpArgs false
set_option linter.unusedVariables false
set_option maxRecDepth 10000
set_option maxHeartbeats 4000000

def goneD (l : GL) (p : Pr) : Bool := decide (p.key.1 ∈ gk l) || decide (p.key.2 ∈ gk l)
theorem gone2_c (h : AHeap) (bg g clk : Nat) (l : GL) (hb : bg < h.next) (hg : g < h.next) (rbg : h.get bg = some (.cells [.map (some g)] 1)) (hm : h.get g = some (.map (mkE .u64 l) clk)) (hones : ∀ x ∈ l, x.2.1 = I64 1) (p : Pr) (v : Value) :
    FWp Try.prog 29 [.agg #[U64 p.key.1, U64 p.key.2], v, P0 bg] h fun u h' => u = .bool (goneD l p) ∧ h' = h := by
  refine FWp.gcs ⟨fun _ => none, _, .bool _⟩ (W.enter tyOK Try.func29 rfl rfl ?_)
  simp only [entry]
  refine W.seq <| W.reg <| 
      OSuf.aop tyOK rfl (so_box (by simp only [lk] <;> rfl)) rfl <|
      OSuf.aopF tyOK rfl (so_assign (by simp only [lk] <;> rfl)) (fun _ => rfl) rfl <|
      OSuf.nil <| SQ.normal ?_
  refine W.seq <| W.reg <| 
      OSuf.aop tyOK rfl (so_load (by simp only [lk] <;> rfl) (by simp (disch := first | assumption | omega | (simp only [nx] <;> omega) | fail) only [aLoad, ty64, rowOf, hpl, Value.cells, rbg, hm] <;> rfl)) rfl <|
      OSuf.aop tyOK rfl (so_fieldAddr (by simp only [lk] <;> rfl) (fa_ok (k := 0) ty60 rfl rfl ty29 rfl rfl)) rfl <|
      OSuf.aop tyOK rfl (so_load (by simp only [lk] <;> rfl) (by simp (disch := first | assumption | omega | (simp only [nx] <;> omega) | fail) only [aLoad, ty29, rowOf, hpl, Value.cells, rbg, hm] <;> rfl)) rfl <|
      OSuf.aop tyOK rfl (so_lookup (by simp only [lk] <;> rfl) (by simp only [lk] <;> rfl) (lk_cnt ty64 rfl ty29 rfl ty3 rfl (by simp (disch := first | assumption | omega | (simp only [nx] <;> omega) | fail) only [aCells, rowOf, hpl, Value.cells, rbg, hm] <;> first | rfl | exact hm) hones)) rfl <|
      OSuf.aopB tyOK rfl (so_bin (by simp only [lk] <;> rfl) (by simp only [lk] <;> rfl) bi_gtr) (fun _ => rfl) (fun h1 => ?_) (fun h1 => ?_)
  · try simp only [bl] at h1
    refine 
        OSuf.aopT tyOK rfl (so_move (by simp only [lk] <;> rfl)) (fun _ => rfl) rfl <|
        OSuf.pass (aguard_of rfl rfl (by simp only [lk] <;> rfl) rfl) rfl <|
        OSuf.pass (aguard_of rfl rfl (by simp only [lk] <;> rfl) rfl) rfl <|
        OSuf.pass (aguard_of rfl rfl (by simp only [lk] <;> rfl) rfl) rfl <|
        OSuf.pass (aguard_of rfl rfl (by simp only [lk] <;> rfl) rfl) rfl <|
        OSuf.pass (aguard_of rfl rfl (by simp only [lk] <;> rfl) rfl) rfl <|
        OSuf.aopT tyOK rfl (so_pick (by simp only [lk] <;> rfl) (by simp only [lk, cond_true, cond_false] <;> rfl)) (fun _ => rfl) rfl <|
        OSuf.aopT tyOK rfl (so_assign (by simp only [lk] <;> rfl)) (fun _ => rfl) rfl <|
        OSuf.nil <| SQ.normal ?_
    refine CWp.ret <| FQ.ret (by simp only [aRet, Try.f29, aResults, aResult, lk, Nat.reduceEqDiff, reduceIte] <;> rfl) ?_
    have : p.key.1 ∈ gk l := Classical.byContradiction fun hn => by simp [cntG, hn] at h1
    refine ⟨by simp [goneD, this], fun z o hz ho => ?_⟩
    simp (disch := first | assumption | omega | (simp only [nx] <;> omega) | fail) only [hpl]; exact ho
  · try simp only [bl] at h1
    refine 
        OSuf.aopF tyOK rfl (so_move (by simp only [lk] <;> rfl)) (fun _ => rfl) rfl <|
        OSuf.aop tyOK (aguard_of rfl rfl (by simp only [lk] <;> rfl) rfl) (so_load (by simp only [lk] <;> rfl) (by simp (disch := first | assumption | omega | (simp only [nx] <;> omega) | fail) only [aLoad, ty64, rowOf, hpl, Value.cells, rbg, hm] <;> rfl)) rfl <|
        OSuf.aop tyOK (aguard_of rfl rfl (by simp only [lk] <;> rfl) rfl) (so_fieldAddr (by simp only [lk] <;> rfl) (fa_ok (k := 1) ty60 rfl rfl ty29 rfl rfl)) rfl <|
        OSuf.aop tyOK (aguard_of rfl rfl (by simp only [lk] <;> rfl) rfl) (so_load (by simp only [lk] <;> rfl) (by simp (disch := first | assumption | omega | (simp only [nx] <;> omega) | fail) only [aLoad, ty29, rowOf, hpl, Value.cells, rbg, hm] <;> rfl)) rfl <|
        OSuf.aop tyOK (aguard_of rfl rfl (by simp only [lk] <;> rfl) rfl) (so_lookup (by simp only [lk] <;> rfl) (by simp only [lk] <;> rfl) (lk_cnt ty64 rfl ty29 rfl ty3 rfl (by simp (disch := first | assumption | omega | (simp only [nx] <;> omega) | fail) only [aCells, rowOf, hpl, Value.cells, rbg, hm] <;> first | rfl | exact hm) hones)) rfl <|
        OSuf.aop tyOK (aguard_of rfl rfl (by simp only [lk] <;> rfl) rfl) (so_bin (by simp only [lk] <;> rfl) (by simp only [lk] <;> rfl) bi_gtr) rfl <|
        OSuf.aop tyOK rfl (so_pick (by simp only [lk] <;> rfl) (by simp only [lk, cond_true, cond_false] <;> rfl)) rfl <|
        OSuf.aop tyOK rfl (so_assign (by simp only [lk] <;> rfl)) rfl <|
        OSuf.nil <| SQ.normal ?_
    refine CWp.ret <| FQ.ret (by simp only [aRet, Try.f29, aResults, aResult, lk, Nat.reduceEqDiff, reduceIte] <;> rfl) ?_
    have a1 : ¬ p.key.1 ∈ gk l := fun hn => by simp [cntG, hn] at h1
    refine ⟨?_, fun z o hz ho => ?_⟩
    · by_cases hm2 : p.key.2 ∈ gk l <;> simp [goneD, cntG, hm2, a1]
    · simp (disch := first | assumption | omega | (simp only [nx] <;> omega) | fail) only [hpl]; exact ho

theorem delfn_c (h : AHeap) (r : Nat) (S : DS) (hA : DA h r S) (fv : Value) (D : Pr → Bool)
    (hf : ∀ h', h.next ≤ h'.next → (∀ z, z < h.next → ¬ S.m = z → h'.get z = h.get z) → ∀ p ∈ S.ps, VWp Try.prog fv [.agg #[U64 p.key.1, U64 p.key.2], .bool p.hangs] h' fun u h'' => u = .bool (D p) ∧ h'' = h') :
    FWp Try.prog 28 [.map (some S.m), fv] h fun u h' => DA h' r ⟨S.ps.filter (fun p => !D p), S.clock, S.m⟩ ∧ FrD h h' S := by
  have hrow := hA.row
  have hmap := hA.map
  have hl := hA.lt
  have hml := hA.mlt
  have hrm := hA.rm
  have e0 : S.ps.filter (keepD D #[]) = S.ps := List.filter_eq_self.2 fun p _ => by simp [keepD]
  refine W.enter tyOK Try.func28 rfl rfl ?_
  simp only [entry]
  refine W.seq <| W.reg <| 
      OSuf.aop tyOK rfl (so_move (by simp only [lk] <;> rfl)) rfl <|
      OSuf.aop tyOK rfl (so_range (by simp only [lk] <;> rfl) (by simp (disch := first | assumption | omega | (simp only [nx] <;> omega) | fail) only [aRange, ty55, hpl, hrow, hmap] <;> rfl)) rfl <|
      OSuf.nil <| SQ.normal ?_
  -- leaf: loop
  refine W.cut (fun L h' => DA h' r ⟨S.ps.filter (fun p => !D p), S.clock, S.m⟩ ∧ FrD h h' S) (W.block (W.loop (fun n L h' => ∃ seen, It h h' r h.next S D seen n ∧ L = [(0, .map (some S.m)), (1, fv), (7, P0 h.next)]) (n := S.ps.length)
    ⟨#[], ⟨by simp, by simp, by simp, ?_, by simp, by omega, AHeap.get_new_same _ _, by simp, fun z hz _ => AHeap.get_new_ne (by omega)⟩, rfl⟩ ?_ ?_)) ?_
  · rw [e0]; exact hA.mono (by simp) (AHeap.get_new_ne (by omega)) (AHeap.get_new_ne (by omega))
  · simp [HasA, Tr.get_put]
  · rintro n L h2 ⟨seen, hI, rfl⟩
    simp only [mkA]
    have hda := hI.da
    have hmap2 : h2.get S.m = some (.map (mkK encP ((S.ps.filter (keepD D seen)).map Pr.ent)) S.clock) := hda.map
    have hlt2 := hda.lt
    have hmlt2 : S.m < h2.next := hda.mlt
    have hIlt := hI.lt
    have hInx := hI.nx
    have g1 : ¬ h.next = r := by omega
    have g2 : ¬ h.next = S.m := by omega
    have g3 : ¬ S.m = h.next := by omega
    have g4 : ¬ r = h.next := by omega
    have g5 : ¬ S.m = r := fun e => hrm e.symm
    refine W.seq <| W.reg <| 
        OSuf.next rfl (by simp only [lk] <;> rfl) hI.it hmap2 (it_condP hda.born) (fun he => ⟨_, rfl, ?_⟩) (fun e he => ⟨_, rfl, ?_⟩)
    · skip
      refine 
          OSuf.aopF tyOK rfl (so_extract (by simp only [lk] <;> rfl) (by simp (disch := first | assumption | omega | (simp only [nx] <;> omega) | fail) only [aExtract, hpl, hmap2, Value.cells, places, ty4, ty55, ty60] <;> rfl)) (fun _ => rfl) (by first | rfl | assumption | ((simp only [bl, hmap2, Value.cells, places, ty4, ty55, ty60]) <;> first | done | assumption | omega) | (simp [hmap2, Value.cells, places, ty4, ty55, ty60]; done) | (simp [hmap2, Value.cells, places, ty4, ty55, ty60]; omega)) <|
          OSuf.nil <| SQ.normal ?_
      refine W.seq <| W.no (by simp only [lk] <;> rfl) <| CWp.exit <| SQ.exit <| LQ.exit <| BQ.exit <| ?_
      refine NQ.normal (L := []) trivial ⟨?_, hI.nx, hI.fr⟩
      rw [← keepD_done (it_doneP he hda.born)]; exact hda
    · skip
      obtain ⟨p, hp, hns, rfl⟩ := it_leftP he
      have hpS : p ∈ S.ps := (List.mem_filter.1 hp).1
      have hfind := it_findP hda.borns hp
      obtain ⟨j, hi, hj⟩ := idxK_mem (k := 0) (by rw [ent_key]; exact hda.keys) (List.mem_map.2 ⟨p, hp, rfl⟩)
      rw [Nat.zero_add] at hi
      refine 
          OSuf.aopT tyOK rfl (so_extract (by simp only [lk] <;> rfl) (by simp (disch := first | assumption | omega | (simp only [nx] <;> omega) | fail) only [aExtract, hpl, hmap2, Value.cells, places, ty4, ty55, ty60] <;> rfl)) (fun _ => rfl) (by first | rfl | assumption | ((simp only [bl, hmap2, Value.cells, places, ty4, ty55, ty60]) <;> first | done | assumption | omega) | (simp [hmap2, Value.cells, places, ty4, ty55, ty60]; done) | (simp [hmap2, Value.cells, places, ty4, ty55, ty60]; omega)) <|
          OSuf.nil <| SQ.normal ?_
      refine W.seq <| W.yes (by simp only [lk] <;> rfl) <| CWp.skip <| SQ.normal ?_
      refine W.block <| W.seq <| W.reg <| 
          OSuf.aop tyOK rfl (so_entry (by simp only [lk] <;> rfl) (en_ok (AHeap.get_set_same _ _ _) (by simp (disch := first | assumption | omega | (simp only [nx] <;> omega) | fail) only [aCells, rowOf, hpl, hmap2, Value.cells, places, ty4, ty55, ty60] <;> first | rfl | exact hmap2) hfind)) rfl <|
          OSuf.aop tyOK rfl (so_extract (by simp only [lk] <;> rfl) (by simp (disch := first | assumption | omega | (simp only [nx] <;> omega) | fail) only [aExtract, hpl, hmap2, Value.cells, places, ty4, ty55, ty60] <;> rfl)) rfl <|
          OSuf.aop tyOK rfl (so_extract (by simp only [lk] <;> rfl) (by simp (disch := first | assumption | omega | (simp only [nx] <;> omega) | fail) only [aExtract, hpl, hmap2, Value.cells, places, ty4, ty55, ty60] <;> rfl)) rfl <|
          OSuf.aop tyOK rfl (so_alloc (by simp only [aAlloc, ty60] <;> rfl)) rfl <|
          OSuf.aop tyOK rfl (so_store (by simp only [lk] <;> rfl) (by simp only [lk] <;> rfl) (by simp (disch := first | assumption | omega | (simp only [nx] <;> omega) | fail) only [aStore, ty60, writeRow, hpl, hmap2, Value.cells, places, ty4, ty55, ty60] <;> rfl)) rfl <|
          OSuf.aop tyOK rfl (so_assign (by simp only [lk] <;> rfl)) rfl <|
          OSuf.nil <| SQ.normal ?_
      refine W.seq <| W.reg <| 
          OSuf.aop tyOK rfl (so_move (by simp only [lk] <;> rfl)) rfl <|
          OSuf.aop tyOK rfl (so_load (by simp only [lk] <;> rfl) (by simp (disch := first | assumption | omega | (simp only [nx] <;> omega) | fail) only [aLoad, ty60, rowOf, hpl, hmap2, Value.cells, places, ty4, ty55, ty60] <;> rfl)) rfl <|
          OSuf.aop tyOK rfl (so_move (by simp only [lk] <;> rfl)) rfl <|
          OSuf.vcallD rfl (by simp only [lk] <;> rfl) (by simp only [aopnds, lk] <;> rfl) (hf _ (by simp only [nx]; omega) (fun z hz hzm => by have a' : ¬ h.next = z := (by omega); have := hI.fr z hz hzm; simp (disch := first | assumption | omega | (simp only [nx] <;> omega) | fail) only [hpl]; exact this) p hpS) rfl <|
          OSuf.nil <| SQ.normal ?_
      refine CWp.ifs (by simp only [lk] <;> rfl) (fun hD => ?_) (fun hD => ?_)
      · skip
        refine W.reg <| 
            OSuf.aop tyOK rfl (so_move (by simp only [lk] <;> rfl)) rfl <|
            OSuf.aop tyOK rfl (so_load (by simp only [lk] <;> rfl) (by simp (disch := first | assumption | omega | (simp only [nx] <;> omega) | fail) only [aLoad, ty60, rowOf, hpl, hmap2, Value.cells, places, ty4, ty55, ty60] <;> rfl)) rfl <|
            OSuf.aop tyOK rfl (so_delete (by simp only [aopnds, lk] <;> rfl) (kd_some keyP (a := p.key) rfl ty55 rfl (by simp (disch := first | assumption | omega | (simp only [nx] <;> omega) | fail) only [aCells, rowOf, hpl, hmap2, Value.cells, places, ty4, ty55, ty60] <;> first | rfl | exact hmap2) hi)) rfl <|
            OSuf.nil <| BQ.normal <| ?_
        rw [erase_ent hda.keys hj]
        refine LQ.normal (m := n - 1) (L := [(0, .map (some S.m)), (1, fv), (7, P0 h.next)]) (by have := hI.lt_of hpS hns; omega) ?_ ⟨_, hI.del hpS hns hA.borns hA.keys (by simpa using hD) (by simp only [nx]; omega) (by simp (disch := first | assumption | omega | (simp only [nx] <;> omega) | fail) only [hpl]) (by simp (disch := first | assumption | omega | (simp only [nx] <;> omega) | fail) only [hpl]) (fun z hz a b => ?_) hl hml, rfl⟩
        · simp only [HasA, Tr.get_put, Nat.reduceEqDiff, reduceIte, and_self]
        · have a' : ¬ h.next = z := fun e => a e.symm
          have b' : ¬ S.m = z := fun e => b e.symm
          simp (disch := first | assumption | omega | (simp only [nx] <;> omega) | fail) only [hpl]
      · skip
        refine CWp.skip <| BQ.normal <| ?_
        refine LQ.normal (m := n - 1) (L := [(0, .map (some S.m)), (1, fv), (7, P0 h.next)]) (by have := hI.lt_of hpS hns; omega) ?_ ⟨_, hI.keep hpS hns hA.borns (by simpa using hD) (by simp only [nx]; omega) (by simp (disch := first | assumption | omega | (simp only [nx] <;> omega) | fail) only [hpl]) (fun z hz a => ?_) hl hml, rfl⟩
        · simp only [HasA, Tr.get_put, Nat.reduceEqDiff, reduceIte, and_self]
        · have a' : ¬ h.next = z := fun e => a e.symm
          simp (disch := first | assumption | omega | (simp only [nx] <;> omega) | fail) only [hpl]
  rintro L a' h2 ha ⟨hA2, hF2⟩
  refine FQ.normal (by simp only [aRet, Try.f28, aResults] <;> rfl) ?_
  exact ⟨hA2, hF2⟩
end Go.Proofs.Ytfbfihfmlenklaa
