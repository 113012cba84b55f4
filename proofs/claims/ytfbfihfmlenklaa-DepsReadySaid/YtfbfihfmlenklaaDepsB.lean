/-
  Contracts of the package deps: Hang, Over, Logged, Ready.
-/
import Derived.Test.YtfbfihfmlenklaaDepsA
namespace Go.Proofs.Ytfbfihfmlenklaa
open Go.Ab
set_option linter.unusedSimpArgs false
set_option linter.unusedVariables false
set_option maxRecDepth 10000
set_option maxHeartbeats 4000000

theorem hang_c (h : AHeap) (r : Nat) (S : DS) (hA : DA h r S) (ts on : Int) (hlt : on < ts) :
    FWp Try.prog 9 [P0 r, U64 ts, U64 on] h fun u h' => u = I64 0 ∧ DA h' r (putP (ts, on) true S) ∧ FrD h h' S := by
  refine W.enter tyOK Try.func9 rfl rfl ?_
  simp only [entry]
  refine W.seq <| W.reg <| 
      OSuf.aop tyOK rfl (so_assign (by simp only [lk] <;> rfl)) rfl <|
      OSuf.nil <| SQ.normal ?_
  refine W.seq <| W.reg <| 
      OSuf.aop tyOK rfl (so_move (by simp only [lk] <;> rfl)) rfl <|
      OSuf.aop tyOK rfl (so_move (by simp only [lk] <;> rfl)) rfl <|
      OSuf.aop tyOK rfl (so_move (by simp only [lk] <;> rfl)) rfl <|
      OSuf.aop tyOK rfl (so_build (by simp only [aparts, lk] <;> rfl) (by simp (disch := first | assumption | omega | (simp only [nx] <;> omega) | fail) only [aBuild, ty60, hpl, places, ty60] <;> rfl)) rfl <|
      OSuf.call rfl (by simp only [aopnds, lk] <;> rfl) en24 (put_c _ r S hA ts on true hlt) ?_
  rintro _ h2 ⟨rfl, hA2, hF2⟩
  refine ⟨_, rfl, ?_⟩
  refine 
      OSuf.aop tyOK rfl (so_assign (by simp only [lk] <;> rfl)) rfl <|
      OSuf.nil <| SQ.normal ?_
  refine CWp.ret <| FQ.ret (by simp only [aRet, Try.f9, aResults, aResult, lk, Nat.reduceEqDiff, reduceIte] <;> rfl) ?_
  -- leaf: end
  exact ⟨rfl, hA2, hF2⟩
theorem over_c (h : AHeap) (r : Nat) (S : DS) (hA : DA h r S) (ts on : Int) (hlt : on < ts) :
    FWp Try.prog 11 [P0 r, U64 ts, U64 on] h fun u h' => u = I64 0 ∧ DA h' r (putP (ts, on) false S) ∧ FrD h h' S := by
  refine W.enter tyOK Try.func11 rfl rfl ?_
  simp only [entry]
  refine W.seq <| W.reg <| 
      OSuf.aop tyOK rfl (so_assign (by simp only [lk] <;> rfl)) rfl <|
      OSuf.nil <| SQ.normal ?_
  refine W.seq <| W.reg <| 
      OSuf.aop tyOK rfl (so_move (by simp only [lk] <;> rfl)) rfl <|
      OSuf.aop tyOK rfl (so_move (by simp only [lk] <;> rfl)) rfl <|
      OSuf.aop tyOK rfl (so_move (by simp only [lk] <;> rfl)) rfl <|
      OSuf.aop tyOK rfl (so_build (by simp only [aparts, lk] <;> rfl) (by simp (disch := first | assumption | omega | (simp only [nx] <;> omega) | fail) only [aBuild, ty60, hpl, places, ty60] <;> rfl)) rfl <|
      OSuf.call rfl (by simp only [aopnds, lk] <;> rfl) en24 (put_c _ r S hA ts on false hlt) ?_
  rintro _ h2 ⟨rfl, hA2, hF2⟩
  refine ⟨_, rfl, ?_⟩
  refine 
      OSuf.aop tyOK rfl (so_assign (by simp only [lk] <;> rfl)) rfl <|
      OSuf.nil <| SQ.normal ?_
  refine CWp.ret <| FQ.ret (by simp only [aRet, Try.f11, aResults, aResult, lk, Nat.reduceEqDiff, reduceIte] <;> rfl) ?_
  -- leaf: end
  exact ⟨rfl, hA2, hF2⟩
theorem hang_arg (h : AHeap) (r : Nat) (S : DS) (hA : DA h r S) (ts on : Int) (hlt : ts ≤ on) :
    FWp Try.prog 9 [P0 r, U64 ts, U64 on] h fun u h' => u = I64 2 ∧ h' = h := by
  refine W.enter tyOK Try.func9 rfl rfl ?_
  simp only [entry]
  refine W.seq <| W.reg <| 
      OSuf.aop tyOK rfl (so_assign (by simp only [lk] <;> rfl)) rfl <|
      OSuf.nil <| SQ.normal ?_
  refine W.seq <| W.reg <| 
      OSuf.aop tyOK rfl (so_move (by simp only [lk] <;> rfl)) rfl <|
      OSuf.aop tyOK rfl (so_move (by simp only [lk] <;> rfl)) rfl <|
      OSuf.aop tyOK rfl (so_move (by simp only [lk] <;> rfl)) rfl <|
      OSuf.aop tyOK rfl (so_build (by simp only [aparts, lk] <;> rfl) (by simp (disch := first | assumption | omega | (simp only [nx] <;> omega) | fail) only [aBuild, ty60, hpl, places, ty60] <;> rfl)) rfl <|
      OSuf.callD rfl (by simp only [aopnds, lk] <;> rfl) en24 (put_arg _ r S hA ts on true hlt) rfl <|
      OSuf.aop tyOK rfl (so_assign (by simp only [lk] <;> rfl)) rfl <|
      OSuf.nil <| SQ.normal ?_
  refine CWp.ret <| FQ.ret (by simp only [aRet, Try.f9, aResults, aResult, lk, Nat.reduceEqDiff, reduceIte] <;> rfl) ?_
  -- leaf: end
  exact ⟨rfl, rfl⟩
theorem over_arg (h : AHeap) (r : Nat) (S : DS) (hA : DA h r S) (ts on : Int) (hlt : ts ≤ on) :
    FWp Try.prog 11 [P0 r, U64 ts, U64 on] h fun u h' => u = I64 2 ∧ h' = h := by
  refine W.enter tyOK Try.func11 rfl rfl ?_
  simp only [entry]
  refine W.seq <| W.reg <| 
      OSuf.aop tyOK rfl (so_assign (by simp only [lk] <;> rfl)) rfl <|
      OSuf.nil <| SQ.normal ?_
  refine W.seq <| W.reg <| 
      OSuf.aop tyOK rfl (so_move (by simp only [lk] <;> rfl)) rfl <|
      OSuf.aop tyOK rfl (so_move (by simp only [lk] <;> rfl)) rfl <|
      OSuf.aop tyOK rfl (so_move (by simp only [lk] <;> rfl)) rfl <|
      OSuf.aop tyOK rfl (so_build (by simp only [aparts, lk] <;> rfl) (by simp (disch := first | assumption | omega | (simp only [nx] <;> omega) | fail) only [aBuild, ty60, hpl, places, ty60] <;> rfl)) rfl <|
      OSuf.callD rfl (by simp only [aopnds, lk] <;> rfl) en24 (put_arg _ r S hA ts on false hlt) rfl <|
      OSuf.aop tyOK rfl (so_assign (by simp only [lk] <;> rfl)) rfl <|
      OSuf.nil <| SQ.normal ?_
  refine CWp.ret <| FQ.ret (by simp only [aRet, Try.f11, aResults, aResult, lk, Nat.reduceEqDiff, reduceIte] <;> rfl) ?_
  -- leaf: end
  exact ⟨rfl, rfl⟩

theorem inj_nodup {α β : Type} (f : α → β) : ∀ {l : List α}, (l.map f).Nodup → ∀ {a b : α}, a ∈ l → b ∈ l → f a = f b → a = b
  | x :: l, hn, a, b, ha, hb, e => by
    simp only [List.map_cons, List.nodup_cons] at hn
    cases ha with
    | head => cases hb with
      | head => rfl
      | tail _ hb => exact (hn.1 (e ▸ List.mem_map.2 ⟨b, hb, rfl⟩)).elim
    | tail _ ha => cases hb with
      | head => exact (hn.1 (e ▸ List.mem_map.2 ⟨a, ha, rfl⟩)).elim
      | tail _ hb => exact inj_nodup f hn.2 ha hb e
/-- What is kept while some are looked at. -/
def keepD (D : Pr → Bool) (seen : Array Nat) (p : Pr) : Bool := !(D p && decide (p.born ∈ seen.toList))
theorem keepD_del {D : Pr → Bool} {seen : Array Nat} {ps : List Pr} {p : Pr} (hk : (ps.map Pr.key).Nodup) (hb : (ps.map Pr.born).Nodup) (hp : p ∈ ps) (hD : D p = true) :
    (ps.filter (keepD D seen)).filter (fun q => !decide (q.key = p.key)) = ps.filter (keepD D (seen.push p.born)) := by
  rw [List.filter_filter]
  refine List.filter_congr fun q hq => ?_
  by_cases e : q = p
  · subst e; simp [keepD, hD]
  · have h1 : ¬ q.key = p.key := fun h => e (inj_nodup _ hk hq hp h)
    have h2 : ¬ q.born = p.born := fun h => e (inj_nodup _ hb hq hp h)
    simp [keepD, h1, h2]
theorem keepD_keep {D : Pr → Bool} {seen : Array Nat} {ps : List Pr} {p : Pr} (hb : (ps.map Pr.born).Nodup) (hp : p ∈ ps) (hD : D p = false) :
    ps.filter (keepD D seen) = ps.filter (keepD D (seen.push p.born)) := by
  refine List.filter_congr fun q hq => ?_
  by_cases e : q = p
  · subst e; simp [keepD, hD]
  · have h2 : ¬ q.born = p.born := fun h => e (inj_nodup _ hb hq hp h)
    simp [keepD, h2]
theorem keepD_done {D : Pr → Bool} {seen : Array Nat} {ps : List Pr} (h : ∀ q ∈ ps.filter (keepD D seen), q.born ∈ seen.toList) : ps.filter (keepD D seen) = ps.filter (fun p => !D p) := by
  refine List.filter_congr fun q hq => ?_
  by_cases hs : q.born ∈ seen.toList
  · simp [keepD, hs]
  · have : keepD D seen q = true := by simp [keepD, hs]
    exact (hs (h q (List.mem_filter.2 ⟨hq, this⟩))).elim
theorem it_leftP {ps : List Pr} {seen : Array Nat} {e : AEnt} (he : e ∈ left (mkK encP (ps.map Pr.ent)) seen) : ∃ p ∈ ps, p.born ∉ seen.toList ∧ e = ⟨.agg #[U64 p.key.1, U64 p.key.2], .bool p.hangs, p.born⟩ := by
  obtain ⟨x, hx, h1, rfl⟩ := it_left he
  obtain ⟨p, hp, rfl⟩ := List.mem_map.1 hx
  exact ⟨p, hp, h1, rfl⟩
theorem it_doneP {ps : List Pr} {seen : Array Nat} {clock : Nat} (he : (left (mkK encP (ps.map Pr.ent)) seen).filter (fun e => decide (e.born < clock)) = []) (hb : ∀ p ∈ ps, p.born < clock) : ∀ p ∈ ps, p.born ∈ seen.toList :=
  fun p hp => it_done he (List.mem_map.2 ⟨p, hp, rfl⟩) (hb p hp)
theorem it_findP {ps : List Pr} (hb : (ps.map Pr.born).Nodup) {p : Pr} (hp : p ∈ ps) : (mkK encP (ps.map Pr.ent)).find? (fun e => e.born == p.born) = some ⟨.agg #[U64 p.key.1, U64 p.key.2], .bool p.hangs, p.born⟩ :=
  it_find (enc := encP) (by rw [ent_born]; exact hb) (List.mem_map.2 ⟨p, hp, rfl⟩)
theorem it_condP {ps : List Pr} {clock : Nat} {seen : Array Nat} (hb : ∀ p ∈ ps, p.born < clock) : (!seen.isEmpty && !(mkK encP (ps.map Pr.ent)).isEmpty && (mkK encP (ps.map Pr.ent)).all (fun e => decide (e.born ≥ clock))) = false :=
  it_cond fun x hx => by obtain ⟨p, hp, rfl⟩ := List.mem_map.1 hx; exact hb p hp
theorem erase_ent {ps : List Pr} {j : Nat} {p : Pr} (hk : (ps.map Pr.key).Nodup) (hj : (ps.map Pr.ent)[j]? = some p.ent) : (ps.map Pr.ent).eraseIdx j = (ps.filter fun q => !decide (q.key = p.key)).map Pr.ent := by
  rw [erase_filter (by rw [ent_key]; exact hk) hj, List.filter_map]; rfl

/-- A map that is gone through. -/
structure It (h0 h : AHeap) (r I : Nat) (S : DS) (D : Pr → Bool) (seen : Array Nat) (n : Nat) : Prop where
  n : n + seen.size = S.ps.length
  nd : seen.toList.Nodup
  sub : ∀ b ∈ seen.toList, b ∈ S.ps.map Pr.born
  da : DA h r ⟨S.ps.filter (keepD D seen), S.clock, S.m⟩
  lt : I < h.next
  ge : h0.next ≤ I
  it : h.get I = some (.mapIter (some S.m) S.clock seen S.clock)
  nx : h0.next ≤ h.next
  fr : ∀ z, z < h0.next → ¬ S.m = z → h.get z = h0.get z
theorem It.lt_of {h0 h : AHeap} {r I : Nat} {S : DS} {D : Pr → Bool} {seen : Array Nat} {n : Nat} (i : It h0 h r I S D seen n) {p : Pr} (hp : p ∈ S.ps) (hs : p.born ∉ seen.toList) : 0 < n := by
  have := seen_lt i.nd i.sub (List.mem_map.2 ⟨p, hp, rfl⟩) hs
  have h1 := i.n
  simp at this; omega
theorem It.keep {h0 h h' : AHeap} {r I : Nat} {S : DS} {D : Pr → Bool} {seen : Array Nat} {n : Nat} (i : It h0 h r I S D seen n) {p : Pr} (hp : p ∈ S.ps) (hs : p.born ∉ seen.toList) (hb : (S.ps.map Pr.born).Nodup) (hD : D p = false)
    (hn : h.next ≤ h'.next) (hI : h'.get I = some (.mapIter (some S.m) S.clock (seen.push p.born) S.clock)) (hk : ∀ z, z < h.next → ¬ z = I → h'.get z = h.get z) (hrI : r < h0.next) (hmI : S.m < h0.next) : It h0 h' r I S D (seen.push p.born) (n - 1) := by
  have h0n := i.lt_of hp hs
  have hn1 := i.n
  have hge := i.ge
  have hlt := i.lt
  refine ⟨by simp; omega, seen_push i.nd hs, fun b hb => ?_, ?_, by omega, hge, hI, by have := i.nx; omega, fun z hz hm => ?_⟩
  · rcases mem_push.1 hb with h9 | h9
    · exact i.sub b h9
    · exact h9 ▸ List.mem_map.2 ⟨p, hp, rfl⟩
  · rw [← keepD_keep hb hp hD]
    exact i.da.mono hn (hk r (by have := i.nx; omega) (by omega)) (hk S.m (by have := i.nx; omega) (by omega))
  · rw [hk z (by have := i.nx; omega) (by omega)]; exact i.fr z hz hm
theorem It.del {h0 h h' : AHeap} {r I : Nat} {S : DS} {D : Pr → Bool} {seen : Array Nat} {n : Nat} (i : It h0 h r I S D seen n) {p : Pr} (hp : p ∈ S.ps) (hs : p.born ∉ seen.toList) (hb : (S.ps.map Pr.born).Nodup) (hky : (S.ps.map Pr.key).Nodup) (hD : D p = true)
    (hn : h.next ≤ h'.next) (hI : h'.get I = some (.mapIter (some S.m) S.clock (seen.push p.born) S.clock)) (hm : h'.get S.m = some (.map (mkK encP (((S.ps.filter (keepD D seen)).filter fun q => !decide (q.key = p.key)).map Pr.ent)) S.clock)) (hk : ∀ z, z < h.next → ¬ z = I → ¬ z = S.m → h'.get z = h.get z) (hrI : r < h0.next) (hmI : S.m < h0.next) : It h0 h' r I S D (seen.push p.born) (n - 1) := by
  have h0n := i.lt_of hp hs
  have hn1 := i.n
  have hge := i.ge
  have hlt := i.lt
  have hda := i.da
  have hrm := hda.rm
  refine ⟨by simp; omega, seen_push i.nd hs, fun b hb => ?_, ?_, by omega, hge, hI, by have := i.nx; omega, fun z hz hm => ?_⟩
  · rcases mem_push.1 hb with h9 | h9
    · exact i.sub b h9
    · exact h9 ▸ List.mem_map.2 ⟨p, hp, rfl⟩
  · rw [keepD_del hky hb hp hD] at hm
    have sl : (S.ps.filter (keepD D (seen.push p.born))).Sublist S.ps := List.filter_sublist
    have sl2 : (S.ps.filter (keepD D (seen.push p.born))).Sublist (S.ps.filter (keepD D seen)) := by rw [← keepD_del hky hb hp hD]; exact List.filter_sublist
    exact ⟨Nat.lt_of_lt_of_le hda.lt hn, Nat.lt_of_lt_of_le hda.mlt hn, hrm, by rw [hk r (by have := i.nx; omega) (by omega) hrm]; exact hda.row, hm, fun q hq => hda.born q (sl2.subset hq), hb.sublist (sl.map _), hky.sublist (sl.map _)⟩
  · rw [hk z (by have := i.nx; omega) (by omega) (fun e => hm e.symm)]; exact i.fr z hz hm

theorem logged_c (h : AHeap) (r : Nat) (S : DS) (hA : DA h r S) (ts : Int) :
    FWp Try.prog 13 [P0 r, U64 ts] h fun u h' => u = .tuple #[] ∧ DA h' r ⟨S.ps.filter (fun p => !decide (p.key.2 = ts)), S.clock, S.m⟩ ∧ FrD h h' S := by
  have hrow := hA.row
  have hmap := hA.map
  have hl := hA.lt
  have hml := hA.mlt
  have hrm := hA.rm
  have e0 : S.ps.filter (keepD (fun p => decide (p.key.2 = ts)) #[]) = S.ps := List.filter_eq_self.2 fun p _ => by simp [keepD]
  refine W.enter tyOK Try.func13 rfl rfl ?_
  simp only [entry]
  refine W.seq <| W.seq <| W.reg <| 
      OSuf.aop tyOK rfl (so_move (by simp only [lk] <;> rfl)) rfl <|
      OSuf.callD rfl (by simp only [aopnds, lk] <;> rfl) en26 (none_c _ r S hA) rfl <|
      OSuf.nil <| SQ.normal ?_
  refine W.no (by simp only [lk] <;> rfl) <| CWp.skip <| SQ.normal ?_
  refine W.seq <| W.reg <| 
      OSuf.aop tyOK rfl (so_move (by simp only [lk] <;> rfl)) rfl <|
      OSuf.aop tyOK rfl (so_nilCheck (by simp only [lk] <;> rfl)) rfl <|
      OSuf.aop tyOK rfl (so_fieldAddr (by simp only [lk] <;> rfl) (fa_ok (k := 0) ty57 rfl rfl ty55 rfl rfl)) rfl <|
      OSuf.aop tyOK rfl (so_load (by simp only [lk] <;> rfl) (by simp (disch := first | assumption | omega | (simp only [nx] <;> omega) | fail) only [aLoad, ty55, rowOf, hpl, hrow, hmap] <;> rfl)) rfl <|
      OSuf.aop tyOK rfl (so_range (by simp only [lk] <;> rfl) (by simp (disch := first | assumption | omega | (simp only [nx] <;> omega) | fail) only [aRange, ty55, hpl, hrow, hmap] <;> rfl)) rfl <|
      OSuf.nil <| SQ.normal ?_
  -- leaf: loop
  refine W.cut (fun L h' => DA h' r ⟨S.ps.filter (fun p => !decide (p.key.2 = ts)), S.clock, S.m⟩ ∧ FrD h h' S) (W.block (W.loop (fun n L h' => ∃ seen, It h h' r h.next S (fun p => decide (p.key.2 = ts)) seen n ∧ L = [(0, P0 r), (1, U64 ts), (11, P0 h.next)]) (n := S.ps.length)
    ⟨#[], ⟨by simp, by simp, by simp, ?_, by simp, by omega, AHeap.get_new_same _ _, by simp, fun z hz _ => AHeap.get_new_ne (by omega)⟩, rfl⟩ ?_ ?_)) ?_
  · rw [e0]; exact hA.mono (by simp) (AHeap.get_new_ne (by omega)) (AHeap.get_new_ne (by omega))
  · simp [HasA, Tr.get_put]
  · rintro n L h2 ⟨seen, hI, rfl⟩
    simp only [mkA]
    have hda := hI.da
    have hrow2 := hda.row
    have hmap2 : h2.get S.m = some (.map (mkK encP ((S.ps.filter (keepD (fun p => decide (p.key.2 = ts)) seen)).map Pr.ent)) S.clock) := hda.map
    have hlt2 := hda.lt
    have hmlt2 := hda.mlt
    have hIlt := hI.lt
    have g1 : ¬ h.next = r := by omega
    have g2 : ¬ h.next = S.m := by omega
    have g3 : ¬ S.m = h.next := by omega
    have g4 : ¬ r = h.next := by omega
    have g5 : ¬ S.m = r := fun e => hrm e.symm
    refine W.seq <| W.reg <| 
        OSuf.next rfl (by simp only [lk] <;> rfl) hI.it hmap2 (it_condP hda.born) (fun he => ⟨_, rfl, ?_⟩) (fun e he => ⟨_, rfl, ?_⟩)
    · skip
      refine 
          OSuf.aopF tyOK rfl (so_extract (by simp only [lk] <;> rfl) (by simp (disch := first | assumption | omega | (simp only [nx] <;> omega) | fail) only [aExtract, hpl, hrow2, hmap2, Value.cells, places, ty29, ty4, ty55, ty57, ty60] <;> rfl)) (fun _ => rfl) (by first | rfl | assumption | ((simp only [bl, hrow2, hmap2, Value.cells, places, ty29, ty4, ty55, ty57, ty60]) <;> first | done | assumption | omega) | (simp [hrow2, hmap2, Value.cells, places, ty29, ty4, ty55, ty57, ty60]; done) | (simp [hrow2, hmap2, Value.cells, places, ty29, ty4, ty55, ty57, ty60]; omega)) <|
          OSuf.nil <| SQ.normal ?_
      refine W.seq <| W.no (by simp only [lk] <;> rfl) <| CWp.exit <| SQ.exit <| LQ.exit <| BQ.exit <| ?_
      refine NQ.normal (L := []) trivial ⟨?_, hI.nx, hI.fr⟩
      rw [← keepD_done (it_doneP he hda.born)]; exact hda
    · skip
      obtain ⟨p, hp, hns, rfl⟩ := it_leftP he
      have hpS : p ∈ S.ps := (List.mem_filter.1 hp).1
      have hfind := it_findP hda.borns hp
      obtain ⟨j, hi, hj⟩ := idxK_mem (k := 0) (by rw [ent_key]; exact hda.keys) (List.mem_map.2 ⟨p, hp, rfl⟩)
      rw [Nat.zero_add] at hi
      refine 
          OSuf.aopT tyOK rfl (so_extract (by simp only [lk] <;> rfl) (by simp (disch := first | assumption | omega | (simp only [nx] <;> omega) | fail) only [aExtract, hpl, hrow2, hmap2, Value.cells, places, ty29, ty4, ty55, ty57, ty60] <;> rfl)) (fun _ => rfl) (by first | rfl | assumption | ((simp only [bl, hrow2, hmap2, Value.cells, places, ty29, ty4, ty55, ty57, ty60]) <;> first | done | assumption | omega) | (simp [hrow2, hmap2, Value.cells, places, ty29, ty4, ty55, ty57, ty60]; done) | (simp [hrow2, hmap2, Value.cells, places, ty29, ty4, ty55, ty57, ty60]; omega)) <|
          OSuf.nil <| SQ.normal ?_
      refine W.seq <| W.yes (by simp only [lk] <;> rfl) <| CWp.skip <| SQ.normal ?_
      refine W.block <| W.seq <| W.reg <| 
          OSuf.aop tyOK rfl (so_entry (by simp only [lk] <;> rfl) (en_ok (AHeap.get_set_same _ _ _) (by simp (disch := first | assumption | omega | (simp only [nx] <;> omega) | fail) only [aCells, rowOf, hpl, hrow2, hmap2, Value.cells, places, ty29, ty4, ty55, ty57, ty60] <;> first | rfl | exact hmap2) hfind)) rfl <|
          OSuf.aop tyOK rfl (so_extract (by simp only [lk] <;> rfl) (by simp (disch := first | assumption | omega | (simp only [nx] <;> omega) | fail) only [aExtract, hpl, hrow2, hmap2, Value.cells, places, ty29, ty4, ty55, ty57, ty60] <;> rfl)) rfl <|
          OSuf.aop tyOK rfl (so_alloc (by simp only [aAlloc, ty60] <;> rfl)) rfl <|
          OSuf.aop tyOK rfl (so_store (by simp only [lk] <;> rfl) (by simp only [lk] <;> rfl) (by simp (disch := first | assumption | omega | (simp only [nx] <;> omega) | fail) only [aStore, ty60, writeRow, hpl, hrow2, hmap2, Value.cells, places, ty29, ty4, ty55, ty57, ty60] <;> rfl)) rfl <|
          OSuf.nil <| SQ.normal ?_
      refine W.seq <| W.reg <| 
          OSuf.aop tyOK rfl (so_fieldAddr (by simp only [lk] <;> rfl) (fa_ok (k := 1) ty60 rfl rfl ty29 rfl rfl)) rfl <|
          OSuf.aop tyOK rfl (so_load (by simp only [lk] <;> rfl) (by simp (disch := first | assumption | omega | (simp only [nx] <;> omega) | fail) only [aLoad, ty29, rowOf, hpl, hrow2, hmap2, Value.cells, places, ty29, ty4, ty55, ty57, ty60] <;> rfl)) rfl <|
          OSuf.aop tyOK rfl (so_move (by simp only [lk] <;> rfl)) rfl <|
          OSuf.aopB tyOK rfl (so_bin (by simp only [lk] <;> rfl) (by simp only [lk] <;> rfl) bi_eql) (fun _ => rfl) (fun hon => ?_) (fun hon => ?_)
      · try simp only [bl] at hon
        refine 
            OSuf.nil <| SQ.normal ?_
        refine W.yes (by simp only [lk] <;> rfl) <| W.regD tyOK mixed (by kernel_rfl) <| 
            SqW.aop rfl (so_move (by simp only [lk] <;> rfl)) rfl <|
            SqW.aop rfl (so_nilCheck (by simp only [lk] <;> rfl)) rfl <|
            SqW.aop rfl (so_fieldAddr (by simp only [lk] <;> rfl) (fa_ok (k := 0) ty57 rfl rfl ty55 rfl rfl)) rfl <|
            SqW.aop rfl (so_load (by simp only [lk] <;> rfl) (by simp (disch := first | assumption | omega | (simp only [nx] <;> omega) | fail) only [aLoad, ty55, rowOf, hpl, hrow2, hmap2, Value.cells, places, ty29, ty4, ty55, ty57, ty60] <;> rfl)) rfl <|
            SqW.aop rfl (so_load (by simp only [lk] <;> rfl) (by simp (disch := first | assumption | omega | (simp only [nx] <;> omega) | fail) only [aLoad, ty60, rowOf, hpl, hrow2, hmap2, Value.cells, places, ty29, ty4, ty55, ty57, ty60] <;> rfl)) rfl <|
            SqW.aop rfl (so_delete (by simp only [aopnds, lk] <;> rfl) (kd_some keyP (a := p.key) rfl ty55 rfl (by simp (disch := first | assumption | omega | (simp only [nx] <;> omega) | fail) only [aCells, rowOf, hpl, hrow2, hmap2, Value.cells, places, ty29, ty4, ty55, ty57, ty60] <;> first | rfl | exact hmap2) hi)) rfl <|
            SqW.nil <| BQ.normal <| ?_
        rw [erase_ent hda.keys hj]
        refine LQ.normal (m := n - 1) (L := [(0, P0 r), (1, U64 ts), (11, P0 h.next)]) (by have := hI.lt_of hpS hns; omega) ?_ ⟨_, hI.del hpS hns hA.borns hA.keys (by simpa using hon) (by simp only [nx]; omega) (by simp (disch := first | assumption | omega | (simp only [nx] <;> omega) | fail) only [hpl]) (by simp (disch := first | assumption | omega | (simp only [nx] <;> omega) | fail) only [hpl]) (fun z hz a b => ?_) hl hml, rfl⟩
        · simp only [HasA, Tr.get_put, Nat.reduceEqDiff, reduceIte, and_self]
        · have a' : ¬ h.next = z := fun e => a e.symm
          have b' : ¬ S.m = z := fun e => b e.symm
          simp (disch := first | assumption | omega | (simp only [nx] <;> omega) | fail) only [hpl]
      · try simp only [bl] at hon
        refine 
            OSuf.nil <| SQ.normal ?_
        refine W.no (by simp only [lk] <;> rfl) <| CWp.skip <| BQ.normal <| ?_
        refine LQ.normal (m := n - 1) (L := [(0, P0 r), (1, U64 ts), (11, P0 h.next)]) (by have := hI.lt_of hpS hns; omega) ?_ ⟨_, hI.keep hpS hns hA.borns (by simpa using hon) (by simp only [nx]; omega) (by simp (disch := first | assumption | omega | (simp only [nx] <;> omega) | fail) only [hpl]) (fun z hz a => ?_) hl hml, rfl⟩
        · simp only [HasA, Tr.get_put, Nat.reduceEqDiff, reduceIte, and_self]
        · have a' : ¬ h.next = z := fun e => a e.symm
          simp (disch := first | assumption | omega | (simp only [nx] <;> omega) | fail) only [hpl]
  rintro L a' h2 ha ⟨hA2, hF2⟩
  refine FQ.normal (by simp only [aRet, Try.f13, aResults] <;> rfl) ?_
  exact ⟨rfl, hA2, hF2⟩

theorem ready_c (h : AHeap) (r : Nat) (S : DS) (hA : DA h r S) (ts : Int) :
    FWp Try.prog 20 [P0 r, U64 ts] h fun u h' => u = .bool (!(S.ps.any fun p => decide (p.key.1 = ts))) ∧ h' = h := by
  have hrow := hA.row
  have hmap := hA.map
  have hl := hA.lt
  have hml := hA.mlt
  have hrm := hA.rm
  have e0 : ∀ seen, S.ps.filter (keepD (fun p => false) seen) = S.ps := fun seen => List.filter_eq_self.2 fun p _ => by simp [keepD]
  refine FWp.gcs ⟨fun _ => none, _, .bool _⟩ (W.enter tyOK Try.func20 rfl rfl ?_)
  simp only [entry]
  refine W.seq <| W.reg <| 
      OSuf.aopF tyOK rfl (so_assign (by simp only [lk] <;> rfl)) (fun _ => rfl) rfl <|
      OSuf.nil <| SQ.normal ?_
  refine W.seq <| W.seq <| W.reg <| 
      OSuf.aop tyOK rfl (so_move (by simp only [lk] <;> rfl)) rfl <|
      OSuf.callD rfl (by simp only [aopnds, lk] <;> rfl) en26 (none_c _ r S hA) rfl <|
      OSuf.nil <| SQ.normal ?_
  refine W.no (by simp only [lk] <;> rfl) <| CWp.skip <| SQ.normal ?_
  refine W.seq <| W.seq <| W.reg <| 
      OSuf.aop tyOK rfl (so_move (by simp only [lk] <;> rfl)) rfl <|
      OSuf.aop tyOK rfl (so_nilCheck (by simp only [lk] <;> rfl)) rfl <|
      OSuf.aop tyOK rfl (so_fieldAddr (by simp only [lk] <;> rfl) (fa_ok (k := 0) ty57 rfl rfl ty55 rfl rfl)) rfl <|
      OSuf.aop tyOK rfl (so_load (by simp only [lk] <;> rfl) (by simp (disch := first | assumption | omega | (simp only [nx] <;> omega) | fail) only [aLoad, ty55, rowOf, hpl, hrow, hmap] <;> rfl)) rfl <|
      OSuf.aop tyOK rfl (so_range (by simp only [lk] <;> rfl) (by simp (disch := first | assumption | omega | (simp only [nx] <;> omega) | fail) only [aRange, ty55, hpl, hrow, hmap] <;> rfl)) rfl <|
      OSuf.nil <| SQ.normal ?_
  -- leaf: loop
  refine W.cut (fun L h' => (∀ p ∈ S.ps, ¬ p.key.1 = ts) ∧ h.next ≤ h'.next ∧ (∀ z, z < h.next → h'.get z = h.get z) ∧ L = []) (W.block (W.loop (fun n L h' => ∃ seen, It h h' r h.next S (fun p => false) seen n ∧ (∀ p ∈ S.ps, p.born ∈ seen.toList → ¬ p.key.1 = ts) ∧ h'.get S.m = h.get S.m ∧ L = [(0, P0 r), (1, U64 ts), (12, P0 h.next)]) (n := S.ps.length)
    ⟨#[], ⟨by simp, by simp, by simp, ?_, by simp, by omega, AHeap.get_new_same _ _, by simp, fun z hz _ => AHeap.get_new_ne (by omega)⟩, by simp, AHeap.get_new_ne (by omega), rfl⟩ ?_ ?_)) ?_
  · rw [e0]; exact hA.mono (by simp) (AHeap.get_new_ne (by omega)) (AHeap.get_new_ne (by omega))
  · simp [HasA, Tr.get_put]
  · rintro n L h2 ⟨seen, hI, hno, hgm, rfl⟩
    simp only [mkA]
    have hda := hI.da
    rw [e0] at hda
    have hrow2 := hda.row
    have hmap2 := hda.map
    have hlt2 := hda.lt
    have hmlt2 := hda.mlt
    have hIlt := hI.lt
    have g1 : ¬ h.next = r := by omega
    have g2 : ¬ h.next = S.m := by omega
    have g3 : ¬ S.m = h.next := by omega
    have g4 : ¬ r = h.next := by omega
    have same : ∀ z, z < h.next → h2.get z = h.get z := fun z hz => by
      by_cases e : S.m = z
      · subst e; exact hgm
      · exact hI.fr z hz e
    refine W.seq <| W.reg <| 
        OSuf.next rfl (by simp only [lk] <;> rfl) hI.it hmap2 (it_condP hda.born) (fun he => ⟨_, rfl, ?_⟩) (fun e he => ⟨_, rfl, ?_⟩)
    · skip
      refine 
          OSuf.aopF tyOK rfl (so_extract (by simp only [lk] <;> rfl) (by simp (disch := first | assumption | omega | (simp only [nx] <;> omega) | fail) only [aExtract, hpl, hrow2, hmap2, Value.cells, places, ty29, ty4, ty55, ty57, ty60] <;> rfl)) (fun _ => rfl) (by first | rfl | assumption | ((simp only [bl, hrow2, hmap2, Value.cells, places, ty29, ty4, ty55, ty57, ty60]) <;> first | done | assumption | omega) | (simp [hrow2, hmap2, Value.cells, places, ty29, ty4, ty55, ty57, ty60]; done) | (simp [hrow2, hmap2, Value.cells, places, ty29, ty4, ty55, ty57, ty60]; omega)) <|
          OSuf.nil <| SQ.normal ?_
      refine W.seq <| W.no (by simp only [lk] <;> rfl) <| CWp.exit <| SQ.exit <| LQ.exit <| BQ.exit <| ?_
      refine NQ.normal (L := []) trivial ⟨fun p hp => hno p hp (it_doneP he hda.born p hp), hI.nx, same, rfl⟩
    · skip
      obtain ⟨p, hp, hns, rfl⟩ := it_leftP he
      have hfind := it_findP hda.borns hp
      refine 
          OSuf.aopT tyOK rfl (so_extract (by simp only [lk] <;> rfl) (by simp (disch := first | assumption | omega | (simp only [nx] <;> omega) | fail) only [aExtract, hpl, hrow2, hmap2, Value.cells, places, ty29, ty4, ty55, ty57, ty60] <;> rfl)) (fun _ => rfl) (by first | rfl | assumption | ((simp only [bl, hrow2, hmap2, Value.cells, places, ty29, ty4, ty55, ty57, ty60]) <;> first | done | assumption | omega) | (simp [hrow2, hmap2, Value.cells, places, ty29, ty4, ty55, ty57, ty60]; done) | (simp [hrow2, hmap2, Value.cells, places, ty29, ty4, ty55, ty57, ty60]; omega)) <|
          OSuf.nil <| SQ.normal ?_
      refine W.seq <| W.yes (by simp only [lk] <;> rfl) <| CWp.skip <| SQ.normal ?_
      refine W.block <| W.seq <| W.reg <| 
          OSuf.aop tyOK rfl (so_entry (by simp only [lk] <;> rfl) (en_ok (AHeap.get_set_same _ _ _) (by simp (disch := first | assumption | omega | (simp only [nx] <;> omega) | fail) only [aCells, rowOf, hpl, hrow2, hmap2, Value.cells, places, ty29, ty4, ty55, ty57, ty60] <;> first | rfl | exact hmap2) hfind)) rfl <|
          OSuf.aop tyOK rfl (so_extract (by simp only [lk] <;> rfl) (by simp (disch := first | assumption | omega | (simp only [nx] <;> omega) | fail) only [aExtract, hpl, hrow2, hmap2, Value.cells, places, ty29, ty4, ty55, ty57, ty60] <;> rfl)) rfl <|
          OSuf.aop tyOK rfl (so_alloc (by simp only [aAlloc, ty60] <;> rfl)) rfl <|
          OSuf.aop tyOK rfl (so_store (by simp only [lk] <;> rfl) (by simp only [lk] <;> rfl) (by simp (disch := first | assumption | omega | (simp only [nx] <;> omega) | fail) only [aStore, ty60, writeRow, hpl, hrow2, hmap2, Value.cells, places, ty29, ty4, ty55, ty57, ty60] <;> rfl)) rfl <|
          OSuf.nil <| SQ.normal ?_
      refine W.seq <| W.reg <| 
          OSuf.aop tyOK rfl (so_fieldAddr (by simp only [lk] <;> rfl) (fa_ok (k := 0) ty60 rfl rfl ty29 rfl rfl)) rfl <|
          OSuf.aop tyOK rfl (so_load (by simp only [lk] <;> rfl) (by simp (disch := first | assumption | omega | (simp only [nx] <;> omega) | fail) only [aLoad, ty29, rowOf, hpl, hrow2, hmap2, Value.cells, places, ty29, ty4, ty55, ty57, ty60] <;> rfl)) rfl <|
          OSuf.aop tyOK rfl (so_move (by simp only [lk] <;> rfl)) rfl <|
          OSuf.aopB tyOK rfl (so_bin (by simp only [lk] <;> rfl) (by simp only [lk] <;> rfl) bi_eql) (fun _ => rfl) (fun hon => ?_) (fun hon => ?_)
      · try simp only [bl] at hon
        refine 
            OSuf.nil <| SQ.normal ?_
        refine W.yes (by simp only [lk] <;> rfl) <| W.seq <| W.reg <| 
            OSuf.aopF tyOK rfl (so_assign (by simp only [lk] <;> rfl)) (fun _ => rfl) rfl <|
            OSuf.nil <| SQ.normal ?_
        refine CWp.ret <| BQ.ret <| LQ.ret <| BQ.ret <| NQ.ret <| SQ.ret <| FQ.ret (by simp only [aRet, Try.f20, aResults, aResult, lk, Nat.reduceEqDiff, reduceIte] <;> rfl) ?_
        have : S.ps.any (fun p => decide (p.key.1 = ts)) = true := List.any_eq_true.2 ⟨p, hp, by simpa using hon⟩
        rw [this]
        refine ⟨rfl, fun z o hz ho => ?_⟩
        have a' : ¬ h.next = z := by omega
        have : z < h2.next := by omega
        simp (disch := first | assumption | omega | (simp only [nx] <;> omega) | fail) only [hpl]; rw [same z hz]; exact ho
      · try simp only [bl] at hon
        refine 
            OSuf.nil <| SQ.normal ?_
        refine W.no (by simp only [lk] <;> rfl) <| CWp.skip <| BQ.normal <| ?_
        refine LQ.normal (m := n - 1) (L := [(0, P0 r), (1, U64 ts), (12, P0 h.next)]) (by have := hI.lt_of hp hns; omega) ?_ ⟨_, hI.keep hp hns hA.borns rfl (by simp only [nx]; omega) (by simp (disch := first | assumption | omega | (simp only [nx] <;> omega) | fail) only [hpl]) (fun z hz a => ?_) hl hml, fun q hq hs => ?_, ?_, rfl⟩
        · simp only [HasA, Tr.get_put, Nat.reduceEqDiff, reduceIte, and_self]
        · have a' : ¬ h.next = z := fun e => a e.symm
          simp (disch := first | assumption | omega | (simp only [nx] <;> omega) | fail) only [hpl]
        · rcases mem_push.1 hs with h9 | h9
          · exact hno q hq h9
          · have := inj_nodup Pr.born hA.borns hq hp h9
            subst this; simpa using hon
        · simp (disch := first | assumption | omega | (simp only [nx] <;> omega) | fail) only [hpl]; exact hgm
  rintro L a' h2 ha ⟨hno, hnx, same, rfl⟩
  have : S.ps.any (fun p => decide (p.key.1 = ts)) = false := List.any_eq_false.2 fun p hp => by simpa using hno p hp
  rw [this]
  refine SQ.normal <| CWp.known ha ?_
  simp only [mkA]
  refine W.seq <| W.reg <| 
      OSuf.aopT tyOK rfl (so_assign (by simp only [lk] <;> rfl)) (fun _ => rfl) rfl <|
      OSuf.nil <| SQ.normal ?_
  refine CWp.ret <| FQ.ret (by simp only [aRet, Try.f20, aResults, aResult, lk, Nat.reduceEqDiff, reduceIte] <;> rfl) ?_
  -- leaf: end
  exact ⟨rfl, fun z o hz ho => by rw [same z hz]; exact ho⟩
end Go.Proofs.Ytfbfihfmlenklaa
