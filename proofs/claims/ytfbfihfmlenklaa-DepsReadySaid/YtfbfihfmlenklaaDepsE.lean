/-
  Contracts of the package deps: Gone.
-/
import Derived.Test.YtfbfihfmlenklaaDepsD
namespace Go.Proofs.Ytfbfihfmlenklaa
open Go.Ab
set_option linter.unusedSimpArgs false
set_option linter.unusedVariables false
set_option maxRecDepth 10000
set_option maxHeartbeats 4000000

theorem nodup_lenI : ∀ {a b : List Int}, a.Nodup → (∀ x ∈ a, x ∈ b) → a.length ≤ b.length
  | [], b, _, _ => Nat.zero_le _
  | x :: a, b, hn, hs => by
    have hx := hs x List.mem_cons_self
    have hn' := List.nodup_cons.1 hn
    have := nodup_lenI (a := a) (b := b.erase x) hn'.2 (fun y hy => (List.mem_erase_of_ne (fun e => hn'.1 (by rw [← e]; exact hy))).2 (hs y (List.mem_cons_of_mem _ hy)))
    rw [List.length_erase_of_mem hx] at this
    have : 0 < b.length := List.length_pos_of_mem hx
    simp; omega
theorem lt_of_sorted : ∀ {l : List Int}, l.Pairwise (· ≤ ·) → l.Nodup → l.Pairwise (· < ·)
  | [], _, _ => .nil
  | x :: l, hs, hn => by
    have h1 := List.pairwise_cons.1 hs
    have h2 := List.nodup_cons.1 hn
    refine List.pairwise_cons.2 ⟨fun y hy => ?_, lt_of_sorted h1.2 h2.2⟩
    have := h1.1 y hy
    have : x ≠ y := fun e => h2.1 (e ▸ hy)
    omega
/-- Whether one of a pair is among some. -/
def inG (ts : Int) (G : List Int) (p : Pr) : Bool := decide (p.key.1 ∈ ts :: G) || decide (p.key.2 ∈ ts :: G)
structure GoneR (h h' : AHeap) (r : Nat) (S : DS) (ts : Int) (u : Value) (G : List Int) : Prop where
  reach : ∀ y, y ∈ ts :: G ↔ Reach S.ps ts y
  nts : ts ∉ G
  sorted : G.Pairwise (· < ·)
  sub : ∀ y ∈ G, ∃ p ∈ S.ps, p.key.1 = y
  out : SortU.OutAt h' h.next G u
  da : DA h' r ⟨S.ps.filter (fun p => !inG ts G p), S.clock, S.m⟩
  fr : FrD h h' S
theorem mapN (N : GL) (clk : Nat) {x : Int × Value × Nat} (h1 : ∀ y ∈ [x] ++ N, y.2.2 < clk) (h2 : (([x] ++ N).map (·.2.2)).Nodup) : SortU.MapOK N clk := by
  have h2 : (N.map (·.2.2)).Nodup := (List.nodup_cons.1 h2).2
  refine ⟨fun y hy => h1 y (List.mem_append.2 (.inr hy)), fun y hy z hz e => inj_nodup _ h2 hy hz e, ?_⟩
  have : ∀ l : GL, (l.map (·.2.2)).Nodup → l.Nodup := by
    intro l
    induction l with
    | nil => intro _; exact List.nodup_nil
    | cons y l ih =>
      intro h
      simp only [List.map_cons, List.nodup_cons] at h
      exact List.nodup_cons.2 ⟨fun hm => h.1 (List.mem_map.2 ⟨y, hm, rfl⟩), ih h.2⟩
  exact this N h2
theorem lenN (N : GL) {x : Int × Value × Nat} {S : DS} {ts : Int} (h1 : (gk ([x] ++ N)).Nodup) (h2 : ∀ y ∈ N, Reach S.ps ts y.1 ∧ ∃ p ∈ S.ps, p.key.1 = y.1) (hb : S.ps.length ≤ 1000000) : N.length ≤ 1000000 := by
  have h1 : (gk N).Nodup := (List.nodup_cons.1 h1).2
  have := nodup_lenI (b := S.ps.map fun p => p.key.1) h1 fun y hy => by
    obtain ⟨x, hx, rfl⟩ := List.mem_map.1 hy
    obtain ⟨_, p, hp, e⟩ := h2 x hx
    exact List.mem_map.2 ⟨p, hp, e⟩
  simp [gk] at this; omega
theorem gone_c (h : AHeap) (r : Nat) (S : DS) (hA : DA h r S) (ts : Int) (hbig : S.ps.length ≤ 1000000) :
    FWp Try.prog 16 [P0 r, U64 ts] h fun u h' => ∃ G, GoneR h h' r S ts u G := by
  have hrow := hA.row
  have hmap := hA.map
  have hl := hA.lt
  have hml := hA.mlt
  have hrm := hA.rm
  have hA1 : ∀ o, DA (h.new o) r S := fun o => hA.mono (by simp) (AHeap.get_new_ne (by omega)) (AHeap.get_new_ne (by omega))
  refine W.enter tyOK Try.func16 rfl rfl ?_
  simp only [entry]
  have c1 : ¬ r = h.next + 1 := by omega
  have c2 : ¬ S.m = h.next + 1 := by omega
  have lst : ∀ N : GL, [(ts, I64 1, 0)] ++ N = (ts, I64 1, 0) :: N := fun N => rfl
  have idx0 : ∀ N : GL, idxI ts ([(ts, I64 1, 0)] ++ N) 0 = some (0, I64 1) := fun N => by simp [idxI]
  refine W.seq <| W.reg <| 
      OSuf.aop tyOK rfl (so_box (by simp only [lk] <;> rfl)) rfl <|
      OSuf.aop tyOK rfl (so_assign (by simp only [lk] <;> rfl)) rfl <|
      OSuf.nil <| SQ.normal ?_
  refine W.seq <| W.seq <| W.reg <| 
      OSuf.aop tyOK rfl (so_load (by simp only [lk] <;> rfl) (by simp (disch := first | assumption | omega | (simp only [nx] <;> omega) | fail) only [aLoad, ty23, rowOf, hpl, hrow, hmap, Value.cells, places, ty23, ty29, ty3, ty34, ty55, ty57, ty64] <;> rfl)) rfl <|
      OSuf.callD rfl (by simp only [aopnds, lk] <;> rfl) en26 (none_c _ r S (hA1 _)) rfl <|
      OSuf.nil <| SQ.normal ?_
  refine W.no (by simp only [lk] <;> rfl) <| CWp.skip <| SQ.normal ?_
  refine W.seq <| W.reg <| 
      OSuf.aop tyOK rfl (so_makeMap) rfl <|
      OSuf.aop tyOK rfl (so_move (by simp only [lk] <;> rfl)) rfl <|
      OSuf.aop tyOK rfl (so_insert (by simp only [lk] <;> rfl) (by simp only [lk] <;> rfl) (by simp only [lk] <;> rfl) (mu_new tyOK ty64 rfl ty29 rfl (l := []) (by simp (disch := first | assumption | omega | (simp only [nx] <;> omega) | fail) only [aCells, rowOf, hpl, hrow, hmap, Value.cells, places, ty23, ty29, ty3, ty34, ty55, ty57, ty64] <;> rfl) rfl)) rfl <|
      OSuf.aop tyOK rfl (so_move (by simp only [lk] <;> rfl)) rfl <|
      OSuf.aop tyOK rfl (so_alloc (by simp only [aAlloc, ty64] <;> rfl)) rfl <|
      OSuf.aop tyOK rfl (so_store (by simp only [lk] <;> rfl) (by simp only [lk] <;> rfl) (by simp (disch := first | assumption | omega | (simp only [nx] <;> omega) | fail) only [aStore, ty64, writeRow, hpl, hrow, hmap, Value.cells, places, ty23, ty29, ty3, ty34, ty55, ty57, ty64] <;> rfl)) rfl <|
      OSuf.nil <| SQ.normal ?_
  refine W.seq <| W.reg <| 
      OSuf.aop tyOK rfl (so_alloc (by simp only [aAlloc, ty34] <;> rfl)) rfl <|
      OSuf.nil <| SQ.normal ?_
  refine W.seq <| W.reg <| 
      OSuf.aop tyOK rfl (so_makeFunc rfl (by simp only [aopnds, lk] <;> rfl) (by simp only [aopnds, lk] <;> rfl)) rfl <|
      OSuf.aop tyOK rfl (so_store (by simp only [lk] <;> rfl) (by simp only [lk] <;> rfl) (by simp (disch := first | assumption | omega | (simp only [nx] <;> omega) | fail) only [aStore, ty34, writeRow, hpl, hrow, hmap, Value.cells, places, ty23, ty29, ty3, ty34, ty55, ty57, ty64] <;> rfl)) rfl <|
      OSuf.nil <| SQ.normal ?_
  refine W.seq <| W.reg <| 
      OSuf.aop tyOK rfl (so_load (by simp only [lk] <;> rfl) (by simp (disch := first | assumption | omega | (simp only [nx] <;> omega) | fail) only [aLoad, ty34, rowOf, hpl, hrow, hmap, Value.cells, places, ty23, ty29, ty3, ty34, ty55, ty57, ty64] <;> rfl)) rfl <|
      OSuf.aop tyOK rfl (so_move (by simp only [lk] <;> rfl)) rfl <|
      OSuf.vcall rfl (by simp only [lk] <;> rfl) (by simp only [aopnds, lk] <;> rfl) (take_v (take_c h.next (h.next + 2) (h.next + 3) r (h.next + 1) S (more S [(ts, I64 1, 0)])) (l := [(ts, I64 1, 0)]) (clk := 1) ⟨hA.mono (by simp only [nx]; omega) (by simp (disch := first | assumption | omega | (simp only [nx] <;> omega) | fail) only [hpl]) (by simp (disch := first | assumption | omega | (simp only [nx] <;> omega) | fail) only [hpl]), by simp only [nx]; omega, by omega, by simp (disch := first | assumption | omega | (simp only [nx] <;> omega) | fail) only [hpl] <;> rfl, by simp (disch := first | assumption | omega | (simp only [nx] <;> omega) | fail) only [hpl] <;> rfl, by simp (disch := first | assumption | omega | (simp only [nx] <;> omega) | fail) only [hpl] <;> rfl, by simp (disch := first | assumption | omega | (simp only [nx] <;> omega) | fail) only [hpl] <;> rfl, by simp, by simp, by simp [gk], by simp⟩ (Nat.le_refl _)) ?_
  rintro _ h3 ⟨N, clk', hT3, hn3, hf3, hre, hcl⟩
  simp only [nx] at hn3 hf3
  have hda3 := hT3.da
  have d1 := hT3.rbd
  have d2 := hda3.row
  have d3 := hT3.rbg
  have d4 := hT3.map
  have dn : h.next + 4 ≤ h3.next := (by omega)
  have dm := hda3.mlt
  refine ⟨_, rfl, ?_⟩
  refine 
      OSuf.nil <| SQ.normal ?_
  refine W.seq <| W.reg <| 
      OSuf.aop tyOK rfl (so_load (by simp only [lk] <;> rfl) (by simp (disch := first | assumption | omega | (simp only [nx] <;> omega) | fail) only [aLoad, ty23, rowOf, hpl, hrow, hmap, Value.cells, places, ty23, ty29, ty3, ty34, ty55, ty57, ty64, d1, d2, d3, d4, Value.cells] <;> rfl)) rfl <|
      OSuf.aop tyOK rfl (so_nilCheck (by simp only [lk] <;> rfl)) rfl <|
      OSuf.aop tyOK rfl (so_fieldAddr (by simp only [lk] <;> rfl) (fa_ok (k := 0) ty57 rfl rfl ty55 rfl rfl)) rfl <|
      OSuf.aop tyOK rfl (so_load (by simp only [lk] <;> rfl) (by simp (disch := first | assumption | omega | (simp only [nx] <;> omega) | fail) only [aLoad, ty55, rowOf, hpl, hrow, hmap, Value.cells, places, ty23, ty29, ty3, ty34, ty55, ty57, ty64, d1, d2, d3, d4, Value.cells] <;> rfl)) rfl <|
      OSuf.aop tyOK rfl (so_makeFunc rfl (by simp only [aopnds, lk] <;> rfl) (by simp only [aopnds, lk] <;> rfl)) rfl <|
      OSuf.call rfl (by simp only [aopnds, lk] <;> rfl) en28 (delfn_c h3 r S hda3 (.func (.func 29) #[] #[P0 (h.next + 2)]) (goneD ([(ts, I64 1, 0)] ++ N)) (fun h' e1 e2 p hp => VWp.func en29 (gone2_c h' (h.next + 2) (h.next + 1) clk' _ (by omega) (by omega) (by rw [e2 _ (by omega) (by omega)]; exact d3) (by rw [e2 _ (by omega) (by omega)]; exact d4) hT3.ones p _))) ?_
  rintro _ h4 ⟨hA4, hF4⟩
  have q1 : h4.get (h.next + 2) = some (.cells [.map (some (h.next + 1))] 1) := (by rw [hF4.2 _ (by omega) (by omega)]; exact d3)
  have q2 : h4.get (h.next + 1) = some (.map (mkE .u64 ([(ts, I64 1, 0)] ++ N)) clk') := (by rw [hF4.2 _ (by omega) (by omega)]; exact d4)
  have qn := hF4.1
  refine ⟨_, rfl, ?_⟩
  refine 
      OSuf.nil <| SQ.normal ?_
  refine W.seq <| W.reg <| 
      OSuf.aop tyOK rfl (so_load (by simp only [lk] <;> rfl) (by simp (disch := first | assumption | omega | (simp only [nx] <;> omega) | fail) only [aLoad, ty64, rowOf, hpl, hrow, hmap, Value.cells, places, ty23, ty29, ty3, ty34, ty55, ty57, ty64, d1, d2, d3, d4, Value.cells, q1, q2, Value.cells] <;> rfl)) rfl <|
      OSuf.aop tyOK rfl (so_move (by simp only [lk] <;> rfl)) rfl <|
      OSuf.aop tyOK rfl (so_delete (by simp only [aopnds, lk] <;> rfl) (de_some tyOK rfl ty64 rfl ty29 rfl (by simp (disch := first | assumption | omega | (simp only [nx] <;> omega) | fail) only [aCells, rowOf, hpl, hrow, hmap, Value.cells, places, ty23, ty29, ty3, ty34, ty55, ty57, ty64, d1, d2, d3, d4, Value.cells, q1, q2, Value.cells] <;> first | rfl | exact q2) (idx0 N))) rfl <|
      OSuf.nil <| SQ.normal ?_
  refine W.seq <| W.reg <| 
      OSuf.aop tyOK rfl (so_load (by simp only [lk] <;> rfl) (by simp (disch := first | assumption | omega | (simp only [nx] <;> omega) | fail) only [aLoad, ty64, rowOf, hpl, hrow, hmap, Value.cells, places, ty23, ty29, ty3, ty34, ty55, ty57, ty64, d1, d2, d3, d4, Value.cells, q1, q2, Value.cells] <;> rfl)) rfl <|
      OSuf.callD rfl (by simp only [aopnds, lk] <;> rfl) en31 (SortU.keys_c _ (h.next + 1)) rfl <|
      OSuf.call rfl (by simp only [aopnds, lk] <;> rfl) en30 (SortU.sorted_c _ h4.next (h.next + 1) clk' N (SortU.isI (gk N)) (mapN N clk' hT3.lt hT3.bn) (by simp only [nx]; omega) (by simp only [nx]; omega) (by simp (disch := first | assumption | omega | (simp only [nx] <;> omega) | fail) only [hpl]) (by simp (disch := first | assumption | omega | (simp only [nx] <;> omega) | fail) only [hpl]; rfl) (lenN N hT3.keys hre hbig) (SortU.isI_perm _) (SortU.isI_sorted _)) ?_
  rintro u h5 hres
  refine ⟨_, rfl, ?_⟩
  refine 
      OSuf.aop tyOK rfl (so_assign (by simp only [lk] <;> rfl)) rfl <|
      OSuf.nil <| SQ.normal ?_
  refine CWp.ret <| FQ.ret (by simp only [aRet, Try.f16, aResults, aResult, lk, Nat.reduceEqDiff, reduceIte] <;> rfl) ?_
  -- leaf: end
  have keysN : (ts :: gk N).Nodup := hT3.keys
  have hp := SortU.isI_perm (gk N)
  have mem : ∀ y, y ∈ ts :: SortU.isI (gk N) ↔ y ∈ ts :: gk N := fun y => by simp only [List.mem_cons, hp.mem_iff]
  have hn5 : h4.next ≤ h5.next ∧ ∀ z, z < h4.next → ¬ z = h.next + 1 → h5.get z = h4.get z := by
    rcases hres with ⟨_, _, rfl⟩ | ⟨_, _, rfl⟩
    · refine ⟨by simp only [nx]; omega, fun z hz hne => ?_⟩
      have hne' : ¬ h.next + 1 = z := fun e => hne e.symm
      simp (disch := first | assumption | omega | (simp only [nx] <;> omega) | fail) only [hpl]
    · refine ⟨by simp only [nx]; omega, fun z hz hne => ?_⟩
      have hne' : ¬ h.next + 1 = z := fun e => hne e.symm
      simp (disch := first | assumption | omega | (simp only [nx] <;> omega) | fail) only [hpl]
  refine ⟨SortU.isI (gk N), fun y => ?_, fun hm => (List.nodup_cons.1 keysN).1 (hp.mem_iff.1 hm), lt_of_sorted (SortU.isI_sorted _) (hp.nodup_iff.2 (List.nodup_cons.1 keysN).2), fun y hy => ?_, ?_, ?_, ?_, ?_⟩
  · rw [mem]
    constructor
    · intro hy
      cases hy with
      | head => exact .refl
      | tail _ hy =>
        obtain ⟨x, hx, rfl⟩ := List.mem_map.1 hy
        exact (hre x hx).1
    · intro hy
      induction hy with
      | refl => exact List.mem_cons_self
      | step hr hp hh ho ih =>
        refine hcl _ hp hh ?_
        cases ih with
        | head => exact .inl ho
        | tail _ ih => exact .inr (ho ▸ ih)
  · obtain ⟨x, hx, rfl⟩ := List.mem_map.1 (hp.mem_iff.1 hy)
    exact (hre x hx).2
  · rcases hres with ⟨e, rfl, rfl⟩ | ⟨e, rfl, rfl⟩
    · exact .none e
    · refine .some e rfl ?_ ?_ ?_
      · simp only [nx]; omega
      · simp only [nx]; omega
      · simp (disch := first | assumption | omega | (simp only [nx] <;> omega) | fail) only [hpl]
  · have e : S.ps.filter (fun p => !inG ts (SortU.isI (gk N)) p) = S.ps.filter (fun p => !goneD ([(ts, I64 1, 0)] ++ N) p) := List.filter_congr fun p _ => by
      unfold inG goneD
      have e1 : gk ([(ts, I64 1, 0)] ++ N) = ts :: gk N := rfl
      rw [e1]; simp only [mem]
    rw [e]
    exact hA4.mono hn5.1 (hn5.2 r hA4.lt (by omega)) (hn5.2 S.m hA4.mlt (by omega))
  · have := hn5.1; omega
  · intro z hz hm
    rw [hn5.2 z (by omega) (by omega), hF4.2 z (by omega) hm, hf3 z (by omega) (by omega)]
    simp (disch := first | assumption | omega | (simp only [nx] <;> omega) | fail) only [hpl]
end Go.Proofs.Ytfbfihfmlenklaa
