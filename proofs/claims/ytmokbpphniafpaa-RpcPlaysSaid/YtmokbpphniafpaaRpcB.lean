/-
  Contracts of the package rpc: inOrder, Drop, Again.
-/
import Derived.Test.YtmokbpphniafpaaRpcA
import Derived.Test.YtmokbpphniafpaaKS
import Derived.Test.YtmokbpphniafpaaAb34
namespace Go.Proofs.Ytmokbpphniafpaa
open Go.Ab
set_option linter.unusedSimpArgs false
set_option linter.unusedVariables false
set_option maxRecDepth 10000
set_option maxHeartbeats 4000000

theorem drop_c (h : AHeap) (r : Nat) (S : RS) (hA : RA h r S) (id : Int) :
    FWp Try.prog 12 [P0 r, U64 id] h fun u h' => RA h' r ⟨S.last, delQ id S.qs, S.clock, S.m⟩ ∧ FrR h h' r S := by
  refine W.enter tyOK Try.func12 rfl rfl ?_
  simp only [entry]
  cases hf : findQ id S.qs with
  | none =>
    have e : delQ id S.qs = S.qs := List.filter_eq_self.2 fun q hq => by have := List.find?_eq_none.1 hf q hq; simpa using this
    refine W.reg <| OSuf.aop tyOK rfl (so_move (by simp only [lk] <;> rfl)) rfl <| OSuf.aop tyOK rfl (so_move (by simp only [lk] <;> rfl)) rfl <| OSuf.callD rfl (by simp only [aopnds, lk] <;> rfl) en9 (answer_none _ r S hA id hf) rfl <| OSuf.nil <| FQ.normal (by simp only [aRet, Try.f12, aResults, aResult, lk, Nat.reduceEqDiff, reduceIte] <;> rfl) ?_
    -- leaf: end
    rw [e]
    exact ⟨hA, Nat.le_refl _, fun z _ _ _ _ => rfl⟩
  | some q =>
    refine W.reg <| OSuf.aop tyOK rfl (so_move (by simp only [lk] <;> rfl)) rfl <| OSuf.aop tyOK rfl (so_move (by simp only [lk] <;> rfl)) rfl <| OSuf.call rfl (by simp only [aopnds, lk] <;> rfl) en9 (answer_some _ r S hA id q hf) ?_
    rintro _ h2 ⟨rfl, hA2, hF2⟩
    refine ⟨_, rfl, ?_⟩
    refine OSuf.nil <| FQ.normal (by simp only [aRet, Try.f12, aResults, aResult, lk, Nat.reduceEqDiff, reduceIte] <;> rfl) ?_
    -- leaf: end
    exact ⟨hA2, hF2⟩

theorem map_ok {h : AHeap} {r : Nat} {S : RS} (hA : RA h r S) : SortU.MapOK (S.qs.map Qn.ent) S.clock := by
  have bn : ∀ x y, x ∈ S.qs → y ∈ S.qs → x.born = y.born → x = y := by
    have : ∀ qs : List Qn, qs.Pairwise (fun a b => a.born < b.born) → ∀ x y, x ∈ qs → y ∈ qs → x.born = y.born → x = y := by
      intro qs
      induction qs with
      | nil => intro _ x y hx; cases hx
      | cons q qs ih =>
        intro hp x y hx hy e
        have h' := List.pairwise_cons.1 hp
        cases hx with
        | head => cases hy with
          | head => rfl
          | tail _ hy => have := h'.1 y hy; omega
        | tail _ hx => cases hy with
          | head => have := h'.1 x hx; omega
          | tail _ hy => exact ih h'.2 x y hx hy e
    exact this S.qs hA.borns
  refine ⟨fun x hx => ?_, fun x hx y hy e => ?_, ?_⟩
  · obtain ⟨q, hq, rfl⟩ := List.mem_map.1 hx
    exact hA.born q hq
  · obtain ⟨q, hq, rfl⟩ := List.mem_map.1 hx
    obtain ⟨q', hq', rfl⟩ := List.mem_map.1 hy
    rw [bn q q' hq hq' e]
  · have : ∀ qs : List Qn, qs.Pairwise (fun a b => a.born < b.born) → (qs.map Qn.ent).Nodup := by
      intro qs
      induction qs with
      | nil => intro _; simp
      | cons q qs ih =>
        intro hp
        have h' := List.pairwise_cons.1 hp
        simp only [List.map_cons, List.nodup_cons]
        refine ⟨fun hm => ?_, ih h'.2⟩
        obtain ⟨x, hx, e⟩ := List.mem_map.1 hm
        have := h'.1 x hx
        simp only [Qn.ent, Prod.mk.injEq] at e
        omega
    exact this S.qs hA.borns
def idsOf (S : RS) : List Int := S.qs.map Qn.id
theorem ids_sorted {h : AHeap} {r : Nat} {S : RS} (hA : RA h r S) : (idsOf S).Pairwise (· ≤ ·) := by
  unfold idsOf
  rw [List.pairwise_map]
  exact hA.ids.imp fun h => Int.le_of_lt h

theorem find_self {q : Qn} : ∀ {qs : List Qn}, qs.Pairwise (fun a b => a.id < b.id) → q ∈ qs → findQ q.id qs = some q
  | p :: qs, hp, hm => by
    have h' := List.pairwise_cons.1 hp
    unfold findQ
    rw [List.find?_cons]
    cases hm with
    | head => simp
    | tail _ hm =>
      have := h'.1 q hm
      have e : (p.id == q.id) = false := by simp; omega
      rw [e]; exact find_self h'.2 hm
/-- Each question, in the order of their numbers. -/
theorem inorder_c (h : AHeap) (r : Nat) (S : RS) (hA : RA h r S) (fv : Value) (hbig : S.qs.length ≤ 1000000) (K : Nat → AHeap → Prop)
    (hK0 : K 0 ((h.new (.cells [.map (some S.m)] 1)).new (.cells ((idsOf S).map (Value.int .u64)) 1))) (hK1 : S.qs = [] → K 0 (h.new (.cells [.map (some S.m)] 1)))
    (keepM : ∀ i h', K i h' → S.m < h'.next ∧ h'.get S.m = some (.map (mkE .u64 (S.qs.map Qn.ent)) S.clock))
    (keepX : ∀ i h', K i h' → S.qs ≠ [] → h'.get (h.next + 1) = some (.cells ((idsOf S).map (Value.int .u64)) 1))
    (step : ∀ (i : Nat) (q : Qn) (h' : AHeap), S.qs[i]? = some q → K i h' → VWp Try.prog fv [P0 q.row] h' fun _ h'' => K (i + 1) h'') :
    FWp Try.prog 25 [.map (some S.m), fv] h fun u h' => K S.qs.length h' := by
  have hmap := hA.map
  have hml := hA.mlt
  have hk : (idsOf S).Perm ((S.qs.map Qn.ent).map (·.1)) := by
    rw [List.map_map]; exact List.Perm.refl _
  refine W.enter tyOK Try.func25 rfl rfl ?_
  simp only [entry]
  refine W.seq <| W.reg <| OSuf.aop tyOK rfl (so_move (by simp only [lk] <;> rfl)) rfl <| OSuf.callD rfl (by simp only [aopnds, lk] <;> rfl) en29 (SortU.keys_c _ S.m) rfl <| OSuf.call rfl (by simp only [aopnds, lk] <;> rfl) en28 (SortU.sorted_c _ h.next S.m S.clock (S.qs.map Qn.ent) (idsOf S) (map_ok hA) (by simp) (by simp; omega) (by simp (disch := first | assumption | omega | (simp only [nx] <;> omega) | fail) only [hpl]) (by simp (disch := first | assumption | omega | (simp only [nx] <;> omega) | fail) only [hpl]; exact hmap) (by simpa using hbig) hk (ids_sorted hA)) ?_
  rintro u h2 hu
  obtain ⟨b, rfl, hb, hK⟩ : ∃ b, u = .slice b S.qs.length 0 ∧ (S.qs ≠ [] → b = some ⟨h.next + 1, 0, none⟩) ∧ K 0 h2 := by (have el : (idsOf S).length = S.qs.length := by simp [idsOf]); (rcases hu with ⟨e, rfl, rfl⟩ | ⟨e, rfl, rfl⟩); (· (have e2 : S.qs = [] := by simpa [idsOf] using e); exact ⟨none, by rw [e2]; rfl, fun hne => (hne e2).elim, hK1 e2⟩); (· exact ⟨_, by rw [el], fun _ => by simp, hK0⟩)
  refine ⟨_, rfl, ?_⟩
  refine OSuf.aop tyOK rfl (so_len (by simp only [aopnds, lk] <;> rfl) (by simp (disch := first | assumption | omega | (simp only [nx] <;> omega) | fail) only [aLenOf, ty68, hpl] <;> rfl)) rfl <| OSuf.aop tyOK rfl (so_move (by simp only [lk] <;> rfl)) rfl <| OSuf.nil <| SQ.normal ?_
  -- leaf: loop
  refine W.cut (fun L h' => K S.qs.length h') (W.block (W.loop (fun n L h' => ∃ i, n + i = S.qs.length ∧ K i h' ∧ L = [(0, .map (some S.m)), (1, fv), (8, .slice b S.qs.length 0), (9, I64 S.qs.length), (10, I64 (i : Nat))]) (n := S.qs.length) ⟨0, by omega, hK, rfl⟩ ?_ ?_)) ?_
  · simp [HasA, Tr.get_put]
  · clear hK hu
    rintro n L h' ⟨i, hn, hK, rfl⟩
    simp only [mkA]
    by_cases hi : (i : Int) < (S.qs.length : Int)
    · have hil : i < S.qs.length := by omega
      have hne : S.qs ≠ [] := fun e => by rw [e] at hil; simp at hil
      obtain ⟨q, hq⟩ : ∃ q, S.qs[i]? = some q := ⟨S.qs[i], by simp [hil]⟩
      obtain rfl := hb hne
      have hx := keepX i h' hK hne
      obtain ⟨hm1, hm2⟩ := keepM i h' hK
      have hc : (0 ≤ (i : Int) ∧ (i : Int) < (S.qs.length : Int)) := by omega
      have hz : ((idsOf S).map (Value.int .u64))[i]? = some (.int .u64 q.id) := by simp [idsOf, hq]
      have hfq : findQ q.id S.qs = some q := find_self hA.ids (List.mem_of_getElem? hq)
      obtain ⟨j, hidx, _, _⟩ := find_idx 0 hfq
      rw [Nat.zero_add] at hidx
      have hst := step i q h' hq hK
      have e1 : IntKind.i64.wrap ((i : Int) + 1) = ((i + 1 : Nat) : Int) := by rw [wrap_i64 (by omega) (by omega)]; omega
      refine W.seq <| W.reg <| OSuf.aopT tyOK rfl (so_bin (by simp only [lk] <;> rfl) (by simp only [lk] <;> rfl) bi_lss) (fun _ => rfl) (by first | rfl | assumption | ((simp only [bl, hc, and_self, if_true, Int.toNat_natCast, hx, hz, Nat.zero_add, Nat.mul_one]) <;> first | done | assumption | omega) | (simp [hc, and_self, if_true, Int.toNat_natCast, hx, hz, Nat.zero_add, Nat.mul_one]; done) | (simp [hc, and_self, if_true, Int.toNat_natCast, hx, hz, Nat.zero_add, Nat.mul_one]; omega)) <| OSuf.nil <| SQ.normal ?_
      refine W.seq <| W.yes (by simp only [lk] <;> rfl) <| CWp.skip <| SQ.normal ?_
      refine W.seq <| W.block <| W.seq <| W.reg <| OSuf.aop tyOK rfl (so_indexAddr (by simp only [lk] <;> rfl) (by simp only [lk] <;> rfl) (by simp (disch := first | assumption | omega | (simp only [nx] <;> omega) | fail) only [aIndexAddr, ty68, ty27, hpl, hc, and_self, if_true, Int.toNat_natCast, hx, hz, Nat.zero_add, Nat.mul_one] <;> rfl)) rfl <| OSuf.aop tyOK rfl (so_load (by simp only [lk] <;> rfl) (by simp (disch := first | assumption | omega | (simp only [nx] <;> omega) | fail) only [aLoad, ty27, rowOf, hpl, hc, and_self, if_true, Int.toNat_natCast, hx, hz, Nat.zero_add, Nat.mul_one] <;> rfl)) rfl <| OSuf.aop tyOK rfl (so_assign (by simp only [lk] <;> rfl)) rfl <| OSuf.nil <| SQ.normal ?_
      refine W.reg <| OSuf.aop tyOK rfl (so_move (by simp only [lk] <;> rfl)) rfl <| OSuf.aop tyOK rfl (so_move (by simp only [lk] <;> rfl)) rfl <| OSuf.aop tyOK rfl (so_move (by simp only [lk] <;> rfl)) rfl <| OSuf.aop tyOK rfl (so_lookup (by simp only [lk] <;> rfl) (by simp only [lk] <;> rfl) (lk_some tyOK ty57 rfl ty27 rfl hm2 hidx)) rfl <| OSuf.vcall rfl (by simp only [lk] <;> rfl) (by simp only [aopnds, lk] <;> rfl) (hst) ?_
      rintro _ h3 hK3
      refine ⟨_, rfl, ?_⟩
      refine OSuf.nil <| BQ.normal <| SQ.normal ?_
      refine W.reg <| OSuf.aop tyOK rfl (so_bin (by simp only [lk] <;> rfl) (by simp only [lk] <;> rfl) (bi_w bi_add (by first | (simp only [e1] <;> rfl) | rfl))) rfl <| OSuf.aop tyOK rfl (so_move (by simp only [lk] <;> rfl)) rfl <| OSuf.nil <| ?_
      -- leaf: round
      refine LQ.normal (m := n - 1) (L := [(0, .map (some S.m)), (1, fv), (8, .slice (some ⟨h.next + 1, 0, none⟩) S.qs.length 0), (9, I64 S.qs.length), (10, I64 ((i + 1 : Nat) : Int))]) (by omega) ?_ ⟨i + 1, by omega, hK3, rfl⟩
      simp only [HasA, Tr.get_put, Nat.reduceEqDiff, reduceIte, e1, and_self]
    · refine W.seq <| W.reg <| OSuf.aopF tyOK rfl (so_bin (by simp only [lk] <;> rfl) (by simp only [lk] <;> rfl) bi_lss) (fun _ => rfl) (by first | rfl | assumption | ((simp only [bl]) <;> first | done | assumption | omega) | (simp []; done) | (simp []; omega)) <| OSuf.nil <| SQ.normal ?_
      refine W.seq <| W.no (by simp only [lk] <;> rfl) <| CWp.exit <| SQ.exit <| LQ.exit <| BQ.exit <| ?_
      -- leaf: cut
      have : i = S.qs.length := by omega
      subst this
      exact NQ.normal (L := []) trivial hK
  rintro L a' h' ha hK
  exact FQ.normal (by simp only [aRet, Try.f25, aResults] <;> rfl) hK
end Go.Proofs.Ytmokbpphniafpaa
