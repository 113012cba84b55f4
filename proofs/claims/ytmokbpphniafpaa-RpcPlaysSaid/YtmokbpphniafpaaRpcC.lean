/-
  Contracts of the package rpc: Again.
-/
import Derived.Test.YtmokbpphniafpaaRpcB
namespace Go.Proofs.Ytmokbpphniafpaa
open Go.Ab
set_option linter.unusedSimpArgs false
set_option linter.unusedVariables false
set_option maxRecDepth 10000
set_option maxHeartbeats 4000000

theorem pw_set {α : Type} {f : Qn → α} {R : α → α → Prop} {qs : List Qn} {i : Nat} {q q' : Qn} (h : qs.Pairwise fun a b => R (f a) (f b)) (hq : qs[i]? = some q) (e : f q' = f q) : (qs.set i q').Pairwise fun a b => R (f a) (f b) := by
  have e1 : (qs.set i q').map f = qs.map f := by
    rw [List.map_set, e]
    have : (qs.map f)[i]? = some (f q) := by simp [hq]
    rw [List.getElem?_eq_some_iff] at this
    obtain ⟨h1, h2⟩ := this
    rw [← h2]; exact List.set_getElem_self h1
  rw [← List.pairwise_map (f := f) (R := R)] at h ⊢
  rw [e1]; exact h
theorem map_set_same {β : Type} {f : Qn → β} {qs : List Qn} {i : Nat} {q q' : Qn} (hq : qs[i]? = some q) (e : f q' = f q) : (qs.set i q').map f = qs.map f := by
  rw [List.map_set, e]
  have : (qs.map f)[i]? = some (f q) := by simp [hq]
  rw [List.getElem?_eq_some_iff] at this
  obtain ⟨h1, h2⟩ := this
  rw [← h2]; exact List.set_getElem_self h1
/-- A question is asked, or not: all else stays. -/
theorem RA.upd {h h' : AHeap} {r i : Nat} {S : RS} {q q' : Qn} (hA : RA h r S) (hq : S.qs[i]? = some q) (e1 : q'.id = q.id) (e2 : q'.row = q.row) (e3 : q'.born = q.born) (e4 : q'.msg = q.msg) (hn : h.next ≤ h'.next)
    (hrow : h'.get q.row = some (.cells q'.cs 1)) (hr : h'.get r = h.get r) (hm : h'.get S.m = h.get S.m) (hk : ∀ x ∈ S.qs, ¬ x.row = q.row → h'.get x.row = h.get x.row) : RA h' r { S with qs := S.qs.set i q' } := by
  have hqm : q ∈ S.qs := List.mem_of_getElem? hq
  have mem : ∀ x ∈ S.qs.set i q', x = q' ∨ (x ∈ S.qs ∧ ¬ x.row = q.row) := by
    intro x hx
    obtain ⟨j, hj⟩ := List.mem_iff_getElem?.1 hx
    rw [List.getElem?_set] at hj
    by_cases hij : i = j
    · subst hij
      rw [if_pos rfl] at hj
      split at hj
      · left; exact (Option.some.inj hj).symm
      · cases hj
    · rw [if_neg hij] at hj
      right
      refine ⟨List.mem_of_getElem? hj, ?_⟩
      obtain ⟨hj1, hj2⟩ := List.getElem?_eq_some_iff.1 hj
      obtain ⟨hi1, hi2⟩ := List.getElem?_eq_some_iff.1 hq
      have pw := List.pairwise_iff_getElem.1 hA.rowd
      rcases Nat.lt_or_ge i j with h9 | h9
      · have := pw i j hi1 hj1 h9
        rw [hj2, hi2] at this
        exact fun e => this e.symm
      · have := pw j i hj1 hi1 (by omega)
        rw [hj2, hi2] at this
        exact this
  have hqr := hA.rows q hqm
  have hqi := hA.idr q hqm
  refine ⟨Nat.lt_of_lt_of_le hA.lt hn, Nat.lt_of_lt_of_le hA.mlt hn, hA.rm, by rw [hr]; exact hA.row, ?_, ?_, pw_set (f := Qn.born) (R := (· < ·)) hA.borns hq e3, pw_set (f := Qn.id) (R := (· < ·)) hA.ids hq e1, ?_, ?_, pw_set (f := Qn.row) (R := fun a b => ¬ a = b) hA.rowd hq e2, hA.l0⟩
  · rw [hm, hA.map, map_set_same (f := Qn.ent) hq (by simp [Qn.ent, e1, e2, e3])]
  · intro x hx
    rcases mem x hx with rfl | ⟨h9, _⟩
    · rw [e3]; exact hA.born q hqm
    · exact hA.born x h9
  · intro x hx
    rcases mem x hx with rfl | ⟨h9, _⟩
    · rw [e1, e4]; exact hqi
    · exact hA.idr x h9
  · intro x hx
    rcases mem x hx with rfl | ⟨h9, h8⟩
    · rw [e2]; exact ⟨Nat.lt_of_lt_of_le hqr.1 hn, hqr.2.1, hqr.2.2.1, hrow⟩
    · have := hA.rows x h9
      exact ⟨Nat.lt_of_lt_of_le this.1 hn, this.2.1, this.2.2.1, by rw [hk x h9 h8]; exact this.2.2.2⟩

def unask (q : Qn) : Qn := { q with asked := false }
theorem agn1_c (h : AHeap) (q : Qn) (hq : q.row < h.next) (hg : h.get q.row = some (.cells q.cs 1)) : FWp Try.prog 27 [P0 q.row] h fun u h' => h' = h.set q.row (.cells (unask q).cs 1) := by
  have g4 : h.get q.row = some (.cells [I64 q.msg.kind, U64 q.msg.te, U64 q.msg.di, U64 q.msg.id, U64 q.msg.lsn, U64 q.msg.low, .string q.msg.key, .string q.msg.hi, .bool q.msg.del, .bool q.msg.found, .string q.msg.val, .slice none 0 0, I64 q.msg.err, .bool q.asked, U64 q.at_] 1) := hg
  refine W.enter tyOK Try.func27 rfl rfl ?_
  simp only [entry]
  refine W.reg <| OSuf.aop tyOK rfl (so_move (by simp only [lk] <;> rfl)) rfl <| OSuf.aop tyOK rfl (so_nilCheck (by simp only [lk] <;> rfl)) rfl <| OSuf.aop tyOK rfl (so_fieldAddr (by simp only [lk] <;> rfl) (fa_ok (k := 13) ty62 rfl rfl ty4 rfl rfl)) rfl <| OSuf.aop tyOK rfl (so_store (by simp only [lk] <;> rfl) (by simp only [lk] <;> rfl) (by simp (disch := first | assumption | omega | (simp only [nx] <;> omega) | fail) only [aStore, ty4, writeRow, hpl, g4, Value.cells] <;> rfl)) rfl <| OSuf.nil <| FQ.normal (by simp only [aRet, Try.f27, aResults, aResult, lk, Nat.reduceEqDiff, reduceIte] <;> rfl) ?_
  -- leaf: end
  rfl
theorem take_set {f : Qn → Qn} {qs : List Qn} {i : Nat} {q : Qn} (hq : qs[i]? = some q) : ((qs.take i).map f ++ qs.drop i).set i (f q) = (qs.take (i + 1)).map f ++ qs.drop (i + 1) ∧ ((qs.take i).map f ++ qs.drop i)[i]? = some q := by
  have hil : i < qs.length := (List.getElem?_eq_some_iff.1 hq).1
  have hd : qs.drop i = q :: qs.drop (i + 1) := by rw [List.drop_eq_getElem_cons hil]; congr 1; exact (List.getElem?_eq_some_iff.1 hq).2
  have htl : ((qs.take i).map f).length = i := by simp; omega
  refine ⟨?_, ?_⟩
  · rw [hd, List.set_append_right _ _ (by omega), htl, List.take_add_one, hq]; simp
  · rw [List.getElem?_append_right (by omega), hd, htl]; simp
theorem take_ent {f : Qn → Qn} (hf : ∀ q, (f q).ent = q.ent) (qs : List Qn) (i : Nat) : ((qs.take i).map f ++ qs.drop i).map Qn.ent = qs.map Qn.ent := by
  have e : Qn.ent ∘ f = Qn.ent := funext hf
  rw [List.map_append, List.map_map, e, ← List.map_append, List.take_append_drop]
theorem again_c (h : AHeap) (r : Nat) (S : RS) (hA : RA h r S) (hbig : S.qs.length ≤ 1000000) :
    FWp Try.prog 16 [P0 r] h fun u h' => RA h' r { S with qs := S.qs.map unask } ∧ FrR h h' r S := by
  have hrow := hA.row
  have hmap := hA.map
  have hlt := hA.lt
  have hml := hA.mlt
  have step0 : ∀ g : AHeap, h.next ≤ g.next → (∀ z, z < h.next → g.get z = h.get z) → RA g r { S with qs := (S.qs.take 0).map unask ++ S.qs.drop 0 } := fun g h1 h2 => by simpa using hA.mono h1 h2
  have hin := inorder_c h r S hA (.func (.func 27) #[] #[]) hbig (fun i h' => RA h' r { S with qs := (S.qs.take i).map unask ++ S.qs.drop i } ∧ FrR h h' r S ∧ (S.qs ≠ [] → h.next + 1 < h'.next ∧ h'.get (h.next + 1) = some (.cells ((idsOf S).map (Value.int .u64)) 1)))
    ⟨step0 _ (by simp only [nx]; omega) (fun z hz => by simp (disch := first | assumption | omega | (simp only [nx] <;> omega) | fail) only [hpl]), ⟨by simp only [nx]; omega, fun z hz _ _ _ => by simp (disch := first | assumption | omega | (simp only [nx] <;> omega) | fail) only [hpl]⟩, fun _ => ⟨by simp only [nx]; omega, by simp (disch := first | assumption | omega | (simp only [nx] <;> omega) | fail) only [hpl]⟩⟩
    (fun e => ⟨step0 _ (by simp only [nx]; omega) (fun z hz => by simp (disch := first | assumption | omega | (simp only [nx] <;> omega) | fail) only [hpl]), ⟨by simp only [nx]; omega, fun z hz _ _ _ => by simp (disch := first | assumption | omega | (simp only [nx] <;> omega) | fail) only [hpl]⟩, fun hne => (hne e).elim⟩)
    (fun i h' hK => ⟨hK.1.mlt, by have := hK.1.map; simp only [take_ent (f := unask) (fun q => rfl)] at this; exact this⟩)
    (fun i h' hK hne => (hK.2.2 hne).2)
    (fun i q h' hq hK => by
      obtain ⟨h1, h2, h3⟩ := hK
      obtain ⟨t1, t2⟩ := take_set (f := unask) hq
      have hqm : q ∈ ((S.qs.take i).map unask ++ S.qs.drop i) := List.mem_of_getElem? t2
      have hqr := h1.rows q hqm
      have hqS := hA.rows q (List.mem_of_getElem? hq)
      have hne : S.qs ≠ [] := fun e => by rw [e] at hq; simp at hq
      refine VWp.func en27 (FWp.mono (agn1_c h' q hqr.1 hqr.2.2.2) ?_)
      rintro _ h'' rfl
      refine ⟨?_, ⟨by simp only [nx]; exact h2.1, fun z hz a b c => ?_⟩, fun hne => ⟨by simp only [nx]; exact (h3 hne).1, ?_⟩⟩
      · have := h1.upd (h' := h'.set q.row (.cells (unask q).cs 1)) (q' := unask q) t2 rfl rfl rfl rfl (by simp only [nx]; exact Nat.le_refl _) (AHeap.get_set_same _ _ _) (AHeap.get_set_ne hqr.2.1) (AHeap.get_set_ne hqr.2.2.1) (fun x hx hne => AHeap.get_set_ne fun e => hne e.symm)
        simp only [t1] at this
        exact this
      · rw [AHeap.get_set_ne (c q (List.mem_of_getElem? hq))]; exact h2.2 z hz a b c
      · rw [AHeap.get_set_ne (by omega)]; exact (h3 hne).2)
  refine W.enter tyOK Try.func16 rfl rfl ?_
  simp only [entry]
  refine W.seq <| W.seq <| W.reg <| OSuf.aop tyOK rfl (so_move (by simp only [lk] <;> rfl)) rfl <| OSuf.callD rfl (by simp only [aopnds, lk] <;> rfl) en23 (none_c _ r S hA) rfl <| OSuf.nil <| SQ.normal ?_
  refine W.no (by simp only [lk] <;> rfl) <| CWp.skip <| SQ.normal ?_
  refine W.reg <| OSuf.aop tyOK rfl (so_move (by simp only [lk] <;> rfl)) rfl <| OSuf.aop tyOK rfl (so_nilCheck (by simp only [lk] <;> rfl)) rfl <| OSuf.aop tyOK rfl (so_fieldAddr (by simp only [lk] <;> rfl) (fa_ok (k := 1) ty59 rfl rfl ty57 rfl rfl)) rfl <| OSuf.aop tyOK rfl (so_load (by simp only [lk] <;> rfl) (by simp (disch := first | assumption | omega | (simp only [nx] <;> omega) | fail) only [aLoad, ty57, rowOf, hpl, hrow, hmap] <;> rfl)) rfl <| OSuf.call rfl (by simp only [aopnds, lk] <;> rfl) en25 (hin) ?_
  rintro _ h2 ⟨g1, g2, g3⟩
  refine ⟨_, rfl, ?_⟩
  refine OSuf.nil <| FQ.normal (by simp only [aRet, Try.f16, aResults, aResult, lk, Nat.reduceEqDiff, reduceIte] <;> rfl) ?_
  -- leaf: end
  refine ⟨?_, g2⟩
  simpa using g1
end Go.Proofs.Ytmokbpphniafpaa
