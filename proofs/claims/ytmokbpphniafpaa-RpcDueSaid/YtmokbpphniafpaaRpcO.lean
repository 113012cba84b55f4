/-
  The law RpcOnce, walked.
-/
import Derived.Test.YtmokbpphniafpaaRpcA
import Derived.Test.YtmokbpphniafpaaRpcW
import Derived.Test.YtmokbpphniafpaaAb34
namespace Go.Proofs.Ytmokbpphniafpaa
open Go.Ab
set_option linter.unusedSimpArgs false
set_option linter.unusedVariables false
set_option maxRecDepth 10000
set_option maxHeartbeats 4000000

/-- Rows that are read only stay. -/
def Ro (h h' : AHeap) : Prop := h.next ≤ h'.next ∧ ∀ q vs, q < h.next → h.get q = some (.ro vs) → h'.get q = some (.ro vs)
theorem Ro.step {h h' h'' : AHeap} {r : Nat} {S : RS} (o : Ro h h') (hA : RA h' r S) (f : FrR h' h'' r S) : Ro h h'' :=
  ⟨Nat.le_trans o.1 f.1, fun q vs hq hg => FrR.ro hA f (Nat.lt_of_lt_of_le hq o.1) (o.2 q vs hq hg)⟩
theorem RA.other {h h' : AHeap} {r V : Nat} {S : RS} (hA : RA h r S) (hn : h.next ≤ h'.next) (hr : ¬ r = V) (hm : ¬ S.m = V) (hq : ∀ q ∈ S.qs, ¬ q.row = V) (hk : ∀ z, z < h.next → ¬ z = V → h'.get z = h.get z) : RA h' r S :=
  ⟨Nat.lt_of_lt_of_le hA.lt hn, Nat.lt_of_lt_of_le hA.mlt hn, hA.rm, by rw [hk _ hA.lt hr]; exact hA.row, by rw [hk _ hA.mlt hm]; exact hA.map, hA.born, hA.borns, hA.ids, hA.idr,
    fun q h9 => ⟨Nat.lt_of_lt_of_le (hA.rows q h9).1 hn, (hA.rows q h9).2.1, (hA.rows q h9).2.2.1, by rw [hk _ (hA.rows q h9).1 (hq q h9)]; exact (hA.rows q h9).2.2.2⟩, hA.rowd, hA.l0⟩

theorem find_del {id j : Int} {qs : List Qn} : findQ j (delQ id qs) = if j = id then none else findQ j qs := by
  induction qs with
  | nil => simp [findQ, delQ]
  | cons q qs ih =>
    unfold findQ delQ at ih ⊢
    rw [List.filter_cons]
    by_cases h1 : q.id = id
    · have e1 : (q.id == id) = true := by simpa using h1
      simp only [e1, Bool.not_true, Bool.false_eq_true, if_false, ih, List.find?_cons]
      by_cases h2 : j = id
      · simp [h2]
      · have e2 : (q.id == j) = false := by simp; omega
        simp [h2, e2]
    · have e1 : (q.id == id) = false := by simpa using h1
      simp only [e1, Bool.not_false, if_true, List.find?_cons, ih]
      by_cases h2 : q.id = j
      · have e2 : (q.id == j) = true := by simpa using h2
        have : ¬ j = id := by omega
        simp [e2, this]
      · have e2 : (q.id == j) = false := by simpa using h2
        simp [e2]
theorem len_del {id : Int} {qs : List Qn} {q : Qn} (hi : qs.Pairwise fun a b => a.id < b.id) (hf : findQ id qs = some q) : (delQ id qs).length + 1 = qs.length := by
  obtain ⟨j, _, _, hj⟩ := find_idx 0 hf
  have hqid : q.id = id := by have := List.find?_some hf; simpa using this
  rw [← erase_del hi hj hqid]
  have : j < qs.length := by
    have := List.getElem?_eq_some_iff.1 hj; exact this.1
  rw [List.length_eraseIdx, if_pos this]; omega

/-- What is open: of the first n those that are not over, just as they were asked. -/
structure Op1 (V : Nat) (ks : List ByteArray) (n : Nat) (ov : List Bool) (S : RS) : Prop where
  last : S.last = n
  len : ov.length = 50
  rows : ∀ q ∈ S.qs, ¬ q.row = V
  some_ : ∀ k, k < n → ov[k]? = some false → ∃ q, findQ (k + 1 : Nat) S.qs = some q ∧ (q.msg.id = (k + 1 : Nat) ∧ q.msg.kind = 4) ∧ ks[k]? = some q.msg.key
  none_ : ∀ k, (k < n → ov[k]? = some true) → findQ (k + 1 : Nat) S.qs = none
theorem Op1.ask {V n w : Nat} {ks : List ByteArray} {ov : List Bool} {S : RS} {k0 : ByteArray} {m : Msg} {c : Nat} (o : Op1 V ks n ov S) (hw : ¬ w = V) (hk : ks[n]? = some k0) (ho : ov[n]? = some false) (hm : m.key = k0 ∧ m.kind = 4) (hid : ∀ q ∈ S.qs, q.id ≤ n) :
    Op1 V ks (n + 1) ov ⟨S.last + 1, S.qs ++ [⟨S.last + 1, w, c, { m with id := S.last + 1 }, false, 0⟩], c + 1, S.m⟩ := by
  have hl := o.last
  refine ⟨by simp [hl], o.len, fun q hq => ?_, fun k hk1 hk2 => ?_, fun k hk1 => ?_⟩
  · rcases List.mem_append.1 hq with h9 | h9
    · exact o.rows q h9
    · simp at h9; subst h9; exact hw
  · by_cases e : k = n
    · subst e
      refine ⟨⟨S.last + 1, w, c, { m with id := S.last + 1 }, false, 0⟩, ?_, ⟨by simp [hl], hm.2⟩, by rw [hk, ← hm.1]⟩
      unfold findQ
      rw [List.find?_append]
      have : S.qs.find? (fun q => q.id == ((k + 1 : Nat) : Int)) = none := List.find?_eq_none.2 fun q hq => by have := hid q hq; simp; omega
      rw [this]
      simp [hl]
    · obtain ⟨q, h1, h2⟩ := o.some_ k (by omega) hk2
      refine ⟨q, ?_, h2⟩
      unfold findQ at h1 ⊢
      rw [List.find?_append, h1]; rfl
  · have hkn : ¬ k = n := fun e => by subst e; have := hk1 (by omega); rw [ho] at this; cases this
    have := o.none_ k fun h => hk1 (by omega)
    unfold findQ at this ⊢
    rw [List.find?_append, this]
    simp [hl]; omega
theorem Op1.del {V n k : Nat} {ks : List ByteArray} {ov : List Bool} {S : RS} (o : Op1 V ks n ov S) (hk : k < n) (hk5 : k < 50) :
    Op1 V ks n (ov.set k true) ⟨S.last, delQ (k + 1 : Nat) S.qs, S.clock, S.m⟩ := by
  refine ⟨o.last, by simp [o.len], fun q hq => o.rows q (List.mem_filter.1 hq).1, fun j h1 h2 => ?_, fun j h1 => ?_⟩
  · have hj : ¬ j = k := fun e => by subst e; rw [List.getElem?_set] at h2; simp [o.len, hk5] at h2
    rw [List.getElem?_set_ne (fun e => hj e.symm)] at h2
    obtain ⟨q, g1, g2⟩ := o.some_ j h1 h2
    refine ⟨q, ?_, g2⟩
    rw [find_del, if_neg (by omega)]; exact g1
  · rw [find_del]
    by_cases hj : j = k
    · rw [if_pos (by rw [hj])]
    · rw [if_neg (by omega)]
      refine o.none_ j fun h => ?_
      have := h1 h
      rwa [List.getElem?_set_ne (fun e => hj e.symm)] at this

theorem once_c (h0 : AHeap) (b1 b2 : Option Addr) (ks : List ByteArray) (l2 : List Int) (hL1 : ks.length ≤ maxLen) (hL2 : l2.length ≤ maxLen)
    (hr1 : ∀ i, i < ks.length → ∃ r z, b1 = some ⟨r, 0, none⟩ ∧ r < h0.next ∧ h0.get r = some (.ro (ks.map Value.string)) ∧ ks[i]? = some z ∧ (ks.map Value.string)[i]? = some (.string z))
    (hr2 : ∀ i, i < l2.length → ∃ r z, b2 = some ⟨r, 0, none⟩ ∧ r < h0.next ∧ h0.get r = some (.ro (l2.map (Value.int .u8))) ∧ l2[i]? = some z ∧ (l2.map (Value.int .u8))[i]? = some (.int .u8 z) ∧ (Lit.int .u8 z).wf = true) :
    FWp Try.prog 5 [.slice b1 ks.length 0, .slice b2 l2.length 0] h0 fun u _ => u = .bool true := by
  have hml : maxLen = 9223372036854775807 := rfl
  refine W.enter tyOK Try.func5 rfl rfl ?_
  simp only [entry]
  obtain ⟨N, hN, hN5, hNk⟩ : ∃ N : Nat, (if 50 < (ks.length : Int) then 50 else (ks.length : Int)) = N ∧ N ≤ 50 ∧ N ≤ ks.length := ⟨min ks.length 50, by split <;> omega, by omega, by omega⟩
  refine W.seq <| W.reg <| 
      OSuf.aopF tyOK rfl (so_assign (by simp only [lk] <;> rfl)) (fun _ => rfl) rfl <|
      OSuf.nil <| SQ.normal ?_
  refine W.seq <| W.seq <| W.reg <| 
      OSuf.callD rfl (by simp only [aopnds, lk] <;> rfl) en21 (works_c _) rfl <|
      OSuf.aopF tyOK rfl (so_not (by simp only [lk] <;> rfl)) (fun _ => rfl) rfl <|
      OSuf.nil <| SQ.normal ?_
  refine W.no (by simp only [lk] <;> rfl) <| CWp.skip <| SQ.normal ?_
  refine W.seq <| W.reg <| 
      OSuf.callD rfl (by simp only [aopnds, lk] <;> rfl) en8 (new_c _) rfl <|
      OSuf.aop tyOK rfl (so_assign (by simp only [lk] <;> rfl)) rfl <|
      OSuf.nil <| SQ.normal ?_
  refine W.seq <| W.reg <| 
      OSuf.aop tyOK rfl (so_move (by simp only [lk] <;> rfl)) rfl <|
      OSuf.aop tyOK rfl (so_len (by simp only [aopnds, lk] <;> rfl) (by simp (disch := first | assumption | omega | (simp only [nx] <;> omega) | fail) only [aLenOf, ty50, hpl, places, ty27, ty3, ty33, ty4, ty47, ty5, ty50, ty51, ty9] <;> rfl)) rfl <|
      OSuf.aop tyOK rfl (so_min (by simp only [aopnds, lk] <;> rfl)) rfl <|
      OSuf.aop tyOK rfl (so_assign (by simp only [lk] <;> rfl)) rfl <|
      OSuf.nil <| SQ.normal ?_
  refine W.seq <| W.reg <| 
      OSuf.aop tyOK rfl (so_alloc (by simp only [aAlloc, ty51] <;> rfl)) rfl <|
      OSuf.nil <| SQ.normal ?_
  refine W.seq <| W.seq <| W.reg <| 
      OSuf.aop tyOK rfl (so_assign (by simp only [lk] <;> rfl)) rfl <|
      OSuf.nil <| SQ.normal ?_
  -- leaf: loop
  rw [hN]
  have o0 : Op1 (h0.next + 2) ks 0 (List.replicate 50 false) ⟨0, [], 0, h0.next⟩ := ⟨rfl, rfl, by simp, fun k hk => by omega, fun k _ => rfl⟩
  refine W.cut (fun L h => ∃ S, RA h (h0.next + 1) S ∧ S.m = h0.next ∧ S.qs.length = N ∧ Op1 (h0.next + 2) ks N (List.replicate 50 false) S ∧ h0.next + 2 < h.next ∧ h.get (h0.next + 2) = some (.cells ((List.replicate 50 false).map Value.bool) 1) ∧ Ro h0 h ∧ L = [(0, .slice b1 ks.length 0), (1, .slice b2 l2.length 0), (5, P0 (h0.next + 1)), (6, I64 N), (7, P0 (h0.next + 2))])
    (W.block (W.loop (fun n L h => ∃ (k : Nat) (S : RS), n + k = N ∧ RA h (h0.next + 1) S ∧ S.m = h0.next ∧ S.qs.length = k ∧ Op1 (h0.next + 2) ks k (List.replicate 50 false) S ∧ h0.next + 2 < h.next ∧ h.get (h0.next + 2) = some (.cells ((List.replicate 50 false).map Value.bool) 1) ∧ Ro h0 h ∧
      L = [(0, .slice b1 ks.length 0), (1, .slice b2 l2.length 0), (5, P0 (h0.next + 1)), (6, I64 N), (7, P0 (h0.next + 2)), (8, I64 k)]) (n := N)
    ⟨0, _, by omega, (new_ra h0).mono (by simp) (fun z hz => AHeap.get_new_ne (by omega)), rfl, rfl, o0, by simp, AHeap.get_new_at (by simp), ⟨by simp; omega, fun q vs hq hg => by rw [AHeap.get_new_ne (by simp; omega), AHeap.get_new_ne (by simp; omega), AHeap.get_new_ne (by omega)]; exact hg⟩, rfl⟩ ?_ ?_)) ?_
  · simp [HasA, Tr.get_put]
  · rintro n L h ⟨k, S, hn, hA, hm, hql, hO, hv, hov, hR, rfl⟩
    simp only [mkA]
    have w2 : IntKind.i64.wrap ((k : Int) + 1) = ((k + 1 : Nat) : Int) := by rw [wrap_i64 (by omega) (by omega)]; omega
    by_cases hk : (k : Int) < (N : Int)
    · obtain ⟨r, z, rfl, hrn, hg, hkz, hz⟩ := hr1 k (by omega)
      have hg1 := hR.2 r _ hrn hg
      have hc : (0 ≤ (k : Int) ∧ (k : Int) < (ks.length : Int)) := by omega
      have hl := hO.last
      refine W.seq <| W.seq <| W.reg <| 
          OSuf.aop tyOK rfl (so_move (by simp only [lk] <;> rfl)) rfl <|
          OSuf.aop tyOK rfl (so_move (by simp only [lk] <;> rfl)) rfl <|
          OSuf.aopT tyOK rfl (so_bin (by simp only [lk] <;> rfl) (by simp only [lk] <;> rfl) bi_lss) (fun _ => rfl) (by first | rfl | assumption | ((simp only [bl, hc, and_self, if_true, Int.toNat_natCast, hg1, Nat.mul_one, Nat.zero_add, hz]) <;> first | done | assumption | omega) | (simp [hc, and_self, if_true, Int.toNat_natCast, hg1, Nat.mul_one, Nat.zero_add, hz]; done) | (simp [hc, and_self, if_true, Int.toNat_natCast, hg1, Nat.mul_one, Nat.zero_add, hz]; omega)) <|
          OSuf.nil <| SQ.normal ?_
      refine W.yes (by simp only [lk] <;> rfl) <| CWp.skip <| SQ.normal ?_
      refine W.seq <| W.block <| W.reg <| 
          OSuf.aop tyOK rfl (so_move (by simp only [lk] <;> rfl)) rfl <|
          OSuf.aop tyOK rfl (so_move (by simp only [lk] <;> rfl)) rfl <|
          OSuf.aop tyOK rfl (so_move (by simp only [lk] <;> rfl)) rfl <|
          OSuf.aop tyOK rfl (so_indexAddr (by simp only [lk] <;> rfl) (by simp only [lk] <;> rfl) (by simp (disch := first | assumption | omega | (simp only [nx] <;> omega) | fail) only [aIndexAddr, ty50, ty9, hpl, hc, and_self, if_true, Int.toNat_natCast, hg1, Nat.mul_one, Nat.zero_add, hz] <;> rfl)) rfl <|
          OSuf.aop tyOK rfl (so_load (by simp only [lk] <;> rfl) (by simp (disch := first | assumption | omega | (simp only [nx] <;> omega) | fail) only [aLoad, ty9, rowOf, hpl, hc, and_self, if_true, Int.toNat_natCast, hg1, Nat.mul_one, Nat.zero_add, hz] <;> rfl)) rfl <|
          OSuf.aop tyOK rfl (so_build (by simp only [aparts, lk] <;> rfl) (by simp (disch := first | assumption | omega | (simp only [nx] <;> omega) | fail) only [aBuild, ty33, hpl, hc, and_self, if_true, Int.toNat_natCast, hg1, Nat.mul_one, Nat.zero_add, hz] <;> rfl)) rfl <|
          OSuf.call rfl (by simp only [aopnds, lk] <;> rfl) en18 (ask_c _ (h0.next + 1) S hA ⟨4, 0, 0, 77, 0, 0, z, ⟨#[]⟩, false, false, ⟨#[]⟩, 0⟩ (by omega)) ?_
      rintro _ h2 ⟨rfl, w, hw, hA2, hF2⟩
      refine ⟨_, rfl, ?_⟩
      refine 
          OSuf.nil <| BQ.normal <| SQ.normal ?_
      refine W.reg <| 
          OSuf.aop tyOK rfl (so_move (by simp only [lk] <;> rfl)) rfl <|
          OSuf.aop tyOK rfl (so_bin (by simp only [lk] <;> rfl) (by simp only [lk] <;> rfl) (bi_w bi_add (by first | (simp only [w2] <;> rfl) | rfl))) rfl <|
          OSuf.aop tyOK rfl (so_assign (by simp only [lk] <;> rfl)) rfl <|
          OSuf.nil <| ?_
      -- leaf: round
      have hv' : h2.get (h0.next + 2) = h.get (h0.next + 2) := hF2.2 _ hv (by omega) (by omega) hO.rows
      refine LQ.normal (m := n - 1) (L := [(0, .slice (some ⟨r, 0, none⟩) ks.length 0), (1, .slice b2 l2.length 0), (5, P0 (h0.next + 1)), (6, I64 N), (7, P0 (h0.next + 2)), (8, I64 (k + 1 : Nat))]) (by omega) ?_
        ⟨k + 1, _, by omega, hA2, hm, by simp [hql], hO.ask (by omega) hkz (by rw [List.getElem?_replicate, if_pos (by omega)]) ⟨rfl, rfl⟩ (fun q hq => by have := (hA.idr q hq).2.1; omega), Nat.lt_of_lt_of_le hv hF2.1, by rw [hv', hov], hR.step hA hF2, rfl⟩
      simp only [HasA, Tr.get_put, Nat.reduceEqDiff, reduceIte, w2, and_self]
    · refine W.seq <| W.seq <| W.reg <| 
          OSuf.aop tyOK rfl (so_move (by simp only [lk] <;> rfl)) rfl <|
          OSuf.aop tyOK rfl (so_move (by simp only [lk] <;> rfl)) rfl <|
          OSuf.aopF tyOK rfl (so_bin (by simp only [lk] <;> rfl) (by simp only [lk] <;> rfl) bi_lss) (fun _ => rfl) (by first | rfl | assumption | ((simp only [bl]) <;> first | done | assumption | omega) | (simp []; done) | (simp []; omega)) <|
          OSuf.nil <| SQ.normal ?_
      refine W.no (by simp only [lk] <;> rfl) <| CWp.exit <| SQ.exit <| LQ.exit <| BQ.exit <| ?_
      -- leaf: cut
      have : k = N := by omega
      subst this
      refine NQ.normal (L := [(0, .slice b1 ks.length 0), (1, .slice b2 l2.length 0), (5, P0 (h0.next + 1)), (6, I64 k), (7, P0 (h0.next + 2))]) ?_ ⟨S, hA, hm, hql, hO, hv, hov, hR, rfl⟩
      simp only [HasA, Tr.get_put, Nat.reduceEqDiff, reduceIte, and_self]
  rintro L a' h ha ⟨S, hA, hm, hql, hO, hv, hov, hR, rfl⟩
  refine SQ.normal <| CWp.known ha ?_
  simp only [mkA]
  refine W.seq <| W.reg <| 
      OSuf.aop tyOK rfl (so_move (by simp only [lk] <;> rfl)) rfl <|
      OSuf.aop tyOK rfl (so_assign (by simp only [lk] <;> rfl)) rfl <|
      OSuf.nil <| SQ.normal ?_
  refine W.seq <| W.seq <| W.reg <| 
      OSuf.aop tyOK rfl (so_assign (by simp only [lk] <;> rfl)) rfl <|
      OSuf.nil <| SQ.normal ?_
  -- leaf: loop
  refine W.cut (fun L h => L = []) (W.block (W.loop (fun n L h => ∃ (k : Nat) (S : RS) (ov : List Bool), n + k = l2.length ∧ RA h (h0.next + 1) S ∧ S.m = h0.next ∧ S.qs.length ≤ N ∧ Op1 (h0.next + 2) ks N ov S ∧ h0.next + 2 < h.next ∧ h.get (h0.next + 2) = some (.cells (ov.map Value.bool) 1) ∧ Ro h0 h ∧
      L = [(0, .slice b1 ks.length 0), (1, .slice b2 l2.length 0), (5, P0 (h0.next + 1)), (6, I64 N), (7, P0 (h0.next + 2)), (9, I64 S.qs.length), (10, I64 k)]) (n := l2.length)
    ⟨0, S, _, by omega, hA, hm, by omega, hO, hv, hov, hR, rfl⟩ ?_ ?_)) ?_
  · simp [HasA, Tr.get_put, hql]
  · clear hA hO hR hql hm hv hov S h
    rintro n L h ⟨k, S, ov, hn, hA, hm, hql, hO, hv, hov, hR, rfl⟩
    simp only [mkA]
    by_cases h1 : (k : Int) < (l2.length : Int)
    · by_cases h2 : (k : Int) < 100
      · obtain ⟨r, z, rfl, hrn, hg, _, hz, hwf⟩ := hr2 k (by omega)
        have hg1 := hR.2 r _ hrn hg
        have hc : (0 ≤ (k : Int) ∧ (k : Int) < (l2.length : Int)) := by omega
        have hz0 := lit_u8 hwf
        have hzm : 0 ≤ z.tmod 50 ∧ z.tmod 50 < 50 := by rw [Int.tmod_eq_emod_of_nonneg hz0.1]; omega
        obtain ⟨j, hj⟩ : ∃ j : Nat, z.tmod 50 = j := ⟨(z.tmod 50).toNat, by omega⟩
        have hj5 : j < 50 := by omega
        have w1 : IntKind.i64.wrap z = z := wrap_i64 (by omega) (by omega)
        have w3 : IntKind.u64.wrap (z.tmod 50) = j := by rw [hj]; exact wrap_u64 (by omega) (by omega)
        have w4 : IntKind.u64.wrap ((j : Int) + 1) = (j + 1 : Nat) := by rw [wrap_u64 (by omega) (by omega)]; omega
        have hcj : (j : Int) < ((50 : Nat) : Int) := by omega
        have w2 : IntKind.i64.wrap ((k : Int) + 1) = ((k + 1 : Nat) : Int) := by rw [wrap_i64 (by omega) (by omega)]; omega
        by_cases hjN : (j : Int) < (N : Int)
        · by_cases hoj : ov[j]? = some false
          · obtain ⟨q, hq1, hq2, hq3⟩ := hO.some_ j (by omega) hoj
            obtain ⟨r1, z1, rfl, hrn1, hg1', hkz, hz1⟩ := hr1 j (by omega)
            have ekey : q.msg.key = z1 := by rw [hkz] at hq3; exact (Option.some.inj hq3).symm
            have hble : (j + [Value.bool true].length).ble (List.map Value.bool ov).length = true := Nat.ble_eq_true_of_le (by simp [hO.len]; omega)
            have hspl : splice (ov.map Value.bool) j [Value.bool true] = (ov.set j true).map Value.bool := by
              have := arr_set Value.bool (d := ov.toArray) (i := j) true (by simp [hO.len]; omega)
              simpa using this
            have hdl := len_del hA.ids hq1
            have w6 : IntKind.i64.wrap ((S.qs.length : Int) - 1) = ((delQ (j + 1 : Nat) S.qs).length : Nat) := by rw [wrap_i64 (by omega) (by omega)]; omega
            have hov2 : (ov.map Value.bool)[j]? = some (.bool false) := by simp [hoj]
            refine W.seq <| W.seq <| W.reg <| 
                OSuf.aop tyOK rfl (so_move (by simp only [lk] <;> rfl)) rfl <|
                OSuf.aop tyOK rfl (so_move (by simp only [lk] <;> rfl)) rfl <|
                OSuf.aop tyOK rfl (so_len (by simp only [aopnds, lk] <;> rfl) (by simp (disch := first | assumption | omega | (simp only [nx] <;> omega) | fail) only [aLenOf, ty47, hpl, hc, and_self, if_true, Int.toNat_natCast, hg1, Nat.mul_one, Nat.zero_add, hz, hj, hcj] <;> rfl)) rfl <|
                OSuf.aopT tyOK rfl (so_bin (by simp only [lk] <;> rfl) (by simp only [lk] <;> rfl) bi_lss) (fun _ => rfl) (by first | rfl | assumption | ((simp only [bl, hc, and_self, if_true, Int.toNat_natCast, hg1, Nat.mul_one, Nat.zero_add, hz, hj, hcj]) <;> first | done | assumption | omega) | (simp [hc, and_self, if_true, Int.toNat_natCast, hg1, Nat.mul_one, Nat.zero_add, hz, hj, hcj]; done) | (simp [hc, and_self, if_true, Int.toNat_natCast, hg1, Nat.mul_one, Nat.zero_add, hz, hj, hcj]; omega)) <|
                OSuf.aopT tyOK rfl (so_move (by simp only [lk] <;> rfl)) (fun _ => rfl) rfl <|
                OSuf.aop tyOK (aguard_of rfl rfl (by simp only [lk] <;> rfl) rfl) (so_move (by simp only [lk] <;> rfl)) rfl <|
                OSuf.aopT tyOK (aguard_of rfl rfl (by simp only [lk] <;> rfl) rfl) (so_bin (by simp only [lk] <;> rfl) (by simp only [lk] <;> rfl) bi_lss) (fun _ => rfl) (by first | rfl | assumption | ((simp only [bl, hc, and_self, if_true, Int.toNat_natCast, hg1, Nat.mul_one, Nat.zero_add, hz, hj, hcj]) <;> first | done | assumption | omega) | (simp [hc, and_self, if_true, Int.toNat_natCast, hg1, Nat.mul_one, Nat.zero_add, hz, hj, hcj]; done) | (simp [hc, and_self, if_true, Int.toNat_natCast, hg1, Nat.mul_one, Nat.zero_add, hz, hj, hcj]; omega)) <|
                OSuf.aopT tyOK rfl (so_pick (by simp only [lk] <;> rfl) (by simp only [lk, cond_true, cond_false] <;> rfl)) (fun _ => rfl) rfl <|
                OSuf.nil <| SQ.normal ?_
            refine W.yes (by simp only [lk] <;> rfl) <| CWp.skip <| SQ.normal ?_
            refine W.seq <| W.block <| W.seq <| W.reg <| 
                OSuf.aop tyOK rfl (so_move (by simp only [lk] <;> rfl)) rfl <|
                OSuf.aop tyOK rfl (so_move (by simp only [lk] <;> rfl)) rfl <|
                OSuf.aop tyOK rfl (so_indexAddr (by simp only [lk] <;> rfl) (by simp only [lk] <;> rfl) (by simp (disch := first | assumption | omega | (simp only [nx] <;> omega) | fail) only [aIndexAddr, ty47, ty5, hpl, hc, and_self, if_true, Int.toNat_natCast, hg1, Nat.mul_one, Nat.zero_add, hz, hj, hcj] <;> rfl)) rfl <|
                OSuf.aop tyOK rfl (so_load (by simp only [lk] <;> rfl) (by simp (disch := first | assumption | omega | (simp only [nx] <;> omega) | fail) only [aLoad, ty5, rowOf, hpl, hc, and_self, if_true, Int.toNat_natCast, hg1, Nat.mul_one, Nat.zero_add, hz, hj, hcj] <;> rfl)) rfl <|
                OSuf.aop tyOK rfl (so_conw (so_conv tyOK (by simp only [lk] <;> rfl) ty5 ⟨_, rfl⟩ ty3 rfl) (by first | (simp only [w1, w2, w3, w4, w6] <;> rfl) | rfl)) rfl <|
                OSuf.aop tyOK rfl (so_bin (by simp only [lk] <;> rfl) (by simp only [lk] <;> rfl) (bi_w (bi_rem (by decide)) (by first | (simp only [w1, w2, w3, w4, w6] <;> rfl) | rfl))) rfl <|
                OSuf.aop tyOK rfl (so_assign (by simp only [lk] <;> rfl)) rfl <|
                OSuf.nil <| SQ.normal ?_
            refine W.seq <| W.reg <| 
                OSuf.aop tyOK rfl (so_move (by simp only [lk] <;> rfl)) rfl <|
                OSuf.aop tyOK rfl (so_move (by simp only [lk] <;> rfl)) rfl <|
                OSuf.aop tyOK rfl (so_conw (so_conv tyOK (by simp only [lk] <;> rfl) ty3 ⟨_, rfl⟩ ty27 rfl) (by first | (simp only [w1, w2, w3, w4, w6] <;> rfl) | rfl)) rfl <|
                OSuf.aop tyOK rfl (so_bin (by simp only [lk] <;> rfl) (by simp only [lk] <;> rfl) (bi_w bi_add (by first | (simp only [w1, w2, w3, w4, w6] <;> rfl) | rfl))) rfl <|
                OSuf.call rfl (by simp only [aopnds, lk] <;> rfl) en9 (answer_some _ (h0.next + 1) S hA _ q hq1) ?_
            rintro _ h2 ⟨rfl, hA2, hF2⟩
            have hov' : h2.get (h0.next + 2) = some (.cells (ov.map Value.bool) 1) := by rw [hF2.2 _ hv (by omega) (by omega) hO.rows]; exact hov
            have hg2 := FrR.ro hA hF2 (Nat.lt_of_lt_of_le hrn1 hR.1) (hR.2 r1 _ hrn1 hg1')
            have hcj2 : (j : Int) < (ks.length : Int) := by omega
            have hv2 := Nat.lt_of_lt_of_le hv hF2.1
            have hr2 : r1 < h2.next := Nat.lt_of_lt_of_le hrn1 (Nat.le_trans hR.1 hF2.1)
            simp only [Msg.v]
            refine ⟨_, rfl, ?_⟩
            refine 
                OSuf.aop tyOK rfl (so_move (by simp only [lk] <;> rfl)) rfl <|
                OSuf.aop tyOK rfl (so_extract (by simp only [lk] <;> rfl) (by simp (disch := first | assumption | omega | (simp only [nx] <;> omega) | fail) only [aExtract, hpl, hc, and_self, if_true, Int.toNat_natCast, hg1, Nat.mul_one, Nat.zero_add, hz, hj, hcj, places, Value.cells, ty27, ty3, ty33, ty4, ty47, ty5, ty50, ty51, ty9, hov', hov2, hg2, hcj2, hz1, ekey, hq2, hble, hspl] <;> rfl)) rfl <|
                OSuf.aopT tyOK rfl (so_extract (by simp only [lk] <;> rfl) (by simp (disch := first | assumption | omega | (simp only [nx] <;> omega) | fail) only [aExtract, hpl, hc, and_self, if_true, Int.toNat_natCast, hg1, Nat.mul_one, Nat.zero_add, hz, hj, hcj, places, Value.cells, ty27, ty3, ty33, ty4, ty47, ty5, ty50, ty51, ty9, hov', hov2, hg2, hcj2, hz1, ekey, hq2, hble, hspl] <;> rfl)) (fun _ => rfl) (by first | rfl | assumption | ((simp only [bl, hc, and_self, if_true, Int.toNat_natCast, hg1, Nat.mul_one, Nat.zero_add, hz, hj, hcj, places, Value.cells, ty27, ty3, ty33, ty4, ty47, ty5, ty50, ty51, ty9, hov', hov2, hg2, hcj2, hz1, ekey, hq2, hble, hspl]) <;> first | done | assumption | omega) | (simp [hc, and_self, if_true, Int.toNat_natCast, hg1, Nat.mul_one, Nat.zero_add, hz, hj, hcj, places, Value.cells, ty27, ty3, ty33, ty4, ty47, ty5, ty50, ty51, ty9, hov', hov2, hg2, hcj2, hz1, ekey, hq2, hble, hspl]; done) | (simp [hc, and_self, if_true, Int.toNat_natCast, hg1, Nat.mul_one, Nat.zero_add, hz, hj, hcj, places, Value.cells, ty27, ty3, ty33, ty4, ty47, ty5, ty50, ty51, ty9, hov', hov2, hg2, hcj2, hz1, ekey, hq2, hble, hspl]; omega)) <|
                OSuf.aop tyOK rfl (so_alloc (by simp only [aAlloc, ty33] <;> rfl)) rfl <|
                OSuf.aop tyOK rfl (so_store (by simp only [lk] <;> rfl) (by simp only [lk] <;> rfl) (by simp (disch := first | assumption | omega | (simp only [nx] <;> omega) | fail) only [aStore, ty33, writeRow, hpl, hc, and_self, if_true, Int.toNat_natCast, hg1, Nat.mul_one, Nat.zero_add, hz, hj, hcj, places, Value.cells, ty27, ty3, ty33, ty4, ty47, ty5, ty50, ty51, ty9, hov', hov2, hg2, hcj2, hz1, ekey, hq2, hble, hspl] <;> rfl)) rfl <|
                OSuf.aopT tyOK rfl (so_assign (by simp only [lk] <;> rfl)) (fun _ => rfl) rfl <|
                OSuf.nil <| SQ.normal ?_
            refine W.seq <| W.seq <| W.reg <| 
                OSuf.aopT tyOK rfl (so_move (by simp only [lk] <;> rfl)) (fun _ => rfl) rfl <|
                OSuf.aop tyOK rfl (so_move (by simp only [lk] <;> rfl)) rfl <|
                OSuf.aop tyOK rfl (so_move (by simp only [lk] <;> rfl)) rfl <|
                OSuf.aopT tyOK rfl (so_bin (by simp only [lk] <;> rfl) (by simp only [lk] <;> rfl) bi_lss) (fun _ => rfl) (by first | rfl | assumption | ((simp only [bl, hc, and_self, if_true, Int.toNat_natCast, hg1, Nat.mul_one, Nat.zero_add, hz, hj, hcj, places, Value.cells, ty27, ty3, ty33, ty4, ty47, ty5, ty50, ty51, ty9, hov', hov2, hg2, hcj2, hz1, ekey, hq2, hble, hspl]) <;> first | done | assumption | omega) | (simp [hc, and_self, if_true, Int.toNat_natCast, hg1, Nat.mul_one, Nat.zero_add, hz, hj, hcj, places, Value.cells, ty27, ty3, ty33, ty4, ty47, ty5, ty50, ty51, ty9, hov', hov2, hg2, hcj2, hz1, ekey, hq2, hble, hspl]; done) | (simp [hc, and_self, if_true, Int.toNat_natCast, hg1, Nat.mul_one, Nat.zero_add, hz, hj, hcj, places, Value.cells, ty27, ty3, ty33, ty4, ty47, ty5, ty50, ty51, ty9, hov', hov2, hg2, hcj2, hz1, ekey, hq2, hble, hspl]; omega)) <|
                OSuf.aopT tyOK rfl (so_move (by simp only [lk] <;> rfl)) (fun _ => rfl) rfl <|
                OSuf.aop tyOK (aguard_of rfl rfl (by simp only [lk] <;> rfl) rfl) (so_move (by simp only [lk] <;> rfl)) rfl <|
                OSuf.aop tyOK (aguard_of rfl rfl (by simp only [lk] <;> rfl) rfl) (so_indexAddr (by simp only [lk] <;> rfl) (by simp only [lk] <;> rfl) (by simp (disch := first | assumption | omega | (simp only [nx] <;> omega) | fail) only [aIndexAddr, ty51, ty4, hpl, hc, and_self, if_true, Int.toNat_natCast, hg1, Nat.mul_one, Nat.zero_add, hz, hj, hcj, places, Value.cells, ty27, ty3, ty33, ty4, ty47, ty5, ty50, ty51, ty9, hov', hov2, hg2, hcj2, hz1, ekey, hq2, hble, hspl] <;> rfl)) rfl <|
                OSuf.aop tyOK (aguard_of rfl rfl (by simp only [lk] <;> rfl) rfl) (so_load (by simp only [lk] <;> rfl) (by simp (disch := first | assumption | omega | (simp only [nx] <;> omega) | fail) only [aLoad, ty4, rowOf, hpl, hc, and_self, if_true, Int.toNat_natCast, hg1, Nat.mul_one, Nat.zero_add, hz, hj, hcj, places, Value.cells, ty27, ty3, ty33, ty4, ty47, ty5, ty50, ty51, ty9, hov', hov2, hg2, hcj2, hz1, ekey, hq2, hble, hspl] <;> rfl)) rfl <|
                OSuf.aop tyOK (aguard_of rfl rfl (by simp only [lk] <;> rfl) rfl) (so_not (by simp only [lk] <;> rfl)) rfl <|
                OSuf.aop tyOK rfl (so_pick (by simp only [lk] <;> rfl) (by simp only [lk, cond_true, cond_false] <;> rfl)) rfl <|
                OSuf.aopF tyOK rfl (so_bin (by simp only [lk] <;> rfl) (by simp only [lk] <;> rfl) (bb_neq tyOK ty4 rfl)) (fun _ => rfl) (by first | rfl | assumption | ((simp only [bl, hc, and_self, if_true, Int.toNat_natCast, hg1, Nat.mul_one, Nat.zero_add, hz, hj, hcj, places, Value.cells, ty27, ty3, ty33, ty4, ty47, ty5, ty50, ty51, ty9, hov', hov2, hg2, hcj2, hz1, ekey, hq2, hble, hspl]) <;> first | done | assumption | omega) | (simp [hc, and_self, if_true, Int.toNat_natCast, hg1, Nat.mul_one, Nat.zero_add, hz, hj, hcj, places, Value.cells, ty27, ty3, ty33, ty4, ty47, ty5, ty50, ty51, ty9, hov', hov2, hg2, hcj2, hz1, ekey, hq2, hble, hspl]; done) | (simp [hc, and_self, if_true, Int.toNat_natCast, hg1, Nat.mul_one, Nat.zero_add, hz, hj, hcj, places, Value.cells, ty27, ty3, ty33, ty4, ty47, ty5, ty50, ty51, ty9, hov', hov2, hg2, hcj2, hz1, ekey, hq2, hble, hspl]; omega)) <|
                OSuf.nil <| SQ.normal ?_
            refine W.no (by simp only [lk] <;> rfl) <| CWp.skip <| SQ.normal ?_
            refine W.seq <| W.seq <| W.reg <| 
                OSuf.aopT tyOK rfl (so_move (by simp only [lk] <;> rfl)) (fun _ => rfl) rfl <|
                OSuf.nil <| SQ.normal ?_
            refine W.yes (by simp only [lk] <;> rfl) <| W.seq <| W.seq <| W.regD tyOK mixed (by kernel_rfl) <| 
                SqW.aop rfl (so_fieldAddr (by simp only [lk] <;> rfl) (fa_ok (k := 6) ty33 rfl rfl ty9 rfl rfl)) rfl <|
                SqW.aop rfl (so_load (by simp only [lk] <;> rfl) (by simp (disch := first | assumption | omega | (simp only [nx] <;> omega) | fail) only [aLoad, ty9, rowOf, hpl, hc, and_self, if_true, Int.toNat_natCast, hg1, Nat.mul_one, Nat.zero_add, hz, hj, hcj, places, Value.cells, ty27, ty3, ty33, ty4, ty47, ty5, ty50, ty51, ty9, hov', hov2, hg2, hcj2, hz1, ekey, hq2, hble, hspl] <;> rfl)) rfl <|
                SqW.aop rfl (so_move (by simp only [lk] <;> rfl)) rfl <|
                SqW.aop rfl (so_move (by simp only [lk] <;> rfl)) rfl <|
                SqW.aop rfl (so_indexAddr (by simp only [lk] <;> rfl) (by simp only [lk] <;> rfl) (by simp (disch := first | assumption | omega | (simp only [nx] <;> omega) | fail) only [aIndexAddr, ty50, ty9, hpl, hc, and_self, if_true, Int.toNat_natCast, hg1, Nat.mul_one, Nat.zero_add, hz, hj, hcj, places, Value.cells, ty27, ty3, ty33, ty4, ty47, ty5, ty50, ty51, ty9, hov', hov2, hg2, hcj2, hz1, ekey, hq2, hble, hspl] <;> rfl)) rfl <|
                SqW.aop rfl (so_load (by simp only [lk] <;> rfl) (by simp (disch := first | assumption | omega | (simp only [nx] <;> omega) | fail) only [aLoad, ty9, rowOf, hpl, hc, and_self, if_true, Int.toNat_natCast, hg1, Nat.mul_one, Nat.zero_add, hz, hj, hcj, places, Value.cells, ty27, ty3, ty33, ty4, ty47, ty5, ty50, ty51, ty9, hov', hov2, hg2, hcj2, hz1, ekey, hq2, hble, hspl] <;> rfl)) rfl <|
                SqW.aopF rfl (so_bin (by simp only [lk] <;> rfl) (by simp only [lk] <;> rfl) bs_neq) (fun _ => rfl) (by first | rfl | assumption | ((simp only [bl, hc, and_self, if_true, Int.toNat_natCast, hg1, Nat.mul_one, Nat.zero_add, hz, hj, hcj, places, Value.cells, ty27, ty3, ty33, ty4, ty47, ty5, ty50, ty51, ty9, hov', hov2, hg2, hcj2, hz1, ekey, hq2, hble, hspl]) <;> first | done | assumption | omega) | (simp [hc, and_self, if_true, Int.toNat_natCast, hg1, Nat.mul_one, Nat.zero_add, hz, hj, hcj, places, Value.cells, ty27, ty3, ty33, ty4, ty47, ty5, ty50, ty51, ty9, hov', hov2, hg2, hcj2, hz1, ekey, hq2, hble, hspl]; done) | (simp [hc, and_self, if_true, Int.toNat_natCast, hg1, Nat.mul_one, Nat.zero_add, hz, hj, hcj, places, Value.cells, ty27, ty3, ty33, ty4, ty47, ty5, ty50, ty51, ty9, hov', hov2, hg2, hcj2, hz1, ekey, hq2, hble, hspl]; omega)) <|
                SqW.aopF rfl (so_move (by simp only [lk] <;> rfl)) (fun _ => rfl) rfl <|
                SqW.aop (aguard_of rfl rfl (by simp only [lk] <;> rfl) rfl) (so_fieldAddr (by simp only [lk] <;> rfl) (fa_ok (k := 3) ty33 rfl rfl ty27 rfl rfl)) rfl <|
                SqW.aop (aguard_of rfl rfl (by simp only [lk] <;> rfl) rfl) (so_load (by simp only [lk] <;> rfl) (by simp (disch := first | assumption | omega | (simp only [nx] <;> omega) | fail) only [aLoad, ty27, rowOf, hpl, hc, and_self, if_true, Int.toNat_natCast, hg1, Nat.mul_one, Nat.zero_add, hz, hj, hcj, places, Value.cells, ty27, ty3, ty33, ty4, ty47, ty5, ty50, ty51, ty9, hov', hov2, hg2, hcj2, hz1, ekey, hq2, hble, hspl] <;> rfl)) rfl <|
                SqW.aop (aguard_of rfl rfl (by simp only [lk] <;> rfl) rfl) (so_move (by simp only [lk] <;> rfl)) rfl <|
                SqW.aop (aguard_of rfl rfl (by simp only [lk] <;> rfl) rfl) (so_conw (so_conv tyOK (by simp only [lk] <;> rfl) ty3 ⟨_, rfl⟩ ty27 rfl) (by first | (simp only [w1, w2, w3, w4, w6] <;> rfl) | rfl)) rfl <|
                SqW.aop (aguard_of rfl rfl (by simp only [lk] <;> rfl) rfl) (so_bin (by simp only [lk] <;> rfl) (by simp only [lk] <;> rfl) (bi_w bi_add (by first | (simp only [w1, w2, w3, w4, w6] <;> rfl) | rfl))) rfl <|
                SqW.aopF (aguard_of rfl rfl (by simp only [lk] <;> rfl) rfl) (so_bin (by simp only [lk] <;> rfl) (by simp only [lk] <;> rfl) bi_neq) (fun _ => rfl) (by first | rfl | assumption | ((simp only [bl, hc, and_self, if_true, Int.toNat_natCast, hg1, Nat.mul_one, Nat.zero_add, hz, hj, hcj, places, Value.cells, ty27, ty3, ty33, ty4, ty47, ty5, ty50, ty51, ty9, hov', hov2, hg2, hcj2, hz1, ekey, hq2, hble, hspl]) <;> first | done | assumption | omega) | (simp [hc, and_self, if_true, Int.toNat_natCast, hg1, Nat.mul_one, Nat.zero_add, hz, hj, hcj, places, Value.cells, ty27, ty3, ty33, ty4, ty47, ty5, ty50, ty51, ty9, hov', hov2, hg2, hcj2, hz1, ekey, hq2, hble, hspl]; done) | (simp [hc, and_self, if_true, Int.toNat_natCast, hg1, Nat.mul_one, Nat.zero_add, hz, hj, hcj, places, Value.cells, ty27, ty3, ty33, ty4, ty47, ty5, ty50, ty51, ty9, hov', hov2, hg2, hcj2, hz1, ekey, hq2, hble, hspl]; omega)) <|
                SqW.aopF rfl (so_pick (by simp only [lk] <;> rfl) (by simp only [lk, cond_true, cond_false] <;> rfl)) (fun _ => rfl) rfl <|
                SqW.aopF rfl (so_move (by simp only [lk] <;> rfl)) (fun _ => rfl) rfl <|
                SqW.aop (aguard_of rfl rfl (by simp only [lk] <;> rfl) rfl) (so_fieldAddr (by simp only [lk] <;> rfl) (fa_ok (k := 0) ty33 rfl rfl ty3 rfl rfl)) rfl <|
                SqW.aop (aguard_of rfl rfl (by simp only [lk] <;> rfl) rfl) (so_load (by simp only [lk] <;> rfl) (by simp (disch := first | assumption | omega | (simp only [nx] <;> omega) | fail) only [aLoad, ty3, rowOf, hpl, hc, and_self, if_true, Int.toNat_natCast, hg1, Nat.mul_one, Nat.zero_add, hz, hj, hcj, places, Value.cells, ty27, ty3, ty33, ty4, ty47, ty5, ty50, ty51, ty9, hov', hov2, hg2, hcj2, hz1, ekey, hq2, hble, hspl] <;> rfl)) rfl <|
                SqW.aopF (aguard_of rfl rfl (by simp only [lk] <;> rfl) rfl) (so_bin (by simp only [lk] <;> rfl) (by simp only [lk] <;> rfl) bi_neq) (fun _ => rfl) (by first | rfl | assumption | ((simp only [bl, hc, and_self, if_true, Int.toNat_natCast, hg1, Nat.mul_one, Nat.zero_add, hz, hj, hcj, places, Value.cells, ty27, ty3, ty33, ty4, ty47, ty5, ty50, ty51, ty9, hov', hov2, hg2, hcj2, hz1, ekey, hq2, hble, hspl]) <;> first | done | assumption | omega) | (simp [hc, and_self, if_true, Int.toNat_natCast, hg1, Nat.mul_one, Nat.zero_add, hz, hj, hcj, places, Value.cells, ty27, ty3, ty33, ty4, ty47, ty5, ty50, ty51, ty9, hov', hov2, hg2, hcj2, hz1, ekey, hq2, hble, hspl]; done) | (simp [hc, and_self, if_true, Int.toNat_natCast, hg1, Nat.mul_one, Nat.zero_add, hz, hj, hcj, places, Value.cells, ty27, ty3, ty33, ty4, ty47, ty5, ty50, ty51, ty9, hov', hov2, hg2, hcj2, hz1, ekey, hq2, hble, hspl]; omega)) <|
                SqW.aopF rfl (so_pick (by simp only [lk] <;> rfl) (by simp only [lk, cond_true, cond_false] <;> rfl)) (fun _ => rfl) rfl <|
                SqW.nil <| SQ.normal ?_
            refine W.no (by simp only [lk] <;> rfl) <| CWp.skip <| SQ.normal ?_
            refine W.seq <| W.reg <| 
                OSuf.aop tyOK rfl (so_move (by simp only [lk] <;> rfl)) rfl <|
                OSuf.aop tyOK rfl (so_indexAddr (by simp only [lk] <;> rfl) (by simp only [lk] <;> rfl) (by simp (disch := first | assumption | omega | (simp only [nx] <;> omega) | fail) only [aIndexAddr, ty51, ty4, hpl, hc, and_self, if_true, Int.toNat_natCast, hg1, Nat.mul_one, Nat.zero_add, hz, hj, hcj, places, Value.cells, ty27, ty3, ty33, ty4, ty47, ty5, ty50, ty51, ty9, hov', hov2, hg2, hcj2, hz1, ekey, hq2, hble, hspl] <;> rfl)) rfl <|
                OSuf.aop tyOK rfl (so_store (by simp only [lk] <;> rfl) (by simp only [lk] <;> rfl) (by simp (disch := first | assumption | omega | (simp only [nx] <;> omega) | fail) only [aStore, ty4, writeRow, hpl, hc, and_self, if_true, Int.toNat_natCast, hg1, Nat.mul_one, Nat.zero_add, hz, hj, hcj, places, Value.cells, ty27, ty3, ty33, ty4, ty47, ty5, ty50, ty51, ty9, hov', hov2, hg2, hcj2, hz1, ekey, hq2, hble, hspl] <;> rfl)) rfl <|
                OSuf.nil <| SQ.normal ?_
            refine W.reg <| 
                OSuf.aop tyOK rfl (so_move (by simp only [lk] <;> rfl)) rfl <|
                OSuf.aop tyOK rfl (so_bin (by simp only [lk] <;> rfl) (by simp only [lk] <;> rfl) (bi_w bi_sub (by first | (simp only [w1, w2, w3, w4, w6] <;> rfl) | rfl))) rfl <|
                OSuf.aop tyOK rfl (so_assign (by simp only [lk] <;> rfl)) rfl <|
                OSuf.nil <| SQ.normal ?_
            refine W.seq <| W.reg <| 
                OSuf.aop tyOK rfl (so_move (by simp only [lk] <;> rfl)) rfl <|
                OSuf.callD rfl (by simp only [aopnds, lk] <;> rfl) en20 (len_c _ (h0.next + 1) _ (RA.other (V := h0.next + 2) hA2 (by simp only [nx]; omega) (by omega) (by simp only; omega) (fun q hq => hO.rows q (List.mem_filter.1 hq).1) (fun z hz hne => by simp (disch := first | assumption | omega | (simp only [nx] <;> omega) | fail) only [hpl]))) rfl <|
                OSuf.aop tyOK rfl (so_move (by simp only [lk] <;> rfl)) rfl <|
                OSuf.aopF tyOK rfl (so_bin (by simp only [lk] <;> rfl) (by simp only [lk] <;> rfl) bi_neq) (fun _ => rfl) (by first | rfl | assumption | ((simp only [bl, hc, and_self, if_true, Int.toNat_natCast, hg1, Nat.mul_one, Nat.zero_add, hz, hj, hcj, places, Value.cells, ty27, ty3, ty33, ty4, ty47, ty5, ty50, ty51, ty9, hov', hov2, hg2, hcj2, hz1, ekey, hq2, hble, hspl]) <;> first | done | assumption | omega) | (simp [hc, and_self, if_true, Int.toNat_natCast, hg1, Nat.mul_one, Nat.zero_add, hz, hj, hcj, places, Value.cells, ty27, ty3, ty33, ty4, ty47, ty5, ty50, ty51, ty9, hov', hov2, hg2, hcj2, hz1, ekey, hq2, hble, hspl]; done) | (simp [hc, and_self, if_true, Int.toNat_natCast, hg1, Nat.mul_one, Nat.zero_add, hz, hj, hcj, places, Value.cells, ty27, ty3, ty33, ty4, ty47, ty5, ty50, ty51, ty9, hov', hov2, hg2, hcj2, hz1, ekey, hq2, hble, hspl]; omega)) <|
                OSuf.nil <| SQ.normal ?_
            refine W.no (by simp only [lk] <;> rfl) <| CWp.skip <| BQ.normal <| SQ.normal ?_
            refine W.reg <| 
                OSuf.aop tyOK rfl (so_move (by simp only [lk] <;> rfl)) rfl <|
                OSuf.aop tyOK rfl (so_bin (by simp only [lk] <;> rfl) (by simp only [lk] <;> rfl) (bi_w bi_add (by first | (simp only [w1, w2, w3, w4, w6] <;> rfl) | rfl))) rfl <|
                OSuf.aop tyOK rfl (so_assign (by simp only [lk] <;> rfl)) rfl <|
                OSuf.nil <| ?_
            -- leaf: round
            refine LQ.normal (m := n - 1) (L := [(0, .slice (some ⟨r1, 0, none⟩) ks.length 0), (1, .slice (some ⟨r, 0, none⟩) l2.length 0), (5, P0 (h0.next + 1)), (6, I64 N), (7, P0 (h0.next + 2)), (9, I64 (delQ (j + 1 : Nat) S.qs).length), (10, I64 (k + 1 : Nat))]) (by omega) ?_
              ⟨k + 1, ⟨S.last, delQ (j + 1 : Nat) S.qs, S.clock, S.m⟩, ov.set j true, by omega, RA.other (V := h0.next + 2) hA2 (by simp only [nx]; omega) (by omega) (by simp only; omega) (fun q hq => hO.rows q (List.mem_filter.1 hq).1) (fun z hz hne => by simp (disch := first | assumption | omega | (simp only [nx] <;> omega) | fail) only [hpl]), hm, by simp only; omega, hO.del (by omega) hj5, by simp only [nx]; omega, ?_, ⟨?_, fun p vs hp hgp => ?_⟩, rfl⟩
            · simp only [HasA, Tr.get_put, Nat.reduceEqDiff, reduceIte, w2, and_self]
            · simp (disch := first | assumption | omega | (simp only [nx] <;> omega) | fail) only [hpl]
            · have := hF2.1; have := hR.1; simp only [nx]; omega
            · have e1 := FrR.ro hA hF2 (Nat.lt_of_lt_of_le hp hR.1) (hR.2 p vs hp hgp)
              have : ¬ h0.next + 2 = p := by omega
              have := hF2.1; have := hR.1
              simp (disch := first | assumption | omega | (simp only [nx] <;> omega) | fail) only [hpl]; exact e1
          · have hot : ov[j]? = some true := by
              have : j < ov.length := by rw [hO.len]; exact hj5
              rw [List.getElem?_eq_getElem this] at hoj ⊢
              cases hx : ov[j] <;> simp_all
            have hf := hO.none_ j fun _ => hot
            have hov2 : (ov.map Value.bool)[j]? = some (.bool true) := by simp [hot]
            refine W.seq <| W.seq <| W.reg <| 
                OSuf.aop tyOK rfl (so_move (by simp only [lk] <;> rfl)) rfl <|
                OSuf.aop tyOK rfl (so_move (by simp only [lk] <;> rfl)) rfl <|
                OSuf.aop tyOK rfl (so_len (by simp only [aopnds, lk] <;> rfl) (by simp (disch := first | assumption | omega | (simp only [nx] <;> omega) | fail) only [aLenOf, ty47, hpl, hc, and_self, if_true, Int.toNat_natCast, hg1, Nat.mul_one, Nat.zero_add, hz, hj, hcj, places, Value.cells, ty27, ty3, ty33, ty4, ty47, ty5, ty50, ty51, ty9, hov, hov2, Msg.v] <;> rfl)) rfl <|
                OSuf.aopT tyOK rfl (so_bin (by simp only [lk] <;> rfl) (by simp only [lk] <;> rfl) bi_lss) (fun _ => rfl) (by first | rfl | assumption | ((simp only [bl, hc, and_self, if_true, Int.toNat_natCast, hg1, Nat.mul_one, Nat.zero_add, hz, hj, hcj, places, Value.cells, ty27, ty3, ty33, ty4, ty47, ty5, ty50, ty51, ty9, hov, hov2, Msg.v]) <;> first | done | assumption | omega) | (simp [hc, and_self, if_true, Int.toNat_natCast, hg1, Nat.mul_one, Nat.zero_add, hz, hj, hcj, places, Value.cells, ty27, ty3, ty33, ty4, ty47, ty5, ty50, ty51, ty9, hov, hov2, Msg.v]; done) | (simp [hc, and_self, if_true, Int.toNat_natCast, hg1, Nat.mul_one, Nat.zero_add, hz, hj, hcj, places, Value.cells, ty27, ty3, ty33, ty4, ty47, ty5, ty50, ty51, ty9, hov, hov2, Msg.v]; omega)) <|
                OSuf.aopT tyOK rfl (so_move (by simp only [lk] <;> rfl)) (fun _ => rfl) rfl <|
                OSuf.aop tyOK (aguard_of rfl rfl (by simp only [lk] <;> rfl) rfl) (so_move (by simp only [lk] <;> rfl)) rfl <|
                OSuf.aopT tyOK (aguard_of rfl rfl (by simp only [lk] <;> rfl) rfl) (so_bin (by simp only [lk] <;> rfl) (by simp only [lk] <;> rfl) bi_lss) (fun _ => rfl) (by first | rfl | assumption | ((simp only [bl, hc, and_self, if_true, Int.toNat_natCast, hg1, Nat.mul_one, Nat.zero_add, hz, hj, hcj, places, Value.cells, ty27, ty3, ty33, ty4, ty47, ty5, ty50, ty51, ty9, hov, hov2, Msg.v]) <;> first | done | assumption | omega) | (simp [hc, and_self, if_true, Int.toNat_natCast, hg1, Nat.mul_one, Nat.zero_add, hz, hj, hcj, places, Value.cells, ty27, ty3, ty33, ty4, ty47, ty5, ty50, ty51, ty9, hov, hov2, Msg.v]; done) | (simp [hc, and_self, if_true, Int.toNat_natCast, hg1, Nat.mul_one, Nat.zero_add, hz, hj, hcj, places, Value.cells, ty27, ty3, ty33, ty4, ty47, ty5, ty50, ty51, ty9, hov, hov2, Msg.v]; omega)) <|
                OSuf.aopT tyOK rfl (so_pick (by simp only [lk] <;> rfl) (by simp only [lk, cond_true, cond_false] <;> rfl)) (fun _ => rfl) rfl <|
                OSuf.nil <| SQ.normal ?_
            refine W.yes (by simp only [lk] <;> rfl) <| CWp.skip <| SQ.normal ?_
            refine W.seq <| W.block <| W.seq <| W.reg <| 
                OSuf.aop tyOK rfl (so_move (by simp only [lk] <;> rfl)) rfl <|
                OSuf.aop tyOK rfl (so_move (by simp only [lk] <;> rfl)) rfl <|
                OSuf.aop tyOK rfl (so_indexAddr (by simp only [lk] <;> rfl) (by simp only [lk] <;> rfl) (by simp (disch := first | assumption | omega | (simp only [nx] <;> omega) | fail) only [aIndexAddr, ty47, ty5, hpl, hc, and_self, if_true, Int.toNat_natCast, hg1, Nat.mul_one, Nat.zero_add, hz, hj, hcj, places, Value.cells, ty27, ty3, ty33, ty4, ty47, ty5, ty50, ty51, ty9, hov, hov2, Msg.v] <;> rfl)) rfl <|
                OSuf.aop tyOK rfl (so_load (by simp only [lk] <;> rfl) (by simp (disch := first | assumption | omega | (simp only [nx] <;> omega) | fail) only [aLoad, ty5, rowOf, hpl, hc, and_self, if_true, Int.toNat_natCast, hg1, Nat.mul_one, Nat.zero_add, hz, hj, hcj, places, Value.cells, ty27, ty3, ty33, ty4, ty47, ty5, ty50, ty51, ty9, hov, hov2, Msg.v] <;> rfl)) rfl <|
                OSuf.aop tyOK rfl (so_conw (so_conv tyOK (by simp only [lk] <;> rfl) ty5 ⟨_, rfl⟩ ty3 rfl) (by first | (simp only [w1, w2, w3, w4] <;> rfl) | rfl)) rfl <|
                OSuf.aop tyOK rfl (so_bin (by simp only [lk] <;> rfl) (by simp only [lk] <;> rfl) (bi_w (bi_rem (by decide)) (by first | (simp only [w1, w2, w3, w4] <;> rfl) | rfl))) rfl <|
                OSuf.aop tyOK rfl (so_assign (by simp only [lk] <;> rfl)) rfl <|
                OSuf.nil <| SQ.normal ?_
            refine W.seq <| W.reg <| 
                OSuf.aop tyOK rfl (so_move (by simp only [lk] <;> rfl)) rfl <|
                OSuf.aop tyOK rfl (so_move (by simp only [lk] <;> rfl)) rfl <|
                OSuf.aop tyOK rfl (so_conw (so_conv tyOK (by simp only [lk] <;> rfl) ty3 ⟨_, rfl⟩ ty27 rfl) (by first | (simp only [w1, w2, w3, w4] <;> rfl) | rfl)) rfl <|
                OSuf.aop tyOK rfl (so_bin (by simp only [lk] <;> rfl) (by simp only [lk] <;> rfl) (bi_w bi_add (by first | (simp only [w1, w2, w3, w4] <;> rfl) | rfl))) rfl <|
                OSuf.callD rfl (by simp only [aopnds, lk] <;> rfl) en9 (answer_none _ (h0.next + 1) S hA _ hf) rfl <|
                OSuf.aop tyOK rfl (so_move (by simp only [lk] <;> rfl)) rfl <|
                OSuf.aop tyOK rfl (so_extract (by simp only [lk] <;> rfl) (by simp (disch := first | assumption | omega | (simp only [nx] <;> omega) | fail) only [aExtract, hpl, hc, and_self, if_true, Int.toNat_natCast, hg1, Nat.mul_one, Nat.zero_add, hz, hj, hcj, places, Value.cells, ty27, ty3, ty33, ty4, ty47, ty5, ty50, ty51, ty9, hov, hov2, Msg.v] <;> rfl)) rfl <|
                OSuf.aopF tyOK rfl (so_extract (by simp only [lk] <;> rfl) (by simp (disch := first | assumption | omega | (simp only [nx] <;> omega) | fail) only [aExtract, hpl, hc, and_self, if_true, Int.toNat_natCast, hg1, Nat.mul_one, Nat.zero_add, hz, hj, hcj, places, Value.cells, ty27, ty3, ty33, ty4, ty47, ty5, ty50, ty51, ty9, hov, hov2, Msg.v] <;> rfl)) (fun _ => rfl) (by first | rfl | assumption | ((simp only [bl, hc, and_self, if_true, Int.toNat_natCast, hg1, Nat.mul_one, Nat.zero_add, hz, hj, hcj, places, Value.cells, ty27, ty3, ty33, ty4, ty47, ty5, ty50, ty51, ty9, hov, hov2, Msg.v]) <;> first | done | assumption | omega) | (simp [hc, and_self, if_true, Int.toNat_natCast, hg1, Nat.mul_one, Nat.zero_add, hz, hj, hcj, places, Value.cells, ty27, ty3, ty33, ty4, ty47, ty5, ty50, ty51, ty9, hov, hov2, Msg.v]; done) | (simp [hc, and_self, if_true, Int.toNat_natCast, hg1, Nat.mul_one, Nat.zero_add, hz, hj, hcj, places, Value.cells, ty27, ty3, ty33, ty4, ty47, ty5, ty50, ty51, ty9, hov, hov2, Msg.v]; omega)) <|
                OSuf.aop tyOK rfl (so_alloc (by simp only [aAlloc, ty33] <;> rfl)) rfl <|
                OSuf.aop tyOK rfl (so_store (by simp only [lk] <;> rfl) (by simp only [lk] <;> rfl) (by simp (disch := first | assumption | omega | (simp only [nx] <;> omega) | fail) only [aStore, ty33, writeRow, hpl, hc, and_self, if_true, Int.toNat_natCast, hg1, Nat.mul_one, Nat.zero_add, hz, hj, hcj, places, Value.cells, ty27, ty3, ty33, ty4, ty47, ty5, ty50, ty51, ty9, hov, hov2, Msg.v] <;> rfl)) rfl <|
                OSuf.aopF tyOK rfl (so_assign (by simp only [lk] <;> rfl)) (fun _ => rfl) rfl <|
                OSuf.nil <| SQ.normal ?_
            refine W.seq <| W.seq <| W.reg <| 
                OSuf.aopF tyOK rfl (so_move (by simp only [lk] <;> rfl)) (fun _ => rfl) rfl <|
                OSuf.aop tyOK rfl (so_move (by simp only [lk] <;> rfl)) rfl <|
                OSuf.aop tyOK rfl (so_move (by simp only [lk] <;> rfl)) rfl <|
                OSuf.aopT tyOK rfl (so_bin (by simp only [lk] <;> rfl) (by simp only [lk] <;> rfl) bi_lss) (fun _ => rfl) (by first | rfl | assumption | ((simp only [bl, hc, and_self, if_true, Int.toNat_natCast, hg1, Nat.mul_one, Nat.zero_add, hz, hj, hcj, places, Value.cells, ty27, ty3, ty33, ty4, ty47, ty5, ty50, ty51, ty9, hov, hov2, Msg.v]) <;> first | done | assumption | omega) | (simp [hc, and_self, if_true, Int.toNat_natCast, hg1, Nat.mul_one, Nat.zero_add, hz, hj, hcj, places, Value.cells, ty27, ty3, ty33, ty4, ty47, ty5, ty50, ty51, ty9, hov, hov2, Msg.v]; done) | (simp [hc, and_self, if_true, Int.toNat_natCast, hg1, Nat.mul_one, Nat.zero_add, hz, hj, hcj, places, Value.cells, ty27, ty3, ty33, ty4, ty47, ty5, ty50, ty51, ty9, hov, hov2, Msg.v]; omega)) <|
                OSuf.aopT tyOK rfl (so_move (by simp only [lk] <;> rfl)) (fun _ => rfl) rfl <|
                OSuf.aop tyOK (aguard_of rfl rfl (by simp only [lk] <;> rfl) rfl) (so_move (by simp only [lk] <;> rfl)) rfl <|
                OSuf.aop tyOK (aguard_of rfl rfl (by simp only [lk] <;> rfl) rfl) (so_indexAddr (by simp only [lk] <;> rfl) (by simp only [lk] <;> rfl) (by simp (disch := first | assumption | omega | (simp only [nx] <;> omega) | fail) only [aIndexAddr, ty51, ty4, hpl, hc, and_self, if_true, Int.toNat_natCast, hg1, Nat.mul_one, Nat.zero_add, hz, hj, hcj, places, Value.cells, ty27, ty3, ty33, ty4, ty47, ty5, ty50, ty51, ty9, hov, hov2, Msg.v] <;> rfl)) rfl <|
                OSuf.aop tyOK (aguard_of rfl rfl (by simp only [lk] <;> rfl) rfl) (so_load (by simp only [lk] <;> rfl) (by simp (disch := first | assumption | omega | (simp only [nx] <;> omega) | fail) only [aLoad, ty4, rowOf, hpl, hc, and_self, if_true, Int.toNat_natCast, hg1, Nat.mul_one, Nat.zero_add, hz, hj, hcj, places, Value.cells, ty27, ty3, ty33, ty4, ty47, ty5, ty50, ty51, ty9, hov, hov2, Msg.v] <;> rfl)) rfl <|
                OSuf.aop tyOK (aguard_of rfl rfl (by simp only [lk] <;> rfl) rfl) (so_not (by simp only [lk] <;> rfl)) rfl <|
                OSuf.aop tyOK rfl (so_pick (by simp only [lk] <;> rfl) (by simp only [lk, cond_true, cond_false] <;> rfl)) rfl <|
                OSuf.aopF tyOK rfl (so_bin (by simp only [lk] <;> rfl) (by simp only [lk] <;> rfl) (bb_neq tyOK ty4 rfl)) (fun _ => rfl) (by first | rfl | assumption | ((simp only [bl, hc, and_self, if_true, Int.toNat_natCast, hg1, Nat.mul_one, Nat.zero_add, hz, hj, hcj, places, Value.cells, ty27, ty3, ty33, ty4, ty47, ty5, ty50, ty51, ty9, hov, hov2, Msg.v]) <;> first | done | assumption | omega) | (simp [hc, and_self, if_true, Int.toNat_natCast, hg1, Nat.mul_one, Nat.zero_add, hz, hj, hcj, places, Value.cells, ty27, ty3, ty33, ty4, ty47, ty5, ty50, ty51, ty9, hov, hov2, Msg.v]; done) | (simp [hc, and_self, if_true, Int.toNat_natCast, hg1, Nat.mul_one, Nat.zero_add, hz, hj, hcj, places, Value.cells, ty27, ty3, ty33, ty4, ty47, ty5, ty50, ty51, ty9, hov, hov2, Msg.v]; omega)) <|
                OSuf.nil <| SQ.normal ?_
            refine W.no (by simp only [lk] <;> rfl) <| CWp.skip <| SQ.normal ?_
            refine W.seq <| W.seq <| W.reg <| 
                OSuf.aopF tyOK rfl (so_move (by simp only [lk] <;> rfl)) (fun _ => rfl) rfl <|
                OSuf.nil <| SQ.normal ?_
            refine W.no (by simp only [lk] <;> rfl) <| CWp.skip <| SQ.normal ?_
            refine W.seq <| W.reg <| 
                OSuf.aop tyOK rfl (so_move (by simp only [lk] <;> rfl)) rfl <|
                OSuf.callD rfl (by simp only [aopnds, lk] <;> rfl) en20 (len_c _ (h0.next + 1) S (hA.mono (by simp only [nx]; omega) (fun z hz => by simp (disch := first | assumption | omega | (simp only [nx] <;> omega) | fail) only [hpl]))) rfl <|
                OSuf.aop tyOK rfl (so_move (by simp only [lk] <;> rfl)) rfl <|
                OSuf.aopF tyOK rfl (so_bin (by simp only [lk] <;> rfl) (by simp only [lk] <;> rfl) bi_neq) (fun _ => rfl) (by first | rfl | assumption | ((simp only [bl, hc, and_self, if_true, Int.toNat_natCast, hg1, Nat.mul_one, Nat.zero_add, hz, hj, hcj, places, Value.cells, ty27, ty3, ty33, ty4, ty47, ty5, ty50, ty51, ty9, hov, hov2, Msg.v]) <;> first | done | assumption | omega) | (simp [hc, and_self, if_true, Int.toNat_natCast, hg1, Nat.mul_one, Nat.zero_add, hz, hj, hcj, places, Value.cells, ty27, ty3, ty33, ty4, ty47, ty5, ty50, ty51, ty9, hov, hov2, Msg.v]; done) | (simp [hc, and_self, if_true, Int.toNat_natCast, hg1, Nat.mul_one, Nat.zero_add, hz, hj, hcj, places, Value.cells, ty27, ty3, ty33, ty4, ty47, ty5, ty50, ty51, ty9, hov, hov2, Msg.v]; omega)) <|
                OSuf.nil <| SQ.normal ?_
            refine W.no (by simp only [lk] <;> rfl) <| CWp.skip <| BQ.normal <| SQ.normal ?_
            refine W.reg <| 
                OSuf.aop tyOK rfl (so_move (by simp only [lk] <;> rfl)) rfl <|
                OSuf.aop tyOK rfl (so_bin (by simp only [lk] <;> rfl) (by simp only [lk] <;> rfl) (bi_w bi_add (by first | (simp only [w1, w2, w3, w4] <;> rfl) | rfl))) rfl <|
                OSuf.aop tyOK rfl (so_assign (by simp only [lk] <;> rfl)) rfl <|
                OSuf.nil <| ?_
            -- leaf: round
            refine LQ.normal (m := n - 1) (L := [(0, .slice b1 ks.length 0), (1, .slice (some ⟨r, 0, none⟩) l2.length 0), (5, P0 (h0.next + 1)), (6, I64 N), (7, P0 (h0.next + 2)), (9, I64 S.qs.length), (10, I64 (k + 1 : Nat))]) (by omega) ?_
              ⟨k + 1, S, ov, by omega, hA.mono (by simp only [nx]; omega) (fun z hz => by simp (disch := first | assumption | omega | (simp only [nx] <;> omega) | fail) only [hpl]), hm, hql, hO, by simp only [nx]; omega, ?_, ⟨?_, fun p vs hp hgp => ?_⟩, rfl⟩
            · simp only [HasA, Tr.get_put, Nat.reduceEqDiff, reduceIte, w2, and_self]
            · simp (disch := first | assumption | omega | (simp only [nx] <;> omega) | fail) only [hpl]; exact hov
            · have := hR.1; simp only [nx]; omega
            · have := hR.1
              simp (disch := first | assumption | omega | (simp only [nx] <;> omega) | fail) only [hpl]; exact hR.2 p vs hp hgp
        · have hf := hO.none_ j fun h => absurd h (by omega)
          refine W.seq <| W.seq <| W.reg <| 
              OSuf.aop tyOK rfl (so_move (by simp only [lk] <;> rfl)) rfl <|
              OSuf.aop tyOK rfl (so_move (by simp only [lk] <;> rfl)) rfl <|
              OSuf.aop tyOK rfl (so_len (by simp only [aopnds, lk] <;> rfl) (by simp (disch := first | assumption | omega | (simp only [nx] <;> omega) | fail) only [aLenOf, ty47, hpl, hc, and_self, if_true, Int.toNat_natCast, hg1, Nat.mul_one, Nat.zero_add, hz, hj, hcj, places, Value.cells, ty27, ty3, ty33, ty4, ty47, ty5, ty50, ty51, ty9, hov, Msg.v] <;> rfl)) rfl <|
              OSuf.aopT tyOK rfl (so_bin (by simp only [lk] <;> rfl) (by simp only [lk] <;> rfl) bi_lss) (fun _ => rfl) (by first | rfl | assumption | ((simp only [bl, hc, and_self, if_true, Int.toNat_natCast, hg1, Nat.mul_one, Nat.zero_add, hz, hj, hcj, places, Value.cells, ty27, ty3, ty33, ty4, ty47, ty5, ty50, ty51, ty9, hov, Msg.v]) <;> first | done | assumption | omega) | (simp [hc, and_self, if_true, Int.toNat_natCast, hg1, Nat.mul_one, Nat.zero_add, hz, hj, hcj, places, Value.cells, ty27, ty3, ty33, ty4, ty47, ty5, ty50, ty51, ty9, hov, Msg.v]; done) | (simp [hc, and_self, if_true, Int.toNat_natCast, hg1, Nat.mul_one, Nat.zero_add, hz, hj, hcj, places, Value.cells, ty27, ty3, ty33, ty4, ty47, ty5, ty50, ty51, ty9, hov, Msg.v]; omega)) <|
              OSuf.aopT tyOK rfl (so_move (by simp only [lk] <;> rfl)) (fun _ => rfl) rfl <|
              OSuf.aop tyOK (aguard_of rfl rfl (by simp only [lk] <;> rfl) rfl) (so_move (by simp only [lk] <;> rfl)) rfl <|
              OSuf.aopT tyOK (aguard_of rfl rfl (by simp only [lk] <;> rfl) rfl) (so_bin (by simp only [lk] <;> rfl) (by simp only [lk] <;> rfl) bi_lss) (fun _ => rfl) (by first | rfl | assumption | ((simp only [bl, hc, and_self, if_true, Int.toNat_natCast, hg1, Nat.mul_one, Nat.zero_add, hz, hj, hcj, places, Value.cells, ty27, ty3, ty33, ty4, ty47, ty5, ty50, ty51, ty9, hov, Msg.v]) <;> first | done | assumption | omega) | (simp [hc, and_self, if_true, Int.toNat_natCast, hg1, Nat.mul_one, Nat.zero_add, hz, hj, hcj, places, Value.cells, ty27, ty3, ty33, ty4, ty47, ty5, ty50, ty51, ty9, hov, Msg.v]; done) | (simp [hc, and_self, if_true, Int.toNat_natCast, hg1, Nat.mul_one, Nat.zero_add, hz, hj, hcj, places, Value.cells, ty27, ty3, ty33, ty4, ty47, ty5, ty50, ty51, ty9, hov, Msg.v]; omega)) <|
              OSuf.aopT tyOK rfl (so_pick (by simp only [lk] <;> rfl) (by simp only [lk, cond_true, cond_false] <;> rfl)) (fun _ => rfl) rfl <|
              OSuf.nil <| SQ.normal ?_
          refine W.yes (by simp only [lk] <;> rfl) <| CWp.skip <| SQ.normal ?_
          refine W.seq <| W.block <| W.seq <| W.reg <| 
              OSuf.aop tyOK rfl (so_move (by simp only [lk] <;> rfl)) rfl <|
              OSuf.aop tyOK rfl (so_move (by simp only [lk] <;> rfl)) rfl <|
              OSuf.aop tyOK rfl (so_indexAddr (by simp only [lk] <;> rfl) (by simp only [lk] <;> rfl) (by simp (disch := first | assumption | omega | (simp only [nx] <;> omega) | fail) only [aIndexAddr, ty47, ty5, hpl, hc, and_self, if_true, Int.toNat_natCast, hg1, Nat.mul_one, Nat.zero_add, hz, hj, hcj, places, Value.cells, ty27, ty3, ty33, ty4, ty47, ty5, ty50, ty51, ty9, hov, Msg.v] <;> rfl)) rfl <|
              OSuf.aop tyOK rfl (so_load (by simp only [lk] <;> rfl) (by simp (disch := first | assumption | omega | (simp only [nx] <;> omega) | fail) only [aLoad, ty5, rowOf, hpl, hc, and_self, if_true, Int.toNat_natCast, hg1, Nat.mul_one, Nat.zero_add, hz, hj, hcj, places, Value.cells, ty27, ty3, ty33, ty4, ty47, ty5, ty50, ty51, ty9, hov, Msg.v] <;> rfl)) rfl <|
              OSuf.aop tyOK rfl (so_conw (so_conv tyOK (by simp only [lk] <;> rfl) ty5 ⟨_, rfl⟩ ty3 rfl) (by first | (simp only [w1, w2, w3, w4] <;> rfl) | rfl)) rfl <|
              OSuf.aop tyOK rfl (so_bin (by simp only [lk] <;> rfl) (by simp only [lk] <;> rfl) (bi_w (bi_rem (by decide)) (by first | (simp only [w1, w2, w3, w4] <;> rfl) | rfl))) rfl <|
              OSuf.aop tyOK rfl (so_assign (by simp only [lk] <;> rfl)) rfl <|
              OSuf.nil <| SQ.normal ?_
          refine W.seq <| W.reg <| 
              OSuf.aop tyOK rfl (so_move (by simp only [lk] <;> rfl)) rfl <|
              OSuf.aop tyOK rfl (so_move (by simp only [lk] <;> rfl)) rfl <|
              OSuf.aop tyOK rfl (so_conw (so_conv tyOK (by simp only [lk] <;> rfl) ty3 ⟨_, rfl⟩ ty27 rfl) (by first | (simp only [w1, w2, w3, w4] <;> rfl) | rfl)) rfl <|
              OSuf.aop tyOK rfl (so_bin (by simp only [lk] <;> rfl) (by simp only [lk] <;> rfl) (bi_w bi_add (by first | (simp only [w1, w2, w3, w4] <;> rfl) | rfl))) rfl <|
              OSuf.callD rfl (by simp only [aopnds, lk] <;> rfl) en9 (answer_none _ (h0.next + 1) S hA _ hf) rfl <|
              OSuf.aop tyOK rfl (so_move (by simp only [lk] <;> rfl)) rfl <|
              OSuf.aop tyOK rfl (so_extract (by simp only [lk] <;> rfl) (by simp (disch := first | assumption | omega | (simp only [nx] <;> omega) | fail) only [aExtract, hpl, hc, and_self, if_true, Int.toNat_natCast, hg1, Nat.mul_one, Nat.zero_add, hz, hj, hcj, places, Value.cells, ty27, ty3, ty33, ty4, ty47, ty5, ty50, ty51, ty9, hov, Msg.v] <;> rfl)) rfl <|
              OSuf.aopF tyOK rfl (so_extract (by simp only [lk] <;> rfl) (by simp (disch := first | assumption | omega | (simp only [nx] <;> omega) | fail) only [aExtract, hpl, hc, and_self, if_true, Int.toNat_natCast, hg1, Nat.mul_one, Nat.zero_add, hz, hj, hcj, places, Value.cells, ty27, ty3, ty33, ty4, ty47, ty5, ty50, ty51, ty9, hov, Msg.v] <;> rfl)) (fun _ => rfl) (by first | rfl | assumption | ((simp only [bl, hc, and_self, if_true, Int.toNat_natCast, hg1, Nat.mul_one, Nat.zero_add, hz, hj, hcj, places, Value.cells, ty27, ty3, ty33, ty4, ty47, ty5, ty50, ty51, ty9, hov, Msg.v]) <;> first | done | assumption | omega) | (simp [hc, and_self, if_true, Int.toNat_natCast, hg1, Nat.mul_one, Nat.zero_add, hz, hj, hcj, places, Value.cells, ty27, ty3, ty33, ty4, ty47, ty5, ty50, ty51, ty9, hov, Msg.v]; done) | (simp [hc, and_self, if_true, Int.toNat_natCast, hg1, Nat.mul_one, Nat.zero_add, hz, hj, hcj, places, Value.cells, ty27, ty3, ty33, ty4, ty47, ty5, ty50, ty51, ty9, hov, Msg.v]; omega)) <|
              OSuf.aop tyOK rfl (so_alloc (by simp only [aAlloc, ty33] <;> rfl)) rfl <|
              OSuf.aop tyOK rfl (so_store (by simp only [lk] <;> rfl) (by simp only [lk] <;> rfl) (by simp (disch := first | assumption | omega | (simp only [nx] <;> omega) | fail) only [aStore, ty33, writeRow, hpl, hc, and_self, if_true, Int.toNat_natCast, hg1, Nat.mul_one, Nat.zero_add, hz, hj, hcj, places, Value.cells, ty27, ty3, ty33, ty4, ty47, ty5, ty50, ty51, ty9, hov, Msg.v] <;> rfl)) rfl <|
              OSuf.aopF tyOK rfl (so_assign (by simp only [lk] <;> rfl)) (fun _ => rfl) rfl <|
              OSuf.nil <| SQ.normal ?_
          refine W.seq <| W.seq <| W.reg <| 
              OSuf.aopF tyOK rfl (so_move (by simp only [lk] <;> rfl)) (fun _ => rfl) rfl <|
              OSuf.aop tyOK rfl (so_move (by simp only [lk] <;> rfl)) rfl <|
              OSuf.aop tyOK rfl (so_move (by simp only [lk] <;> rfl)) rfl <|
              OSuf.aopF tyOK rfl (so_bin (by simp only [lk] <;> rfl) (by simp only [lk] <;> rfl) bi_lss) (fun _ => rfl) (by first | rfl | assumption | ((simp only [bl, hc, and_self, if_true, Int.toNat_natCast, hg1, Nat.mul_one, Nat.zero_add, hz, hj, hcj, places, Value.cells, ty27, ty3, ty33, ty4, ty47, ty5, ty50, ty51, ty9, hov, Msg.v]) <;> first | done | assumption | omega) | (simp [hc, and_self, if_true, Int.toNat_natCast, hg1, Nat.mul_one, Nat.zero_add, hz, hj, hcj, places, Value.cells, ty27, ty3, ty33, ty4, ty47, ty5, ty50, ty51, ty9, hov, Msg.v]; done) | (simp [hc, and_self, if_true, Int.toNat_natCast, hg1, Nat.mul_one, Nat.zero_add, hz, hj, hcj, places, Value.cells, ty27, ty3, ty33, ty4, ty47, ty5, ty50, ty51, ty9, hov, Msg.v]; omega)) <|
              OSuf.aopF tyOK rfl (so_move (by simp only [lk] <;> rfl)) (fun _ => rfl) rfl <|
              OSuf.pass (aguard_of rfl rfl (by simp only [lk] <;> rfl) rfl) rfl <|
              OSuf.pass (aguard_of rfl rfl (by simp only [lk] <;> rfl) rfl) rfl <|
              OSuf.pass (aguard_of rfl rfl (by simp only [lk] <;> rfl) rfl) rfl <|
              OSuf.pass (aguard_of rfl rfl (by simp only [lk] <;> rfl) rfl) rfl <|
              OSuf.aopF tyOK rfl (so_pick (by simp only [lk] <;> rfl) (by simp only [lk, cond_true, cond_false] <;> rfl)) (fun _ => rfl) rfl <|
              OSuf.aopF tyOK rfl (so_bin (by simp only [lk] <;> rfl) (by simp only [lk] <;> rfl) (bb_neq tyOK ty4 rfl)) (fun _ => rfl) (by first | rfl | assumption | ((simp only [bl, hc, and_self, if_true, Int.toNat_natCast, hg1, Nat.mul_one, Nat.zero_add, hz, hj, hcj, places, Value.cells, ty27, ty3, ty33, ty4, ty47, ty5, ty50, ty51, ty9, hov, Msg.v]) <;> first | done | assumption | omega) | (simp [hc, and_self, if_true, Int.toNat_natCast, hg1, Nat.mul_one, Nat.zero_add, hz, hj, hcj, places, Value.cells, ty27, ty3, ty33, ty4, ty47, ty5, ty50, ty51, ty9, hov, Msg.v]; done) | (simp [hc, and_self, if_true, Int.toNat_natCast, hg1, Nat.mul_one, Nat.zero_add, hz, hj, hcj, places, Value.cells, ty27, ty3, ty33, ty4, ty47, ty5, ty50, ty51, ty9, hov, Msg.v]; omega)) <|
              OSuf.nil <| SQ.normal ?_
          refine W.no (by simp only [lk] <;> rfl) <| CWp.skip <| SQ.normal ?_
          refine W.seq <| W.seq <| W.reg <| 
              OSuf.aopF tyOK rfl (so_move (by simp only [lk] <;> rfl)) (fun _ => rfl) rfl <|
              OSuf.nil <| SQ.normal ?_
          refine W.no (by simp only [lk] <;> rfl) <| CWp.skip <| SQ.normal ?_
          refine W.seq <| W.reg <| 
              OSuf.aop tyOK rfl (so_move (by simp only [lk] <;> rfl)) rfl <|
              OSuf.callD rfl (by simp only [aopnds, lk] <;> rfl) en20 (len_c _ (h0.next + 1) S (hA.mono (by simp only [nx]; omega) (fun z hz => by simp (disch := first | assumption | omega | (simp only [nx] <;> omega) | fail) only [hpl]))) rfl <|
              OSuf.aop tyOK rfl (so_move (by simp only [lk] <;> rfl)) rfl <|
              OSuf.aopF tyOK rfl (so_bin (by simp only [lk] <;> rfl) (by simp only [lk] <;> rfl) bi_neq) (fun _ => rfl) (by first | rfl | assumption | ((simp only [bl, hc, and_self, if_true, Int.toNat_natCast, hg1, Nat.mul_one, Nat.zero_add, hz, hj, hcj, places, Value.cells, ty27, ty3, ty33, ty4, ty47, ty5, ty50, ty51, ty9, hov, Msg.v]) <;> first | done | assumption | omega) | (simp [hc, and_self, if_true, Int.toNat_natCast, hg1, Nat.mul_one, Nat.zero_add, hz, hj, hcj, places, Value.cells, ty27, ty3, ty33, ty4, ty47, ty5, ty50, ty51, ty9, hov, Msg.v]; done) | (simp [hc, and_self, if_true, Int.toNat_natCast, hg1, Nat.mul_one, Nat.zero_add, hz, hj, hcj, places, Value.cells, ty27, ty3, ty33, ty4, ty47, ty5, ty50, ty51, ty9, hov, Msg.v]; omega)) <|
              OSuf.nil <| SQ.normal ?_
          refine W.no (by simp only [lk] <;> rfl) <| CWp.skip <| BQ.normal <| SQ.normal ?_
          refine W.reg <| 
              OSuf.aop tyOK rfl (so_move (by simp only [lk] <;> rfl)) rfl <|
              OSuf.aop tyOK rfl (so_bin (by simp only [lk] <;> rfl) (by simp only [lk] <;> rfl) (bi_w bi_add (by first | (simp only [w1, w2, w3, w4] <;> rfl) | rfl))) rfl <|
              OSuf.aop tyOK rfl (so_assign (by simp only [lk] <;> rfl)) rfl <|
              OSuf.nil <| ?_
          -- leaf: round
          refine LQ.normal (m := n - 1) (L := [(0, .slice b1 ks.length 0), (1, .slice (some ⟨r, 0, none⟩) l2.length 0), (5, P0 (h0.next + 1)), (6, I64 N), (7, P0 (h0.next + 2)), (9, I64 S.qs.length), (10, I64 (k + 1 : Nat))]) (by omega) ?_
            ⟨k + 1, S, ov, by omega, hA.mono (by simp only [nx]; omega) (fun z hz => by simp (disch := first | assumption | omega | (simp only [nx] <;> omega) | fail) only [hpl]), hm, hql, hO, by simp only [nx]; omega, ?_, ⟨?_, fun p vs hp hgp => ?_⟩, rfl⟩
          · simp only [HasA, Tr.get_put, Nat.reduceEqDiff, reduceIte, w2, and_self]
          · simp (disch := first | assumption | omega | (simp only [nx] <;> omega) | fail) only [hpl]; exact hov
          · have := hR.1; simp only [nx]; omega
          · have := hR.1
            simp (disch := first | assumption | omega | (simp only [nx] <;> omega) | fail) only [hpl]; exact hR.2 p vs hp hgp
      · refine W.seq <| W.seq <| W.reg <| 
            OSuf.aop tyOK rfl (so_move (by simp only [lk] <;> rfl)) rfl <|
            OSuf.aop tyOK rfl (so_move (by simp only [lk] <;> rfl)) rfl <|
            OSuf.aop tyOK rfl (so_len (by simp only [aopnds, lk] <;> rfl) (by simp (disch := first | assumption | omega | (simp only [nx] <;> omega) | fail) only [aLenOf, ty47, hpl] <;> rfl)) rfl <|
            OSuf.aopT tyOK rfl (so_bin (by simp only [lk] <;> rfl) (by simp only [lk] <;> rfl) bi_lss) (fun _ => rfl) (by first | rfl | assumption | ((simp only [bl]) <;> first | done | assumption | omega) | (simp []; done) | (simp []; omega)) <|
            OSuf.aopT tyOK rfl (so_move (by simp only [lk] <;> rfl)) (fun _ => rfl) rfl <|
            OSuf.aop tyOK (aguard_of rfl rfl (by simp only [lk] <;> rfl) rfl) (so_move (by simp only [lk] <;> rfl)) rfl <|
            OSuf.aopF tyOK (aguard_of rfl rfl (by simp only [lk] <;> rfl) rfl) (so_bin (by simp only [lk] <;> rfl) (by simp only [lk] <;> rfl) bi_lss) (fun _ => rfl) (by first | rfl | assumption | ((simp only [bl]) <;> first | done | assumption | omega) | (simp []; done) | (simp []; omega)) <|
            OSuf.aopF tyOK rfl (so_pick (by simp only [lk] <;> rfl) (by simp only [lk, cond_true, cond_false] <;> rfl)) (fun _ => rfl) rfl <|
            OSuf.nil <| SQ.normal ?_
        refine W.no (by simp only [lk] <;> rfl) <| CWp.exit <| SQ.exit <| LQ.exit <| BQ.exit <| ?_
        -- leaf: cut
        exact NQ.normal (L := []) trivial rfl
    · refine W.seq <| W.seq <| W.reg <| 
          OSuf.aop tyOK rfl (so_move (by simp only [lk] <;> rfl)) rfl <|
          OSuf.aop tyOK rfl (so_move (by simp only [lk] <;> rfl)) rfl <|
          OSuf.aop tyOK rfl (so_len (by simp only [aopnds, lk] <;> rfl) (by simp (disch := first | assumption | omega | (simp only [nx] <;> omega) | fail) only [aLenOf, ty47, hpl] <;> rfl)) rfl <|
          OSuf.aopF tyOK rfl (so_bin (by simp only [lk] <;> rfl) (by simp only [lk] <;> rfl) bi_lss) (fun _ => rfl) (by first | rfl | assumption | ((simp only [bl]) <;> first | done | assumption | omega) | (simp []; done) | (simp []; omega)) <|
          OSuf.aopF tyOK rfl (so_move (by simp only [lk] <;> rfl)) (fun _ => rfl) rfl <|
          OSuf.pass (aguard_of rfl rfl (by simp only [lk] <;> rfl) rfl) rfl <|
          OSuf.pass (aguard_of rfl rfl (by simp only [lk] <;> rfl) rfl) rfl <|
          OSuf.aopF tyOK rfl (so_pick (by simp only [lk] <;> rfl) (by simp only [lk, cond_true, cond_false] <;> rfl)) (fun _ => rfl) rfl <|
          OSuf.nil <| SQ.normal ?_
      refine W.no (by simp only [lk] <;> rfl) <| CWp.exit <| SQ.exit <| LQ.exit <| BQ.exit <| ?_
      -- leaf: cut
      exact NQ.normal (L := []) trivial rfl
  rintro L a' h ha rfl
  refine SQ.normal <| CWp.known ha ?_
  simp only [mkA]
  refine W.seq <| W.reg <| 
      OSuf.aopT tyOK rfl (so_assign (by simp only [lk] <;> rfl)) (fun _ => rfl) rfl <|
      OSuf.nil <| SQ.normal ?_
  refine CWp.ret <| FQ.ret (by simp only [aRet, Try.f5, aResults, aResult, lk, Nat.reduceEqDiff, reduceIte] <;> rfl) ?_
  -- leaf: end
  rfl
end Go.Proofs.Ytmokbpphniafpaa
