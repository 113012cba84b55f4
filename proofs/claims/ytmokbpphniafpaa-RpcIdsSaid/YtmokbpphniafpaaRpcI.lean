/-
  The law RpcIds, walked.
-/
import Derived.Test.YtmokbpphniafpaaRpcO
import Derived.Test.YtmokbpphniafpaaRpcD
namespace Go.Proofs.Ytmokbpphniafpaa
open Go.Ab
set_option linter.unusedSimpArgs false
set_option linter.unusedVariables false
set_option maxRecDepth 10000
set_option maxHeartbeats 4000000

theorem find_map {f : Qn → Qn} (hf : ∀ q, (f q).id = q.id) (id : Int) : ∀ qs : List Qn, findQ id (qs.map f) = (findQ id qs).map f
  | [] => rfl
  | q :: qs => by
    have ih := find_map hf id qs
    unfold findQ at ih ⊢
    simp only [List.map_cons, List.find?_cons, hf]
    cases q.id == id
    · exact ih
    · rfl
/-- Which are open, and what is told of them. -/
structure Op2 (V : Nat) (ov : List Bool) (S : RS) : Prop where
  len : ov.length = 101
  rows : ∀ q ∈ S.qs, ¬ q.row = V
  is : ∀ k : Nat, k < 101 → ov[k]? = some (findQ k S.qs).isSome
  ats : ∀ q ∈ S.qs, 0 ≤ q.at_ ∧ q.at_ < 18446744073709551616
theorem Op2.map {V : Nat} {ov : List Bool} {S : RS} (o : Op2 V ov S) {f : Qn → Qn} (h1 : ∀ q, (f q).id = q.id) (h2 : ∀ q, (f q).row = q.row) (h3 : ∀ q ∈ S.qs, 0 ≤ (f q).at_ ∧ (f q).at_ < 18446744073709551616) : Op2 V ov { S with qs := S.qs.map f } := by
  refine ⟨o.len, fun q hq => ?_, fun k hk => ?_, fun q hq => ?_⟩
  · obtain ⟨x, hx, rfl⟩ := List.mem_map.1 hq
    rw [h2]; exact o.rows x hx
  · rw [o.is k hk, find_map h1]; simp
  · obtain ⟨x, hx, rfl⟩ := List.mem_map.1 hq
    exact h3 x hx
theorem Op2.del {V : Nat} {ov : List Bool} {S : RS} (o : Op2 V ov S) {id : Nat} (hid : id < 101) : Op2 V (ov.set id false) ⟨S.last, delQ id S.qs, S.clock, S.m⟩ := by
  refine ⟨by simp [o.len], fun q hq => o.rows q (List.mem_filter.1 hq).1, fun k hk => ?_, fun q hq => o.ats q (List.mem_filter.1 hq).1⟩
  rw [find_del, List.getElem?_set]
  by_cases hk2 : id = k
  · subst hk2
    simp [o.len, hid]
  · rw [if_neg hk2, if_neg (by omega)]; exact o.is k hk
theorem Op2.ask {V : Nat} {ov : List Bool} {S : RS} (o : Op2 V ov S) {n w c : Nat} {m : Msg} (hn : S.last + 1 = n) (hn1 : n < 101) (hw : ¬ w = V) (hid : ∀ q ∈ S.qs, q.id ≤ S.last) :
    Op2 V (ov.set n true) ⟨S.last + 1, S.qs ++ [⟨S.last + 1, w, c, { m with id := S.last + 1 }, false, 0⟩], c + 1, S.m⟩ := by
  refine ⟨by simp [o.len], fun q hq => ?_, fun k hk => ?_, fun q hq => ?_⟩
  · rcases List.mem_append.1 hq with h9 | h9
    · exact o.rows q h9
    · simp at h9; subst h9; exact hw
  · have h0 := o.is k hk
    rw [List.getElem?_set]
    unfold findQ at h0 ⊢
    rw [List.find?_append]
    by_cases hk2 : n = k
    · subst hk2
      have : S.qs.find? (fun q => q.id == (n : Int)) = none := List.find?_eq_none.2 fun q hq => by have := hid q hq; simp; omega
      rw [this]
      simp [o.len, hk, hn]
    · rw [if_neg hk2, h0]
      have : ((S.last + 1 : Int) == (k : Int)) = false := by simp; omega
      cases hx : S.qs.find? (fun q => q.id == (k : Int)) <;> simp [this]
  · rcases List.mem_append.1 hq with h9 | h9
    · exact o.ats q h9
    · simp at h9; subst h9; exact ⟨by simp, by simp⟩

theorem del_none {id : Int} {qs : List Qn} (hf : findQ id qs = none) : delQ id qs = qs :=
  List.filter_eq_self.2 fun q hq => by have := List.find?_eq_none.1 hf q hq; simpa using this
theorem ids_c (h0 : AHeap) (b : Option Addr) (l : List Int) (hL : l.length ≤ maxLen)
    (hr : ∀ i, i < l.length → ∃ r z, b = some ⟨r, 0, none⟩ ∧ r < h0.next ∧ h0.get r = some (.ro (l.map (Value.int .u8))) ∧ l[i]? = some z ∧ (l.map (Value.int .u8))[i]? = some (.int .u8 z) ∧ (Lit.int .u8 z).wf = true) :
    FWp Try.prog 6 [.slice b l.length 0] h0 fun u _ => u = .bool true := by
  have hml : maxLen = 9223372036854775807 := rfl
  refine W.enter tyOK Try.func6 rfl rfl ?_
  simp only [entry]
  refine W.seq <| W.reg <| 
      OSuf.aopF tyOK rfl (so_assign (by simp only [lk] <;> rfl)) (fun _ => rfl) rfl <|
      OSuf.nil <| SQ.normal ?_
  refine W.seq <| W.seq <| W.reg <| 
      OSuf.callD rfl (by simp only [aopnds, lk] <;> rfl) en21 (works_c _) rfl <|
      OSuf.aopF tyOK rfl (so_not (by simp only [lk] <;> rfl)) (fun _ => rfl) rfl <|
      OSuf.nil <| SQ.normal ?_
  refine W.no (by simp only [lk] <;> rfl) <| CWp.skip <| SQ.normal ?_
  refine W.seq <| W.reg <| 
      OSuf.callD rfl (by simp only [aopnds, lk] <;> rfl) en8 (new_c _) rfl <|
      OSuf.aop tyOK rfl (so_assign (by simp only [lk] <;> rfl)) rfl <|
      OSuf.nil <| SQ.normal ?_
  refine W.seq <| W.reg <| 
      OSuf.aop tyOK rfl (so_assign (by simp only [lk] <;> rfl)) rfl <|
      OSuf.aop tyOK rfl (so_assign (by simp only [lk] <;> rfl)) rfl <|
      OSuf.nil <| SQ.normal ?_
  refine W.seq <| W.reg <| 
      OSuf.aop tyOK rfl (so_alloc (by simp only [aAlloc, ty53] <;> rfl)) rfl <|
      OSuf.nil <| SQ.normal ?_
  refine W.seq <| W.seq <| W.reg <| 
      OSuf.aop tyOK rfl (so_assign (by simp only [lk] <;> rfl)) rfl <|
      OSuf.nil <| SQ.normal ?_
  -- leaf: loop
  have o0 : Op2 (h0.next + 2) (List.replicate 101 false) ⟨0, [], 0, h0.next⟩ := ⟨rfl, by simp, fun k hk => by rw [List.getElem?_replicate, if_pos hk]; rfl, by simp⟩
  refine W.cut (fun L h => L = []) (W.block (W.loop (fun n L h => ∃ (k : Nat) (S : RS) (ov : List Bool), n + k = l.length ∧ RA h (h0.next + 1) S ∧ S.m = h0.next ∧ S.qs.length ≤ k ∧ k ≤ 100 ∧ S.last ≤ k ∧ Op2 (h0.next + 2) ov S ∧ h0.next + 2 < h.next ∧ h.get (h0.next + 2) = some (.cells (ov.map Value.bool) 1) ∧ Ro h0 h ∧
      L = [(0, .slice b l.length 0), (3, P0 (h0.next + 1)), (4, U64 (S.last + 1)), (5, I64 S.qs.length), (6, P0 (h0.next + 2)), (7, I64 k)]) (n := l.length)
    ⟨0, _, _, by omega, (new_ra h0).mono (by simp) (fun z hz => AHeap.get_new_ne (by omega)), rfl, by simp, by omega, by simp, o0, by simp, AHeap.get_new_at (by simp), ⟨by simp; omega, fun q vs hq hg => by rw [AHeap.get_new_ne (by simp; omega), AHeap.get_new_ne (by simp; omega), AHeap.get_new_ne (by omega)]; exact hg⟩, rfl⟩ ?_ ?_)) ?_
  · simp [HasA, Tr.get_put]
  · rintro n L h ⟨k, S, ov, hn, hA, hm, hql, hk100, hl, hO, hv, hov, hR, rfl⟩
    simp only [mkA]
    by_cases h1 : (k : Int) < (l.length : Int)
    · by_cases h2 : (k : Int) < 100
      · obtain ⟨r, z, rfl, hrn, hg, _, hz, hwf⟩ := hr k (by omega)
        have hg1 := hR.2 r _ hrn hg
        have hc : (0 ≤ (k : Int) ∧ (k : Int) < (l.length : Int)) := by omega
        have hz0 := lit_u8 hwf
        have hl0 := hA.l0
        have h8 : z.fdiv (2 ^ (min (3 : Int).toNat IntKind.u8.bits)) = z / 8 := by
          rw [show (2 : Int) ^ (min (3 : Int).toNat IntKind.u8.bits) = 8 from rfl, Int.fdiv_eq_ediv_of_nonneg _ (by omega)]
        have w1 : IntKind.u64.wrap (z / 8) = z / 8 := wrap_u64 (by omega) (by omega)
        have hlast : S.last + 1 ≠ 0 := by omega
        obtain ⟨id, hid, hid2⟩ : ∃ id : Nat, (z / 8).tmod (S.last + 1) = id ∧ (id : Int) ≤ S.last := by
          have e := Int.tmod_eq_emod_of_nonneg (a := z / 8) (by omega) (b := S.last + 1)
          have e1 := Int.emod_nonneg (z / 8) hlast
          have e2 := Int.emod_lt_of_pos (z / 8) (b := S.last + 1) (by omega)
          exact ⟨((z / 8).tmod (S.last + 1)).toNat, by omega, by omega⟩
        have w2 : IntKind.i64.wrap ((k : Int) + 1) = ((k + 1 : Nat) : Int) := by rw [wrap_i64 (by omega) (by omega)]; omega
        have hm8 : 0 ≤ z.tmod 8 ∧ z.tmod 8 < 8 := by rw [Int.tmod_eq_emod_of_nonneg hz0.1]; omega
        have keep : ∀ h2, FrR h h2 (h0.next + 1) S → h0.next + 2 < h2.next ∧ h2.get (h0.next + 2) = some (.cells (ov.map Value.bool) 1) := fun h2 f => ⟨Nat.lt_of_lt_of_le hv f.1, by rw [f.2 _ hv (by omega) (by omega) hO.rows]; exact hov⟩
        have hi1 : id < 101 := by omega
        have hcj : (id : Int) < ((101 : Nat) : Int) := by omega
        have hble : ∀ (x : Bool) (j : Nat), j < 101 → (j + [Value.bool x].length).ble (List.map Value.bool ov).length = true := fun x j hj => Nat.ble_eq_true_of_le (by simp [hO.len]; omega)
        have hspl : ∀ (x : Bool) (j : Nat), j < 101 → splice (ov.map Value.bool) j [Value.bool x] = (ov.set j x).map Value.bool := fun x j hj => by
          have := arr_set Value.bool (d := ov.toArray) (i := j) x (by simp [hO.len]; omega)
          simpa using this
        have other : ∀ (h2 : AHeap) (S2 : RS) (o : AObj), RA h2 (h0.next + 1) S2 → S2.m = h0.next → (∀ q ∈ S2.qs, ¬ q.row = h0.next + 2) → RA (h2.set (h0.next + 2) o) (h0.next + 1) S2 := fun h2 S2 o a b c => a.other (V := h0.next + 2) (by simp only [nx]; exact Nat.le_refl _) (by omega) (by omega) c (fun z _ hz => AHeap.get_set_ne fun e => hz e.symm)
        have ro2 : ∀ (h2 : AHeap) (o : AObj), Ro h0 h2 → Ro h0 (h2.set (h0.next + 2) o) := fun h2 o a => ⟨by simp only [nx]; exact a.1, fun p vs hp hg => by rw [AHeap.get_set_ne (by omega)]; exact a.2 p vs hp hg⟩
        by_cases c0 : z.tmod 8 = 0
        · refine W.seq <| W.seq <| W.reg <| 
              OSuf.aop tyOK rfl (so_move (by simp only [lk] <;> rfl)) rfl <|
              OSuf.aop tyOK rfl (so_move (by simp only [lk] <;> rfl)) rfl <|
              OSuf.aop tyOK rfl (so_len (by simp only [aopnds, lk] <;> rfl) (by simp (disch := first | assumption | omega | (simp only [nx] <;> omega) | fail) only [aLenOf, ty47, hpl, hc, and_self, if_true, Int.toNat_natCast, hg1, Nat.mul_one, Nat.zero_add, hz] <;> rfl)) rfl <|
              OSuf.aopT tyOK rfl (so_bin (by simp only [lk] <;> rfl) (by simp only [lk] <;> rfl) bi_lss) (fun _ => rfl) (by first | rfl | assumption | ((simp only [bl, hc, and_self, if_true, Int.toNat_natCast, hg1, Nat.mul_one, Nat.zero_add, hz]) <;> first | done | assumption | omega) | (simp [hc, and_self, if_true, Int.toNat_natCast, hg1, Nat.mul_one, Nat.zero_add, hz]; done) | (simp [hc, and_self, if_true, Int.toNat_natCast, hg1, Nat.mul_one, Nat.zero_add, hz]; omega)) <|
              OSuf.aopT tyOK rfl (so_move (by simp only [lk] <;> rfl)) (fun _ => rfl) rfl <|
              OSuf.aop tyOK (aguard_of rfl rfl (by simp only [lk] <;> rfl) rfl) (so_move (by simp only [lk] <;> rfl)) rfl <|
              OSuf.aopT tyOK (aguard_of rfl rfl (by simp only [lk] <;> rfl) rfl) (so_bin (by simp only [lk] <;> rfl) (by simp only [lk] <;> rfl) bi_lss) (fun _ => rfl) (by first | rfl | assumption | ((simp only [bl, hc, and_self, if_true, Int.toNat_natCast, hg1, Nat.mul_one, Nat.zero_add, hz]) <;> first | done | assumption | omega) | (simp [hc, and_self, if_true, Int.toNat_natCast, hg1, Nat.mul_one, Nat.zero_add, hz]; done) | (simp [hc, and_self, if_true, Int.toNat_natCast, hg1, Nat.mul_one, Nat.zero_add, hz]; omega)) <|
              OSuf.aopT tyOK rfl (so_pick (by simp only [lk] <;> rfl) (by simp only [lk, cond_true, cond_false] <;> rfl)) (fun _ => rfl) rfl <|
              OSuf.nil <| SQ.normal ?_
          refine W.yes (by simp only [lk] <;> rfl) <| CWp.skip <| SQ.normal ?_
          refine W.seq <| W.block <| W.seq <| W.reg <| 
              OSuf.aop tyOK rfl (so_move (by simp only [lk] <;> rfl)) rfl <|
              OSuf.aop tyOK rfl (so_move (by simp only [lk] <;> rfl)) rfl <|
              OSuf.aop tyOK rfl (so_indexAddr (by simp only [lk] <;> rfl) (by simp only [lk] <;> rfl) (by simp (disch := first | assumption | omega | (simp only [nx] <;> omega) | fail) only [aIndexAddr, ty47, ty5, hpl, hc, and_self, if_true, Int.toNat_natCast, hg1, Nat.mul_one, Nat.zero_add, hz] <;> rfl)) rfl <|
              OSuf.aop tyOK rfl (so_load (by simp only [lk] <;> rfl) (by simp (disch := first | assumption | omega | (simp only [nx] <;> omega) | fail) only [aLoad, ty5, rowOf, hpl, hc, and_self, if_true, Int.toNat_natCast, hg1, Nat.mul_one, Nat.zero_add, hz] <;> rfl)) rfl <|
              OSuf.aop tyOK rfl (so_bin (by simp only [lk] <;> rfl) (by simp only [lk] <;> rfl) (bi_w (bi_shr (by decide)) (by first | (simp only [h8, w1, hid, w2] <;> rfl) | rfl))) rfl <|
              OSuf.aop tyOK rfl (so_conw (so_conv tyOK (by simp only [lk] <;> rfl) ty5 ⟨_, rfl⟩ ty27 rfl) (by first | (simp only [h8, w1, hid, w2] <;> rfl) | rfl)) rfl <|
              OSuf.aop tyOK rfl (so_move (by simp only [lk] <;> rfl)) rfl <|
              OSuf.aop tyOK rfl (so_bin (by simp only [lk] <;> rfl) (by simp only [lk] <;> rfl) (bi_w (bi_rem hlast) (by first | (simp only [h8, w1, hid, w2] <;> rfl) | rfl))) rfl <|
              OSuf.aop tyOK rfl (so_assign (by simp only [lk] <;> rfl)) rfl <|
              OSuf.nil <| SQ.normal ?_
          refine W.seq <| W.seq <| W.reg <| 
              OSuf.aop tyOK rfl (so_move (by simp only [lk] <;> rfl)) rfl <|
              OSuf.aop tyOK rfl (so_move (by simp only [lk] <;> rfl)) rfl <|
              OSuf.aop tyOK rfl (so_indexAddr (by simp only [lk] <;> rfl) (by simp only [lk] <;> rfl) (by simp (disch := first | assumption | omega | (simp only [nx] <;> omega) | fail) only [aIndexAddr, ty47, ty5, hpl, hc, and_self, if_true, Int.toNat_natCast, hg1, Nat.mul_one, Nat.zero_add, hz] <;> rfl)) rfl <|
              OSuf.aop tyOK rfl (so_load (by simp only [lk] <;> rfl) (by simp (disch := first | assumption | omega | (simp only [nx] <;> omega) | fail) only [aLoad, ty5, rowOf, hpl, hc, and_self, if_true, Int.toNat_natCast, hg1, Nat.mul_one, Nat.zero_add, hz] <;> rfl)) rfl <|
              OSuf.aop tyOK rfl (so_bin (by simp only [lk] <;> rfl) (by simp only [lk] <;> rfl) (bi_w (bi_rem (by decide)) (by first | (simp only [h8, w1, hid, w2] <;> rfl) | rfl))) rfl <|
              OSuf.nil <| SQ.normal ?_
          refine W.block <| W.seq <| W.reg <| 
              OSuf.aopT tyOK rfl (so_bin (by simp only [lk] <;> rfl) (by simp only [lk] <;> rfl) bi_eql) (fun _ => rfl) (by first | rfl | assumption | ((simp only [bl, hc, and_self, if_true, Int.toNat_natCast, hg1, Nat.mul_one, Nat.zero_add, hz]) <;> first | done | assumption | omega) | (simp [hc, and_self, if_true, Int.toNat_natCast, hg1, Nat.mul_one, Nat.zero_add, hz]; done) | (simp [hc, and_self, if_true, Int.toNat_natCast, hg1, Nat.mul_one, Nat.zero_add, hz]; omega)) <|
              OSuf.aopT tyOK rfl (so_assign (by simp only [lk] <;> rfl)) (fun _ => rfl) rfl <|
              OSuf.nil <| SQ.normal ?_
          refine W.yes (by simp only [lk] <;> rfl) <| W.reg <| 
              OSuf.aop tyOK rfl (so_move (by simp only [lk] <;> rfl)) rfl <|
              OSuf.call rfl (by simp only [aopnds, lk] <;> rfl) en16 (again_c _ (h0.next + 1) S hA (by omega)) ?_
          rintro _ h2 ⟨hA2, hF2⟩
          refine ⟨_, rfl, ?_⟩
          refine 
              OSuf.nil <| BQ.normal <| SQ.normal ?_
          refine W.seq <| W.reg <| 
              OSuf.aop tyOK rfl (so_move (by simp only [lk] <;> rfl)) rfl <|
              OSuf.callD rfl (by simp only [aopnds, lk] <;> rfl) en20 (len_c _ (h0.next + 1) _ hA2) rfl <|
              OSuf.aop tyOK rfl (so_move (by simp only [lk] <;> rfl)) rfl <|
              OSuf.aopF tyOK rfl (so_bin (by simp only [lk] <;> rfl) (by simp only [lk] <;> rfl) bi_neq) (fun _ => rfl) (by simp) <|
              OSuf.nil <| SQ.normal ?_
          refine W.no (by simp only [lk] <;> rfl) <| CWp.skip <| BQ.normal <| SQ.normal ?_
          refine W.reg <| 
              OSuf.aop tyOK rfl (so_move (by simp only [lk] <;> rfl)) rfl <|
              OSuf.aop tyOK rfl (so_bin (by simp only [lk] <;> rfl) (by simp only [lk] <;> rfl) (bi_w bi_add (by first | (simp only [h8, w1, hid, w2] <;> rfl) | rfl))) rfl <|
              OSuf.aop tyOK rfl (so_assign (by simp only [lk] <;> rfl)) rfl <|
              OSuf.nil <| ?_
          -- leaf: round
          refine LQ.normal (m := n - 1) (L := [(0, .slice (some ⟨r, 0, none⟩) l.length 0), (3, P0 (h0.next + 1)), (4, U64 (S.last + 1)), (5, I64 S.qs.length), (6, P0 (h0.next + 2)), (7, I64 (k + 1 : Nat))]) (by omega) ?_ ⟨k + 1, _, ov, by omega, hA2, hm, by simp; omega, by omega, by simp only; omega, hO.map (f := unask) (fun _ => rfl) (fun _ => rfl) hO.ats, (keep h2 hF2).1, (keep h2 hF2).2, hR.step hA hF2, by simp⟩
          · simp only [HasA, Tr.get_put, Nat.reduceEqDiff, reduceIte, w2, and_self, List.length_map]
        by_cases c1 : z.tmod 8 = 1
        · have w3 : IntKind.u64.wrap (k : Int) = k := wrap_u64 (by omega) (by omega)
          refine W.seq <| W.seq <| W.reg <| 
              OSuf.aop tyOK rfl (so_move (by simp only [lk] <;> rfl)) rfl <|
              OSuf.aop tyOK rfl (so_move (by simp only [lk] <;> rfl)) rfl <|
              OSuf.aop tyOK rfl (so_len (by simp only [aopnds, lk] <;> rfl) (by simp (disch := first | assumption | omega | (simp only [nx] <;> omega) | fail) only [aLenOf, ty47, hpl, hc, and_self, if_true, Int.toNat_natCast, hg1, Nat.mul_one, Nat.zero_add, hz] <;> rfl)) rfl <|
              OSuf.aopT tyOK rfl (so_bin (by simp only [lk] <;> rfl) (by simp only [lk] <;> rfl) bi_lss) (fun _ => rfl) (by first | rfl | assumption | ((simp only [bl, hc, and_self, if_true, Int.toNat_natCast, hg1, Nat.mul_one, Nat.zero_add, hz]) <;> first | done | assumption | omega) | (simp [hc, and_self, if_true, Int.toNat_natCast, hg1, Nat.mul_one, Nat.zero_add, hz]; done) | (simp [hc, and_self, if_true, Int.toNat_natCast, hg1, Nat.mul_one, Nat.zero_add, hz]; omega)) <|
              OSuf.aopT tyOK rfl (so_move (by simp only [lk] <;> rfl)) (fun _ => rfl) rfl <|
              OSuf.aop tyOK (aguard_of rfl rfl (by simp only [lk] <;> rfl) rfl) (so_move (by simp only [lk] <;> rfl)) rfl <|
              OSuf.aopT tyOK (aguard_of rfl rfl (by simp only [lk] <;> rfl) rfl) (so_bin (by simp only [lk] <;> rfl) (by simp only [lk] <;> rfl) bi_lss) (fun _ => rfl) (by first | rfl | assumption | ((simp only [bl, hc, and_self, if_true, Int.toNat_natCast, hg1, Nat.mul_one, Nat.zero_add, hz]) <;> first | done | assumption | omega) | (simp [hc, and_self, if_true, Int.toNat_natCast, hg1, Nat.mul_one, Nat.zero_add, hz]; done) | (simp [hc, and_self, if_true, Int.toNat_natCast, hg1, Nat.mul_one, Nat.zero_add, hz]; omega)) <|
              OSuf.aopT tyOK rfl (so_pick (by simp only [lk] <;> rfl) (by simp only [lk, cond_true, cond_false] <;> rfl)) (fun _ => rfl) rfl <|
              OSuf.nil <| SQ.normal ?_
          refine W.yes (by simp only [lk] <;> rfl) <| CWp.skip <| SQ.normal ?_
          refine W.seq <| W.block <| W.seq <| W.reg <| 
              OSuf.aop tyOK rfl (so_move (by simp only [lk] <;> rfl)) rfl <|
              OSuf.aop tyOK rfl (so_move (by simp only [lk] <;> rfl)) rfl <|
              OSuf.aop tyOK rfl (so_indexAddr (by simp only [lk] <;> rfl) (by simp only [lk] <;> rfl) (by simp (disch := first | assumption | omega | (simp only [nx] <;> omega) | fail) only [aIndexAddr, ty47, ty5, hpl, hc, and_self, if_true, Int.toNat_natCast, hg1, Nat.mul_one, Nat.zero_add, hz] <;> rfl)) rfl <|
              OSuf.aop tyOK rfl (so_load (by simp only [lk] <;> rfl) (by simp (disch := first | assumption | omega | (simp only [nx] <;> omega) | fail) only [aLoad, ty5, rowOf, hpl, hc, and_self, if_true, Int.toNat_natCast, hg1, Nat.mul_one, Nat.zero_add, hz] <;> rfl)) rfl <|
              OSuf.aop tyOK rfl (so_bin (by simp only [lk] <;> rfl) (by simp only [lk] <;> rfl) (bi_w (bi_shr (by decide)) (by first | (simp only [h8, w1, hid, w2, w3] <;> rfl) | rfl))) rfl <|
              OSuf.aop tyOK rfl (so_conw (so_conv tyOK (by simp only [lk] <;> rfl) ty5 ⟨_, rfl⟩ ty27 rfl) (by first | (simp only [h8, w1, hid, w2, w3] <;> rfl) | rfl)) rfl <|
              OSuf.aop tyOK rfl (so_move (by simp only [lk] <;> rfl)) rfl <|
              OSuf.aop tyOK rfl (so_bin (by simp only [lk] <;> rfl) (by simp only [lk] <;> rfl) (bi_w (bi_rem hlast) (by first | (simp only [h8, w1, hid, w2, w3] <;> rfl) | rfl))) rfl <|
              OSuf.aop tyOK rfl (so_assign (by simp only [lk] <;> rfl)) rfl <|
              OSuf.nil <| SQ.normal ?_
          refine W.seq <| W.seq <| W.reg <| 
              OSuf.aop tyOK rfl (so_move (by simp only [lk] <;> rfl)) rfl <|
              OSuf.aop tyOK rfl (so_move (by simp only [lk] <;> rfl)) rfl <|
              OSuf.aop tyOK rfl (so_indexAddr (by simp only [lk] <;> rfl) (by simp only [lk] <;> rfl) (by simp (disch := first | assumption | omega | (simp only [nx] <;> omega) | fail) only [aIndexAddr, ty47, ty5, hpl, hc, and_self, if_true, Int.toNat_natCast, hg1, Nat.mul_one, Nat.zero_add, hz] <;> rfl)) rfl <|
              OSuf.aop tyOK rfl (so_load (by simp only [lk] <;> rfl) (by simp (disch := first | assumption | omega | (simp only [nx] <;> omega) | fail) only [aLoad, ty5, rowOf, hpl, hc, and_self, if_true, Int.toNat_natCast, hg1, Nat.mul_one, Nat.zero_add, hz] <;> rfl)) rfl <|
              OSuf.aop tyOK rfl (so_bin (by simp only [lk] <;> rfl) (by simp only [lk] <;> rfl) (bi_w (bi_rem (by decide)) (by first | (simp only [h8, w1, hid, w2, w3] <;> rfl) | rfl))) rfl <|
              OSuf.nil <| SQ.normal ?_
          refine W.block <| W.seq <| W.reg <| 
              OSuf.aopF tyOK rfl (so_bin (by simp only [lk] <;> rfl) (by simp only [lk] <;> rfl) bi_eql) (fun _ => rfl) (by first | rfl | assumption | ((simp only [bl, hc, and_self, if_true, Int.toNat_natCast, hg1, Nat.mul_one, Nat.zero_add, hz]) <;> first | done | assumption | omega) | (simp [hc, and_self, if_true, Int.toNat_natCast, hg1, Nat.mul_one, Nat.zero_add, hz]; done) | (simp [hc, and_self, if_true, Int.toNat_natCast, hg1, Nat.mul_one, Nat.zero_add, hz]; omega)) <|
              OSuf.aopF tyOK rfl (so_assign (by simp only [lk] <;> rfl)) (fun _ => rfl) rfl <|
              OSuf.nil <| SQ.normal ?_
          refine W.no (by simp only [lk] <;> rfl) <| W.seq <| W.reg <| 
              OSuf.aopT tyOK rfl (so_bin (by simp only [lk] <;> rfl) (by simp only [lk] <;> rfl) bi_eql) (fun _ => rfl) (by first | rfl | assumption | ((simp only [bl, hc, and_self, if_true, Int.toNat_natCast, hg1, Nat.mul_one, Nat.zero_add, hz]) <;> first | done | assumption | omega) | (simp [hc, and_self, if_true, Int.toNat_natCast, hg1, Nat.mul_one, Nat.zero_add, hz]; done) | (simp [hc, and_self, if_true, Int.toNat_natCast, hg1, Nat.mul_one, Nat.zero_add, hz]; omega)) <|
              OSuf.aopT tyOK rfl (so_assign (by simp only [lk] <;> rfl)) (fun _ => rfl) rfl <|
              OSuf.nil <| SQ.normal ?_
          refine W.yes (by simp only [lk] <;> rfl) <| W.reg <| 
              OSuf.aop tyOK rfl (so_move (by simp only [lk] <;> rfl)) rfl <|
              OSuf.aop tyOK rfl (so_move (by simp only [lk] <;> rfl)) rfl <|
              OSuf.aop tyOK rfl (so_conw (so_conv tyOK (by simp only [lk] <;> rfl) ty3 ⟨_, rfl⟩ ty27 rfl) (by first | (simp only [h8, w1, hid, w2, w3] <;> rfl) | rfl)) rfl <|
              OSuf.call rfl (by simp only [aopnds, lk] <;> rfl) en14 (due_c _ (h0.next + 1) S hA (k : Int) (by omega) (by omega) (by omega) hO.ats) ?_
          rintro u h2 ⟨hA2, hF2, _⟩
          refine ⟨_, rfl, ?_⟩
          refine 
              OSuf.nil <| BQ.normal <| SQ.normal ?_
          refine W.seq <| W.reg <| 
              OSuf.aop tyOK rfl (so_move (by simp only [lk] <;> rfl)) rfl <|
              OSuf.callD rfl (by simp only [aopnds, lk] <;> rfl) en20 (len_c _ (h0.next + 1) _ hA2) rfl <|
              OSuf.aop tyOK rfl (so_move (by simp only [lk] <;> rfl)) rfl <|
              OSuf.aopF tyOK rfl (so_bin (by simp only [lk] <;> rfl) (by simp only [lk] <;> rfl) bi_neq) (fun _ => rfl) (by simp) <|
              OSuf.nil <| SQ.normal ?_
          refine W.no (by simp only [lk] <;> rfl) <| CWp.skip <| BQ.normal <| SQ.normal ?_
          refine W.reg <| 
              OSuf.aop tyOK rfl (so_move (by simp only [lk] <;> rfl)) rfl <|
              OSuf.aop tyOK rfl (so_bin (by simp only [lk] <;> rfl) (by simp only [lk] <;> rfl) (bi_w bi_add (by first | (simp only [h8, w1, hid, w2, w3] <;> rfl) | rfl))) rfl <|
              OSuf.aop tyOK rfl (so_assign (by simp only [lk] <;> rfl)) rfl <|
              OSuf.nil <| ?_
          -- leaf: round
          refine LQ.normal (m := n - 1) (L := [(0, .slice (some ⟨r, 0, none⟩) l.length 0), (3, P0 (h0.next + 1)), (4, U64 (S.last + 1)), (5, I64 S.qs.length), (6, P0 (h0.next + 2)), (7, I64 (k + 1 : Nat))]) (by omega) ?_ ⟨k + 1, _, ov, by omega, hA2, hm, by simp; omega, by omega, by simp only; omega, hO.map (f := stampq k) (fun q => (stampq_ent _ q).2.2.1) (fun q => (stampq_ent _ q).2.2.2.1) (fun q hq => by have := hO.ats q hq; unfold stampq; cases dueq k q <;> simp <;> omega), (keep h2 hF2).1, (keep h2 hF2).2, hR.step hA hF2, by simp⟩
          · simp only [HasA, Tr.get_put, Nat.reduceEqDiff, reduceIte, w2, and_self, List.length_map]
        by_cases c2 : z.tmod 8 = 2
        · have hb := hble false id hi1
          have hs := hspl false id hi1
          have hrows : ∀ q ∈ delQ (id : Int) S.qs, ¬ q.row = h0.next + 2 := fun q hq => hO.rows q (List.mem_filter.1 hq).1
          cases hfq : findQ (id : Int) S.qs with
          | none =>
            have hov2 : (ov.map Value.bool)[id]? = some (.bool false) := by simp [hO.is id hi1, hfq]
            have hd := del_none hfq
            refine W.seq <| W.seq <| W.reg <| 
                OSuf.aop tyOK rfl (so_move (by simp only [lk] <;> rfl)) rfl <|
                OSuf.aop tyOK rfl (so_move (by simp only [lk] <;> rfl)) rfl <|
                OSuf.aop tyOK rfl (so_len (by simp only [aopnds, lk] <;> rfl) (by simp (disch := first | assumption | omega | (simp only [nx] <;> omega) | fail) only [aLenOf, ty47, hpl, hc, and_self, if_true, Int.toNat_natCast, hg1, Nat.mul_one, Nat.zero_add, hz] <;> rfl)) rfl <|
                OSuf.aopT tyOK rfl (so_bin (by simp only [lk] <;> rfl) (by simp only [lk] <;> rfl) bi_lss) (fun _ => rfl) (by first | rfl | assumption | ((simp only [bl, hc, and_self, if_true, Int.toNat_natCast, hg1, Nat.mul_one, Nat.zero_add, hz]) <;> first | done | assumption | omega) | (simp [hc, and_self, if_true, Int.toNat_natCast, hg1, Nat.mul_one, Nat.zero_add, hz]; done) | (simp [hc, and_self, if_true, Int.toNat_natCast, hg1, Nat.mul_one, Nat.zero_add, hz]; omega)) <|
                OSuf.aopT tyOK rfl (so_move (by simp only [lk] <;> rfl)) (fun _ => rfl) rfl <|
                OSuf.aop tyOK (aguard_of rfl rfl (by simp only [lk] <;> rfl) rfl) (so_move (by simp only [lk] <;> rfl)) rfl <|
                OSuf.aopT tyOK (aguard_of rfl rfl (by simp only [lk] <;> rfl) rfl) (so_bin (by simp only [lk] <;> rfl) (by simp only [lk] <;> rfl) bi_lss) (fun _ => rfl) (by first | rfl | assumption | ((simp only [bl, hc, and_self, if_true, Int.toNat_natCast, hg1, Nat.mul_one, Nat.zero_add, hz]) <;> first | done | assumption | omega) | (simp [hc, and_self, if_true, Int.toNat_natCast, hg1, Nat.mul_one, Nat.zero_add, hz]; done) | (simp [hc, and_self, if_true, Int.toNat_natCast, hg1, Nat.mul_one, Nat.zero_add, hz]; omega)) <|
                OSuf.aopT tyOK rfl (so_pick (by simp only [lk] <;> rfl) (by simp only [lk, cond_true, cond_false] <;> rfl)) (fun _ => rfl) rfl <|
                OSuf.nil <| SQ.normal ?_
            refine W.yes (by simp only [lk] <;> rfl) <| CWp.skip <| SQ.normal ?_
            refine W.seq <| W.block <| W.seq <| W.reg <| 
                OSuf.aop tyOK rfl (so_move (by simp only [lk] <;> rfl)) rfl <|
                OSuf.aop tyOK rfl (so_move (by simp only [lk] <;> rfl)) rfl <|
                OSuf.aop tyOK rfl (so_indexAddr (by simp only [lk] <;> rfl) (by simp only [lk] <;> rfl) (by simp (disch := first | assumption | omega | (simp only [nx] <;> omega) | fail) only [aIndexAddr, ty47, ty5, hpl, hc, and_self, if_true, Int.toNat_natCast, hg1, Nat.mul_one, Nat.zero_add, hz] <;> rfl)) rfl <|
                OSuf.aop tyOK rfl (so_load (by simp only [lk] <;> rfl) (by simp (disch := first | assumption | omega | (simp only [nx] <;> omega) | fail) only [aLoad, ty5, rowOf, hpl, hc, and_self, if_true, Int.toNat_natCast, hg1, Nat.mul_one, Nat.zero_add, hz] <;> rfl)) rfl <|
                OSuf.aop tyOK rfl (so_bin (by simp only [lk] <;> rfl) (by simp only [lk] <;> rfl) (bi_w (bi_shr (by decide)) (by first | (simp only [h8, w1, hid, w2] <;> rfl) | rfl))) rfl <|
                OSuf.aop tyOK rfl (so_conw (so_conv tyOK (by simp only [lk] <;> rfl) ty5 ⟨_, rfl⟩ ty27 rfl) (by first | (simp only [h8, w1, hid, w2] <;> rfl) | rfl)) rfl <|
                OSuf.aop tyOK rfl (so_move (by simp only [lk] <;> rfl)) rfl <|
                OSuf.aop tyOK rfl (so_bin (by simp only [lk] <;> rfl) (by simp only [lk] <;> rfl) (bi_w (bi_rem hlast) (by first | (simp only [h8, w1, hid, w2] <;> rfl) | rfl))) rfl <|
                OSuf.aop tyOK rfl (so_assign (by simp only [lk] <;> rfl)) rfl <|
                OSuf.nil <| SQ.normal ?_
            refine W.seq <| W.seq <| W.reg <| 
                OSuf.aop tyOK rfl (so_move (by simp only [lk] <;> rfl)) rfl <|
                OSuf.aop tyOK rfl (so_move (by simp only [lk] <;> rfl)) rfl <|
                OSuf.aop tyOK rfl (so_indexAddr (by simp only [lk] <;> rfl) (by simp only [lk] <;> rfl) (by simp (disch := first | assumption | omega | (simp only [nx] <;> omega) | fail) only [aIndexAddr, ty47, ty5, hpl, hc, and_self, if_true, Int.toNat_natCast, hg1, Nat.mul_one, Nat.zero_add, hz] <;> rfl)) rfl <|
                OSuf.aop tyOK rfl (so_load (by simp only [lk] <;> rfl) (by simp (disch := first | assumption | omega | (simp only [nx] <;> omega) | fail) only [aLoad, ty5, rowOf, hpl, hc, and_self, if_true, Int.toNat_natCast, hg1, Nat.mul_one, Nat.zero_add, hz] <;> rfl)) rfl <|
                OSuf.aop tyOK rfl (so_bin (by simp only [lk] <;> rfl) (by simp only [lk] <;> rfl) (bi_w (bi_rem (by decide)) (by first | (simp only [h8, w1, hid, w2] <;> rfl) | rfl))) rfl <|
                OSuf.nil <| SQ.normal ?_
            refine W.block <| W.seq <| W.reg <| 
                OSuf.aopF tyOK rfl (so_bin (by simp only [lk] <;> rfl) (by simp only [lk] <;> rfl) bi_eql) (fun _ => rfl) (by first | rfl | assumption | ((simp only [bl, hc, and_self, if_true, Int.toNat_natCast, hg1, Nat.mul_one, Nat.zero_add, hz]) <;> first | done | assumption | omega) | (simp [hc, and_self, if_true, Int.toNat_natCast, hg1, Nat.mul_one, Nat.zero_add, hz]; done) | (simp [hc, and_self, if_true, Int.toNat_natCast, hg1, Nat.mul_one, Nat.zero_add, hz]; omega)) <|
                OSuf.aopF tyOK rfl (so_assign (by simp only [lk] <;> rfl)) (fun _ => rfl) rfl <|
                OSuf.nil <| SQ.normal ?_
            refine W.no (by simp only [lk] <;> rfl) <| W.seq <| W.reg <| 
                OSuf.aopF tyOK rfl (so_bin (by simp only [lk] <;> rfl) (by simp only [lk] <;> rfl) bi_eql) (fun _ => rfl) (by first | rfl | assumption | ((simp only [bl, hc, and_self, if_true, Int.toNat_natCast, hg1, Nat.mul_one, Nat.zero_add, hz]) <;> first | done | assumption | omega) | (simp [hc, and_self, if_true, Int.toNat_natCast, hg1, Nat.mul_one, Nat.zero_add, hz]; done) | (simp [hc, and_self, if_true, Int.toNat_natCast, hg1, Nat.mul_one, Nat.zero_add, hz]; omega)) <|
                OSuf.aopF tyOK rfl (so_assign (by simp only [lk] <;> rfl)) (fun _ => rfl) rfl <|
                OSuf.nil <| SQ.normal ?_
            refine W.no (by simp only [lk] <;> rfl) <| W.seq <| W.reg <| 
                OSuf.aopT tyOK rfl (so_bin (by simp only [lk] <;> rfl) (by simp only [lk] <;> rfl) bi_eql) (fun _ => rfl) (by first | rfl | assumption | ((simp only [bl, hc, and_self, if_true, Int.toNat_natCast, hg1, Nat.mul_one, Nat.zero_add, hz]) <;> first | done | assumption | omega) | (simp [hc, and_self, if_true, Int.toNat_natCast, hg1, Nat.mul_one, Nat.zero_add, hz]; done) | (simp [hc, and_self, if_true, Int.toNat_natCast, hg1, Nat.mul_one, Nat.zero_add, hz]; omega)) <|
                OSuf.aopT tyOK rfl (so_assign (by simp only [lk] <;> rfl)) (fun _ => rfl) rfl <|
                OSuf.nil <| SQ.normal ?_
            refine W.yes (by simp only [lk] <;> rfl) <| W.seq <| W.reg <| 
                OSuf.aop tyOK rfl (so_move (by simp only [lk] <;> rfl)) rfl <|
                OSuf.aop tyOK rfl (so_move (by simp only [lk] <;> rfl)) rfl <|
                OSuf.call rfl (by simp only [aopnds, lk] <;> rfl) en12 (drop_c _ (h0.next + 1) S hA id) ?_
            rintro _ h2 ⟨hA2, hF2⟩
            obtain ⟨hv2, hov'⟩ := keep h2 hF2
            refine ⟨_, rfl, ?_⟩
            refine 
                OSuf.nil <| SQ.normal ?_
            refine W.seq <| W.seq <| W.reg <| 
                OSuf.aop tyOK rfl (so_move (by simp only [lk] <;> rfl)) rfl <|
                OSuf.aop tyOK rfl (so_indexAddr (by simp only [lk] <;> rfl) (by simp only [lk] <;> rfl) (by simp (disch := first | assumption | omega | (simp only [nx] <;> omega) | fail) only [aIndexAddr, ty53, ty4, hpl, hc, and_self, if_true, Int.toNat_natCast, hg1, Nat.mul_one, Nat.zero_add, hz, places, Value.cells, ty27, ty3, ty33, ty4, ty47, ty5, ty53, hov', hov2, hcj, hb, hs] <;> rfl)) rfl <|
                OSuf.aopF tyOK rfl (so_load (by simp only [lk] <;> rfl) (by simp (disch := first | assumption | omega | (simp only [nx] <;> omega) | fail) only [aLoad, ty4, rowOf, hpl, hc, and_self, if_true, Int.toNat_natCast, hg1, Nat.mul_one, Nat.zero_add, hz, places, Value.cells, ty27, ty3, ty33, ty4, ty47, ty5, ty53, hov', hov2, hcj, hb, hs] <;> rfl)) (fun _ => rfl) (by first | rfl | assumption | ((simp only [bl, hc, and_self, if_true, Int.toNat_natCast, hg1, Nat.mul_one, Nat.zero_add, hz, places, Value.cells, ty27, ty3, ty33, ty4, ty47, ty5, ty53, hov', hov2, hcj, hb, hs]) <;> first | done | assumption | omega) | (simp [hc, and_self, if_true, Int.toNat_natCast, hg1, Nat.mul_one, Nat.zero_add, hz, places, Value.cells, ty27, ty3, ty33, ty4, ty47, ty5, ty53, hov', hov2, hcj, hb, hs]; done) | (simp [hc, and_self, if_true, Int.toNat_natCast, hg1, Nat.mul_one, Nat.zero_add, hz, places, Value.cells, ty27, ty3, ty33, ty4, ty47, ty5, ty53, hov', hov2, hcj, hb, hs]; omega)) <|
                OSuf.nil <| SQ.normal ?_
            refine W.no (by simp only [lk] <;> rfl) <| CWp.skip <| SQ.normal ?_
            refine W.reg <| 
                OSuf.aop tyOK rfl (so_move (by simp only [lk] <;> rfl)) rfl <|
                OSuf.aop tyOK rfl (so_indexAddr (by simp only [lk] <;> rfl) (by simp only [lk] <;> rfl) (by simp (disch := first | assumption | omega | (simp only [nx] <;> omega) | fail) only [aIndexAddr, ty53, ty4, hpl, hc, and_self, if_true, Int.toNat_natCast, hg1, Nat.mul_one, Nat.zero_add, hz, places, Value.cells, ty27, ty3, ty33, ty4, ty47, ty5, ty53, hov', hov2, hcj, hb, hs] <;> rfl)) rfl <|
                OSuf.aop tyOK rfl (so_store (by simp only [lk] <;> rfl) (by simp only [lk] <;> rfl) (by simp (disch := first | assumption | omega | (simp only [nx] <;> omega) | fail) only [aStore, ty4, writeRow, hpl, hc, and_self, if_true, Int.toNat_natCast, hg1, Nat.mul_one, Nat.zero_add, hz, places, Value.cells, ty27, ty3, ty33, ty4, ty47, ty5, ty53, hov', hov2, hcj, hb, hs] <;> rfl)) rfl <|
                OSuf.nil <| BQ.normal <| SQ.normal ?_
            refine W.seq <| W.reg <| 
                OSuf.aop tyOK rfl (so_move (by simp only [lk] <;> rfl)) rfl <|
                OSuf.callD rfl (by simp only [aopnds, lk] <;> rfl) en20 (len_c _ (h0.next + 1) _ (other _ _ _ hA2 hm hrows)) rfl <|
                OSuf.aop tyOK rfl (so_move (by simp only [lk] <;> rfl)) rfl <|
                OSuf.aopF tyOK rfl (so_bin (by simp only [lk] <;> rfl) (by simp only [lk] <;> rfl) bi_neq) (fun _ => rfl) (by simp [hd]) <|
                OSuf.nil <| SQ.normal ?_
            refine W.no (by simp only [lk] <;> rfl) <| CWp.skip <| BQ.normal <| SQ.normal ?_
            refine W.reg <| 
                OSuf.aop tyOK rfl (so_move (by simp only [lk] <;> rfl)) rfl <|
                OSuf.aop tyOK rfl (so_bin (by simp only [lk] <;> rfl) (by simp only [lk] <;> rfl) (bi_w bi_add (by first | (simp only [h8, w1, hid, w2] <;> rfl) | rfl))) rfl <|
                OSuf.aop tyOK rfl (so_assign (by simp only [lk] <;> rfl)) rfl <|
                OSuf.nil <| ?_
            -- leaf: round
            refine LQ.normal (m := n - 1) (L := [(0, .slice (some ⟨r, 0, none⟩) l.length 0), (3, P0 (h0.next + 1)), (4, U64 (S.last + 1)), (5, I64 (delQ (id : Int) S.qs).length), (6, P0 (h0.next + 2)), (7, I64 (k + 1 : Nat))]) (by omega) ?_ ⟨k + 1, ⟨S.last, delQ (id : Int) S.qs, S.clock, S.m⟩, ov.set id false, by omega, other _ _ _ hA2 hm hrows, hm, by simp only [hd]; omega, by omega, by simp only; omega, hO.del hi1, by simp only [nx]; exact hv2, by simp (disch := first | assumption | omega | (simp only [nx] <;> omega) | fail) only [hpl], ro2 _ _ (hR.step hA hF2), rfl⟩
            · simp only [HasA, Tr.get_put, Nat.reduceEqDiff, reduceIte, w2, hd, and_self]
          | some q =>
            have hov2 : (ov.map Value.bool)[id]? = some (.bool true) := by simp [hO.is id hi1, hfq]
            have hdl := len_del hA.ids hfq
            have w6 : IntKind.i64.wrap ((S.qs.length : Int) - 1) = ((delQ (id : Int) S.qs).length : Nat) := by rw [wrap_i64 (by omega) (by omega)]; omega
            refine W.seq <| W.seq <| W.reg <| 
                OSuf.aop tyOK rfl (so_move (by simp only [lk] <;> rfl)) rfl <|
                OSuf.aop tyOK rfl (so_move (by simp only [lk] <;> rfl)) rfl <|
                OSuf.aop tyOK rfl (so_len (by simp only [aopnds, lk] <;> rfl) (by simp (disch := first | assumption | omega | (simp only [nx] <;> omega) | fail) only [aLenOf, ty47, hpl, hc, and_self, if_true, Int.toNat_natCast, hg1, Nat.mul_one, Nat.zero_add, hz] <;> rfl)) rfl <|
                OSuf.aopT tyOK rfl (so_bin (by simp only [lk] <;> rfl) (by simp only [lk] <;> rfl) bi_lss) (fun _ => rfl) (by first | rfl | assumption | ((simp only [bl, hc, and_self, if_true, Int.toNat_natCast, hg1, Nat.mul_one, Nat.zero_add, hz]) <;> first | done | assumption | omega) | (simp [hc, and_self, if_true, Int.toNat_natCast, hg1, Nat.mul_one, Nat.zero_add, hz]; done) | (simp [hc, and_self, if_true, Int.toNat_natCast, hg1, Nat.mul_one, Nat.zero_add, hz]; omega)) <|
                OSuf.aopT tyOK rfl (so_move (by simp only [lk] <;> rfl)) (fun _ => rfl) rfl <|
                OSuf.aop tyOK (aguard_of rfl rfl (by simp only [lk] <;> rfl) rfl) (so_move (by simp only [lk] <;> rfl)) rfl <|
                OSuf.aopT tyOK (aguard_of rfl rfl (by simp only [lk] <;> rfl) rfl) (so_bin (by simp only [lk] <;> rfl) (by simp only [lk] <;> rfl) bi_lss) (fun _ => rfl) (by first | rfl | assumption | ((simp only [bl, hc, and_self, if_true, Int.toNat_natCast, hg1, Nat.mul_one, Nat.zero_add, hz]) <;> first | done | assumption | omega) | (simp [hc, and_self, if_true, Int.toNat_natCast, hg1, Nat.mul_one, Nat.zero_add, hz]; done) | (simp [hc, and_self, if_true, Int.toNat_natCast, hg1, Nat.mul_one, Nat.zero_add, hz]; omega)) <|
                OSuf.aopT tyOK rfl (so_pick (by simp only [lk] <;> rfl) (by simp only [lk, cond_true, cond_false] <;> rfl)) (fun _ => rfl) rfl <|
                OSuf.nil <| SQ.normal ?_
            refine W.yes (by simp only [lk] <;> rfl) <| CWp.skip <| SQ.normal ?_
            refine W.seq <| W.block <| W.seq <| W.reg <| 
                OSuf.aop tyOK rfl (so_move (by simp only [lk] <;> rfl)) rfl <|
                OSuf.aop tyOK rfl (so_move (by simp only [lk] <;> rfl)) rfl <|
                OSuf.aop tyOK rfl (so_indexAddr (by simp only [lk] <;> rfl) (by simp only [lk] <;> rfl) (by simp (disch := first | assumption | omega | (simp only [nx] <;> omega) | fail) only [aIndexAddr, ty47, ty5, hpl, hc, and_self, if_true, Int.toNat_natCast, hg1, Nat.mul_one, Nat.zero_add, hz] <;> rfl)) rfl <|
                OSuf.aop tyOK rfl (so_load (by simp only [lk] <;> rfl) (by simp (disch := first | assumption | omega | (simp only [nx] <;> omega) | fail) only [aLoad, ty5, rowOf, hpl, hc, and_self, if_true, Int.toNat_natCast, hg1, Nat.mul_one, Nat.zero_add, hz] <;> rfl)) rfl <|
                OSuf.aop tyOK rfl (so_bin (by simp only [lk] <;> rfl) (by simp only [lk] <;> rfl) (bi_w (bi_shr (by decide)) (by first | (simp only [h8, w1, hid, w2, w6] <;> rfl) | rfl))) rfl <|
                OSuf.aop tyOK rfl (so_conw (so_conv tyOK (by simp only [lk] <;> rfl) ty5 ⟨_, rfl⟩ ty27 rfl) (by first | (simp only [h8, w1, hid, w2, w6] <;> rfl) | rfl)) rfl <|
                OSuf.aop tyOK rfl (so_move (by simp only [lk] <;> rfl)) rfl <|
                OSuf.aop tyOK rfl (so_bin (by simp only [lk] <;> rfl) (by simp only [lk] <;> rfl) (bi_w (bi_rem hlast) (by first | (simp only [h8, w1, hid, w2, w6] <;> rfl) | rfl))) rfl <|
                OSuf.aop tyOK rfl (so_assign (by simp only [lk] <;> rfl)) rfl <|
                OSuf.nil <| SQ.normal ?_
            refine W.seq <| W.seq <| W.reg <| 
                OSuf.aop tyOK rfl (so_move (by simp only [lk] <;> rfl)) rfl <|
                OSuf.aop tyOK rfl (so_move (by simp only [lk] <;> rfl)) rfl <|
                OSuf.aop tyOK rfl (so_indexAddr (by simp only [lk] <;> rfl) (by simp only [lk] <;> rfl) (by simp (disch := first | assumption | omega | (simp only [nx] <;> omega) | fail) only [aIndexAddr, ty47, ty5, hpl, hc, and_self, if_true, Int.toNat_natCast, hg1, Nat.mul_one, Nat.zero_add, hz] <;> rfl)) rfl <|
                OSuf.aop tyOK rfl (so_load (by simp only [lk] <;> rfl) (by simp (disch := first | assumption | omega | (simp only [nx] <;> omega) | fail) only [aLoad, ty5, rowOf, hpl, hc, and_self, if_true, Int.toNat_natCast, hg1, Nat.mul_one, Nat.zero_add, hz] <;> rfl)) rfl <|
                OSuf.aop tyOK rfl (so_bin (by simp only [lk] <;> rfl) (by simp only [lk] <;> rfl) (bi_w (bi_rem (by decide)) (by first | (simp only [h8, w1, hid, w2, w6] <;> rfl) | rfl))) rfl <|
                OSuf.nil <| SQ.normal ?_
            refine W.block <| W.seq <| W.reg <| 
                OSuf.aopF tyOK rfl (so_bin (by simp only [lk] <;> rfl) (by simp only [lk] <;> rfl) bi_eql) (fun _ => rfl) (by first | rfl | assumption | ((simp only [bl, hc, and_self, if_true, Int.toNat_natCast, hg1, Nat.mul_one, Nat.zero_add, hz]) <;> first | done | assumption | omega) | (simp [hc, and_self, if_true, Int.toNat_natCast, hg1, Nat.mul_one, Nat.zero_add, hz]; done) | (simp [hc, and_self, if_true, Int.toNat_natCast, hg1, Nat.mul_one, Nat.zero_add, hz]; omega)) <|
                OSuf.aopF tyOK rfl (so_assign (by simp only [lk] <;> rfl)) (fun _ => rfl) rfl <|
                OSuf.nil <| SQ.normal ?_
            refine W.no (by simp only [lk] <;> rfl) <| W.seq <| W.reg <| 
                OSuf.aopF tyOK rfl (so_bin (by simp only [lk] <;> rfl) (by simp only [lk] <;> rfl) bi_eql) (fun _ => rfl) (by first | rfl | assumption | ((simp only [bl, hc, and_self, if_true, Int.toNat_natCast, hg1, Nat.mul_one, Nat.zero_add, hz]) <;> first | done | assumption | omega) | (simp [hc, and_self, if_true, Int.toNat_natCast, hg1, Nat.mul_one, Nat.zero_add, hz]; done) | (simp [hc, and_self, if_true, Int.toNat_natCast, hg1, Nat.mul_one, Nat.zero_add, hz]; omega)) <|
                OSuf.aopF tyOK rfl (so_assign (by simp only [lk] <;> rfl)) (fun _ => rfl) rfl <|
                OSuf.nil <| SQ.normal ?_
            refine W.no (by simp only [lk] <;> rfl) <| W.seq <| W.reg <| 
                OSuf.aopT tyOK rfl (so_bin (by simp only [lk] <;> rfl) (by simp only [lk] <;> rfl) bi_eql) (fun _ => rfl) (by first | rfl | assumption | ((simp only [bl, hc, and_self, if_true, Int.toNat_natCast, hg1, Nat.mul_one, Nat.zero_add, hz]) <;> first | done | assumption | omega) | (simp [hc, and_self, if_true, Int.toNat_natCast, hg1, Nat.mul_one, Nat.zero_add, hz]; done) | (simp [hc, and_self, if_true, Int.toNat_natCast, hg1, Nat.mul_one, Nat.zero_add, hz]; omega)) <|
                OSuf.aopT tyOK rfl (so_assign (by simp only [lk] <;> rfl)) (fun _ => rfl) rfl <|
                OSuf.nil <| SQ.normal ?_
            refine W.yes (by simp only [lk] <;> rfl) <| W.seq <| W.reg <| 
                OSuf.aop tyOK rfl (so_move (by simp only [lk] <;> rfl)) rfl <|
                OSuf.aop tyOK rfl (so_move (by simp only [lk] <;> rfl)) rfl <|
                OSuf.call rfl (by simp only [aopnds, lk] <;> rfl) en12 (drop_c _ (h0.next + 1) S hA id) ?_
            rintro _ h2 ⟨hA2, hF2⟩
            obtain ⟨hv2, hov'⟩ := keep h2 hF2
            refine ⟨_, rfl, ?_⟩
            refine 
                OSuf.nil <| SQ.normal ?_
            refine W.seq <| W.seq <| W.reg <| 
                OSuf.aop tyOK rfl (so_move (by simp only [lk] <;> rfl)) rfl <|
                OSuf.aop tyOK rfl (so_indexAddr (by simp only [lk] <;> rfl) (by simp only [lk] <;> rfl) (by simp (disch := first | assumption | omega | (simp only [nx] <;> omega) | fail) only [aIndexAddr, ty53, ty4, hpl, hc, and_self, if_true, Int.toNat_natCast, hg1, Nat.mul_one, Nat.zero_add, hz, places, Value.cells, ty27, ty3, ty33, ty4, ty47, ty5, ty53, hov', hov2, hcj, hb, hs] <;> rfl)) rfl <|
                OSuf.aopT tyOK rfl (so_load (by simp only [lk] <;> rfl) (by simp (disch := first | assumption | omega | (simp only [nx] <;> omega) | fail) only [aLoad, ty4, rowOf, hpl, hc, and_self, if_true, Int.toNat_natCast, hg1, Nat.mul_one, Nat.zero_add, hz, places, Value.cells, ty27, ty3, ty33, ty4, ty47, ty5, ty53, hov', hov2, hcj, hb, hs] <;> rfl)) (fun _ => rfl) (by first | rfl | assumption | ((simp only [bl, hc, and_self, if_true, Int.toNat_natCast, hg1, Nat.mul_one, Nat.zero_add, hz, places, Value.cells, ty27, ty3, ty33, ty4, ty47, ty5, ty53, hov', hov2, hcj, hb, hs]) <;> first | done | assumption | omega) | (simp [hc, and_self, if_true, Int.toNat_natCast, hg1, Nat.mul_one, Nat.zero_add, hz, places, Value.cells, ty27, ty3, ty33, ty4, ty47, ty5, ty53, hov', hov2, hcj, hb, hs]; done) | (simp [hc, and_self, if_true, Int.toNat_natCast, hg1, Nat.mul_one, Nat.zero_add, hz, places, Value.cells, ty27, ty3, ty33, ty4, ty47, ty5, ty53, hov', hov2, hcj, hb, hs]; omega)) <|
                OSuf.nil <| SQ.normal ?_
            refine W.yes (by simp only [lk] <;> rfl) <| W.reg <| 
                OSuf.aop tyOK rfl (so_move (by simp only [lk] <;> rfl)) rfl <|
                OSuf.aop tyOK rfl (so_bin (by simp only [lk] <;> rfl) (by simp only [lk] <;> rfl) (bi_w bi_sub (by first | (simp only [h8, w1, hid, w2, w6] <;> rfl) | rfl))) rfl <|
                OSuf.aop tyOK rfl (so_assign (by simp only [lk] <;> rfl)) rfl <|
                OSuf.nil <| SQ.normal ?_
            refine W.reg <| 
                OSuf.aop tyOK rfl (so_move (by simp only [lk] <;> rfl)) rfl <|
                OSuf.aop tyOK rfl (so_indexAddr (by simp only [lk] <;> rfl) (by simp only [lk] <;> rfl) (by simp (disch := first | assumption | omega | (simp only [nx] <;> omega) | fail) only [aIndexAddr, ty53, ty4, hpl, hc, and_self, if_true, Int.toNat_natCast, hg1, Nat.mul_one, Nat.zero_add, hz, places, Value.cells, ty27, ty3, ty33, ty4, ty47, ty5, ty53, hov', hov2, hcj, hb, hs] <;> rfl)) rfl <|
                OSuf.aop tyOK rfl (so_store (by simp only [lk] <;> rfl) (by simp only [lk] <;> rfl) (by simp (disch := first | assumption | omega | (simp only [nx] <;> omega) | fail) only [aStore, ty4, writeRow, hpl, hc, and_self, if_true, Int.toNat_natCast, hg1, Nat.mul_one, Nat.zero_add, hz, places, Value.cells, ty27, ty3, ty33, ty4, ty47, ty5, ty53, hov', hov2, hcj, hb, hs] <;> rfl)) rfl <|
                OSuf.nil <| BQ.normal <| SQ.normal ?_
            refine W.seq <| W.reg <| 
                OSuf.aop tyOK rfl (so_move (by simp only [lk] <;> rfl)) rfl <|
                OSuf.callD rfl (by simp only [aopnds, lk] <;> rfl) en20 (len_c _ (h0.next + 1) _ (other _ _ _ hA2 hm hrows)) rfl <|
                OSuf.aop tyOK rfl (so_move (by simp only [lk] <;> rfl)) rfl <|
                OSuf.aopF tyOK rfl (so_bin (by simp only [lk] <;> rfl) (by simp only [lk] <;> rfl) bi_neq) (fun _ => rfl) (by simp) <|
                OSuf.nil <| SQ.normal ?_
            refine W.no (by simp only [lk] <;> rfl) <| CWp.skip <| BQ.normal <| SQ.normal ?_
            refine W.reg <| 
                OSuf.aop tyOK rfl (so_move (by simp only [lk] <;> rfl)) rfl <|
                OSuf.aop tyOK rfl (so_bin (by simp only [lk] <;> rfl) (by simp only [lk] <;> rfl) (bi_w bi_add (by first | (simp only [h8, w1, hid, w2, w6] <;> rfl) | rfl))) rfl <|
                OSuf.aop tyOK rfl (so_assign (by simp only [lk] <;> rfl)) rfl <|
                OSuf.nil <| ?_
            -- leaf: round
            refine LQ.normal (m := n - 1) (L := [(0, .slice (some ⟨r, 0, none⟩) l.length 0), (3, P0 (h0.next + 1)), (4, U64 (S.last + 1)), (5, I64 (delQ (id : Int) S.qs).length), (6, P0 (h0.next + 2)), (7, I64 (k + 1 : Nat))]) (by omega) ?_ ⟨k + 1, ⟨S.last, delQ (id : Int) S.qs, S.clock, S.m⟩, ov.set id false, by omega, other _ _ _ hA2 hm hrows, hm, by simp only; omega, by omega, by simp only; omega, hO.del hi1, by simp only [nx]; exact hv2, by simp (disch := first | assumption | omega | (simp only [nx] <;> omega) | fail) only [hpl], ro2 _ _ (hR.step hA hF2), rfl⟩
            · simp only [HasA, Tr.get_put, Nat.reduceEqDiff, reduceIte, w2, and_self]
        by_cases c3 : z.tmod 8 = 3
        · have hb := hble false id hi1
          have hs := hspl false id hi1
          have hrows : ∀ q ∈ delQ (id : Int) S.qs, ¬ q.row = h0.next + 2 := fun q hq => hO.rows q (List.mem_filter.1 hq).1
          cases hfq : findQ (id : Int) S.qs with
          | none =>
            have hov2 : (ov.map Value.bool)[id]? = some (.bool false) := by simp [hO.is id hi1, hfq]
            have hd := del_none hfq
            have hO2 : Op2 (h0.next + 2) (ov.set id false) S := by have := hO.del (id := id) hi1; rw [hd] at this; exact this
            have hA1 : ∀ o, RA (h.new o) (h0.next + 1) S := fun o => hA.mono (by simp only [nx]; omega) (fun z hz => by simp (disch := first | assumption | omega | (simp only [nx] <;> omega) | fail) only [hpl])
            refine W.seq <| W.seq <| W.reg <| 
                OSuf.aop tyOK rfl (so_move (by simp only [lk] <;> rfl)) rfl <|
                OSuf.aop tyOK rfl (so_move (by simp only [lk] <;> rfl)) rfl <|
                OSuf.aop tyOK rfl (so_len (by simp only [aopnds, lk] <;> rfl) (by simp (disch := first | assumption | omega | (simp only [nx] <;> omega) | fail) only [aLenOf, ty47, hpl, hc, and_self, if_true, Int.toNat_natCast, hg1, Nat.mul_one, Nat.zero_add, hz, places, Value.cells, ty27, ty3, ty33, ty4, ty47, ty5, ty53, hov, hov2, hcj, hb, hs, Msg.v] <;> rfl)) rfl <|
                OSuf.aopT tyOK rfl (so_bin (by simp only [lk] <;> rfl) (by simp only [lk] <;> rfl) bi_lss) (fun _ => rfl) (by first | rfl | assumption | ((simp only [bl, hc, and_self, if_true, Int.toNat_natCast, hg1, Nat.mul_one, Nat.zero_add, hz, places, Value.cells, ty27, ty3, ty33, ty4, ty47, ty5, ty53, hov, hov2, hcj, hb, hs, Msg.v]) <;> first | done | assumption | omega) | (simp [hc, and_self, if_true, Int.toNat_natCast, hg1, Nat.mul_one, Nat.zero_add, hz, places, Value.cells, ty27, ty3, ty33, ty4, ty47, ty5, ty53, hov, hov2, hcj, hb, hs, Msg.v]; done) | (simp [hc, and_self, if_true, Int.toNat_natCast, hg1, Nat.mul_one, Nat.zero_add, hz, places, Value.cells, ty27, ty3, ty33, ty4, ty47, ty5, ty53, hov, hov2, hcj, hb, hs, Msg.v]; omega)) <|
                OSuf.aopT tyOK rfl (so_move (by simp only [lk] <;> rfl)) (fun _ => rfl) rfl <|
                OSuf.aop tyOK (aguard_of rfl rfl (by simp only [lk] <;> rfl) rfl) (so_move (by simp only [lk] <;> rfl)) rfl <|
                OSuf.aopT tyOK (aguard_of rfl rfl (by simp only [lk] <;> rfl) rfl) (so_bin (by simp only [lk] <;> rfl) (by simp only [lk] <;> rfl) bi_lss) (fun _ => rfl) (by first | rfl | assumption | ((simp only [bl, hc, and_self, if_true, Int.toNat_natCast, hg1, Nat.mul_one, Nat.zero_add, hz, places, Value.cells, ty27, ty3, ty33, ty4, ty47, ty5, ty53, hov, hov2, hcj, hb, hs, Msg.v]) <;> first | done | assumption | omega) | (simp [hc, and_self, if_true, Int.toNat_natCast, hg1, Nat.mul_one, Nat.zero_add, hz, places, Value.cells, ty27, ty3, ty33, ty4, ty47, ty5, ty53, hov, hov2, hcj, hb, hs, Msg.v]; done) | (simp [hc, and_self, if_true, Int.toNat_natCast, hg1, Nat.mul_one, Nat.zero_add, hz, places, Value.cells, ty27, ty3, ty33, ty4, ty47, ty5, ty53, hov, hov2, hcj, hb, hs, Msg.v]; omega)) <|
                OSuf.aopT tyOK rfl (so_pick (by simp only [lk] <;> rfl) (by simp only [lk, cond_true, cond_false] <;> rfl)) (fun _ => rfl) rfl <|
                OSuf.nil <| SQ.normal ?_
            refine W.yes (by simp only [lk] <;> rfl) <| CWp.skip <| SQ.normal ?_
            refine W.seq <| W.block <| W.seq <| W.reg <| 
                OSuf.aop tyOK rfl (so_move (by simp only [lk] <;> rfl)) rfl <|
                OSuf.aop tyOK rfl (so_move (by simp only [lk] <;> rfl)) rfl <|
                OSuf.aop tyOK rfl (so_indexAddr (by simp only [lk] <;> rfl) (by simp only [lk] <;> rfl) (by simp (disch := first | assumption | omega | (simp only [nx] <;> omega) | fail) only [aIndexAddr, ty47, ty5, hpl, hc, and_self, if_true, Int.toNat_natCast, hg1, Nat.mul_one, Nat.zero_add, hz, places, Value.cells, ty27, ty3, ty33, ty4, ty47, ty5, ty53, hov, hov2, hcj, hb, hs, Msg.v] <;> rfl)) rfl <|
                OSuf.aop tyOK rfl (so_load (by simp only [lk] <;> rfl) (by simp (disch := first | assumption | omega | (simp only [nx] <;> omega) | fail) only [aLoad, ty5, rowOf, hpl, hc, and_self, if_true, Int.toNat_natCast, hg1, Nat.mul_one, Nat.zero_add, hz, places, Value.cells, ty27, ty3, ty33, ty4, ty47, ty5, ty53, hov, hov2, hcj, hb, hs, Msg.v] <;> rfl)) rfl <|
                OSuf.aop tyOK rfl (so_bin (by simp only [lk] <;> rfl) (by simp only [lk] <;> rfl) (bi_w (bi_shr (by decide)) (by first | (simp only [h8, w1, hid, w2] <;> rfl) | rfl))) rfl <|
                OSuf.aop tyOK rfl (so_conw (so_conv tyOK (by simp only [lk] <;> rfl) ty5 ⟨_, rfl⟩ ty27 rfl) (by first | (simp only [h8, w1, hid, w2] <;> rfl) | rfl)) rfl <|
                OSuf.aop tyOK rfl (so_move (by simp only [lk] <;> rfl)) rfl <|
                OSuf.aop tyOK rfl (so_bin (by simp only [lk] <;> rfl) (by simp only [lk] <;> rfl) (bi_w (bi_rem hlast) (by first | (simp only [h8, w1, hid, w2] <;> rfl) | rfl))) rfl <|
                OSuf.aop tyOK rfl (so_assign (by simp only [lk] <;> rfl)) rfl <|
                OSuf.nil <| SQ.normal ?_
            refine W.seq <| W.seq <| W.reg <| 
                OSuf.aop tyOK rfl (so_move (by simp only [lk] <;> rfl)) rfl <|
                OSuf.aop tyOK rfl (so_move (by simp only [lk] <;> rfl)) rfl <|
                OSuf.aop tyOK rfl (so_indexAddr (by simp only [lk] <;> rfl) (by simp only [lk] <;> rfl) (by simp (disch := first | assumption | omega | (simp only [nx] <;> omega) | fail) only [aIndexAddr, ty47, ty5, hpl, hc, and_self, if_true, Int.toNat_natCast, hg1, Nat.mul_one, Nat.zero_add, hz, places, Value.cells, ty27, ty3, ty33, ty4, ty47, ty5, ty53, hov, hov2, hcj, hb, hs, Msg.v] <;> rfl)) rfl <|
                OSuf.aop tyOK rfl (so_load (by simp only [lk] <;> rfl) (by simp (disch := first | assumption | omega | (simp only [nx] <;> omega) | fail) only [aLoad, ty5, rowOf, hpl, hc, and_self, if_true, Int.toNat_natCast, hg1, Nat.mul_one, Nat.zero_add, hz, places, Value.cells, ty27, ty3, ty33, ty4, ty47, ty5, ty53, hov, hov2, hcj, hb, hs, Msg.v] <;> rfl)) rfl <|
                OSuf.aop tyOK rfl (so_bin (by simp only [lk] <;> rfl) (by simp only [lk] <;> rfl) (bi_w (bi_rem (by decide)) (by first | (simp only [h8, w1, hid, w2] <;> rfl) | rfl))) rfl <|
                OSuf.nil <| SQ.normal ?_
            refine W.block <| W.seq <| W.reg <| 
                OSuf.aopF tyOK rfl (so_bin (by simp only [lk] <;> rfl) (by simp only [lk] <;> rfl) bi_eql) (fun _ => rfl) (by first | rfl | assumption | ((simp only [bl, hc, and_self, if_true, Int.toNat_natCast, hg1, Nat.mul_one, Nat.zero_add, hz, places, Value.cells, ty27, ty3, ty33, ty4, ty47, ty5, ty53, hov, hov2, hcj, hb, hs, Msg.v]) <;> first | done | assumption | omega) | (simp [hc, and_self, if_true, Int.toNat_natCast, hg1, Nat.mul_one, Nat.zero_add, hz, places, Value.cells, ty27, ty3, ty33, ty4, ty47, ty5, ty53, hov, hov2, hcj, hb, hs, Msg.v]; done) | (simp [hc, and_self, if_true, Int.toNat_natCast, hg1, Nat.mul_one, Nat.zero_add, hz, places, Value.cells, ty27, ty3, ty33, ty4, ty47, ty5, ty53, hov, hov2, hcj, hb, hs, Msg.v]; omega)) <|
                OSuf.aopF tyOK rfl (so_assign (by simp only [lk] <;> rfl)) (fun _ => rfl) rfl <|
                OSuf.nil <| SQ.normal ?_
            refine W.no (by simp only [lk] <;> rfl) <| W.seq <| W.reg <| 
                OSuf.aopF tyOK rfl (so_bin (by simp only [lk] <;> rfl) (by simp only [lk] <;> rfl) bi_eql) (fun _ => rfl) (by first | rfl | assumption | ((simp only [bl, hc, and_self, if_true, Int.toNat_natCast, hg1, Nat.mul_one, Nat.zero_add, hz, places, Value.cells, ty27, ty3, ty33, ty4, ty47, ty5, ty53, hov, hov2, hcj, hb, hs, Msg.v]) <;> first | done | assumption | omega) | (simp [hc, and_self, if_true, Int.toNat_natCast, hg1, Nat.mul_one, Nat.zero_add, hz, places, Value.cells, ty27, ty3, ty33, ty4, ty47, ty5, ty53, hov, hov2, hcj, hb, hs, Msg.v]; done) | (simp [hc, and_self, if_true, Int.toNat_natCast, hg1, Nat.mul_one, Nat.zero_add, hz, places, Value.cells, ty27, ty3, ty33, ty4, ty47, ty5, ty53, hov, hov2, hcj, hb, hs, Msg.v]; omega)) <|
                OSuf.aopF tyOK rfl (so_assign (by simp only [lk] <;> rfl)) (fun _ => rfl) rfl <|
                OSuf.nil <| SQ.normal ?_
            refine W.no (by simp only [lk] <;> rfl) <| W.seq <| W.reg <| 
                OSuf.aopF tyOK rfl (so_bin (by simp only [lk] <;> rfl) (by simp only [lk] <;> rfl) bi_eql) (fun _ => rfl) (by first | rfl | assumption | ((simp only [bl, hc, and_self, if_true, Int.toNat_natCast, hg1, Nat.mul_one, Nat.zero_add, hz, places, Value.cells, ty27, ty3, ty33, ty4, ty47, ty5, ty53, hov, hov2, hcj, hb, hs, Msg.v]) <;> first | done | assumption | omega) | (simp [hc, and_self, if_true, Int.toNat_natCast, hg1, Nat.mul_one, Nat.zero_add, hz, places, Value.cells, ty27, ty3, ty33, ty4, ty47, ty5, ty53, hov, hov2, hcj, hb, hs, Msg.v]; done) | (simp [hc, and_self, if_true, Int.toNat_natCast, hg1, Nat.mul_one, Nat.zero_add, hz, places, Value.cells, ty27, ty3, ty33, ty4, ty47, ty5, ty53, hov, hov2, hcj, hb, hs, Msg.v]; omega)) <|
                OSuf.aopF tyOK rfl (so_assign (by simp only [lk] <;> rfl)) (fun _ => rfl) rfl <|
                OSuf.nil <| SQ.normal ?_
            refine W.no (by simp only [lk] <;> rfl) <| W.seq <| W.reg <| 
                OSuf.aopT tyOK rfl (so_bin (by simp only [lk] <;> rfl) (by simp only [lk] <;> rfl) bi_eql) (fun _ => rfl) (by first | rfl | assumption | ((simp only [bl, hc, and_self, if_true, Int.toNat_natCast, hg1, Nat.mul_one, Nat.zero_add, hz, places, Value.cells, ty27, ty3, ty33, ty4, ty47, ty5, ty53, hov, hov2, hcj, hb, hs, Msg.v]) <;> first | done | assumption | omega) | (simp [hc, and_self, if_true, Int.toNat_natCast, hg1, Nat.mul_one, Nat.zero_add, hz, places, Value.cells, ty27, ty3, ty33, ty4, ty47, ty5, ty53, hov, hov2, hcj, hb, hs, Msg.v]; done) | (simp [hc, and_self, if_true, Int.toNat_natCast, hg1, Nat.mul_one, Nat.zero_add, hz, places, Value.cells, ty27, ty3, ty33, ty4, ty47, ty5, ty53, hov, hov2, hcj, hb, hs, Msg.v]; omega)) <|
                OSuf.aopT tyOK rfl (so_assign (by simp only [lk] <;> rfl)) (fun _ => rfl) rfl <|
                OSuf.nil <| SQ.normal ?_
            refine W.yes (by simp only [lk] <;> rfl) <| W.seq <| W.reg <| 
                OSuf.aop tyOK rfl (so_move (by simp only [lk] <;> rfl)) rfl <|
                OSuf.aop tyOK rfl (so_move (by simp only [lk] <;> rfl)) rfl <|
                OSuf.callD rfl (by simp only [aopnds, lk] <;> rfl) en9 (answer_none _ (h0.next + 1) S hA id hfq) rfl <|
                OSuf.aop tyOK rfl (so_move (by simp only [lk] <;> rfl)) rfl <|
                OSuf.aop tyOK rfl (so_extract (by simp only [lk] <;> rfl) (by simp (disch := first | assumption | omega | (simp only [nx] <;> omega) | fail) only [aExtract, hpl, hc, and_self, if_true, Int.toNat_natCast, hg1, Nat.mul_one, Nat.zero_add, hz, places, Value.cells, ty27, ty3, ty33, ty4, ty47, ty5, ty53, hov, hov2, hcj, hb, hs, Msg.v] <;> rfl)) rfl <|
                OSuf.aopF tyOK rfl (so_extract (by simp only [lk] <;> rfl) (by simp (disch := first | assumption | omega | (simp only [nx] <;> omega) | fail) only [aExtract, hpl, hc, and_self, if_true, Int.toNat_natCast, hg1, Nat.mul_one, Nat.zero_add, hz, places, Value.cells, ty27, ty3, ty33, ty4, ty47, ty5, ty53, hov, hov2, hcj, hb, hs, Msg.v] <;> rfl)) (fun _ => rfl) (by first | rfl | assumption | ((simp only [bl, hc, and_self, if_true, Int.toNat_natCast, hg1, Nat.mul_one, Nat.zero_add, hz, places, Value.cells, ty27, ty3, ty33, ty4, ty47, ty5, ty53, hov, hov2, hcj, hb, hs, Msg.v]) <;> first | done | assumption | omega) | (simp [hc, and_self, if_true, Int.toNat_natCast, hg1, Nat.mul_one, Nat.zero_add, hz, places, Value.cells, ty27, ty3, ty33, ty4, ty47, ty5, ty53, hov, hov2, hcj, hb, hs, Msg.v]; done) | (simp [hc, and_self, if_true, Int.toNat_natCast, hg1, Nat.mul_one, Nat.zero_add, hz, places, Value.cells, ty27, ty3, ty33, ty4, ty47, ty5, ty53, hov, hov2, hcj, hb, hs, Msg.v]; omega)) <|
                OSuf.aop tyOK rfl (so_alloc (by simp only [aAlloc, ty33] <;> rfl)) rfl <|
                OSuf.aop tyOK rfl (so_store (by simp only [lk] <;> rfl) (by simp only [lk] <;> rfl) (by simp (disch := first | assumption | omega | (simp only [nx] <;> omega) | fail) only [aStore, ty33, writeRow, hpl, hc, and_self, if_true, Int.toNat_natCast, hg1, Nat.mul_one, Nat.zero_add, hz, places, Value.cells, ty27, ty3, ty33, ty4, ty47, ty5, ty53, hov, hov2, hcj, hb, hs, Msg.v] <;> rfl)) rfl <|
                OSuf.aopF tyOK rfl (so_assign (by simp only [lk] <;> rfl)) (fun _ => rfl) rfl <|
                OSuf.nil <| SQ.normal ?_
            refine W.seq <| W.seq <| W.reg <| 
                OSuf.aopF tyOK rfl (so_move (by simp only [lk] <;> rfl)) (fun _ => rfl) rfl <|
                OSuf.aop tyOK rfl (so_move (by simp only [lk] <;> rfl)) rfl <|
                OSuf.aop tyOK rfl (so_indexAddr (by simp only [lk] <;> rfl) (by simp only [lk] <;> rfl) (by simp (disch := first | assumption | omega | (simp only [nx] <;> omega) | fail) only [aIndexAddr, ty53, ty4, hpl, hc, and_self, if_true, Int.toNat_natCast, hg1, Nat.mul_one, Nat.zero_add, hz, places, Value.cells, ty27, ty3, ty33, ty4, ty47, ty5, ty53, hov, hov2, hcj, hb, hs, Msg.v] <;> rfl)) rfl <|
                OSuf.aop tyOK rfl (so_load (by simp only [lk] <;> rfl) (by simp (disch := first | assumption | omega | (simp only [nx] <;> omega) | fail) only [aLoad, ty4, rowOf, hpl, hc, and_self, if_true, Int.toNat_natCast, hg1, Nat.mul_one, Nat.zero_add, hz, places, Value.cells, ty27, ty3, ty33, ty4, ty47, ty5, ty53, hov, hov2, hcj, hb, hs, Msg.v] <;> rfl)) rfl <|
                OSuf.aopF tyOK rfl (so_bin (by simp only [lk] <;> rfl) (by simp only [lk] <;> rfl) (bb_neq tyOK ty4 rfl)) (fun _ => rfl) (by first | rfl | assumption | ((simp only [bl, hc, and_self, if_true, Int.toNat_natCast, hg1, Nat.mul_one, Nat.zero_add, hz, places, Value.cells, ty27, ty3, ty33, ty4, ty47, ty5, ty53, hov, hov2, hcj, hb, hs, Msg.v]) <;> first | done | assumption | omega) | (simp [hc, and_self, if_true, Int.toNat_natCast, hg1, Nat.mul_one, Nat.zero_add, hz, places, Value.cells, ty27, ty3, ty33, ty4, ty47, ty5, ty53, hov, hov2, hcj, hb, hs, Msg.v]; done) | (simp [hc, and_self, if_true, Int.toNat_natCast, hg1, Nat.mul_one, Nat.zero_add, hz, places, Value.cells, ty27, ty3, ty33, ty4, ty47, ty5, ty53, hov, hov2, hcj, hb, hs, Msg.v]; omega)) <|
                OSuf.nil <| SQ.normal ?_
            refine W.no (by simp only [lk] <;> rfl) <| CWp.skip <| SQ.normal ?_
            refine W.seq <| W.seq <| W.reg <| 
                OSuf.aopF tyOK rfl (so_move (by simp only [lk] <;> rfl)) (fun _ => rfl) rfl <|
                OSuf.nil <| SQ.normal ?_
            refine W.no (by simp only [lk] <;> rfl) <| CWp.skip <| SQ.normal ?_
            refine W.reg <| 
                OSuf.aop tyOK rfl (so_move (by simp only [lk] <;> rfl)) rfl <|
                OSuf.aop tyOK rfl (so_indexAddr (by simp only [lk] <;> rfl) (by simp only [lk] <;> rfl) (by simp (disch := first | assumption | omega | (simp only [nx] <;> omega) | fail) only [aIndexAddr, ty53, ty4, hpl, hc, and_self, if_true, Int.toNat_natCast, hg1, Nat.mul_one, Nat.zero_add, hz, places, Value.cells, ty27, ty3, ty33, ty4, ty47, ty5, ty53, hov, hov2, hcj, hb, hs, Msg.v] <;> rfl)) rfl <|
                OSuf.aop tyOK rfl (so_store (by simp only [lk] <;> rfl) (by simp only [lk] <;> rfl) (by simp (disch := first | assumption | omega | (simp only [nx] <;> omega) | fail) only [aStore, ty4, writeRow, hpl, hc, and_self, if_true, Int.toNat_natCast, hg1, Nat.mul_one, Nat.zero_add, hz, places, Value.cells, ty27, ty3, ty33, ty4, ty47, ty5, ty53, hov, hov2, hcj, hb, hs, Msg.v] <;> rfl)) rfl <|
                OSuf.nil <| BQ.normal <| SQ.normal ?_
            refine W.seq <| W.reg <| 
                OSuf.aop tyOK rfl (so_move (by simp only [lk] <;> rfl)) rfl <|
                OSuf.callD rfl (by simp only [aopnds, lk] <;> rfl) en20 (len_c _ (h0.next + 1) S (hA.other (V := h0.next + 2) (by simp only [nx]; omega) (by omega) (by omega) hO.rows (fun z hz hne => by have hne' : ¬ h0.next + 2 = z := fun e => hne e.symm; simp (disch := first | assumption | omega | (simp only [nx] <;> omega) | fail) only [hpl]))) rfl <|
                OSuf.aop tyOK rfl (so_move (by simp only [lk] <;> rfl)) rfl <|
                OSuf.aopF tyOK rfl (so_bin (by simp only [lk] <;> rfl) (by simp only [lk] <;> rfl) bi_neq) (fun _ => rfl) (by simp) <|
                OSuf.nil <| SQ.normal ?_
            refine W.no (by simp only [lk] <;> rfl) <| CWp.skip <| BQ.normal <| SQ.normal ?_
            refine W.reg <| 
                OSuf.aop tyOK rfl (so_move (by simp only [lk] <;> rfl)) rfl <|
                OSuf.aop tyOK rfl (so_bin (by simp only [lk] <;> rfl) (by simp only [lk] <;> rfl) (bi_w bi_add (by first | (simp only [h8, w1, hid, w2] <;> rfl) | rfl))) rfl <|
                OSuf.aop tyOK rfl (so_assign (by simp only [lk] <;> rfl)) rfl <|
                OSuf.nil <| ?_
            -- leaf: round
            refine LQ.normal (m := n - 1) (L := [(0, .slice (some ⟨r, 0, none⟩) l.length 0), (3, P0 (h0.next + 1)), (4, U64 (S.last + 1)), (5, I64 S.qs.length), (6, P0 (h0.next + 2)), (7, I64 (k + 1 : Nat))]) (by omega) ?_ ⟨k + 1, S, ov.set id false, by omega, (hA.other (V := h0.next + 2) (by simp only [nx]; omega) (by omega) (by omega) hO.rows (fun z hz hne => by have hne' : ¬ h0.next + 2 = z := fun e => hne e.symm; simp (disch := first | assumption | omega | (simp only [nx] <;> omega) | fail) only [hpl])), hm, by omega, by omega, by omega, hO2, by simp only [nx]; omega, by simp (disch := first | assumption | omega | (simp only [nx] <;> omega) | fail) only [hpl], ?_, rfl⟩
            · simp only [HasA, Tr.get_put, Nat.reduceEqDiff, reduceIte, w2, and_self]
            · refine ⟨by have := hR.1; simp only [nx]; omega, fun p vs hp hgp => ?_⟩
              have hne' : ¬ h0.next + 2 = p := by omega
              have := hR.1
              simp (disch := first | assumption | omega | (simp only [nx] <;> omega) | fail) only [hpl]; exact hR.2 p vs hp hgp
          | some q =>
            have hov2 : (ov.map Value.bool)[id]? = some (.bool true) := by simp [hO.is id hi1, hfq]
            have hdl := len_del hA.ids hfq
            have w6 : IntKind.i64.wrap ((S.qs.length : Int) - 1) = ((delQ (id : Int) S.qs).length : Nat) := by rw [wrap_i64 (by omega) (by omega)]; omega
            refine W.seq <| W.seq <| W.reg <| 
                OSuf.aop tyOK rfl (so_move (by simp only [lk] <;> rfl)) rfl <|
                OSuf.aop tyOK rfl (so_move (by simp only [lk] <;> rfl)) rfl <|
                OSuf.aop tyOK rfl (so_len (by simp only [aopnds, lk] <;> rfl) (by simp (disch := first | assumption | omega | (simp only [nx] <;> omega) | fail) only [aLenOf, ty47, hpl, hc, and_self, if_true, Int.toNat_natCast, hg1, Nat.mul_one, Nat.zero_add, hz] <;> rfl)) rfl <|
                OSuf.aopT tyOK rfl (so_bin (by simp only [lk] <;> rfl) (by simp only [lk] <;> rfl) bi_lss) (fun _ => rfl) (by first | rfl | assumption | ((simp only [bl, hc, and_self, if_true, Int.toNat_natCast, hg1, Nat.mul_one, Nat.zero_add, hz]) <;> first | done | assumption | omega) | (simp [hc, and_self, if_true, Int.toNat_natCast, hg1, Nat.mul_one, Nat.zero_add, hz]; done) | (simp [hc, and_self, if_true, Int.toNat_natCast, hg1, Nat.mul_one, Nat.zero_add, hz]; omega)) <|
                OSuf.aopT tyOK rfl (so_move (by simp only [lk] <;> rfl)) (fun _ => rfl) rfl <|
                OSuf.aop tyOK (aguard_of rfl rfl (by simp only [lk] <;> rfl) rfl) (so_move (by simp only [lk] <;> rfl)) rfl <|
                OSuf.aopT tyOK (aguard_of rfl rfl (by simp only [lk] <;> rfl) rfl) (so_bin (by simp only [lk] <;> rfl) (by simp only [lk] <;> rfl) bi_lss) (fun _ => rfl) (by first | rfl | assumption | ((simp only [bl, hc, and_self, if_true, Int.toNat_natCast, hg1, Nat.mul_one, Nat.zero_add, hz]) <;> first | done | assumption | omega) | (simp [hc, and_self, if_true, Int.toNat_natCast, hg1, Nat.mul_one, Nat.zero_add, hz]; done) | (simp [hc, and_self, if_true, Int.toNat_natCast, hg1, Nat.mul_one, Nat.zero_add, hz]; omega)) <|
                OSuf.aopT tyOK rfl (so_pick (by simp only [lk] <;> rfl) (by simp only [lk, cond_true, cond_false] <;> rfl)) (fun _ => rfl) rfl <|
                OSuf.nil <| SQ.normal ?_
            refine W.yes (by simp only [lk] <;> rfl) <| CWp.skip <| SQ.normal ?_
            refine W.seq <| W.block <| W.seq <| W.reg <| 
                OSuf.aop tyOK rfl (so_move (by simp only [lk] <;> rfl)) rfl <|
                OSuf.aop tyOK rfl (so_move (by simp only [lk] <;> rfl)) rfl <|
                OSuf.aop tyOK rfl (so_indexAddr (by simp only [lk] <;> rfl) (by simp only [lk] <;> rfl) (by simp (disch := first | assumption | omega | (simp only [nx] <;> omega) | fail) only [aIndexAddr, ty47, ty5, hpl, hc, and_self, if_true, Int.toNat_natCast, hg1, Nat.mul_one, Nat.zero_add, hz] <;> rfl)) rfl <|
                OSuf.aop tyOK rfl (so_load (by simp only [lk] <;> rfl) (by simp (disch := first | assumption | omega | (simp only [nx] <;> omega) | fail) only [aLoad, ty5, rowOf, hpl, hc, and_self, if_true, Int.toNat_natCast, hg1, Nat.mul_one, Nat.zero_add, hz] <;> rfl)) rfl <|
                OSuf.aop tyOK rfl (so_bin (by simp only [lk] <;> rfl) (by simp only [lk] <;> rfl) (bi_w (bi_shr (by decide)) (by first | (simp only [h8, w1, hid, w2, w6] <;> rfl) | rfl))) rfl <|
                OSuf.aop tyOK rfl (so_conw (so_conv tyOK (by simp only [lk] <;> rfl) ty5 ⟨_, rfl⟩ ty27 rfl) (by first | (simp only [h8, w1, hid, w2, w6] <;> rfl) | rfl)) rfl <|
                OSuf.aop tyOK rfl (so_move (by simp only [lk] <;> rfl)) rfl <|
                OSuf.aop tyOK rfl (so_bin (by simp only [lk] <;> rfl) (by simp only [lk] <;> rfl) (bi_w (bi_rem hlast) (by first | (simp only [h8, w1, hid, w2, w6] <;> rfl) | rfl))) rfl <|
                OSuf.aop tyOK rfl (so_assign (by simp only [lk] <;> rfl)) rfl <|
                OSuf.nil <| SQ.normal ?_
            refine W.seq <| W.seq <| W.reg <| 
                OSuf.aop tyOK rfl (so_move (by simp only [lk] <;> rfl)) rfl <|
                OSuf.aop tyOK rfl (so_move (by simp only [lk] <;> rfl)) rfl <|
                OSuf.aop tyOK rfl (so_indexAddr (by simp only [lk] <;> rfl) (by simp only [lk] <;> rfl) (by simp (disch := first | assumption | omega | (simp only [nx] <;> omega) | fail) only [aIndexAddr, ty47, ty5, hpl, hc, and_self, if_true, Int.toNat_natCast, hg1, Nat.mul_one, Nat.zero_add, hz] <;> rfl)) rfl <|
                OSuf.aop tyOK rfl (so_load (by simp only [lk] <;> rfl) (by simp (disch := first | assumption | omega | (simp only [nx] <;> omega) | fail) only [aLoad, ty5, rowOf, hpl, hc, and_self, if_true, Int.toNat_natCast, hg1, Nat.mul_one, Nat.zero_add, hz] <;> rfl)) rfl <|
                OSuf.aop tyOK rfl (so_bin (by simp only [lk] <;> rfl) (by simp only [lk] <;> rfl) (bi_w (bi_rem (by decide)) (by first | (simp only [h8, w1, hid, w2, w6] <;> rfl) | rfl))) rfl <|
                OSuf.nil <| SQ.normal ?_
            refine W.block <| W.seq <| W.reg <| 
                OSuf.aopF tyOK rfl (so_bin (by simp only [lk] <;> rfl) (by simp only [lk] <;> rfl) bi_eql) (fun _ => rfl) (by first | rfl | assumption | ((simp only [bl, hc, and_self, if_true, Int.toNat_natCast, hg1, Nat.mul_one, Nat.zero_add, hz]) <;> first | done | assumption | omega) | (simp [hc, and_self, if_true, Int.toNat_natCast, hg1, Nat.mul_one, Nat.zero_add, hz]; done) | (simp [hc, and_self, if_true, Int.toNat_natCast, hg1, Nat.mul_one, Nat.zero_add, hz]; omega)) <|
                OSuf.aopF tyOK rfl (so_assign (by simp only [lk] <;> rfl)) (fun _ => rfl) rfl <|
                OSuf.nil <| SQ.normal ?_
            refine W.no (by simp only [lk] <;> rfl) <| W.seq <| W.reg <| 
                OSuf.aopF tyOK rfl (so_bin (by simp only [lk] <;> rfl) (by simp only [lk] <;> rfl) bi_eql) (fun _ => rfl) (by first | rfl | assumption | ((simp only [bl, hc, and_self, if_true, Int.toNat_natCast, hg1, Nat.mul_one, Nat.zero_add, hz]) <;> first | done | assumption | omega) | (simp [hc, and_self, if_true, Int.toNat_natCast, hg1, Nat.mul_one, Nat.zero_add, hz]; done) | (simp [hc, and_self, if_true, Int.toNat_natCast, hg1, Nat.mul_one, Nat.zero_add, hz]; omega)) <|
                OSuf.aopF tyOK rfl (so_assign (by simp only [lk] <;> rfl)) (fun _ => rfl) rfl <|
                OSuf.nil <| SQ.normal ?_
            refine W.no (by simp only [lk] <;> rfl) <| W.seq <| W.reg <| 
                OSuf.aopF tyOK rfl (so_bin (by simp only [lk] <;> rfl) (by simp only [lk] <;> rfl) bi_eql) (fun _ => rfl) (by first | rfl | assumption | ((simp only [bl, hc, and_self, if_true, Int.toNat_natCast, hg1, Nat.mul_one, Nat.zero_add, hz]) <;> first | done | assumption | omega) | (simp [hc, and_self, if_true, Int.toNat_natCast, hg1, Nat.mul_one, Nat.zero_add, hz]; done) | (simp [hc, and_self, if_true, Int.toNat_natCast, hg1, Nat.mul_one, Nat.zero_add, hz]; omega)) <|
                OSuf.aopF tyOK rfl (so_assign (by simp only [lk] <;> rfl)) (fun _ => rfl) rfl <|
                OSuf.nil <| SQ.normal ?_
            refine W.no (by simp only [lk] <;> rfl) <| W.seq <| W.reg <| 
                OSuf.aopT tyOK rfl (so_bin (by simp only [lk] <;> rfl) (by simp only [lk] <;> rfl) bi_eql) (fun _ => rfl) (by first | rfl | assumption | ((simp only [bl, hc, and_self, if_true, Int.toNat_natCast, hg1, Nat.mul_one, Nat.zero_add, hz]) <;> first | done | assumption | omega) | (simp [hc, and_self, if_true, Int.toNat_natCast, hg1, Nat.mul_one, Nat.zero_add, hz]; done) | (simp [hc, and_self, if_true, Int.toNat_natCast, hg1, Nat.mul_one, Nat.zero_add, hz]; omega)) <|
                OSuf.aopT tyOK rfl (so_assign (by simp only [lk] <;> rfl)) (fun _ => rfl) rfl <|
                OSuf.nil <| SQ.normal ?_
            refine W.yes (by simp only [lk] <;> rfl) <| W.seq <| W.reg <| 
                OSuf.aop tyOK rfl (so_move (by simp only [lk] <;> rfl)) rfl <|
                OSuf.aop tyOK rfl (so_move (by simp only [lk] <;> rfl)) rfl <|
                OSuf.call rfl (by simp only [aopnds, lk] <;> rfl) en9 (answer_some _ (h0.next + 1) S hA id q hfq) ?_
            rintro _ h2 ⟨rfl, hA2, hF2⟩
            obtain ⟨hv2, hov'⟩ := keep h2 hF2
            simp only [Msg.v]
            refine ⟨_, rfl, ?_⟩
            refine 
                OSuf.aop tyOK rfl (so_move (by simp only [lk] <;> rfl)) rfl <|
                OSuf.aop tyOK rfl (so_extract (by simp only [lk] <;> rfl) (by simp (disch := first | assumption | omega | (simp only [nx] <;> omega) | fail) only [aExtract, hpl, hc, and_self, if_true, Int.toNat_natCast, hg1, Nat.mul_one, Nat.zero_add, hz, places, Value.cells, ty27, ty3, ty33, ty4, ty47, ty5, ty53, hov', hov2, hcj, hb, hs] <;> rfl)) rfl <|
                OSuf.aopT tyOK rfl (so_extract (by simp only [lk] <;> rfl) (by simp (disch := first | assumption | omega | (simp only [nx] <;> omega) | fail) only [aExtract, hpl, hc, and_self, if_true, Int.toNat_natCast, hg1, Nat.mul_one, Nat.zero_add, hz, places, Value.cells, ty27, ty3, ty33, ty4, ty47, ty5, ty53, hov', hov2, hcj, hb, hs] <;> rfl)) (fun _ => rfl) (by first | rfl | assumption | ((simp only [bl, hc, and_self, if_true, Int.toNat_natCast, hg1, Nat.mul_one, Nat.zero_add, hz, places, Value.cells, ty27, ty3, ty33, ty4, ty47, ty5, ty53, hov', hov2, hcj, hb, hs]) <;> first | done | assumption | omega) | (simp [hc, and_self, if_true, Int.toNat_natCast, hg1, Nat.mul_one, Nat.zero_add, hz, places, Value.cells, ty27, ty3, ty33, ty4, ty47, ty5, ty53, hov', hov2, hcj, hb, hs]; done) | (simp [hc, and_self, if_true, Int.toNat_natCast, hg1, Nat.mul_one, Nat.zero_add, hz, places, Value.cells, ty27, ty3, ty33, ty4, ty47, ty5, ty53, hov', hov2, hcj, hb, hs]; omega)) <|
                OSuf.aop tyOK rfl (so_alloc (by simp only [aAlloc, ty33] <;> rfl)) rfl <|
                OSuf.aop tyOK rfl (so_store (by simp only [lk] <;> rfl) (by simp only [lk] <;> rfl) (by simp (disch := first | assumption | omega | (simp only [nx] <;> omega) | fail) only [aStore, ty33, writeRow, hpl, hc, and_self, if_true, Int.toNat_natCast, hg1, Nat.mul_one, Nat.zero_add, hz, places, Value.cells, ty27, ty3, ty33, ty4, ty47, ty5, ty53, hov', hov2, hcj, hb, hs] <;> rfl)) rfl <|
                OSuf.aopT tyOK rfl (so_assign (by simp only [lk] <;> rfl)) (fun _ => rfl) rfl <|
                OSuf.nil <| SQ.normal ?_
            refine W.seq <| W.seq <| W.reg <| 
                OSuf.aopT tyOK rfl (so_move (by simp only [lk] <;> rfl)) (fun _ => rfl) rfl <|
                OSuf.aop tyOK rfl (so_move (by simp only [lk] <;> rfl)) rfl <|
                OSuf.aop tyOK rfl (so_indexAddr (by simp only [lk] <;> rfl) (by simp only [lk] <;> rfl) (by simp (disch := first | assumption | omega | (simp only [nx] <;> omega) | fail) only [aIndexAddr, ty53, ty4, hpl, hc, and_self, if_true, Int.toNat_natCast, hg1, Nat.mul_one, Nat.zero_add, hz, places, Value.cells, ty27, ty3, ty33, ty4, ty47, ty5, ty53, hov', hov2, hcj, hb, hs] <;> rfl)) rfl <|
                OSuf.aop tyOK rfl (so_load (by simp only [lk] <;> rfl) (by simp (disch := first | assumption | omega | (simp only [nx] <;> omega) | fail) only [aLoad, ty4, rowOf, hpl, hc, and_self, if_true, Int.toNat_natCast, hg1, Nat.mul_one, Nat.zero_add, hz, places, Value.cells, ty27, ty3, ty33, ty4, ty47, ty5, ty53, hov', hov2, hcj, hb, hs] <;> rfl)) rfl <|
                OSuf.aopF tyOK rfl (so_bin (by simp only [lk] <;> rfl) (by simp only [lk] <;> rfl) (bb_neq tyOK ty4 rfl)) (fun _ => rfl) (by first | rfl | assumption | ((simp only [bl, hc, and_self, if_true, Int.toNat_natCast, hg1, Nat.mul_one, Nat.zero_add, hz, places, Value.cells, ty27, ty3, ty33, ty4, ty47, ty5, ty53, hov', hov2, hcj, hb, hs]) <;> first | done | assumption | omega) | (simp [hc, and_self, if_true, Int.toNat_natCast, hg1, Nat.mul_one, Nat.zero_add, hz, places, Value.cells, ty27, ty3, ty33, ty4, ty47, ty5, ty53, hov', hov2, hcj, hb, hs]; done) | (simp [hc, and_self, if_true, Int.toNat_natCast, hg1, Nat.mul_one, Nat.zero_add, hz, places, Value.cells, ty27, ty3, ty33, ty4, ty47, ty5, ty53, hov', hov2, hcj, hb, hs]; omega)) <|
                OSuf.nil <| SQ.normal ?_
            refine W.no (by simp only [lk] <;> rfl) <| CWp.skip <| SQ.normal ?_
            refine W.seq <| W.seq <| W.reg <| 
                OSuf.aopT tyOK rfl (so_move (by simp only [lk] <;> rfl)) (fun _ => rfl) rfl <|
                OSuf.nil <| SQ.normal ?_
            refine W.yes (by simp only [lk] <;> rfl) <| W.reg <| 
                OSuf.aop tyOK rfl (so_move (by simp only [lk] <;> rfl)) rfl <|
                OSuf.aop tyOK rfl (so_bin (by simp only [lk] <;> rfl) (by simp only [lk] <;> rfl) (bi_w bi_sub (by first | (simp only [h8, w1, hid, w2, w6] <;> rfl) | rfl))) rfl <|
                OSuf.aop tyOK rfl (so_assign (by simp only [lk] <;> rfl)) rfl <|
                OSuf.nil <| SQ.normal ?_
            refine W.reg <| 
                OSuf.aop tyOK rfl (so_move (by simp only [lk] <;> rfl)) rfl <|
                OSuf.aop tyOK rfl (so_indexAddr (by simp only [lk] <;> rfl) (by simp only [lk] <;> rfl) (by simp (disch := first | assumption | omega | (simp only [nx] <;> omega) | fail) only [aIndexAddr, ty53, ty4, hpl, hc, and_self, if_true, Int.toNat_natCast, hg1, Nat.mul_one, Nat.zero_add, hz, places, Value.cells, ty27, ty3, ty33, ty4, ty47, ty5, ty53, hov', hov2, hcj, hb, hs] <;> rfl)) rfl <|
                OSuf.aop tyOK rfl (so_store (by simp only [lk] <;> rfl) (by simp only [lk] <;> rfl) (by simp (disch := first | assumption | omega | (simp only [nx] <;> omega) | fail) only [aStore, ty4, writeRow, hpl, hc, and_self, if_true, Int.toNat_natCast, hg1, Nat.mul_one, Nat.zero_add, hz, places, Value.cells, ty27, ty3, ty33, ty4, ty47, ty5, ty53, hov', hov2, hcj, hb, hs] <;> rfl)) rfl <|
                OSuf.nil <| BQ.normal <| SQ.normal ?_
            refine W.seq <| W.reg <| 
                OSuf.aop tyOK rfl (so_move (by simp only [lk] <;> rfl)) rfl <|
                OSuf.callD rfl (by simp only [aopnds, lk] <;> rfl) en20 (len_c _ (h0.next + 1) _ (RA.other (V := h0.next + 2) hA2 (by simp only [nx]; omega) (by omega) (by simp only; omega) hrows (fun z hz hne => by have hne' : ¬ h0.next + 2 = z := fun e => hne e.symm; simp (disch := first | assumption | omega | (simp only [nx] <;> omega) | fail) only [hpl]))) rfl <|
                OSuf.aop tyOK rfl (so_move (by simp only [lk] <;> rfl)) rfl <|
                OSuf.aopF tyOK rfl (so_bin (by simp only [lk] <;> rfl) (by simp only [lk] <;> rfl) bi_neq) (fun _ => rfl) (by simp) <|
                OSuf.nil <| SQ.normal ?_
            refine W.no (by simp only [lk] <;> rfl) <| CWp.skip <| BQ.normal <| SQ.normal ?_
            refine W.reg <| 
                OSuf.aop tyOK rfl (so_move (by simp only [lk] <;> rfl)) rfl <|
                OSuf.aop tyOK rfl (so_bin (by simp only [lk] <;> rfl) (by simp only [lk] <;> rfl) (bi_w bi_add (by first | (simp only [h8, w1, hid, w2, w6] <;> rfl) | rfl))) rfl <|
                OSuf.aop tyOK rfl (so_assign (by simp only [lk] <;> rfl)) rfl <|
                OSuf.nil <| ?_
            -- leaf: round
            refine LQ.normal (m := n - 1) (L := [(0, .slice (some ⟨r, 0, none⟩) l.length 0), (3, P0 (h0.next + 1)), (4, U64 (S.last + 1)), (5, I64 (delQ (id : Int) S.qs).length), (6, P0 (h0.next + 2)), (7, I64 (k + 1 : Nat))]) (by omega) ?_ ⟨k + 1, ⟨S.last, delQ (id : Int) S.qs, S.clock, S.m⟩, ov.set id false, by omega, RA.other (V := h0.next + 2) hA2 (by simp only [nx]; omega) (by omega) (by simp only; omega) hrows (fun z hz hne => by have hne' : ¬ h0.next + 2 = z := fun e => hne e.symm; simp (disch := first | assumption | omega | (simp only [nx] <;> omega) | fail) only [hpl]), hm, by simp only; omega, by omega, by simp only; omega, hO.del hi1, by simp only [nx]; omega, by simp (disch := first | assumption | omega | (simp only [nx] <;> omega) | fail) only [hpl], ?_, rfl⟩
            · simp only [HasA, Tr.get_put, Nat.reduceEqDiff, reduceIte, w2, and_self]
            · have hR2 := hR.step hA hF2
              refine ⟨by have := hR2.1; simp only [nx]; omega, fun p vs hp hgp => ?_⟩
              have hne' : ¬ h0.next + 2 = p := by omega
              have := hR2.1
              simp (disch := first | assumption | omega | (simp only [nx] <;> omega) | fail) only [hpl]; exact hR2.2 p vs hp hgp
        obtain ⟨nn, hnn⟩ : ∃ nn : Nat, S.last + 1 = nn := ⟨(S.last + 1).toNat, by omega⟩
        have hn1 : nn < 101 := by omega
        have hb := hble true nn hn1
        have hs := hspl true nn hn1
        have hcn : (nn : Int) < ((101 : Nat) : Int) := by omega
        have w7 : IntKind.u64.wrap ((nn : Int) + 1) = S.last + 1 + 1 := by rw [wrap_u64 (by omega) (by omega)]; omega
        have w8 : IntKind.i64.wrap ((S.qs.length : Int) + 1) = ((S.qs.length + 1 : Nat) : Int) := by rw [wrap_i64 (by omega) (by omega)]; omega
        refine W.seq <| W.seq <| W.reg <| 
            OSuf.aop tyOK rfl (so_move (by simp only [lk] <;> rfl)) rfl <|
            OSuf.aop tyOK rfl (so_move (by simp only [lk] <;> rfl)) rfl <|
            OSuf.aop tyOK rfl (so_len (by simp only [aopnds, lk] <;> rfl) (by simp (disch := first | assumption | omega | (simp only [nx] <;> omega) | fail) only [aLenOf, ty47, hpl, hc, and_self, if_true, Int.toNat_natCast, hg1, Nat.mul_one, Nat.zero_add, hz] <;> rfl)) rfl <|
            OSuf.aopT tyOK rfl (so_bin (by simp only [lk] <;> rfl) (by simp only [lk] <;> rfl) bi_lss) (fun _ => rfl) (by first | rfl | assumption | ((simp only [bl, hc, and_self, if_true, Int.toNat_natCast, hg1, Nat.mul_one, Nat.zero_add, hz]) <;> first | done | assumption | omega) | (simp [hc, and_self, if_true, Int.toNat_natCast, hg1, Nat.mul_one, Nat.zero_add, hz]; done) | (simp [hc, and_self, if_true, Int.toNat_natCast, hg1, Nat.mul_one, Nat.zero_add, hz]; omega)) <|
            OSuf.aopT tyOK rfl (so_move (by simp only [lk] <;> rfl)) (fun _ => rfl) rfl <|
            OSuf.aop tyOK (aguard_of rfl rfl (by simp only [lk] <;> rfl) rfl) (so_move (by simp only [lk] <;> rfl)) rfl <|
            OSuf.aopT tyOK (aguard_of rfl rfl (by simp only [lk] <;> rfl) rfl) (so_bin (by simp only [lk] <;> rfl) (by simp only [lk] <;> rfl) bi_lss) (fun _ => rfl) (by first | rfl | assumption | ((simp only [bl, hc, and_self, if_true, Int.toNat_natCast, hg1, Nat.mul_one, Nat.zero_add, hz]) <;> first | done | assumption | omega) | (simp [hc, and_self, if_true, Int.toNat_natCast, hg1, Nat.mul_one, Nat.zero_add, hz]; done) | (simp [hc, and_self, if_true, Int.toNat_natCast, hg1, Nat.mul_one, Nat.zero_add, hz]; omega)) <|
            OSuf.aopT tyOK rfl (so_pick (by simp only [lk] <;> rfl) (by simp only [lk, cond_true, cond_false] <;> rfl)) (fun _ => rfl) rfl <|
            OSuf.nil <| SQ.normal ?_
        refine W.yes (by simp only [lk] <;> rfl) <| CWp.skip <| SQ.normal ?_
        refine W.seq <| W.block <| W.seq <| W.reg <| 
            OSuf.aop tyOK rfl (so_move (by simp only [lk] <;> rfl)) rfl <|
            OSuf.aop tyOK rfl (so_move (by simp only [lk] <;> rfl)) rfl <|
            OSuf.aop tyOK rfl (so_indexAddr (by simp only [lk] <;> rfl) (by simp only [lk] <;> rfl) (by simp (disch := first | assumption | omega | (simp only [nx] <;> omega) | fail) only [aIndexAddr, ty47, ty5, hpl, hc, and_self, if_true, Int.toNat_natCast, hg1, Nat.mul_one, Nat.zero_add, hz] <;> rfl)) rfl <|
            OSuf.aop tyOK rfl (so_load (by simp only [lk] <;> rfl) (by simp (disch := first | assumption | omega | (simp only [nx] <;> omega) | fail) only [aLoad, ty5, rowOf, hpl, hc, and_self, if_true, Int.toNat_natCast, hg1, Nat.mul_one, Nat.zero_add, hz] <;> rfl)) rfl <|
            OSuf.aop tyOK rfl (so_bin (by simp only [lk] <;> rfl) (by simp only [lk] <;> rfl) (bi_w (bi_shr (by decide)) (by first | (simp only [h8, w1, hid, w2] <;> rfl) | rfl))) rfl <|
            OSuf.aop tyOK rfl (so_conw (so_conv tyOK (by simp only [lk] <;> rfl) ty5 ⟨_, rfl⟩ ty27 rfl) (by first | (simp only [h8, w1, hid, w2] <;> rfl) | rfl)) rfl <|
            OSuf.aop tyOK rfl (so_move (by simp only [lk] <;> rfl)) rfl <|
            OSuf.aop tyOK rfl (so_bin (by simp only [lk] <;> rfl) (by simp only [lk] <;> rfl) (bi_w (bi_rem hlast) (by first | (simp only [h8, w1, hid, w2] <;> rfl) | rfl))) rfl <|
            OSuf.aop tyOK rfl (so_assign (by simp only [lk] <;> rfl)) rfl <|
            OSuf.nil <| SQ.normal ?_
        refine W.seq <| W.seq <| W.reg <| 
            OSuf.aop tyOK rfl (so_move (by simp only [lk] <;> rfl)) rfl <|
            OSuf.aop tyOK rfl (so_move (by simp only [lk] <;> rfl)) rfl <|
            OSuf.aop tyOK rfl (so_indexAddr (by simp only [lk] <;> rfl) (by simp only [lk] <;> rfl) (by simp (disch := first | assumption | omega | (simp only [nx] <;> omega) | fail) only [aIndexAddr, ty47, ty5, hpl, hc, and_self, if_true, Int.toNat_natCast, hg1, Nat.mul_one, Nat.zero_add, hz] <;> rfl)) rfl <|
            OSuf.aop tyOK rfl (so_load (by simp only [lk] <;> rfl) (by simp (disch := first | assumption | omega | (simp only [nx] <;> omega) | fail) only [aLoad, ty5, rowOf, hpl, hc, and_self, if_true, Int.toNat_natCast, hg1, Nat.mul_one, Nat.zero_add, hz] <;> rfl)) rfl <|
            OSuf.aop tyOK rfl (so_bin (by simp only [lk] <;> rfl) (by simp only [lk] <;> rfl) (bi_w (bi_rem (by decide)) (by first | (simp only [h8, w1, hid, w2] <;> rfl) | rfl))) rfl <|
            OSuf.nil <| SQ.normal ?_
        refine W.block <| W.seq <| W.reg <| 
            OSuf.aopF tyOK rfl (so_bin (by simp only [lk] <;> rfl) (by simp only [lk] <;> rfl) bi_eql) (fun _ => rfl) (by first | rfl | assumption | ((simp only [bl, hc, and_self, if_true, Int.toNat_natCast, hg1, Nat.mul_one, Nat.zero_add, hz]) <;> first | done | assumption | omega) | (simp [hc, and_self, if_true, Int.toNat_natCast, hg1, Nat.mul_one, Nat.zero_add, hz]; done) | (simp [hc, and_self, if_true, Int.toNat_natCast, hg1, Nat.mul_one, Nat.zero_add, hz]; omega)) <|
            OSuf.aopF tyOK rfl (so_assign (by simp only [lk] <;> rfl)) (fun _ => rfl) rfl <|
            OSuf.nil <| SQ.normal ?_
        refine W.no (by simp only [lk] <;> rfl) <| W.seq <| W.reg <| 
            OSuf.aopF tyOK rfl (so_bin (by simp only [lk] <;> rfl) (by simp only [lk] <;> rfl) bi_eql) (fun _ => rfl) (by first | rfl | assumption | ((simp only [bl, hc, and_self, if_true, Int.toNat_natCast, hg1, Nat.mul_one, Nat.zero_add, hz]) <;> first | done | assumption | omega) | (simp [hc, and_self, if_true, Int.toNat_natCast, hg1, Nat.mul_one, Nat.zero_add, hz]; done) | (simp [hc, and_self, if_true, Int.toNat_natCast, hg1, Nat.mul_one, Nat.zero_add, hz]; omega)) <|
            OSuf.aopF tyOK rfl (so_assign (by simp only [lk] <;> rfl)) (fun _ => rfl) rfl <|
            OSuf.nil <| SQ.normal ?_
        refine W.no (by simp only [lk] <;> rfl) <| W.seq <| W.reg <| 
            OSuf.aopF tyOK rfl (so_bin (by simp only [lk] <;> rfl) (by simp only [lk] <;> rfl) bi_eql) (fun _ => rfl) (by first | rfl | assumption | ((simp only [bl, hc, and_self, if_true, Int.toNat_natCast, hg1, Nat.mul_one, Nat.zero_add, hz]) <;> first | done | assumption | omega) | (simp [hc, and_self, if_true, Int.toNat_natCast, hg1, Nat.mul_one, Nat.zero_add, hz]; done) | (simp [hc, and_self, if_true, Int.toNat_natCast, hg1, Nat.mul_one, Nat.zero_add, hz]; omega)) <|
            OSuf.aopF tyOK rfl (so_assign (by simp only [lk] <;> rfl)) (fun _ => rfl) rfl <|
            OSuf.nil <| SQ.normal ?_
        refine W.no (by simp only [lk] <;> rfl) <| W.seq <| W.reg <| 
            OSuf.aopF tyOK rfl (so_bin (by simp only [lk] <;> rfl) (by simp only [lk] <;> rfl) bi_eql) (fun _ => rfl) (by first | rfl | assumption | ((simp only [bl, hc, and_self, if_true, Int.toNat_natCast, hg1, Nat.mul_one, Nat.zero_add, hz]) <;> first | done | assumption | omega) | (simp [hc, and_self, if_true, Int.toNat_natCast, hg1, Nat.mul_one, Nat.zero_add, hz]; done) | (simp [hc, and_self, if_true, Int.toNat_natCast, hg1, Nat.mul_one, Nat.zero_add, hz]; omega)) <|
            OSuf.aopF tyOK rfl (so_assign (by simp only [lk] <;> rfl)) (fun _ => rfl) rfl <|
            OSuf.nil <| SQ.normal ?_
        refine W.no (by simp only [lk] <;> rfl) <| W.seq <| W.seq <| W.reg <| 
            OSuf.aop tyOK rfl (so_move (by simp only [lk] <;> rfl)) rfl <|
            OSuf.aop tyOK rfl (so_build (by simp only [aparts, lk] <;> rfl) (by simp (disch := first | assumption | omega | (simp only [nx] <;> omega) | fail) only [aBuild, ty33, hpl, hc, and_self, if_true, Int.toNat_natCast, hg1, Nat.mul_one, Nat.zero_add, hz] <;> rfl)) rfl <|
            OSuf.call rfl (by simp only [aopnds, lk] <;> rfl) en18 (ask_c _ (h0.next + 1) S hA ⟨4, 0, 0, 0, 0, 0, ⟨#[107]⟩, ⟨#[]⟩, false, false, ⟨#[]⟩, 0⟩ (by omega)) ?_
        rintro _ h2 ⟨rfl, w, hw, hA2, hF2⟩
        obtain ⟨hv2, hov'⟩ := keep h2 hF2
        refine ⟨_, rfl, ?_⟩
        refine 
            OSuf.aop tyOK rfl (so_move (by simp only [lk] <;> rfl)) rfl <|
            OSuf.aopF tyOK rfl (so_bin (by simp only [lk] <;> rfl) (by simp only [lk] <;> rfl) bi_neq) (fun _ => rfl) (by simp) <|
            OSuf.nil <| SQ.normal ?_
        refine W.no (by simp only [lk] <;> rfl) <| CWp.skip <| SQ.normal ?_
        refine W.seq <| W.reg <| 
            OSuf.aop tyOK rfl (so_move (by simp only [lk] <;> rfl)) rfl <|
            OSuf.aop tyOK rfl (so_indexAddr (by simp only [lk] <;> rfl) (by simp only [lk] <;> rfl) (by simp (disch := first | assumption | omega | (simp only [nx] <;> omega) | fail) only [aIndexAddr, ty53, ty4, hpl, hc, and_self, if_true, Int.toNat_natCast, hg1, Nat.mul_one, Nat.zero_add, hz, places, Value.cells, ty27, ty3, ty33, ty4, ty47, ty5, ty53, hov', hcn, hb, hs, hnn] <;> rfl)) rfl <|
            OSuf.aop tyOK rfl (so_store (by simp only [lk] <;> rfl) (by simp only [lk] <;> rfl) (by simp (disch := first | assumption | omega | (simp only [nx] <;> omega) | fail) only [aStore, ty4, writeRow, hpl, hc, and_self, if_true, Int.toNat_natCast, hg1, Nat.mul_one, Nat.zero_add, hz, places, Value.cells, ty27, ty3, ty33, ty4, ty47, ty5, ty53, hov', hcn, hb, hs, hnn] <;> rfl)) rfl <|
            OSuf.nil <| SQ.normal ?_
        refine W.seq <| W.reg <| 
            OSuf.aop tyOK rfl (so_move (by simp only [lk] <;> rfl)) rfl <|
            OSuf.aop tyOK rfl (so_bin (by simp only [lk] <;> rfl) (by simp only [lk] <;> rfl) (bi_w bi_add (by first | (simp only [h8, w1, hid, w2, hnn, w7, w8] <;> rfl) | rfl))) rfl <|
            OSuf.aop tyOK rfl (so_assign (by simp only [lk] <;> rfl)) rfl <|
            OSuf.nil <| SQ.normal ?_
        refine W.reg <| 
            OSuf.aop tyOK rfl (so_move (by simp only [lk] <;> rfl)) rfl <|
            OSuf.aop tyOK rfl (so_bin (by simp only [lk] <;> rfl) (by simp only [lk] <;> rfl) (bi_w bi_add (by first | (simp only [h8, w1, hid, w2, hnn, w7, w8] <;> rfl) | rfl))) rfl <|
            OSuf.aop tyOK rfl (so_assign (by simp only [lk] <;> rfl)) rfl <|
            OSuf.nil <| BQ.normal <| SQ.normal ?_
        refine W.seq <| W.reg <| 
            OSuf.aop tyOK rfl (so_move (by simp only [lk] <;> rfl)) rfl <|
            OSuf.callD rfl (by simp only [aopnds, lk] <;> rfl) en20 (len_c _ (h0.next + 1) _ (other _ _ _ hA2 hm (hO.ask (m := ⟨4, 0, 0, 0, 0, 0, ⟨#[107]⟩, ⟨#[]⟩, false, false, ⟨#[]⟩, 0⟩) hnn hn1 (by omega) (fun q hq => (hA.idr q hq).2.1)).rows)) rfl <|
            OSuf.aop tyOK rfl (so_move (by simp only [lk] <;> rfl)) rfl <|
            OSuf.aopF tyOK rfl (so_bin (by simp only [lk] <;> rfl) (by simp only [lk] <;> rfl) bi_neq) (fun _ => rfl) (by simp) <|
            OSuf.nil <| SQ.normal ?_
        refine W.no (by simp only [lk] <;> rfl) <| CWp.skip <| BQ.normal <| SQ.normal ?_
        refine W.reg <| 
            OSuf.aop tyOK rfl (so_move (by simp only [lk] <;> rfl)) rfl <|
            OSuf.aop tyOK rfl (so_bin (by simp only [lk] <;> rfl) (by simp only [lk] <;> rfl) (bi_w bi_add (by first | (simp only [h8, w1, hid, w2, hnn, w7, w8] <;> rfl) | rfl))) rfl <|
            OSuf.aop tyOK rfl (so_assign (by simp only [lk] <;> rfl)) rfl <|
            OSuf.nil <| ?_
        -- leaf: round
        have hO3 := hO.ask (w := w) (c := S.clock) (m := ⟨4, 0, 0, 0, 0, 0, ⟨#[107]⟩, ⟨#[]⟩, false, false, ⟨#[]⟩, 0⟩) hnn hn1 (by omega) (fun q hq => (hA.idr q hq).2.1)
        refine LQ.normal (m := n - 1) (L := [(0, .slice (some ⟨r, 0, none⟩) l.length 0), (3, P0 (h0.next + 1)), (4, U64 (S.last + 1 + 1)), (5, I64 (S.qs.length + 1 : Nat)), (6, P0 (h0.next + 2)), (7, I64 (k + 1 : Nat))]) (by omega) ?_ ⟨k + 1, _, ov.set nn true, by omega, other _ _ _ hA2 hm hO3.rows, hm, by simp; omega, by omega, by simp only; omega, hO3, by simp only [nx]; exact hv2, by simp (disch := first | assumption | omega | (simp only [nx] <;> omega) | fail) only [hpl], ro2 _ _ (hR.step hA hF2), by simp⟩
        · simp only [HasA, Tr.get_put, Nat.reduceEqDiff, reduceIte, w2, w7, w8, hnn, and_self]
      · refine W.seq <| W.seq <| W.reg <| 
            OSuf.aop tyOK rfl (so_move (by simp only [lk] <;> rfl)) rfl <|
            OSuf.aop tyOK rfl (so_move (by simp only [lk] <;> rfl)) rfl <|
            OSuf.aop tyOK rfl (so_len (by simp only [aopnds, lk] <;> rfl) (by simp (disch := first | assumption | omega | (simp only [nx] <;> omega) | fail) only [aLenOf, ty47, hpl] <;> rfl)) rfl <|
            OSuf.aopT tyOK rfl (so_bin (by simp only [lk] <;> rfl) (by simp only [lk] <;> rfl) bi_lss) (fun _ => rfl) (by first | rfl | assumption | ((simp only [bl]) <;> first | done | assumption | omega) | (simp []; done) | (simp []; omega)) <|
            OSuf.aopT tyOK rfl (so_move (by simp only [lk] <;> rfl)) (fun _ => rfl) rfl <|
            OSuf.aop tyOK (aguard_of rfl rfl (by simp only [lk] <;> rfl) rfl) (so_move (by simp only [lk] <;> rfl)) rfl <|
            OSuf.aopF tyOK (aguard_of rfl rfl (by simp only [lk] <;> rfl) rfl) (so_bin (by simp only [lk] <;> rfl) (by simp only [lk] <;> rfl) bi_lss) (fun _ => rfl) (by first | rfl | assumption | ((simp only [bl]) <;> first | done | assumption | omega) | (simp []; done) | (simp []; omega)) <|
            OSuf.aopF tyOK rfl (so_pick (by simp only [lk] <;> rfl) (by simp only [lk, cond_true, cond_false] <;> rfl)) (fun _ => rfl) rfl <|
            OSuf.nil <| SQ.normal ?_
        refine W.no (by simp only [lk] <;> rfl) <| CWp.exit <| SQ.exit <| LQ.exit <| BQ.exit <| ?_
        -- leaf: cut
        exact NQ.normal (L := []) trivial rfl
    · refine W.seq <| W.seq <| W.reg <| 
          OSuf.aop tyOK rfl (so_move (by simp only [lk] <;> rfl)) rfl <|
          OSuf.aop tyOK rfl (so_move (by simp only [lk] <;> rfl)) rfl <|
          OSuf.aop tyOK rfl (so_len (by simp only [aopnds, lk] <;> rfl) (by simp (disch := first | assumption | omega | (simp only [nx] <;> omega) | fail) only [aLenOf, ty47, hpl] <;> rfl)) rfl <|
          OSuf.aopF tyOK rfl (so_bin (by simp only [lk] <;> rfl) (by simp only [lk] <;> rfl) bi_lss) (fun _ => rfl) (by first | rfl | assumption | ((simp only [bl]) <;> first | done | assumption | omega) | (simp []; done) | (simp []; omega)) <|
          OSuf.aopF tyOK rfl (so_move (by simp only [lk] <;> rfl)) (fun _ => rfl) rfl <|
          OSuf.pass (aguard_of rfl rfl (by simp only [lk] <;> rfl) rfl) rfl <|
          OSuf.pass (aguard_of rfl rfl (by simp only [lk] <;> rfl) rfl) rfl <|
          OSuf.aopF tyOK rfl (so_pick (by simp only [lk] <;> rfl) (by simp only [lk, cond_true, cond_false] <;> rfl)) (fun _ => rfl) rfl <|
          OSuf.nil <| SQ.normal ?_
      refine W.no (by simp only [lk] <;> rfl) <| CWp.exit <| SQ.exit <| LQ.exit <| BQ.exit <| ?_
      -- leaf: cut
      exact NQ.normal (L := []) trivial rfl
  rintro L a' h ha rfl
  refine SQ.normal <| CWp.known ha ?_
  simp only [mkA]
  refine W.seq <| W.reg <| 
      OSuf.aopT tyOK rfl (so_assign (by simp only [lk] <;> rfl)) (fun _ => rfl) rfl <|
      OSuf.nil <| SQ.normal ?_
  refine CWp.ret <| FQ.ret (by simp only [aRet, Try.f6, aResults, aResult, lk, Nat.reduceEqDiff, reduceIte] <;> rfl) ?_
  -- leaf: end
  rfl
end Go.Proofs.Ytmokbpphniafpaa
