/-
  The law RpcDue, walked.
-/
import Derived.Test.YtmokbpphniafpaaRpcO
import Derived.Test.YtmokbpphniafpaaRpcD
namespace Go.Proofs.Ytmokbpphniafpaa
open Go.Ab
set_option linter.unusedSimpArgs false
set_option linter.unusedVariables false
set_option maxRecDepth 10000
set_option maxHeartbeats 4000000

/-- The numbers of those that are open, among the first. -/
def opens (ov : List Bool) : Nat → List Int
  | 0 => []
  | i + 1 => opens ov i ++ (if ov[i]? = some false then [((i + 1 : Nat) : Int)] else [])
theorem opens_mem {ov : List Bool} {x : Int} : ∀ {n : Nat}, x ∈ opens ov n ↔ ∃ i, i < n ∧ ov[i]? = some false ∧ x = (i + 1 : Nat)
  | 0 => by simp [opens]
  | n + 1 => by
    rw [opens, List.mem_append, opens_mem]
    constructor
    · rintro (⟨i, h1, h2, h3⟩ | h)
      · exact ⟨i, by omega, h2, h3⟩
      · split at h
        · rename_i ho; exact ⟨n, by omega, ho, by simpa using h⟩
        · cases h
    · rintro ⟨i, h1, h2, h3⟩
      by_cases e : i = n
      · subst e; rw [if_pos h2]; exact .inr (by simp [h3])
      · exact .inl ⟨i, by omega, h2, h3⟩
theorem opens_at {ov : List Bool} {i : Nat} (ho : ov[i]? = some false) : ∀ {n : Nat}, i < n → (opens ov n)[(opens ov i).length]? = some ((i + 1 : Nat) : Int)
  | n + 1, h => by
    rw [opens]
    by_cases e : i = n
    · subst e
      rw [List.getElem?_append_right (Nat.le_refl _), if_pos ho]; simp
    · have ih := opens_at ho (n := n) (by omega)
      have := (List.getElem?_eq_some_iff.1 ih).1
      rw [List.getElem?_append_left this]; exact ih
theorem opens_set (ov : List Bool) (j : Nat) : ∀ n, opens (ov.set j true) n = (opens ov n).filter (fun x => !(x == ((j + 1 : Nat) : Int)))
  | 0 => rfl
  | n + 1 => by
    rw [opens, opens, List.filter_append, opens_set ov j n]
    congr 1
    by_cases e : j = n
    · subst e
      rw [List.getElem?_set]
      by_cases hl : j < ov.length
      · simp [hl]
      · simp [hl]
    · rw [List.getElem?_set_ne e]
      split
      · rw [List.filter_cons, if_pos (by simp; omega)]; rfl
      · rfl
theorem opens_set_not {ov : List Bool} {j : Nat} (h : ov[j]? = some true) : ov.set j true = ov := by
  have hl := (List.getElem?_eq_some_iff.1 h).1
  rw [List.getElem?_eq_getElem hl] at h
  have := Option.some.inj h
  rw [← this]; simp
def cntU (k : Nat) (ov : List Bool) (i : Nat) : Nat := if k % 8 = 0 then (opens ov i).length else 0

structure Dq (V : Nat) (ov : List Bool) (n k : Nat) (S : RS) : Prop where
  len : ov.length = 21
  rows : ∀ q ∈ S.qs, ¬ q.row = V
  ids : S.qs.map Qn.id = opens ov n
  st : ∀ q ∈ S.qs, (k = 0 ∧ q.asked = false ∧ q.at_ = 0) ∨ (0 < k ∧ q.asked = true ∧ q.at_ = ((8 * ((k - 1) / 8) : Nat) : Int))
theorem Dq.due {V n k : Nat} {ov : List Bool} {S : RS} (d : Dq V ov n k S) {q : Qn} (hq : q ∈ S.qs) : dueq k q = decide (k % 8 = 0) := by
  rcases d.st q hq with ⟨rfl, h2, h3⟩ | ⟨h1, h2, h3⟩
  · simp [dueq, h2]
  · simp only [dueq, h2, h3, Bool.true_and]
    by_cases h8 : k % 8 = 0
    · have a : ¬ (k : Int) < ((8 * ((k - 1) / 8) : Nat) : Int) := by omega
      have b : ¬ (k : Int) - ((8 * ((k - 1) / 8) : Nat) : Int) < 8 := by omega
      simp only [decide_eq_false a, decide_eq_false b, h8]; rfl
    · have b : (k : Int) - ((8 * ((k - 1) / 8) : Nat) : Int) < 8 := by omega
      simp only [decide_eq_true b, Bool.or_true, h8]; rfl
theorem Dq.next {V n k : Nat} {ov : List Bool} {S : RS} (d : Dq V ov n k S) : Dq V ov n (k + 1) { S with qs := S.qs.map (stampq k) } := by
  refine ⟨d.len, fun q hq => ?_, ?_, fun q hq => ?_⟩
  · obtain ⟨x, hx, rfl⟩ := List.mem_map.1 hq
    rw [(stampq_ent _ x).2.2.2.1]; exact d.rows x hx
  · rw [← d.ids, List.map_map]
    exact List.map_congr_left fun q _ => (stampq_ent _ q).2.2.1
  · obtain ⟨x, hx, rfl⟩ := List.mem_map.1 hq
    have hd := d.due hx
    refine .inr ⟨by omega, ?_⟩
    unfold stampq
    by_cases h8 : k % 8 = 0
    · rw [hd, decide_eq_true h8, cond_true]; exact ⟨rfl, by simp only; omega⟩
    · rw [hd, decide_eq_false h8, cond_false]
      rcases d.st x hx with ⟨h1, _⟩ | ⟨h1, h2, h3⟩
      · omega
      · exact ⟨h2, by rw [h3]; omega⟩
theorem Dq.dueL {V n k : Nat} {ov : List Bool} {S : RS} {h : AHeap} {r : Nat} (d : Dq V ov n k S) (hA : RA h r S) : (dueL k S.qs).map Msg.id = if k % 8 = 0 then opens ov n else [] := by
  unfold Proofs.Ytmokbpphniafpaa.dueL
  split
  · rename_i h8
    rw [List.filter_eq_self.2 fun q hq => by rw [d.due hq]; exact decide_eq_true h8, List.map_map, ← d.ids]
    exact List.map_congr_left fun q hq => (hA.idr q hq).2.2
  · rename_i h8
    rw [List.filter_eq_nil_iff.2 fun q hq => by rw [d.due hq]; simpa using h8]; rfl
theorem Dq.del {V n k j : Nat} {ov : List Bool} {S : RS} (d : Dq V ov n k S) : Dq V (ov.set j true) n k ⟨S.last, delQ (j + 1 : Nat) S.qs, S.clock, S.m⟩ := by
  refine ⟨by simp [d.len], fun q hq => d.rows q (List.mem_filter.1 hq).1, ?_, fun q hq => d.st q (List.mem_filter.1 hq).1⟩
  rw [opens_set, ← d.ids]
  simp only [delQ, List.filter_map]; rfl
theorem Dq.some {V n k j : Nat} {ov : List Bool} {S : RS} (d : Dq V ov n k S) (hj : j < n) (ho : ov[j]? = some false) : ∃ q, findQ (j + 1 : Nat) S.qs = some q := by
  have : ((j + 1 : Nat) : Int) ∈ S.qs.map Qn.id := by rw [d.ids]; exact opens_mem.2 ⟨j, hj, ho, rfl⟩
  obtain ⟨q, hq, hi⟩ := List.mem_map.1 this
  cases hf : findQ (j + 1 : Nat) S.qs with
  | some q => exact ⟨q, rfl⟩
  | none => have := List.find?_eq_none.1 hf q hq; simp [hi] at this
theorem Dq.none {V n k j : Nat} {ov : List Bool} {S : RS} (d : Dq V ov n k S) (ho : ov[j]? = Option.some true) : findQ (j + 1 : Nat) S.qs = Option.none := by
  refine List.find?_eq_none.2 fun q hq he => ?_
  have : q.id ∈ S.qs.map Qn.id := List.mem_map.2 ⟨q, hq, rfl⟩
  rw [d.ids] at this
  obtain ⟨i, h1, h2, h3⟩ := opens_mem.1 this
  have he : q.id = ((j + 1 : Nat) : Int) := by simpa using he
  have : i = j := by omega
  subst this
  rw [ho] at h2; cases h2
theorem Dq.ask {n w c : Nat} {ov : List Bool} {S : RS} {m : Msg} (d : ∀ V, V ≥ c → Dq V ov n 0 S) (hn : S.last = n) (ho : ov[n]? = Option.some false) (V : Nat) (hV : V > w) (hc : V ≥ c) (cl : Nat) :
    Dq V ov (n + 1) 0 ⟨S.last + 1, S.qs ++ [⟨S.last + 1, w, cl, { m with id := S.last + 1 }, false, 0⟩], cl + 1, S.m⟩ := by
  have d := d V hc
  refine ⟨d.len, fun q hq => ?_, ?_, fun q hq => ?_⟩
  · rcases List.mem_append.1 hq with h | h
    · exact d.rows q h
    · simp at h; subst h; simp only; omega
  · rw [List.map_append, d.ids, opens, if_pos ho]; simp [hn]
  · rcases List.mem_append.1 hq with h | h
    · exact d.st q h
    · simp at h; subst h; exact .inl ⟨rfl, rfl, rfl⟩
theorem msgs_slice {h : AHeap} {lo : Nat} {rs : List Msg} {u : Value} (hm : MsgsAt h lo rs u) : ∃ b, u = .slice b rs.length 0 ∧ ∀ i, i < rs.length → ∃ y, b = some ⟨y, 0, none⟩ ∧ lo ≤ y ∧ y < h.next ∧ h.get y = some (.cells (flatsM rs) 13) := by
  cases hm with
  | none e => subst e; exact ⟨none, rfl, fun i hi => absurd hi (Nat.not_lt_zero _)⟩
  | some ne e a b c => subst e; exact ⟨_, rfl, fun i _ => ⟨_, rfl, a, b, c⟩⟩
theorem flatsM_id : ∀ {rs : List Msg} {i : Nat} {m : Msg}, rs[i]? = some m → (flatsM rs)[i * 13 + 3]? = some (U64 m.id)
  | [], i, m, h => by simp at h
  | x :: rs, 0, m, h => by simp at h; subst h; rfl
  | x :: rs, i + 1, m, h => by
    simp only [List.getElem?_cons_succ] at h
    have := flatsM_id h
    simp only [flatsM]
    rw [List.getElem?_append_right (by simp [Msg.cs]; omega)]
    rw [show (i + 1) * 13 + 3 - x.cs.length = i * 13 + 3 by simp [Msg.cs]; omega]
    exact this
theorem map_get {rs : List Msg} {l : List Int} (h : rs.map Msg.id = l) {i : Nat} {x : Int} (hx : l[i]? = some x) : ∃ m, rs[i]? = some m ∧ m.id = x := by
  subst h
  rw [List.getElem?_map] at hx
  cases hm : rs[i]? with
  | none => rw [hm] at hx; cases hx
  | some m => rw [hm] at hx; exact ⟨m, rfl, by simpa using hx⟩

theorem duelaw_c (h0 : AHeap) (m : Int) (hm0 : 0 ≤ m) (hm1 : m < 256) (b : Option Addr) (l : List Int) (hL : l.length ≤ maxLen)
    (hr : ∀ i, i < l.length → ∃ r z, b = some ⟨r, 0, none⟩ ∧ r < h0.next ∧ h0.get r = some (.ro (l.map (Value.int .u8))) ∧ l[i]? = some z ∧ (l.map (Value.int .u8))[i]? = some (.int .u8 z) ∧ (Lit.int .u8 z).wf = true) :
    FWp Try.prog 4 [.int .u8 m, .slice b l.length 0] h0 fun u _ => u = .bool true := by
  have hml : maxLen = 9223372036854775807 := rfl
  have hmn : 0 ≤ m.tmod 20 ∧ m.tmod 20 < 20 := by rw [Int.tmod_eq_emod_of_nonneg hm0]; omega
  obtain ⟨N, hN⟩ : ∃ N : Nat, 1 + m.tmod 20 = N := ⟨(1 + m.tmod 20).toNat, by omega⟩
  have hN20 : N ≤ 20 ∧ 1 ≤ N := by omega
  have wN0 : IntKind.i64.wrap (m.tmod 20) = m.tmod 20 := wrap_i64 (by omega) (by omega)
  have wN : IntKind.i64.wrap (1 + m.tmod 20) = N := by rw [hN]; exact wrap_i64 (by omega) (by omega)
  refine W.enter tyOK Try.func4 rfl rfl ?_
  simp only [entry]
  refine W.seq <| W.reg <| 
      OSuf.aopF tyOK rfl (so_assign (by simp only [lk] <;> rfl)) (fun _ => rfl) rfl <|
      OSuf.nil <| SQ.normal ?_
  refine W.seq <| W.seq <| W.reg <| 
      OSuf.callD rfl (by simp only [aopnds, lk] <;> rfl) en21 (works_c _) rfl <|
      OSuf.aopF tyOK rfl (so_not (by simp only [lk] <;> rfl)) (fun _ => rfl) rfl <|
      OSuf.nil <| SQ.normal ?_
  refine W.no (by simp only [lk] <;> rfl) <| CWp.skip <| SQ.normal ?_
  refine W.seq <| W.reg <| 
      OSuf.callD rfl (by simp only [aopnds, lk] <;> rfl) en8 (new_c _) rfl <|
      OSuf.aop tyOK rfl (so_assign (by simp only [lk] <;> rfl)) rfl <|
      OSuf.nil <| SQ.normal ?_
  refine W.seq <| W.reg <| 
      OSuf.aop tyOK rfl (so_move (by simp only [lk] <;> rfl)) rfl <|
      OSuf.aop tyOK rfl (so_bin (by simp only [lk] <;> rfl) (by simp only [lk] <;> rfl) (bi_w (bi_rem (by decide)) (by first | (simp only [wN0, wN] <;> rfl) | rfl))) rfl <|
      OSuf.aop tyOK rfl (so_conw (so_conv tyOK (by simp only [lk] <;> rfl) ty5 ⟨_, rfl⟩ ty3 rfl) (by first | (simp only [wN0, wN] <;> rfl) | rfl)) rfl <|
      OSuf.aop tyOK rfl (so_bin (by simp only [lk] <;> rfl) (by simp only [lk] <;> rfl) (bi_w bi_add (by first | (simp only [wN0, wN] <;> rfl) | rfl))) rfl <|
      OSuf.aop tyOK rfl (so_assign (by simp only [lk] <;> rfl)) rfl <|
      OSuf.nil <| SQ.normal ?_
  refine W.seq <| W.seq <| W.reg <| 
      OSuf.aop tyOK rfl (so_assign (by simp only [lk] <;> rfl)) rfl <|
      OSuf.nil <| SQ.normal ?_
  -- leaf: loop
  have d0 : ∀ V, V ≥ h0.next + 2 → Dq V (List.replicate 21 false) 0 0 ⟨0, [], 0, h0.next⟩ := fun V _ => ⟨rfl, by simp, rfl, by simp⟩
  refine W.cut (fun L h => ∃ S, RA h (h0.next + 1) S ∧ S.m = h0.next ∧ S.qs.length ≤ N ∧ S.last = N ∧ (∀ V, V ≥ h.next → Dq V (List.replicate 21 false) N 0 S) ∧ Ro h0 h ∧ L = [(1, .slice b l.length 0), (5, P0 (h0.next + 1)), (6, I64 N)])
    (W.block (W.loop (fun n L h => ∃ (k : Nat) (S : RS), n + k = N ∧ RA h (h0.next + 1) S ∧ S.m = h0.next ∧ S.qs.length = k ∧ S.last = k ∧ (∀ V, V ≥ h.next → Dq V (List.replicate 21 false) k 0 S) ∧ Ro h0 h ∧
      L = [(1, .slice b l.length 0), (5, P0 (h0.next + 1)), (6, I64 N), (7, I64 k)]) (n := N)
    ⟨0, _, by omega, new_ra h0, rfl, rfl, rfl, d0, ⟨by simp; omega, fun q vs hq hg => by rw [AHeap.get_new_ne (by simp; omega), AHeap.get_new_ne (by omega)]; exact hg⟩, rfl⟩ ?_ ?_)) ?_
  · simp [HasA, Tr.get_put, wN]
  · rintro n L h ⟨k, S, hn, hA, hm, hql, hl, hD, hR, rfl⟩
    simp only [mkA]
    have w2 : IntKind.i64.wrap ((k : Int) + 1) = ((k + 1 : Nat) : Int) := by rw [wrap_i64 (by omega) (by omega)]; omega
    have w3 : IntKind.u64.wrap (k : Int) = k := wrap_u64 (by omega) (by omega)
    have w4 : IntKind.u64.wrap ((k : Int) + 1) = ((k : Int) + 1) := by rw [wrap_u64 (by omega) (by omega)]
    by_cases hk : (k : Int) < (N : Int)
    · refine W.seq <| W.seq <| W.reg <| 
          OSuf.aop tyOK rfl (so_move (by simp only [lk] <;> rfl)) rfl <|
          OSuf.aop tyOK rfl (so_move (by simp only [lk] <;> rfl)) rfl <|
          OSuf.aopT tyOK rfl (so_bin (by simp only [lk] <;> rfl) (by simp only [lk] <;> rfl) bi_lss) (fun _ => rfl) (by first | rfl | assumption | ((simp only [bl]) <;> first | done | assumption | omega) | (simp []; done) | (simp []; omega)) <|
          OSuf.nil <| SQ.normal ?_
      refine W.yes (by simp only [lk] <;> rfl) <| CWp.skip <| SQ.normal ?_
      refine W.seq <| W.block <| W.seq <| W.reg <| 
          OSuf.aop tyOK rfl (so_move (by simp only [lk] <;> rfl)) rfl <|
          OSuf.aop tyOK rfl (so_build (by simp only [aparts, lk] <;> rfl) (by simp (disch := first | assumption | omega | (simp only [nx] <;> omega) | fail) only [aBuild, ty33, hpl] <;> rfl)) rfl <|
          OSuf.call rfl (by simp only [aopnds, lk] <;> rfl) en18 (ask_c _ (h0.next + 1) S hA ⟨4, 0, 0, 0, 0, 0, ⟨#[]⟩, ⟨#[]⟩, false, false, ⟨#[]⟩, 0⟩ (by omega)) ?_
      rintro _ h2 ⟨rfl, w, hw, hA2, hF2⟩
      refine ⟨_, rfl, ?_⟩
      refine 
          OSuf.aop tyOK rfl (so_move (by simp only [lk] <;> rfl)) rfl <|
          OSuf.aop tyOK rfl (so_conw (so_conv tyOK (by simp only [lk] <;> rfl) ty3 ⟨_, rfl⟩ ty27 rfl) (by first | (simp only [w2, w3, w4, w2, w3, w4] <;> rfl) | rfl)) rfl <|
          OSuf.aop tyOK rfl (so_bin (by simp only [lk] <;> rfl) (by simp only [lk] <;> rfl) (bi_w bi_add (by first | (simp only [w2, w3, w4, w2, w3, w4] <;> rfl) | rfl))) rfl <|
          OSuf.aopF tyOK rfl (so_bin (by simp only [lk] <;> rfl) (by simp only [lk] <;> rfl) bi_neq) (fun _ => rfl) (by simp [hl]) <|
          OSuf.nil <| SQ.normal ?_
      refine W.no (by simp only [lk] <;> rfl) <| CWp.skip <| BQ.normal <| SQ.normal ?_
      refine W.reg <| 
          OSuf.aop tyOK rfl (so_move (by simp only [lk] <;> rfl)) rfl <|
          OSuf.aop tyOK rfl (so_bin (by simp only [lk] <;> rfl) (by simp only [lk] <;> rfl) (bi_w bi_add (by first | (simp only [w2, w3, w4, w2, w3, w4] <;> rfl) | rfl))) rfl <|
          OSuf.aop tyOK rfl (so_assign (by simp only [lk] <;> rfl)) rfl <|
          OSuf.nil <| ?_
      -- leaf: round
      refine LQ.normal (m := n - 1) (L := [(1, .slice b l.length 0), (5, P0 (h0.next + 1)), (6, I64 N), (7, I64 (k + 1 : Nat))]) (by omega) ?_
        ⟨k + 1, _, by omega, hA2, hm, by simp [hql], by simp only; omega, fun V hV => Dq.ask hD hl (by rw [List.getElem?_replicate, if_pos (by omega)]) V ?_ (by have := hF2.1; omega) S.clock, hR.step hA hF2, rfl⟩
      · simp only [HasA, Tr.get_put, Nat.reduceEqDiff, reduceIte, w2, and_self]
      · have := (hA2.rows _ (List.mem_append.2 (.inr (List.mem_singleton.2 rfl)))).1
        simp only at this; omega
    · refine W.seq <| W.seq <| W.reg <| 
          OSuf.aop tyOK rfl (so_move (by simp only [lk] <;> rfl)) rfl <|
          OSuf.aop tyOK rfl (so_move (by simp only [lk] <;> rfl)) rfl <|
          OSuf.aopF tyOK rfl (so_bin (by simp only [lk] <;> rfl) (by simp only [lk] <;> rfl) bi_lss) (fun _ => rfl) (by first | rfl | assumption | ((simp only [bl]) <;> first | done | assumption | omega) | (simp []; done) | (simp []; omega)) <|
          OSuf.nil <| SQ.normal ?_
      refine W.no (by simp only [lk] <;> rfl) <| CWp.exit <| SQ.exit <| LQ.exit <| BQ.exit <| ?_
      -- leaf: cut
      have : k = N := by omega
      subst this
      refine NQ.normal (L := [(1, .slice b l.length 0), (5, P0 (h0.next + 1)), (6, I64 k)]) ?_ ⟨S, hA, hm, by omega, hl, hD, hR, rfl⟩
      simp only [HasA, Tr.get_put, Nat.reduceEqDiff, reduceIte, and_self]
  rintro L a' h1 ha ⟨S, hA, hm, hql, hl, hD, hR, rfl⟩
  have hx1 := hR.1
  have hx2 := hA.lt
  have hD1 := hD h1.next (Nat.le_refl _)
  obtain ⟨V, hV⟩ : ∃ V, V = h1.next := ⟨_, rfl⟩
  refine SQ.normal <| CWp.known ha ?_
  simp only [mkA]
  refine W.seq <| W.reg <| 
      OSuf.aop tyOK rfl (so_alloc (by simp only [aAlloc, ty48] <;> rfl)) rfl <|
      OSuf.nil <| SQ.normal ?_
  refine W.seq <| W.seq <| W.reg <| 
      OSuf.aop tyOK rfl (so_assign (by simp only [lk] <;> rfl)) rfl <|
      OSuf.nil <| SQ.normal ?_
  -- leaf: loop
  refine W.cut (fun L h => L = []) (W.block (W.loop (fun n L h => ∃ (k : Nat) (S : RS) (ov : List Bool), n + k = 100 ∧ RA h (h0.next + 1) S ∧ S.m = h0.next ∧ S.qs.length ≤ N ∧ Dq h1.next ov N k S ∧ h1.next < h.next ∧ h.get h1.next = some (.cells (ov.map Value.bool) 1) ∧ Ro h0 h ∧
      L = [(1, .slice b l.length 0), (5, P0 (h0.next + 1)), (6, I64 N), (8, P0 h1.next), (9, I64 k)]) (n := 100)
    ⟨0, S, _, by omega, hA.mono (by simp only [nx]; omega) (fun z hz => by simp (disch := first | assumption | omega | (simp only [nx] <;> omega) | fail) only [hpl]), hm, hql, hD1, by simp only [nx]; omega, AHeap.get_new_at (by simp), ⟨by simp only [nx]; omega, fun q vs hq hg => by rw [AHeap.get_new_ne (by omega)]; exact hR.2 q vs hq hg⟩, rfl⟩ ?_ ?_)) ?_
  · simp [HasA, Tr.get_put]
  · clear hA hD hR hql hm hD1 hl ha S
    rintro n L h ⟨k, S, ov, hn, hA, hm, hql, hD, hv, hov, hR, rfl⟩
    simp only [mkA]
    have hD2 := hD.next
    by_cases h1' : (k : Int) < 100
    · have w2 : IntKind.i64.wrap ((k : Int) + 1) = ((k + 1 : Nat) : Int) := by rw [wrap_i64 (by omega) (by omega)]; omega
      have w3 : IntKind.u64.wrap (k : Int) = k := wrap_u64 (by omega) (by omega)
      have hats : ∀ q ∈ S.qs, 0 ≤ q.at_ ∧ q.at_ < 18446744073709551616 := fun q hq => by
        rcases hD.st q hq with ⟨_, _, h3⟩ | ⟨_, _, h3⟩ <;> omega
      refine W.seq <| W.seq <| W.reg <| 
          OSuf.aop tyOK rfl (so_move (by simp only [lk] <;> rfl)) rfl <|
          OSuf.aopT tyOK rfl (so_bin (by simp only [lk] <;> rfl) (by simp only [lk] <;> rfl) bi_lss) (fun _ => rfl) (by first | rfl | assumption | ((simp only [bl]) <;> first | done | assumption | omega) | (simp []; done) | (simp []; omega)) <|
          OSuf.nil <| SQ.normal ?_
      refine W.yes (by simp only [lk] <;> rfl) <| CWp.skip <| SQ.normal ?_
      refine W.seq <| W.block <| W.seq <| W.reg <| 
          OSuf.aop tyOK rfl (so_move (by simp only [lk] <;> rfl)) rfl <|
          OSuf.aop tyOK rfl (so_move (by simp only [lk] <;> rfl)) rfl <|
          OSuf.aop tyOK rfl (so_conw (so_conv tyOK (by simp only [lk] <;> rfl) ty3 ⟨_, rfl⟩ ty27 rfl) (by first | (simp only [w2, w3] <;> rfl) | rfl)) rfl <|
          OSuf.call rfl (by simp only [aopnds, lk] <;> rfl) en14 (due_c _ (h0.next + 1) S hA (k : Int) (by omega) (by omega) (by omega) hats) ?_
      rintro u h2 ⟨hA2, hF2, hM2⟩
      obtain ⟨b2, rfl, hat⟩ := msgs_slice hM2
      refine ⟨_, rfl, ?_⟩
      refine 
          OSuf.aop tyOK rfl (so_assign (by simp only [lk] <;> rfl)) rfl <|
          OSuf.nil <| SQ.normal ?_
      refine W.seq <| W.reg <| 
          OSuf.aop tyOK rfl (so_assign (by simp only [lk] <;> rfl)) rfl <|
          OSuf.nil <| SQ.normal ?_
      refine W.seq <| W.seq <| W.reg <| 
          OSuf.aop tyOK rfl (so_assign (by simp only [lk] <;> rfl)) rfl <|
          OSuf.nil <| SQ.normal ?_
      -- leaf: loop
      have hids := hD.dueL hA
      have hR2 := hR.step hA hF2
      have hv2 : h1.next < h2.next := Nat.lt_of_lt_of_le hv hF2.1
      have hov2 : h2.get h1.next = some (.cells (ov.map Value.bool) 1) := by rw [hF2.2 _ hv (by omega) (by omega) hD.rows]; exact hov
      obtain ⟨rs, hrs⟩ : ∃ rs, rs = dueL k S.qs := ⟨_, rfl⟩
      rw [← hrs] at hids hat
      rw [← hrs]
      have hrl : rs.length = cntU k ov N := by
        have := congrArg List.length hids
        rw [List.length_map] at this
        rw [this, cntU]; split <;> rfl
      have hlen := hD.len
      clear hM2 hrs
      refine W.cut (fun L h => h = h2 ∧ L = [(1, .slice b l.length 0), (5, P0 (h0.next + 1)), (6, I64 N), (8, P0 h1.next), (9, I64 k), (10, .slice b2 rs.length 0), (11, I64 (cntU k ov N))]) (W.block (W.loop (fun n L h => ∃ j : Nat, n + j = N ∧ h = h2 ∧
          L = [(1, .slice b l.length 0), (5, P0 (h0.next + 1)), (6, I64 N), (8, P0 h1.next), (9, I64 k), (10, .slice b2 rs.length 0), (11, I64 (cntU k ov j)), (12, I64 j)]) (n := N) ⟨0, by omega, rfl, rfl⟩ ?_ ?_)) ?_
      · simp [HasA, Tr.get_put, cntU, opens]
      · rintro n L h3 ⟨j, hn2, rfl, rfl⟩
        simp only [mkA]
        have v2 : IntKind.i64.wrap ((j : Int) + 1) = ((j + 1 : Nat) : Int) := by rw [wrap_i64 (by omega) (by omega)]; omega
        by_cases hj : (j : Int) < (N : Int)
        · have hcj : (j : Int) < ((21 : Nat) : Int) := by omega
          by_cases hoj : ov[j]? = some false
          · have hov3 : (ov.map Value.bool)[j]? = some (.bool false) := by simp [hoj]
            by_cases h8 : (k : Int).tmod 8 = 0
            · have h8' : k % 8 = 0 := by rw [Int.tmod_eq_emod_of_nonneg (by omega)] at h8; omega
              have e1 : cntU k ov j = (opens ov j).length := by rw [cntU, if_pos h8']
              have e2 : cntU k ov (j + 1) = cntU k ov j + 1 := by rw [cntU, cntU, if_pos h8', if_pos h8', opens, if_pos hoj]; simp
              rw [if_pos h8'] at hids
              obtain ⟨mm, hmm, hmi⟩ := map_get hids (opens_at hoj (by omega : j < N))
              rw [← e1] at hmm
              obtain ⟨c, hc⟩ : ∃ c, cntU k ov j = c := ⟨_, rfl⟩
              rw [hc] at hmm e2 ⊢
              have hcl : c < rs.length := (List.getElem?_eq_some_iff.1 hmm).1
              obtain ⟨y, rfl, hy1, hy2, hy3⟩ := hat c hcl
              have hfl := flatsM_id hmm
              have hcc : (0 ≤ (c : Int) ∧ (c : Int) < (rs.length : Int)) := by omega
              have hge : ¬ (rs.length : Int) ≤ (c : Int) := by omega
              have hcN : rs.length ≤ 100 := by
                have hg : ∀ i, (opens ov i).length ≤ i := fun i => by
                  induction i with
                  | zero => exact Nat.le_refl _
                  | succ i ih => rw [opens, List.length_append]; split <;> simp <;> omega
                have := hg N
                rw [hrl, cntU]; split <;> omega
              have v3 : IntKind.i64.wrap ((c : Int) + 1) = ((c + 1 : Nat) : Int) := by rw [wrap_i64 (by omega) (by omega)]; omega
              have v4 : IntKind.u64.wrap (j : Int) = j := wrap_u64 (by omega) (by omega)
              have v5 : IntKind.u64.wrap ((j : Int) + 1) = ((j + 1 : Nat) : Int) := by rw [wrap_u64 (by omega) (by omega)]; omega
              refine W.seq <| W.seq <| W.reg <| 
                  OSuf.aop tyOK rfl (so_move (by simp only [lk] <;> rfl)) rfl <|
                  OSuf.aop tyOK rfl (so_move (by simp only [lk] <;> rfl)) rfl <|
                  OSuf.aopT tyOK rfl (so_bin (by simp only [lk] <;> rfl) (by simp only [lk] <;> rfl) bi_lss) (fun _ => rfl) (by first | rfl | assumption | ((simp only [bl, hcj, hcc, and_self, if_true, Int.toNat_natCast, Nat.mul_one, Nat.zero_add, hov2, hov3, places, Value.cells, ty27, ty3, ty33, ty4, ty41, ty47, ty48, ty5, hy3, hfl]) <;> first | done | assumption | omega) | (simp [hcj, hcc, and_self, if_true, Int.toNat_natCast, Nat.mul_one, Nat.zero_add, hov2, hov3, places, Value.cells, ty27, ty3, ty33, ty4, ty41, ty47, ty48, ty5, hy3, hfl]; done) | (simp [hcj, hcc, and_self, if_true, Int.toNat_natCast, Nat.mul_one, Nat.zero_add, hov2, hov3, places, Value.cells, ty27, ty3, ty33, ty4, ty41, ty47, ty48, ty5, hy3, hfl]; omega)) <|
                  OSuf.nil <| SQ.normal ?_
              refine W.yes (by simp only [lk] <;> rfl) <| CWp.skip <| SQ.normal ?_
              refine W.seq <| W.block <| W.seq <| W.reg <| 
                  OSuf.aop tyOK rfl (so_move (by simp only [lk] <;> rfl)) rfl <|
                  OSuf.aop tyOK rfl (so_indexAddr (by simp only [lk] <;> rfl) (by simp only [lk] <;> rfl) (by simp (disch := first | assumption | omega | (simp only [nx] <;> omega) | fail) only [aIndexAddr, ty48, ty4, hpl, hcj, hcc, and_self, if_true, Int.toNat_natCast, Nat.mul_one, Nat.zero_add, hov2, hov3, places, Value.cells, ty27, ty3, ty33, ty4, ty41, ty47, ty48, ty5, hy3, hfl] <;> rfl)) rfl <|
                  OSuf.aopF tyOK rfl (so_load (by simp only [lk] <;> rfl) (by simp (disch := first | assumption | omega | (simp only [nx] <;> omega) | fail) only [aLoad, ty4, rowOf, hpl, hcj, hcc, and_self, if_true, Int.toNat_natCast, Nat.mul_one, Nat.zero_add, hov2, hov3, places, Value.cells, ty27, ty3, ty33, ty4, ty41, ty47, ty48, ty5, hy3, hfl] <;> rfl)) (fun _ => rfl) (by first | rfl | assumption | ((simp only [bl, hcj, hcc, and_self, if_true, Int.toNat_natCast, Nat.mul_one, Nat.zero_add, hov2, hov3, places, Value.cells, ty27, ty3, ty33, ty4, ty41, ty47, ty48, ty5, hy3, hfl]) <;> first | done | assumption | omega) | (simp [hcj, hcc, and_self, if_true, Int.toNat_natCast, Nat.mul_one, Nat.zero_add, hov2, hov3, places, Value.cells, ty27, ty3, ty33, ty4, ty41, ty47, ty48, ty5, hy3, hfl]; done) | (simp [hcj, hcc, and_self, if_true, Int.toNat_natCast, Nat.mul_one, Nat.zero_add, hov2, hov3, places, Value.cells, ty27, ty3, ty33, ty4, ty41, ty47, ty48, ty5, hy3, hfl]; omega)) <|
                  OSuf.aopT tyOK rfl (so_not (by simp only [lk] <;> rfl)) (fun _ => rfl) rfl <|
                  OSuf.aopT tyOK rfl (so_move (by simp only [lk] <;> rfl)) (fun _ => rfl) rfl <|
                  OSuf.aop tyOK (aguard_of rfl rfl (by simp only [lk] <;> rfl) rfl) (so_move (by simp only [lk] <;> rfl)) rfl <|
                  OSuf.aop tyOK (aguard_of rfl rfl (by simp only [lk] <;> rfl) rfl) (so_bin (by simp only [lk] <;> rfl) (by simp only [lk] <;> rfl) (bi_w (bi_rem (by decide)) (by first | (simp only [v2, v3, v4, v5] <;> rfl) | rfl))) rfl <|
                  OSuf.aopT tyOK (aguard_of rfl rfl (by simp only [lk] <;> rfl) rfl) (so_bin (by simp only [lk] <;> rfl) (by simp only [lk] <;> rfl) bi_eql) (fun _ => rfl) (by first | rfl | assumption | ((simp only [bl, hcj, hcc, and_self, if_true, Int.toNat_natCast, Nat.mul_one, Nat.zero_add, hov2, hov3, places, Value.cells, ty27, ty3, ty33, ty4, ty41, ty47, ty48, ty5, hy3, hfl]) <;> first | done | assumption | omega) | (simp [hcj, hcc, and_self, if_true, Int.toNat_natCast, Nat.mul_one, Nat.zero_add, hov2, hov3, places, Value.cells, ty27, ty3, ty33, ty4, ty41, ty47, ty48, ty5, hy3, hfl]; done) | (simp [hcj, hcc, and_self, if_true, Int.toNat_natCast, Nat.mul_one, Nat.zero_add, hov2, hov3, places, Value.cells, ty27, ty3, ty33, ty4, ty41, ty47, ty48, ty5, hy3, hfl]; omega)) <|
                  OSuf.aopT tyOK rfl (so_pick (by simp only [lk] <;> rfl) (by simp only [lk, cond_true, cond_false] <;> rfl)) (fun _ => rfl) rfl <|
                  OSuf.nil <| SQ.normal ?_
              refine W.yes (by simp only [lk] <;> rfl) <| W.seq <| W.seq <| W.reg <| 
                  OSuf.aop tyOK rfl (so_move (by simp only [lk] <;> rfl)) rfl <|
                  OSuf.aop tyOK rfl (so_move (by simp only [lk] <;> rfl)) rfl <|
                  OSuf.aop tyOK rfl (so_len (by simp only [aopnds, lk] <;> rfl) (by simp (disch := first | assumption | omega | (simp only [nx] <;> omega) | fail) only [aLenOf, ty41, hpl, hcj, hcc, and_self, if_true, Int.toNat_natCast, Nat.mul_one, Nat.zero_add, hov2, hov3, places, Value.cells, ty27, ty3, ty33, ty4, ty41, ty47, ty48, ty5, hy3, hfl] <;> rfl)) rfl <|
                  OSuf.aopF tyOK rfl (so_bin (by simp only [lk] <;> rfl) (by simp only [lk] <;> rfl) bi_geq) (fun _ => rfl) (by first | rfl | assumption | ((simp only [bl, hcj, hcc, and_self, if_true, Int.toNat_natCast, Nat.mul_one, Nat.zero_add, hov2, hov3, places, Value.cells, ty27, ty3, ty33, ty4, ty41, ty47, ty48, ty5, hy3, hfl]) <;> first | done | assumption | omega) | (simp [hcj, hcc, and_self, if_true, Int.toNat_natCast, Nat.mul_one, Nat.zero_add, hov2, hov3, places, Value.cells, ty27, ty3, ty33, ty4, ty41, ty47, ty48, ty5, hy3, hfl]; done) | (simp [hcj, hcc, and_self, if_true, Int.toNat_natCast, Nat.mul_one, Nat.zero_add, hov2, hov3, places, Value.cells, ty27, ty3, ty33, ty4, ty41, ty47, ty48, ty5, hy3, hfl]; omega)) <|
                  OSuf.aopF tyOK rfl (so_move (by simp only [lk] <;> rfl)) (fun _ => rfl) rfl <|
                  OSuf.aop tyOK (aguard_of rfl rfl (by simp only [lk] <;> rfl) rfl) (so_move (by simp only [lk] <;> rfl)) rfl <|
                  OSuf.aop tyOK (aguard_of rfl rfl (by simp only [lk] <;> rfl) rfl) (so_move (by simp only [lk] <;> rfl)) rfl <|
                  OSuf.aop tyOK (aguard_of rfl rfl (by simp only [lk] <;> rfl) rfl) (so_indexAddr (by simp only [lk] <;> rfl) (by simp only [lk] <;> rfl) (by simp (disch := first | assumption | omega | (simp only [nx] <;> omega) | fail) only [aIndexAddr, ty41, ty33, hpl, hcj, hcc, and_self, if_true, Int.toNat_natCast, Nat.mul_one, Nat.zero_add, hov2, hov3, places, Value.cells, ty27, ty3, ty33, ty4, ty41, ty47, ty48, ty5, hy3, hfl] <;> rfl)) rfl <|
                  OSuf.aop tyOK (aguard_of rfl rfl (by simp only [lk] <;> rfl) rfl) (so_fieldAddr (by simp only [lk] <;> rfl) (fa_ok (k := 3) ty33 rfl rfl ty27 rfl rfl)) rfl <|
                  OSuf.aop tyOK (aguard_of rfl rfl (by simp only [lk] <;> rfl) rfl) (so_load (by simp only [lk] <;> rfl) (by simp (disch := first | assumption | omega | (simp only [nx] <;> omega) | fail) only [aLoad, ty27, rowOf, hpl, hcj, hcc, and_self, if_true, Int.toNat_natCast, Nat.mul_one, Nat.zero_add, hov2, hov3, places, Value.cells, ty27, ty3, ty33, ty4, ty41, ty47, ty48, ty5, hy3, hfl] <;> rfl)) rfl <|
                  OSuf.aop tyOK (aguard_of rfl rfl (by simp only [lk] <;> rfl) rfl) (so_move (by simp only [lk] <;> rfl)) rfl <|
                  OSuf.aop tyOK (aguard_of rfl rfl (by simp only [lk] <;> rfl) rfl) (so_conw (so_conv tyOK (by simp only [lk] <;> rfl) ty3 ⟨_, rfl⟩ ty27 rfl) (by first | (simp only [v2, v3, v4, v5] <;> rfl) | rfl)) rfl <|
                  OSuf.aop tyOK (aguard_of rfl rfl (by simp only [lk] <;> rfl) rfl) (so_bin (by simp only [lk] <;> rfl) (by simp only [lk] <;> rfl) (bi_w bi_add (by first | (simp only [v2, v3, v4, v5] <;> rfl) | rfl))) rfl <|
                  OSuf.aopF tyOK (aguard_of rfl rfl (by simp only [lk] <;> rfl) rfl) (so_bin (by simp only [lk] <;> rfl) (by simp only [lk] <;> rfl) bi_neq) (fun _ => rfl) (by simp [hmi]) <|
                  OSuf.aopF tyOK rfl (so_pick (by simp only [lk] <;> rfl) (by simp only [lk, cond_true, cond_false] <;> rfl)) (fun _ => rfl) rfl <|
                  OSuf.nil <| SQ.normal ?_
              refine W.no (by simp only [lk] <;> rfl) <| CWp.skip <| SQ.normal ?_
              refine W.reg <| 
                  OSuf.aop tyOK rfl (so_move (by simp only [lk] <;> rfl)) rfl <|
                  OSuf.aop tyOK rfl (so_bin (by simp only [lk] <;> rfl) (by simp only [lk] <;> rfl) (bi_w bi_add (by first | (simp only [v2, v3, v4, v5] <;> rfl) | rfl))) rfl <|
                  OSuf.aop tyOK rfl (so_assign (by simp only [lk] <;> rfl)) rfl <|
                  OSuf.nil <| BQ.normal <| SQ.normal ?_
              refine W.reg <| 
                  OSuf.aop tyOK rfl (so_move (by simp only [lk] <;> rfl)) rfl <|
                  OSuf.aop tyOK rfl (so_bin (by simp only [lk] <;> rfl) (by simp only [lk] <;> rfl) (bi_w bi_add (by first | (simp only [v2, v3, v4, v5] <;> rfl) | rfl))) rfl <|
                  OSuf.aop tyOK rfl (so_assign (by simp only [lk] <;> rfl)) rfl <|
                  OSuf.nil <| ?_
              -- leaf: round
              refine LQ.normal (m := n - 1) (L := [(1, .slice b l.length 0), (5, P0 (h0.next + 1)), (6, I64 N), (8, P0 h1.next), (9, I64 k), (10, .slice (some ⟨y, 0, none⟩) rs.length 0), (11, I64 (c + 1 : Nat)), (12, I64 (j + 1 : Nat))]) (by omega) ?_ ⟨j + 1, by omega, rfl, by rw [e2]⟩
              simp only [HasA, Tr.get_put, Nat.reduceEqDiff, reduceIte, v2, v3, and_self]
            · have h8' : ¬ k % 8 = 0 := by rw [Int.tmod_eq_emod_of_nonneg (by omega)] at h8; omega
              have e2 : cntU k ov (j + 1) = cntU k ov j := by rw [cntU, cntU, if_neg h8', if_neg h8']
              refine W.seq <| W.seq <| W.reg <| 
                  OSuf.aop tyOK rfl (so_move (by simp only [lk] <;> rfl)) rfl <|
                  OSuf.aop tyOK rfl (so_move (by simp only [lk] <;> rfl)) rfl <|
                  OSuf.aopT tyOK rfl (so_bin (by simp only [lk] <;> rfl) (by simp only [lk] <;> rfl) bi_lss) (fun _ => rfl) (by first | rfl | assumption | ((simp only [bl, hcj, and_self, if_true, Int.toNat_natCast, Nat.mul_one, Nat.zero_add, hov2, hov3, places, Value.cells, ty27, ty3, ty33, ty4, ty41, ty47, ty48, ty5]) <;> first | done | assumption | omega) | (simp [hcj, and_self, if_true, Int.toNat_natCast, Nat.mul_one, Nat.zero_add, hov2, hov3, places, Value.cells, ty27, ty3, ty33, ty4, ty41, ty47, ty48, ty5]; done) | (simp [hcj, and_self, if_true, Int.toNat_natCast, Nat.mul_one, Nat.zero_add, hov2, hov3, places, Value.cells, ty27, ty3, ty33, ty4, ty41, ty47, ty48, ty5]; omega)) <|
                  OSuf.nil <| SQ.normal ?_
              refine W.yes (by simp only [lk] <;> rfl) <| CWp.skip <| SQ.normal ?_
              refine W.seq <| W.block <| W.seq <| W.reg <| 
                  OSuf.aop tyOK rfl (so_move (by simp only [lk] <;> rfl)) rfl <|
                  OSuf.aop tyOK rfl (so_indexAddr (by simp only [lk] <;> rfl) (by simp only [lk] <;> rfl) (by simp (disch := first | assumption | omega | (simp only [nx] <;> omega) | fail) only [aIndexAddr, ty48, ty4, hpl, hcj, and_self, if_true, Int.toNat_natCast, Nat.mul_one, Nat.zero_add, hov2, hov3, places, Value.cells, ty27, ty3, ty33, ty4, ty41, ty47, ty48, ty5] <;> rfl)) rfl <|
                  OSuf.aopF tyOK rfl (so_load (by simp only [lk] <;> rfl) (by simp (disch := first | assumption | omega | (simp only [nx] <;> omega) | fail) only [aLoad, ty4, rowOf, hpl, hcj, and_self, if_true, Int.toNat_natCast, Nat.mul_one, Nat.zero_add, hov2, hov3, places, Value.cells, ty27, ty3, ty33, ty4, ty41, ty47, ty48, ty5] <;> rfl)) (fun _ => rfl) (by first | rfl | assumption | ((simp only [bl, hcj, and_self, if_true, Int.toNat_natCast, Nat.mul_one, Nat.zero_add, hov2, hov3, places, Value.cells, ty27, ty3, ty33, ty4, ty41, ty47, ty48, ty5]) <;> first | done | assumption | omega) | (simp [hcj, and_self, if_true, Int.toNat_natCast, Nat.mul_one, Nat.zero_add, hov2, hov3, places, Value.cells, ty27, ty3, ty33, ty4, ty41, ty47, ty48, ty5]; done) | (simp [hcj, and_self, if_true, Int.toNat_natCast, Nat.mul_one, Nat.zero_add, hov2, hov3, places, Value.cells, ty27, ty3, ty33, ty4, ty41, ty47, ty48, ty5]; omega)) <|
                  OSuf.aopT tyOK rfl (so_not (by simp only [lk] <;> rfl)) (fun _ => rfl) rfl <|
                  OSuf.aopT tyOK rfl (so_move (by simp only [lk] <;> rfl)) (fun _ => rfl) rfl <|
                  OSuf.aop tyOK (aguard_of rfl rfl (by simp only [lk] <;> rfl) rfl) (so_move (by simp only [lk] <;> rfl)) rfl <|
                  OSuf.aop tyOK (aguard_of rfl rfl (by simp only [lk] <;> rfl) rfl) (so_bin (by simp only [lk] <;> rfl) (by simp only [lk] <;> rfl) (bi_w (bi_rem (by decide)) (by first | (simp only [v2] <;> rfl) | rfl))) rfl <|
                  OSuf.aopF tyOK (aguard_of rfl rfl (by simp only [lk] <;> rfl) rfl) (so_bin (by simp only [lk] <;> rfl) (by simp only [lk] <;> rfl) bi_eql) (fun _ => rfl) (by first | rfl | assumption | ((simp only [bl, hcj, and_self, if_true, Int.toNat_natCast, Nat.mul_one, Nat.zero_add, hov2, hov3, places, Value.cells, ty27, ty3, ty33, ty4, ty41, ty47, ty48, ty5]) <;> first | done | assumption | omega) | (simp [hcj, and_self, if_true, Int.toNat_natCast, Nat.mul_one, Nat.zero_add, hov2, hov3, places, Value.cells, ty27, ty3, ty33, ty4, ty41, ty47, ty48, ty5]; done) | (simp [hcj, and_self, if_true, Int.toNat_natCast, Nat.mul_one, Nat.zero_add, hov2, hov3, places, Value.cells, ty27, ty3, ty33, ty4, ty41, ty47, ty48, ty5]; omega)) <|
                  OSuf.aopF tyOK rfl (so_pick (by simp only [lk] <;> rfl) (by simp only [lk, cond_true, cond_false] <;> rfl)) (fun _ => rfl) rfl <|
                  OSuf.nil <| SQ.normal ?_
              refine W.no (by simp only [lk] <;> rfl) <| CWp.skip <| BQ.normal <| SQ.normal ?_
              refine W.reg <| 
                  OSuf.aop tyOK rfl (so_move (by simp only [lk] <;> rfl)) rfl <|
                  OSuf.aop tyOK rfl (so_bin (by simp only [lk] <;> rfl) (by simp only [lk] <;> rfl) (bi_w bi_add (by first | (simp only [v2] <;> rfl) | rfl))) rfl <|
                  OSuf.aop tyOK rfl (so_assign (by simp only [lk] <;> rfl)) rfl <|
                  OSuf.nil <| ?_
              -- leaf: round
              refine LQ.normal (m := n - 1) (L := [(1, .slice b l.length 0), (5, P0 (h0.next + 1)), (6, I64 N), (8, P0 h1.next), (9, I64 k), (10, .slice b2 rs.length 0), (11, I64 (cntU k ov j)), (12, I64 (j + 1 : Nat))]) (by omega) ?_ ⟨j + 1, by omega, rfl, by rw [e2]⟩
              simp only [HasA, Tr.get_put, Nat.reduceEqDiff, reduceIte, v2, and_self]
          · have hot : ov[j]? = some true := by
              have : j < ov.length := by omega
              rw [List.getElem?_eq_getElem this] at hoj ⊢
              cases hx : ov[j] <;> simp_all
            have hov3 : (ov.map Value.bool)[j]? = some (.bool true) := by simp [hot]
            have e2 : cntU k ov (j + 1) = cntU k ov j := by rw [cntU, cntU, opens, if_neg hoj, List.append_nil]
            refine W.seq <| W.seq <| W.reg <| 
                OSuf.aop tyOK rfl (so_move (by simp only [lk] <;> rfl)) rfl <|
                OSuf.aop tyOK rfl (so_move (by simp only [lk] <;> rfl)) rfl <|
                OSuf.aopT tyOK rfl (so_bin (by simp only [lk] <;> rfl) (by simp only [lk] <;> rfl) bi_lss) (fun _ => rfl) (by first | rfl | assumption | ((simp only [bl, hcj, and_self, if_true, Int.toNat_natCast, Nat.mul_one, Nat.zero_add, hov2, hov3, places, Value.cells, ty27, ty3, ty33, ty4, ty41, ty47, ty48, ty5]) <;> first | done | assumption | omega) | (simp [hcj, and_self, if_true, Int.toNat_natCast, Nat.mul_one, Nat.zero_add, hov2, hov3, places, Value.cells, ty27, ty3, ty33, ty4, ty41, ty47, ty48, ty5]; done) | (simp [hcj, and_self, if_true, Int.toNat_natCast, Nat.mul_one, Nat.zero_add, hov2, hov3, places, Value.cells, ty27, ty3, ty33, ty4, ty41, ty47, ty48, ty5]; omega)) <|
                OSuf.nil <| SQ.normal ?_
            refine W.yes (by simp only [lk] <;> rfl) <| CWp.skip <| SQ.normal ?_
            refine W.seq <| W.block <| W.seq <| W.reg <| 
                OSuf.aop tyOK rfl (so_move (by simp only [lk] <;> rfl)) rfl <|
                OSuf.aop tyOK rfl (so_indexAddr (by simp only [lk] <;> rfl) (by simp only [lk] <;> rfl) (by simp (disch := first | assumption | omega | (simp only [nx] <;> omega) | fail) only [aIndexAddr, ty48, ty4, hpl, hcj, and_self, if_true, Int.toNat_natCast, Nat.mul_one, Nat.zero_add, hov2, hov3, places, Value.cells, ty27, ty3, ty33, ty4, ty41, ty47, ty48, ty5] <;> rfl)) rfl <|
                OSuf.aopT tyOK rfl (so_load (by simp only [lk] <;> rfl) (by simp (disch := first | assumption | omega | (simp only [nx] <;> omega) | fail) only [aLoad, ty4, rowOf, hpl, hcj, and_self, if_true, Int.toNat_natCast, Nat.mul_one, Nat.zero_add, hov2, hov3, places, Value.cells, ty27, ty3, ty33, ty4, ty41, ty47, ty48, ty5] <;> rfl)) (fun _ => rfl) (by first | rfl | assumption | ((simp only [bl, hcj, and_self, if_true, Int.toNat_natCast, Nat.mul_one, Nat.zero_add, hov2, hov3, places, Value.cells, ty27, ty3, ty33, ty4, ty41, ty47, ty48, ty5]) <;> first | done | assumption | omega) | (simp [hcj, and_self, if_true, Int.toNat_natCast, Nat.mul_one, Nat.zero_add, hov2, hov3, places, Value.cells, ty27, ty3, ty33, ty4, ty41, ty47, ty48, ty5]; done) | (simp [hcj, and_self, if_true, Int.toNat_natCast, Nat.mul_one, Nat.zero_add, hov2, hov3, places, Value.cells, ty27, ty3, ty33, ty4, ty41, ty47, ty48, ty5]; omega)) <|
                OSuf.aopF tyOK rfl (so_not (by simp only [lk] <;> rfl)) (fun _ => rfl) rfl <|
                OSuf.aopF tyOK rfl (so_move (by simp only [lk] <;> rfl)) (fun _ => rfl) rfl <|
                OSuf.pass (aguard_of rfl rfl (by simp only [lk] <;> rfl) rfl) rfl <|
                OSuf.pass (aguard_of rfl rfl (by simp only [lk] <;> rfl) rfl) rfl <|
                OSuf.pass (aguard_of rfl rfl (by simp only [lk] <;> rfl) rfl) rfl <|
                OSuf.aopF tyOK rfl (so_pick (by simp only [lk] <;> rfl) (by simp only [lk, cond_true, cond_false] <;> rfl)) (fun _ => rfl) rfl <|
                OSuf.nil <| SQ.normal ?_
            refine W.no (by simp only [lk] <;> rfl) <| CWp.skip <| BQ.normal <| SQ.normal ?_
            refine W.reg <| 
                OSuf.aop tyOK rfl (so_move (by simp only [lk] <;> rfl)) rfl <|
                OSuf.aop tyOK rfl (so_bin (by simp only [lk] <;> rfl) (by simp only [lk] <;> rfl) (bi_w bi_add (by first | (simp only [v2] <;> rfl) | rfl))) rfl <|
                OSuf.aop tyOK rfl (so_assign (by simp only [lk] <;> rfl)) rfl <|
                OSuf.nil <| ?_
            -- leaf: round
            refine LQ.normal (m := n - 1) (L := [(1, .slice b l.length 0), (5, P0 (h0.next + 1)), (6, I64 N), (8, P0 h1.next), (9, I64 k), (10, .slice b2 rs.length 0), (11, I64 (cntU k ov j)), (12, I64 (j + 1 : Nat))]) (by omega) ?_ ⟨j + 1, by omega, rfl, by rw [e2]⟩
            simp only [HasA, Tr.get_put, Nat.reduceEqDiff, reduceIte, v2, and_self]
        · refine W.seq <| W.seq <| W.reg <| 
              OSuf.aop tyOK rfl (so_move (by simp only [lk] <;> rfl)) rfl <|
              OSuf.aop tyOK rfl (so_move (by simp only [lk] <;> rfl)) rfl <|
              OSuf.aopF tyOK rfl (so_bin (by simp only [lk] <;> rfl) (by simp only [lk] <;> rfl) bi_lss) (fun _ => rfl) (by first | rfl | assumption | ((simp only [bl]) <;> first | done | assumption | omega) | (simp []; done) | (simp []; omega)) <|
              OSuf.nil <| SQ.normal ?_
          refine W.no (by simp only [lk] <;> rfl) <| CWp.exit <| SQ.exit <| LQ.exit <| BQ.exit <| ?_
          -- leaf: cut
          have : j = N := by omega
          subst this
          refine NQ.normal (L := [(1, .slice b l.length 0), (5, P0 (h0.next + 1)), (6, I64 j), (8, P0 h1.next), (9, I64 k), (10, .slice b2 rs.length 0), (11, I64 (cntU k ov j))]) ?_ ⟨rfl, rfl⟩
          simp only [HasA, Tr.get_put, Nat.reduceEqDiff, reduceIte, and_self]
      rintro L a' h3 ha ⟨rfl, rfl⟩
      rw [← hrl] at ha
      have hql2 : (S.qs.map (stampq k)).length ≤ N := by simp; exact hql
      by_cases hka : (k : Int) < (l.length : Int)
      · obtain ⟨r, z, rfl, hrn, hg, _, hz, hwf⟩ := hr k (by omega)
        have hg1 := hR2.2 r _ hrn hg
        have hc : (0 ≤ (k : Int) ∧ (k : Int) < (l.length : Int)) := by omega
        have hz0 := lit_u8 hwf
        have hNz : (N : Int) ≠ 0 := by omega
        obtain ⟨j, hj, hjN⟩ : ∃ j : Nat, z.tmod N = j ∧ j < N := by
          have e := Int.tmod_eq_emod_of_nonneg (a := z) (by omega) (b := N)
          have e1 := Int.emod_nonneg z hNz
          have e2 := Int.emod_lt_of_pos z (b := N) (by omega)
          exact ⟨(z.tmod N).toNat, by omega, by omega⟩
        have w1 : IntKind.i64.wrap z = z := wrap_i64 (by omega) (by omega)
        have w5 : IntKind.u64.wrap (j : Int) = j := wrap_u64 (by omega) (by omega)
        have w4 : IntKind.u64.wrap ((j : Int) + 1) = (j + 1 : Nat) := by rw [wrap_u64 (by omega) (by omega)]; omega
        have hcj : (j : Int) < ((21 : Nat) : Int) := by omega
        have hble : (j + [Value.bool true].length).ble (List.map Value.bool ov).length = true := Nat.ble_eq_true_of_le (by simp [hlen]; omega)
        have hspl : splice (ov.map Value.bool) j [Value.bool true] = (ov.set j true).map Value.bool := by
          have := arr_set Value.bool (d := ov.toArray) (i := j) true (by simp [hlen]; omega)
          simpa using this
        by_cases hoj : ov[j]? = some false
        · obtain ⟨q, hq⟩ := hD2.some hjN hoj
          have hov3 : (ov.map Value.bool)[j]? = some (.bool false) := by simp [hoj]
          refine SQ.normal <| CWp.known ha ?_
          simp only [mkA]
          refine W.seq <| W.seq <| W.reg <| 
              OSuf.aop tyOK rfl (so_move (by simp only [lk] <;> rfl)) rfl <|
              OSuf.aop tyOK rfl (so_move (by simp only [lk] <;> rfl)) rfl <|
              OSuf.aop tyOK rfl (so_len (by simp only [aopnds, lk] <;> rfl) (by simp (disch := first | assumption | omega | (simp only [nx] <;> omega) | fail) only [aLenOf, ty41, hpl, hc, and_self, if_true, Int.toNat_natCast, hg1, Nat.mul_one, Nat.zero_add, hz] <;> rfl)) rfl <|
              OSuf.aopF tyOK rfl (so_bin (by simp only [lk] <;> rfl) (by simp only [lk] <;> rfl) bi_neq) (fun _ => rfl) (by simp) <|
              OSuf.nil <| SQ.normal ?_
          refine W.no (by simp only [lk] <;> rfl) <| CWp.skip <| SQ.normal ?_
          refine W.seq <| W.reg <| 
              OSuf.aop tyOK rfl (so_move (by simp only [lk] <;> rfl)) rfl <|
              OSuf.aop tyOK rfl (so_move (by simp only [lk] <;> rfl)) rfl <|
              OSuf.aop tyOK rfl (so_len (by simp only [aopnds, lk] <;> rfl) (by simp (disch := first | assumption | omega | (simp only [nx] <;> omega) | fail) only [aLenOf, ty47, hpl, hc, and_self, if_true, Int.toNat_natCast, hg1, Nat.mul_one, Nat.zero_add, hz] <;> rfl)) rfl <|
              OSuf.aopT tyOK rfl (so_bin (by simp only [lk] <;> rfl) (by simp only [lk] <;> rfl) bi_lss) (fun _ => rfl) (by first | rfl | assumption | ((simp only [bl, hc, and_self, if_true, Int.toNat_natCast, hg1, Nat.mul_one, Nat.zero_add, hz]) <;> first | done | assumption | omega) | (simp [hc, and_self, if_true, Int.toNat_natCast, hg1, Nat.mul_one, Nat.zero_add, hz]; done) | (simp [hc, and_self, if_true, Int.toNat_natCast, hg1, Nat.mul_one, Nat.zero_add, hz]; omega)) <|
              OSuf.nil <| SQ.normal ?_
          refine W.yes (by simp only [lk] <;> rfl) <| W.seq <| W.reg <| 
              OSuf.aop tyOK rfl (so_move (by simp only [lk] <;> rfl)) rfl <|
              OSuf.aop tyOK rfl (so_move (by simp only [lk] <;> rfl)) rfl <|
              OSuf.aop tyOK rfl (so_indexAddr (by simp only [lk] <;> rfl) (by simp only [lk] <;> rfl) (by simp (disch := first | assumption | omega | (simp only [nx] <;> omega) | fail) only [aIndexAddr, ty47, ty5, hpl, hc, and_self, if_true, Int.toNat_natCast, hg1, Nat.mul_one, Nat.zero_add, hz] <;> rfl)) rfl <|
              OSuf.aop tyOK rfl (so_load (by simp only [lk] <;> rfl) (by simp (disch := first | assumption | omega | (simp only [nx] <;> omega) | fail) only [aLoad, ty5, rowOf, hpl, hc, and_self, if_true, Int.toNat_natCast, hg1, Nat.mul_one, Nat.zero_add, hz] <;> rfl)) rfl <|
              OSuf.aop tyOK rfl (so_conw (so_conv tyOK (by simp only [lk] <;> rfl) ty5 ⟨_, rfl⟩ ty3 rfl) (by first | (simp only [w1, w2, w4, w5, hj] <;> rfl) | rfl)) rfl <|
              OSuf.aop tyOK rfl (so_move (by simp only [lk] <;> rfl)) rfl <|
              OSuf.aop tyOK rfl (so_bin (by simp only [lk] <;> rfl) (by simp only [lk] <;> rfl) (bi_w (bi_rem hNz) (by first | (simp only [w1, w2, w4, w5, hj] <;> rfl) | rfl))) rfl <|
              OSuf.aop tyOK rfl (so_assign (by simp only [lk] <;> rfl)) rfl <|
              OSuf.nil <| SQ.normal ?_
          refine W.seq <| W.reg <| 
              OSuf.aop tyOK rfl (so_move (by simp only [lk] <;> rfl)) rfl <|
              OSuf.aop tyOK rfl (so_move (by simp only [lk] <;> rfl)) rfl <|
              OSuf.aop tyOK rfl (so_conw (so_conv tyOK (by simp only [lk] <;> rfl) ty3 ⟨_, rfl⟩ ty27 rfl) (by first | (simp only [w1, w2, w4, w5, hj] <;> rfl) | rfl)) rfl <|
              OSuf.aop tyOK rfl (so_bin (by simp only [lk] <;> rfl) (by simp only [lk] <;> rfl) (bi_w bi_add (by first | (simp only [w1, w2, w4, w5, hj] <;> rfl) | rfl))) rfl <|
              OSuf.call rfl (by simp only [aopnds, lk] <;> rfl) en9 (answer_some _ (h0.next + 1) _ hA2 _ q hq) ?_
          rintro _ h4 ⟨rfl, hA4, hF4⟩
          have hov4 : h4.get h1.next = some (.cells (ov.map Value.bool) 1) := by rw [hF4.2 _ hv2 (by omega) (by simp only; omega) hD2.rows]; exact hov2
          have hv4 := Nat.lt_of_lt_of_le hv2 hF4.1
          simp only [Msg.v]
          refine ⟨_, rfl, ?_⟩
          refine 
              OSuf.aop tyOK rfl (so_move (by simp only [lk] <;> rfl)) rfl <|
              OSuf.aop tyOK rfl (so_extract (by simp only [lk] <;> rfl) (by simp (disch := first | assumption | omega | (simp only [nx] <;> omega) | fail) only [aExtract, hpl, hc, and_self, if_true, Int.toNat_natCast, hg1, Nat.mul_one, Nat.zero_add, hz, places, Value.cells, ty27, ty3, ty33, ty4, ty41, ty47, ty48, ty5, hov4, hov3, hcj, hble, hspl] <;> rfl)) rfl <|
              OSuf.aop tyOK rfl (so_extract (by simp only [lk] <;> rfl) (by simp (disch := first | assumption | omega | (simp only [nx] <;> omega) | fail) only [aExtract, hpl, hc, and_self, if_true, Int.toNat_natCast, hg1, Nat.mul_one, Nat.zero_add, hz, places, Value.cells, ty27, ty3, ty33, ty4, ty41, ty47, ty48, ty5, hov4, hov3, hcj, hble, hspl] <;> rfl)) rfl <|
              OSuf.aop tyOK rfl (so_alloc (by simp only [aAlloc, ty33] <;> rfl)) rfl <|
              OSuf.aop tyOK rfl (so_store (by simp only [lk] <;> rfl) (by simp only [lk] <;> rfl) (by simp (disch := first | assumption | omega | (simp only [nx] <;> omega) | fail) only [aStore, ty33, writeRow, hpl, hc, and_self, if_true, Int.toNat_natCast, hg1, Nat.mul_one, Nat.zero_add, hz, places, Value.cells, ty27, ty3, ty33, ty4, ty41, ty47, ty48, ty5, hov4, hov3, hcj, hble, hspl] <;> rfl)) rfl <|
              OSuf.aop tyOK rfl (so_assign (by simp only [lk] <;> rfl)) rfl <|
              OSuf.nil <| SQ.normal ?_
          refine W.seq <| W.seq <| W.reg <| 
              OSuf.aop tyOK rfl (so_move (by simp only [lk] <;> rfl)) rfl <|
              OSuf.aop tyOK rfl (so_move (by simp only [lk] <;> rfl)) rfl <|
              OSuf.aop tyOK rfl (so_indexAddr (by simp only [lk] <;> rfl) (by simp only [lk] <;> rfl) (by simp (disch := first | assumption | omega | (simp only [nx] <;> omega) | fail) only [aIndexAddr, ty48, ty4, hpl, hc, and_self, if_true, Int.toNat_natCast, hg1, Nat.mul_one, Nat.zero_add, hz, places, Value.cells, ty27, ty3, ty33, ty4, ty41, ty47, ty48, ty5, hov4, hov3, hcj, hble, hspl] <;> rfl)) rfl <|
              OSuf.aop tyOK rfl (so_load (by simp only [lk] <;> rfl) (by simp (disch := first | assumption | omega | (simp only [nx] <;> omega) | fail) only [aLoad, ty4, rowOf, hpl, hc, and_self, if_true, Int.toNat_natCast, hg1, Nat.mul_one, Nat.zero_add, hz, places, Value.cells, ty27, ty3, ty33, ty4, ty41, ty47, ty48, ty5, hov4, hov3, hcj, hble, hspl] <;> rfl)) rfl <|
              OSuf.aopF tyOK rfl (so_bin (by simp only [lk] <;> rfl) (by simp only [lk] <;> rfl) (bb_eql tyOK ty4 rfl)) (fun _ => rfl) (by first | rfl | assumption | ((simp only [bl, hc, and_self, if_true, Int.toNat_natCast, hg1, Nat.mul_one, Nat.zero_add, hz, places, Value.cells, ty27, ty3, ty33, ty4, ty41, ty47, ty48, ty5, hov4, hov3, hcj, hble, hspl]) <;> first | done | assumption | omega) | (simp [hc, and_self, if_true, Int.toNat_natCast, hg1, Nat.mul_one, Nat.zero_add, hz, places, Value.cells, ty27, ty3, ty33, ty4, ty41, ty47, ty48, ty5, hov4, hov3, hcj, hble, hspl]; done) | (simp [hc, and_self, if_true, Int.toNat_natCast, hg1, Nat.mul_one, Nat.zero_add, hz, places, Value.cells, ty27, ty3, ty33, ty4, ty41, ty47, ty48, ty5, hov4, hov3, hcj, hble, hspl]; omega)) <|
              OSuf.nil <| SQ.normal ?_
          refine W.no (by simp only [lk] <;> rfl) <| CWp.skip <| SQ.normal ?_
          refine W.reg <| 
              OSuf.aop tyOK rfl (so_move (by simp only [lk] <;> rfl)) rfl <|
              OSuf.aop tyOK rfl (so_indexAddr (by simp only [lk] <;> rfl) (by simp only [lk] <;> rfl) (by simp (disch := first | assumption | omega | (simp only [nx] <;> omega) | fail) only [aIndexAddr, ty48, ty4, hpl, hc, and_self, if_true, Int.toNat_natCast, hg1, Nat.mul_one, Nat.zero_add, hz, places, Value.cells, ty27, ty3, ty33, ty4, ty41, ty47, ty48, ty5, hov4, hov3, hcj, hble, hspl] <;> rfl)) rfl <|
              OSuf.aop tyOK rfl (so_store (by simp only [lk] <;> rfl) (by simp only [lk] <;> rfl) (by simp (disch := first | assumption | omega | (simp only [nx] <;> omega) | fail) only [aStore, ty4, writeRow, hpl, hc, and_self, if_true, Int.toNat_natCast, hg1, Nat.mul_one, Nat.zero_add, hz, places, Value.cells, ty27, ty3, ty33, ty4, ty41, ty47, ty48, ty5, hov4, hov3, hcj, hble, hspl] <;> rfl)) rfl <|
              OSuf.nil <| BQ.normal <| SQ.normal ?_
          refine W.reg <| 
              OSuf.aop tyOK rfl (so_move (by simp only [lk] <;> rfl)) rfl <|
              OSuf.aop tyOK rfl (so_bin (by simp only [lk] <;> rfl) (by simp only [lk] <;> rfl) (bi_w bi_add (by first | (simp only [w1, w2, w4, w5, hj, w1, w2, w4, w5, hj] <;> rfl) | rfl))) rfl <|
              OSuf.aop tyOK rfl (so_assign (by simp only [lk] <;> rfl)) rfl <|
              OSuf.nil <| ?_
          -- leaf: round
          have hR4 := hR2.step hA2 hF4
          have hx4 := hR4.1
          refine LQ.normal (m := n - 1) (L := [(1, .slice (some ⟨r, 0, none⟩) l.length 0), (5, P0 (h0.next + 1)), (6, I64 N), (8, P0 h1.next), (9, I64 (k + 1 : Nat))]) (by omega) ?_ ⟨k + 1, _, ov.set j true, by omega, RA.other (V := h1.next) hA4 (by simp only [nx]; omega) (by omega) (by simp only; omega) hD2.del.rows (fun z hz hne => by have hne' : ¬ h1.next = z := fun e => hne e.symm; simp (disch := first | assumption | omega | (simp only [nx] <;> omega) | fail) only [hpl]), hm, ?_, hD2.del, by simp only [nx]; omega, by simp (disch := first | assumption | omega | (simp only [nx] <;> omega) | fail) only [hpl], ⟨by simp only [nx]; omega, fun p vs hp hgp => ?_⟩, rfl⟩
          · simp only [HasA, Tr.get_put, Nat.reduceEqDiff, reduceIte, w2, and_self]
          · have := len_del hA2.ids hq
            simp only at this ⊢; omega
          · have hne' : ¬ h1.next = p := by omega
            simp (disch := first | assumption | omega | (simp only [nx] <;> omega) | fail) only [hpl]; exact hR4.2 p vs hp hgp
        · have hot : ov[j]? = some true := by
            have : j < ov.length := by omega
            rw [List.getElem?_eq_getElem this] at hoj ⊢
            cases hx : ov[j] <;> simp_all
          have hq := hD2.none hot
          have hov3 : (ov.map Value.bool)[j]? = some (.bool true) := by simp [hot]
          have hst := opens_set_not hot
          rw [hst] at hspl
          have hx2 := hR2.1
          refine SQ.normal <| CWp.known ha ?_
          simp only [mkA]
          refine W.seq <| W.seq <| W.reg <| 
              OSuf.aop tyOK rfl (so_move (by simp only [lk] <;> rfl)) rfl <|
              OSuf.aop tyOK rfl (so_move (by simp only [lk] <;> rfl)) rfl <|
              OSuf.aop tyOK rfl (so_len (by simp only [aopnds, lk] <;> rfl) (by simp (disch := first | assumption | omega | (simp only [nx] <;> omega) | fail) only [aLenOf, ty41, hpl, hc, and_self, if_true, Int.toNat_natCast, hg1, Nat.mul_one, Nat.zero_add, hz, places, Value.cells, ty27, ty3, ty33, ty4, ty41, ty47, ty48, ty5, hov2, hov3, hcj, hble, hspl, Msg.v] <;> rfl)) rfl <|
              OSuf.aopF tyOK rfl (so_bin (by simp only [lk] <;> rfl) (by simp only [lk] <;> rfl) bi_neq) (fun _ => rfl) (by simp) <|
              OSuf.nil <| SQ.normal ?_
          refine W.no (by simp only [lk] <;> rfl) <| CWp.skip <| SQ.normal ?_
          refine W.seq <| W.reg <| 
              OSuf.aop tyOK rfl (so_move (by simp only [lk] <;> rfl)) rfl <|
              OSuf.aop tyOK rfl (so_move (by simp only [lk] <;> rfl)) rfl <|
              OSuf.aop tyOK rfl (so_len (by simp only [aopnds, lk] <;> rfl) (by simp (disch := first | assumption | omega | (simp only [nx] <;> omega) | fail) only [aLenOf, ty47, hpl, hc, and_self, if_true, Int.toNat_natCast, hg1, Nat.mul_one, Nat.zero_add, hz, places, Value.cells, ty27, ty3, ty33, ty4, ty41, ty47, ty48, ty5, hov2, hov3, hcj, hble, hspl, Msg.v] <;> rfl)) rfl <|
              OSuf.aopT tyOK rfl (so_bin (by simp only [lk] <;> rfl) (by simp only [lk] <;> rfl) bi_lss) (fun _ => rfl) (by first | rfl | assumption | ((simp only [bl, hc, and_self, if_true, Int.toNat_natCast, hg1, Nat.mul_one, Nat.zero_add, hz, places, Value.cells, ty27, ty3, ty33, ty4, ty41, ty47, ty48, ty5, hov2, hov3, hcj, hble, hspl, Msg.v]) <;> first | done | assumption | omega) | (simp [hc, and_self, if_true, Int.toNat_natCast, hg1, Nat.mul_one, Nat.zero_add, hz, places, Value.cells, ty27, ty3, ty33, ty4, ty41, ty47, ty48, ty5, hov2, hov3, hcj, hble, hspl, Msg.v]; done) | (simp [hc, and_self, if_true, Int.toNat_natCast, hg1, Nat.mul_one, Nat.zero_add, hz, places, Value.cells, ty27, ty3, ty33, ty4, ty41, ty47, ty48, ty5, hov2, hov3, hcj, hble, hspl, Msg.v]; omega)) <|
              OSuf.nil <| SQ.normal ?_
          refine W.yes (by simp only [lk] <;> rfl) <| W.seq <| W.reg <| 
              OSuf.aop tyOK rfl (so_move (by simp only [lk] <;> rfl)) rfl <|
              OSuf.aop tyOK rfl (so_move (by simp only [lk] <;> rfl)) rfl <|
              OSuf.aop tyOK rfl (so_indexAddr (by simp only [lk] <;> rfl) (by simp only [lk] <;> rfl) (by simp (disch := first | assumption | omega | (simp only [nx] <;> omega) | fail) only [aIndexAddr, ty47, ty5, hpl, hc, and_self, if_true, Int.toNat_natCast, hg1, Nat.mul_one, Nat.zero_add, hz, places, Value.cells, ty27, ty3, ty33, ty4, ty41, ty47, ty48, ty5, hov2, hov3, hcj, hble, hspl, Msg.v] <;> rfl)) rfl <|
              OSuf.aop tyOK rfl (so_load (by simp only [lk] <;> rfl) (by simp (disch := first | assumption | omega | (simp only [nx] <;> omega) | fail) only [aLoad, ty5, rowOf, hpl, hc, and_self, if_true, Int.toNat_natCast, hg1, Nat.mul_one, Nat.zero_add, hz, places, Value.cells, ty27, ty3, ty33, ty4, ty41, ty47, ty48, ty5, hov2, hov3, hcj, hble, hspl, Msg.v] <;> rfl)) rfl <|
              OSuf.aop tyOK rfl (so_conw (so_conv tyOK (by simp only [lk] <;> rfl) ty5 ⟨_, rfl⟩ ty3 rfl) (by first | (simp only [w1, w2, w4, w5, hj] <;> rfl) | rfl)) rfl <|
              OSuf.aop tyOK rfl (so_move (by simp only [lk] <;> rfl)) rfl <|
              OSuf.aop tyOK rfl (so_bin (by simp only [lk] <;> rfl) (by simp only [lk] <;> rfl) (bi_w (bi_rem hNz) (by first | (simp only [w1, w2, w4, w5, hj] <;> rfl) | rfl))) rfl <|
              OSuf.aop tyOK rfl (so_assign (by simp only [lk] <;> rfl)) rfl <|
              OSuf.nil <| SQ.normal ?_
          refine W.seq <| W.reg <| 
              OSuf.aop tyOK rfl (so_move (by simp only [lk] <;> rfl)) rfl <|
              OSuf.aop tyOK rfl (so_move (by simp only [lk] <;> rfl)) rfl <|
              OSuf.aop tyOK rfl (so_conw (so_conv tyOK (by simp only [lk] <;> rfl) ty3 ⟨_, rfl⟩ ty27 rfl) (by first | (simp only [w1, w2, w4, w5, hj] <;> rfl) | rfl)) rfl <|
              OSuf.aop tyOK rfl (so_bin (by simp only [lk] <;> rfl) (by simp only [lk] <;> rfl) (bi_w bi_add (by first | (simp only [w1, w2, w4, w5, hj] <;> rfl) | rfl))) rfl <|
              OSuf.callD rfl (by simp only [aopnds, lk] <;> rfl) en9 (answer_none _ (h0.next + 1) _ hA2 _ hq) rfl <|
              OSuf.aop tyOK rfl (so_move (by simp only [lk] <;> rfl)) rfl <|
              OSuf.aop tyOK rfl (so_extract (by simp only [lk] <;> rfl) (by simp (disch := first | assumption | omega | (simp only [nx] <;> omega) | fail) only [aExtract, hpl, hc, and_self, if_true, Int.toNat_natCast, hg1, Nat.mul_one, Nat.zero_add, hz, places, Value.cells, ty27, ty3, ty33, ty4, ty41, ty47, ty48, ty5, hov2, hov3, hcj, hble, hspl, Msg.v] <;> rfl)) rfl <|
              OSuf.aop tyOK rfl (so_extract (by simp only [lk] <;> rfl) (by simp (disch := first | assumption | omega | (simp only [nx] <;> omega) | fail) only [aExtract, hpl, hc, and_self, if_true, Int.toNat_natCast, hg1, Nat.mul_one, Nat.zero_add, hz, places, Value.cells, ty27, ty3, ty33, ty4, ty41, ty47, ty48, ty5, hov2, hov3, hcj, hble, hspl, Msg.v] <;> rfl)) rfl <|
              OSuf.aop tyOK rfl (so_alloc (by simp only [aAlloc, ty33] <;> rfl)) rfl <|
              OSuf.aop tyOK rfl (so_store (by simp only [lk] <;> rfl) (by simp only [lk] <;> rfl) (by simp (disch := first | assumption | omega | (simp only [nx] <;> omega) | fail) only [aStore, ty33, writeRow, hpl, hc, and_self, if_true, Int.toNat_natCast, hg1, Nat.mul_one, Nat.zero_add, hz, places, Value.cells, ty27, ty3, ty33, ty4, ty41, ty47, ty48, ty5, hov2, hov3, hcj, hble, hspl, Msg.v] <;> rfl)) rfl <|
              OSuf.aop tyOK rfl (so_assign (by simp only [lk] <;> rfl)) rfl <|
              OSuf.nil <| SQ.normal ?_
          refine W.seq <| W.seq <| W.reg <| 
              OSuf.aop tyOK rfl (so_move (by simp only [lk] <;> rfl)) rfl <|
              OSuf.aop tyOK rfl (so_move (by simp only [lk] <;> rfl)) rfl <|
              OSuf.aop tyOK rfl (so_indexAddr (by simp only [lk] <;> rfl) (by simp only [lk] <;> rfl) (by simp (disch := first | assumption | omega | (simp only [nx] <;> omega) | fail) only [aIndexAddr, ty48, ty4, hpl, hc, and_self, if_true, Int.toNat_natCast, hg1, Nat.mul_one, Nat.zero_add, hz, places, Value.cells, ty27, ty3, ty33, ty4, ty41, ty47, ty48, ty5, hov2, hov3, hcj, hble, hspl, Msg.v] <;> rfl)) rfl <|
              OSuf.aop tyOK rfl (so_load (by simp only [lk] <;> rfl) (by simp (disch := first | assumption | omega | (simp only [nx] <;> omega) | fail) only [aLoad, ty4, rowOf, hpl, hc, and_self, if_true, Int.toNat_natCast, hg1, Nat.mul_one, Nat.zero_add, hz, places, Value.cells, ty27, ty3, ty33, ty4, ty41, ty47, ty48, ty5, hov2, hov3, hcj, hble, hspl, Msg.v] <;> rfl)) rfl <|
              OSuf.aopF tyOK rfl (so_bin (by simp only [lk] <;> rfl) (by simp only [lk] <;> rfl) (bb_eql tyOK ty4 rfl)) (fun _ => rfl) (by first | rfl | assumption | ((simp only [bl, hc, and_self, if_true, Int.toNat_natCast, hg1, Nat.mul_one, Nat.zero_add, hz, places, Value.cells, ty27, ty3, ty33, ty4, ty41, ty47, ty48, ty5, hov2, hov3, hcj, hble, hspl, Msg.v]) <;> first | done | assumption | omega) | (simp [hc, and_self, if_true, Int.toNat_natCast, hg1, Nat.mul_one, Nat.zero_add, hz, places, Value.cells, ty27, ty3, ty33, ty4, ty41, ty47, ty48, ty5, hov2, hov3, hcj, hble, hspl, Msg.v]; done) | (simp [hc, and_self, if_true, Int.toNat_natCast, hg1, Nat.mul_one, Nat.zero_add, hz, places, Value.cells, ty27, ty3, ty33, ty4, ty41, ty47, ty48, ty5, hov2, hov3, hcj, hble, hspl, Msg.v]; omega)) <|
              OSuf.nil <| SQ.normal ?_
          refine W.no (by simp only [lk] <;> rfl) <| CWp.skip <| SQ.normal ?_
          refine W.reg <| 
              OSuf.aop tyOK rfl (so_move (by simp only [lk] <;> rfl)) rfl <|
              OSuf.aop tyOK rfl (so_indexAddr (by simp only [lk] <;> rfl) (by simp only [lk] <;> rfl) (by simp (disch := first | assumption | omega | (simp only [nx] <;> omega) | fail) only [aIndexAddr, ty48, ty4, hpl, hc, and_self, if_true, Int.toNat_natCast, hg1, Nat.mul_one, Nat.zero_add, hz, places, Value.cells, ty27, ty3, ty33, ty4, ty41, ty47, ty48, ty5, hov2, hov3, hcj, hble, hspl, Msg.v] <;> rfl)) rfl <|
              OSuf.aop tyOK rfl (so_store (by simp only [lk] <;> rfl) (by simp only [lk] <;> rfl) (by simp (disch := first | assumption | omega | (simp only [nx] <;> omega) | fail) only [aStore, ty4, writeRow, hpl, hc, and_self, if_true, Int.toNat_natCast, hg1, Nat.mul_one, Nat.zero_add, hz, places, Value.cells, ty27, ty3, ty33, ty4, ty41, ty47, ty48, ty5, hov2, hov3, hcj, hble, hspl, Msg.v] <;> rfl)) rfl <|
              OSuf.nil <| BQ.normal <| SQ.normal ?_
          refine W.reg <| 
              OSuf.aop tyOK rfl (so_move (by simp only [lk] <;> rfl)) rfl <|
              OSuf.aop tyOK rfl (so_bin (by simp only [lk] <;> rfl) (by simp only [lk] <;> rfl) (bi_w bi_add (by first | (simp only [w1, w2, w4, w5, hj] <;> rfl) | rfl))) rfl <|
              OSuf.aop tyOK rfl (so_assign (by simp only [lk] <;> rfl)) rfl <|
              OSuf.nil <| ?_
          -- leaf: round
          refine LQ.normal (m := n - 1) (L := [(1, .slice (some ⟨r, 0, none⟩) l.length 0), (5, P0 (h0.next + 1)), (6, I64 N), (8, P0 h1.next), (9, I64 (k + 1 : Nat))]) (by omega) ?_ ⟨k + 1, _, ov, by omega, RA.other (V := h1.next) hA2 (by simp only [nx]; omega) (by omega) (by simp only; omega) hD2.rows (fun z hz hne => by have hne' : ¬ h1.next = z := fun e => hne e.symm; simp (disch := first | assumption | omega | (simp only [nx] <;> omega) | fail) only [hpl]), hm, hql2, hD2, by simp only [nx]; omega, by simp (disch := first | assumption | omega | (simp only [nx] <;> omega) | fail) only [hpl], ⟨by simp only [nx]; omega, fun p vs hp hgp => ?_⟩, rfl⟩
          · simp only [HasA, Tr.get_put, Nat.reduceEqDiff, reduceIte, w2, and_self]
          · have hne' : ¬ h1.next = p := by omega
            simp (disch := first | assumption | omega | (simp only [nx] <;> omega) | fail) only [hpl]; exact hR2.2 p vs hp hgp
      · refine SQ.normal <| CWp.known ha ?_
        simp only [mkA]
        refine W.seq <| W.seq <| W.reg <| 
            OSuf.aop tyOK rfl (so_move (by simp only [lk] <;> rfl)) rfl <|
            OSuf.aop tyOK rfl (so_move (by simp only [lk] <;> rfl)) rfl <|
            OSuf.aop tyOK rfl (so_len (by simp only [aopnds, lk] <;> rfl) (by simp (disch := first | assumption | omega | (simp only [nx] <;> omega) | fail) only [aLenOf, ty41, hpl] <;> rfl)) rfl <|
            OSuf.aopF tyOK rfl (so_bin (by simp only [lk] <;> rfl) (by simp only [lk] <;> rfl) bi_neq) (fun _ => rfl) (by simp) <|
            OSuf.nil <| SQ.normal ?_
        refine W.no (by simp only [lk] <;> rfl) <| CWp.skip <| SQ.normal ?_
        refine W.seq <| W.reg <| 
            OSuf.aop tyOK rfl (so_move (by simp only [lk] <;> rfl)) rfl <|
            OSuf.aop tyOK rfl (so_move (by simp only [lk] <;> rfl)) rfl <|
            OSuf.aop tyOK rfl (so_len (by simp only [aopnds, lk] <;> rfl) (by simp (disch := first | assumption | omega | (simp only [nx] <;> omega) | fail) only [aLenOf, ty47, hpl] <;> rfl)) rfl <|
            OSuf.aopF tyOK rfl (so_bin (by simp only [lk] <;> rfl) (by simp only [lk] <;> rfl) bi_lss) (fun _ => rfl) (by first | rfl | assumption | ((simp only [bl]) <;> first | done | assumption | omega) | (simp []; done) | (simp []; omega)) <|
            OSuf.nil <| SQ.normal ?_
        refine W.no (by simp only [lk] <;> rfl) <| CWp.skip <| BQ.normal <| SQ.normal ?_
        refine W.reg <| 
            OSuf.aop tyOK rfl (so_move (by simp only [lk] <;> rfl)) rfl <|
            OSuf.aop tyOK rfl (so_bin (by simp only [lk] <;> rfl) (by simp only [lk] <;> rfl) (bi_w bi_add (by first | (simp only [w2] <;> rfl) | rfl))) rfl <|
            OSuf.aop tyOK rfl (so_assign (by simp only [lk] <;> rfl)) rfl <|
            OSuf.nil <| ?_
        -- leaf: round
        refine LQ.normal (m := n - 1) (L := [(1, .slice b l.length 0), (5, P0 (h0.next + 1)), (6, I64 N), (8, P0 h1.next), (9, I64 (k + 1 : Nat))]) (by omega) ?_ ⟨k + 1, _, ov, by omega, hA2, hm, hql2, hD2, hv2, hov2, hR2, rfl⟩
        simp only [HasA, Tr.get_put, Nat.reduceEqDiff, reduceIte, w2, and_self]
    · refine W.seq <| W.seq <| W.reg <| 
          OSuf.aop tyOK rfl (so_move (by simp only [lk] <;> rfl)) rfl <|
          OSuf.aopF tyOK rfl (so_bin (by simp only [lk] <;> rfl) (by simp only [lk] <;> rfl) bi_lss) (fun _ => rfl) (by first | rfl | assumption | ((simp only [bl]) <;> first | done | assumption | omega) | (simp []; done) | (simp []; omega)) <|
          OSuf.nil <| SQ.normal ?_
      refine W.no (by simp only [lk] <;> rfl) <| CWp.exit <| SQ.exit <| LQ.exit <| BQ.exit <| ?_
      -- leaf: cut
      exact NQ.normal (L := []) trivial rfl
  rintro L a' h ha rfl
  refine SQ.normal <| CWp.known ha ?_
  simp only [mkA]
  refine W.seq <| W.reg <| 
      OSuf.aopT tyOK rfl (so_assign (by simp only [lk] <;> rfl)) (fun _ => rfl) rfl <|
      OSuf.nil <| SQ.normal ?_
  refine CWp.ret <| FQ.ret (by simp only [aRet, Try.f4, aResults, aResult, lk, Nat.reduceEqDiff, reduceIte] <;> rfl) ?_
  -- leaf: end
  rfl
end Go.Proofs.Ytmokbpphniafpaa
