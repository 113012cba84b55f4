/-
  Contracts of the package rpc: New, none, Ask, Answer, Drop, Len.
-/
import Derived.Test.YtmokbpphniafpaaTy
import Derived.Test.YtmokbpphniafpaaAb33
namespace Go.Proofs.Ytmokbpphniafpaa
open Go.Ab
set_option linter.unusedSimpArgs false
set_option linter.unusedVariables false
set_option maxRecDepth 10000
set_option maxHeartbeats 4000000

abbrev P0 (p : Nat) : Value := .pointer (some ⟨p, 0, none⟩)
abbrev I64 (n : Int) : Value := .int .i64 n
abbrev U64 (n : Int) : Value := .int .u64 n

structure Msg where
  kind : Int
  te : Int
  di : Int
  id : Int
  lsn : Int
  low : Int
  key : ByteArray
  hi : ByteArray
  del : Bool
  found : Bool
  val : ByteArray
  err : Int
def Msg.cs (m : Msg) : List Value := [I64 m.kind, U64 m.te, U64 m.di, U64 m.id, U64 m.lsn, U64 m.low, .string m.key, .string m.hi, .bool m.del, .bool m.found, .string m.val, .slice none 0 0, I64 m.err]
def Msg.v (m : Msg) : Value := .agg #[I64 m.kind, U64 m.te, U64 m.di, U64 m.id, U64 m.lsn, U64 m.low, .string m.key, .string m.hi, .bool m.del, .bool m.found, .string m.val, .slice none 0 0, I64 m.err]
/-- A question: its number, its row, when it was born, what it is. -/
structure Qn where
  id : Int
  row : Nat
  born : Nat
  msg : Msg
  asked : Bool
  at_ : Int
def Qn.cs (q : Qn) : List Value := [I64 q.msg.kind, U64 q.msg.te, U64 q.msg.di, U64 q.msg.id, U64 q.msg.lsn, U64 q.msg.low, .string q.msg.key, .string q.msg.hi, .bool q.msg.del, .bool q.msg.found, .string q.msg.val, .slice none 0 0, I64 q.msg.err, .bool q.asked, U64 q.at_]
def Qn.ent (q : Qn) : Int × Value × Nat := (q.id, P0 q.row, q.born)
structure RS where
  last : Int
  qs : List Qn
  clock : Nat
  m : Nat
structure RA (h : AHeap) (r : Nat) (S : RS) : Prop where
  lt : r < h.next
  mlt : S.m < h.next
  rm : ¬ r = S.m
  row : h.get r = some (.cells [U64 S.last, .map (some S.m)] 1)
  map : h.get S.m = some (.map (mkE .u64 (S.qs.map Qn.ent)) S.clock)
  born : ∀ q ∈ S.qs, q.born < S.clock
  borns : S.qs.Pairwise fun a b => a.born < b.born
  ids : S.qs.Pairwise fun a b => a.id < b.id
  idr : ∀ q ∈ S.qs, 0 < q.id ∧ q.id ≤ S.last ∧ q.msg.id = q.id
  rows : ∀ q ∈ S.qs, q.row < h.next ∧ ¬ q.row = r ∧ ¬ q.row = S.m ∧ h.get q.row = some (.cells q.cs 1)
  rowd : S.qs.Pairwise fun a b => ¬ a.row = b.row
  l0 : 0 ≤ S.last
def FrR (h h' : AHeap) (r : Nat) (S : RS) : Prop := h.next ≤ h'.next ∧ ∀ z, z < h.next → ¬ r = z → ¬ S.m = z → (∀ q ∈ S.qs, ¬ q.row = z) → h'.get z = h.get z
theorem FrR.ro {h h' : AHeap} {r : Nat} {S : RS} (hA : RA h r S) (f : FrR h h' r S) {z : Nat} {vs : List Value} (hz : z < h.next) (hg : h.get z = some (.ro vs)) : h'.get z = some (.ro vs) := by
  rw [f.2 z hz (fun e => by subst e; rw [hA.row] at hg; cases hg) (fun e => by subst e; rw [hA.map] at hg; cases hg) (fun q hq e => by subst e; rw [(hA.rows q hq).2.2.2] at hg; cases hg)]
  exact hg

theorem new_c (h : AHeap) : FWp Try.prog 8 [] h fun u h' => u = P0 (h.next + 1) ∧ h' = (h.new (.map [] 0)).new (.cells [U64 0, .map (some h.next)] 1) := by
  refine W.enter tyOK Try.func8 rfl rfl ?_
  simp only [entry]
  refine W.seq <| W.reg <| OSuf.aop tyOK rfl (so_assign (by simp only [lk] <;> rfl)) rfl <| OSuf.nil <| SQ.normal ?_
  refine W.seq <| W.reg <| OSuf.aop tyOK rfl (so_makeMap) rfl <| OSuf.aop tyOK rfl (so_build (by simp only [aparts, lk] <;> rfl) (by simp (disch := first | assumption | omega | (simp only [nx] <;> omega) | fail) only [aBuild, ty59, hpl, places, ty59] <;> rfl)) rfl <| OSuf.aop tyOK rfl (so_box (by simp only [lk] <;> rfl)) rfl <| OSuf.aop tyOK rfl (so_assign (by simp only [lk] <;> rfl)) rfl <| OSuf.nil <| SQ.normal ?_
  refine CWp.ret <| FQ.ret (by simp only [aRet, Try.f8, aResults, aResult, lk, Nat.reduceEqDiff, reduceIte] <;> rfl) ?_
  -- leaf: end
  exact ⟨rfl, rfl⟩
theorem new_ra (h : AHeap) : RA ((h.new (.map [] 0)).new (.cells [U64 0, .map (some h.next)] 1)) (h.next + 1) ⟨0, [], 0, h.next⟩ :=
  ⟨by simp, by simp; omega, by simp, AHeap.get_new_at (by simp), by rw [AHeap.get_new_ne (by simp)]; exact AHeap.get_new_same _ _, by simp, by simp, by simp, by simp, by simp, by simp, by simp⟩

theorem none_c (h : AHeap) (r : Nat) (S : RS) (hA : RA h r S) : FWp Try.prog 23 [P0 r] h fun u h' => u = .bool false ∧ h' = h := by
  have hrow := hA.row
  refine W.enter tyOK Try.func23 rfl rfl ?_
  simp only [entry]
  refine W.seq <| W.reg <| OSuf.aopF tyOK rfl (so_assign (by simp only [lk] <;> rfl)) (fun _ => rfl) rfl <| OSuf.nil <| SQ.normal ?_
  refine W.seq <| W.reg <| OSuf.aop tyOK rfl (so_move (by simp only [lk] <;> rfl)) rfl <| OSuf.aopF tyOK rfl (so_bin (by simp only [lk] <;> rfl) (by simp only [lk] <;> rfl) (bi_nil ⟨_, _, ty23, rfl⟩)) (fun _ => rfl) rfl <| OSuf.aopF tyOK rfl (so_move (by simp only [lk] <;> rfl)) (fun _ => rfl) rfl <| OSuf.aop tyOK (aguard_of rfl rfl (by simp only [lk] <;> rfl) rfl) (so_move (by simp only [lk] <;> rfl)) rfl <| OSuf.aop tyOK (aguard_of rfl rfl (by simp only [lk] <;> rfl) rfl) (so_nilCheck (by simp only [lk] <;> rfl)) rfl <| OSuf.aop tyOK (aguard_of rfl rfl (by simp only [lk] <;> rfl) rfl) (so_fieldAddr (by simp only [lk] <;> rfl) (fa_ok (k := 1) ty59 rfl rfl ty57 rfl rfl)) rfl <| OSuf.aop tyOK (aguard_of rfl rfl (by simp only [lk] <;> rfl) rfl) (so_load (by simp only [lk] <;> rfl) (by simp (disch := first | assumption | omega | (simp only [nx] <;> omega) | fail) only [aLoad, ty57, rowOf, hpl, hrow] <;> rfl)) rfl <| OSuf.aop tyOK (aguard_of rfl rfl (by simp only [lk] <;> rfl) rfl) (so_bin (by simp only [lk] <;> rfl) (by simp only [lk] <;> rfl) (by simp (disch := first | assumption | omega | (simp only [nx] <;> omega) | fail) only [aBin, ty57, hpl, hrow] <;> rfl)) rfl <| OSuf.aop tyOK rfl (so_pick (by simp only [lk] <;> rfl) (by simp only [lk, cond_true, cond_false] <;> rfl)) rfl <| OSuf.aop tyOK rfl (so_assign (by simp only [lk] <;> rfl)) rfl <| OSuf.nil <| SQ.normal ?_
  refine CWp.ret <| FQ.ret (by simp only [aRet, Try.f23, aResults, aResult, lk, Nat.reduceEqDiff, reduceIte] <;> rfl) ?_
  -- leaf: end
  exact ⟨rfl, rfl⟩
theorem ml_ok {t kt et : TypeId} {ats : Array TypeId} {ti : TI} {T : Tr TI} {h : AHeap} {r clock : Nat} {es : List AEnt} (ha : ats.toList.head? = some t) (ht : T.get t = some ti) (hu : ti.und = .map kt et) (hr : h.get r = some (.map es clock)) : aLenOf T ats (.map (some r)) h = some (.int .i64 es.length) := by
  obtain ⟨ts, hts⟩ : ∃ ts, ats.toList = t :: ts := by
    cases hl : ats.toList with
    | nil => rw [hl] at ha; cases ha
    | cons x ts => rw [hl] at ha; simp at ha; subst ha; exact ⟨ts, rfl⟩
  simp only [aLenOf, hts, ht, hu, hr]
theorem len_c (h : AHeap) (r : Nat) (S : RS) (hA : RA h r S) : FWp Try.prog 20 [P0 r] h fun u h' => u = I64 S.qs.length ∧ h' = h := by
  have hrow := hA.row
  have hmap := hA.map
  refine W.enter tyOK Try.func20 rfl rfl ?_
  simp only [entry]
  refine W.seq <| W.reg <| OSuf.aop tyOK rfl (so_assign (by simp only [lk] <;> rfl)) rfl <| OSuf.nil <| SQ.normal ?_
  refine W.seq <| W.seq <| W.reg <| OSuf.aop tyOK rfl (so_move (by simp only [lk] <;> rfl)) rfl <| OSuf.callD rfl (by simp only [aopnds, lk] <;> rfl) en23 (none_c _ r S hA) rfl <| OSuf.nil <| SQ.normal ?_
  refine W.no (by simp only [lk] <;> rfl) <| CWp.skip <| SQ.normal ?_
  refine W.seq <| W.reg <| OSuf.aop tyOK rfl (so_move (by simp only [lk] <;> rfl)) rfl <| OSuf.aop tyOK rfl (so_nilCheck (by simp only [lk] <;> rfl)) rfl <| OSuf.aop tyOK rfl (so_fieldAddr (by simp only [lk] <;> rfl) (fa_ok (k := 1) ty59 rfl rfl ty57 rfl rfl)) rfl <| OSuf.aop tyOK rfl (so_load (by simp only [lk] <;> rfl) (by simp (disch := first | assumption | omega | (simp only [nx] <;> omega) | fail) only [aLoad, ty57, rowOf, hpl, hrow, hmap] <;> rfl)) rfl <| OSuf.aop tyOK rfl (so_len (by simp only [aopnds, lk] <;> rfl) (by simp (disch := first | assumption | omega | (simp only [nx] <;> omega) | fail) only [aLenOf, ty57, hpl, hrow, hmap] <;> rfl)) rfl <| OSuf.aop tyOK rfl (so_assign (by simp only [lk] <;> rfl)) rfl <| OSuf.nil <| SQ.normal ?_
  refine CWp.ret <| FQ.ret (by simp only [aRet, Try.f20, aResults, aResult, lk, Nat.reduceEqDiff, reduceIte] <;> rfl) ?_
  -- leaf: end
  exact ⟨by simp [mkE], rfl⟩

theorem RA.mono {h h' : AHeap} {r : Nat} {S : RS} (hA : RA h r S) (hn : h.next ≤ h'.next) (hk : ∀ z, z < h.next → h'.get z = h.get z) : RA h' r S :=
  ⟨Nat.lt_of_lt_of_le hA.lt hn, Nat.lt_of_lt_of_le hA.mlt hn, hA.rm, by rw [hk _ hA.lt]; exact hA.row, by rw [hk _ hA.mlt]; exact hA.map, hA.born, hA.borns, hA.ids, hA.idr,
    fun q hq => ⟨Nat.lt_of_lt_of_le (hA.rows q hq).1 hn, (hA.rows q hq).2.1, (hA.rows q hq).2.2.1, by rw [hk _ (hA.rows q hq).1]; exact (hA.rows q hq).2.2.2⟩, hA.rowd, hA.l0⟩

theorem ask_c (h : AHeap) (r : Nat) (S : RS) (hA : RA h r S) (m : Msg) (hl : S.last < 1000000000) :
    FWp Try.prog 18 [P0 r, m.v] h fun u h' => u = U64 (S.last + 1) ∧ ∃ w, h.next ≤ w ∧ RA h' r ⟨S.last + 1, S.qs ++ [⟨S.last + 1, w, S.clock, { m with id := S.last + 1 }, false, 0⟩], S.clock + 1, S.m⟩ ∧ FrR h h' r S := by
  have hrow := hA.row
  have hmap := hA.map
  have hlt := hA.lt
  have hml := hA.mlt
  have hrm := hA.rm
  have hrm' : ¬ S.m = r := fun e => hrm e.symm
  have h0 := hA.l0
  have w1 : IntKind.u64.wrap (S.last + 1) = S.last + 1 := wrap_u64 (by omega) (by omega)
  have hidx : idxI (S.last + 1) (S.qs.map Qn.ent) 0 = none := idxI_none fun x hx => by
    obtain ⟨q, hq, rfl⟩ := List.mem_map.1 hx
    have := (hA.idr q hq).2.1
    simp only [Qn.ent]; omega
  refine W.enter tyOK Try.func18 rfl rfl ?_
  simp only [entry, Msg.v]
  refine W.seq <| W.reg <| OSuf.aop tyOK rfl (so_box (by simp only [lk] <;> rfl)) rfl <| OSuf.aop tyOK rfl (so_assign (by simp only [lk] <;> rfl)) rfl <| OSuf.nil <| SQ.normal ?_
  refine W.seq <| W.seq <| W.reg <| OSuf.aop tyOK rfl (so_move (by simp only [lk] <;> rfl)) rfl <| OSuf.callD rfl (by simp only [aopnds, lk] <;> rfl) en23 (none_c _ r S (hA.mono (by simp) fun z hz => AHeap.get_new_ne (by omega))) rfl <| OSuf.nil <| SQ.normal ?_
  refine W.no (by simp only [lk] <;> rfl) <| CWp.skip <| SQ.normal ?_
  refine W.seq <| W.reg <| OSuf.aop tyOK rfl (so_move (by simp only [lk] <;> rfl)) rfl <| OSuf.aop tyOK rfl (so_nilCheck (by simp only [lk] <;> rfl)) rfl <| OSuf.aop tyOK rfl (so_fieldAddr (by simp only [lk] <;> rfl) (fa_ok (k := 0) ty59 rfl rfl ty27 rfl rfl)) rfl <| OSuf.aop tyOK rfl (so_load (by simp only [lk] <;> rfl) (by simp (disch := first | assumption | omega | (simp only [nx] <;> omega) | fail) only [aLoad, ty27, rowOf, hpl, hrow, hmap, Value.cells] <;> rfl)) rfl <| OSuf.aop tyOK rfl (so_bin (by simp only [lk] <;> rfl) (by simp only [lk] <;> rfl) (bi_w bi_add (by first | (simp only [w1] <;> rfl) | rfl))) rfl <| OSuf.aop tyOK rfl (so_nilCheck (by simp only [lk] <;> rfl)) rfl <| OSuf.aop tyOK rfl (so_fieldAddr (by simp only [lk] <;> rfl) (fa_ok (k := 0) ty59 rfl rfl ty27 rfl rfl)) rfl <| OSuf.aop tyOK rfl (so_store (by simp only [lk] <;> rfl) (by simp only [lk] <;> rfl) (by simp (disch := first | assumption | omega | (simp only [nx] <;> omega) | fail) only [aStore, ty27, writeRow, hpl, hrow, hmap, Value.cells] <;> rfl)) rfl <| OSuf.nil <| SQ.normal ?_
  refine W.seq <| W.reg <| OSuf.aop tyOK rfl (so_move (by simp only [lk] <;> rfl)) rfl <| OSuf.aop tyOK rfl (so_nilCheck (by simp only [lk] <;> rfl)) rfl <| OSuf.aop tyOK rfl (so_fieldAddr (by simp only [lk] <;> rfl) (fa_ok (k := 0) ty59 rfl rfl ty27 rfl rfl)) rfl <| OSuf.aop tyOK rfl (so_load (by simp only [lk] <;> rfl) (by simp (disch := first | assumption | omega | (simp only [nx] <;> omega) | fail) only [aLoad, ty27, rowOf, hpl, hrow, hmap, Value.cells] <;> rfl)) rfl <| OSuf.aop tyOK rfl (so_fieldAddr (by simp only [lk] <;> rfl) (fa_ok (k := 3) ty33 rfl rfl ty27 rfl rfl)) rfl <| OSuf.aop tyOK rfl (so_store (by simp only [lk] <;> rfl) (by simp only [lk] <;> rfl) (by simp (disch := first | assumption | omega | (simp only [nx] <;> omega) | fail) only [aStore, ty27, writeRow, hpl, hrow, hmap, Value.cells] <;> rfl)) rfl <| OSuf.nil <| SQ.normal ?_
  refine W.seq <| CWp.sqd tyOK mixed (ms := [0, 1, 3, 7, 0, 16, 0, 64, 192, 511]) (by kernel_rfl) (
      .free rfl rfl (so_move (by simp only [lk] <;> rfl)) rfl <| .free rfl rfl (so_nilCheck (by simp only [lk] <;> rfl)) rfl <| .free rfl rfl (so_fieldAddr (by simp only [lk] <;> rfl) (fa_ok (k := 1) ty59 rfl rfl ty57 rfl rfl)) rfl <| .read rfl rfl (so_load (by simp only [lk] <;> rfl) (by simp (disch := first | assumption | omega | (simp only [nx] <;> omega) | fail) only [aLoad, ty57, rowOf, hpl, hrow, hmap, Value.cells] <;> rfl)) (by first | rfl | (simp [veq, veq1, veqs]; done) | (simp [veq, veq1, veqs, splice]; done)) trivial rfl <| .free rfl rfl (so_fieldAddr (by simp only [lk] <;> rfl) (fa_ok (k := 3) ty33 rfl rfl ty27 rfl rfl)) rfl <| .read rfl rfl (so_load (by simp only [lk] <;> rfl) (by simp (disch := first | assumption | omega | (simp only [nx] <;> omega) | fail) only [aLoad, ty27, rowOf, hpl, hrow, hmap, Value.cells] <;> rfl)) (by first | rfl | (simp [veq, veq1, veqs]; done) | (simp [veq, veq1, veqs, splice]; done)) trivial rfl <| .read rfl rfl (so_load (by simp only [lk] <;> rfl) (by simp (disch := first | assumption | omega | (simp only [nx] <;> omega) | fail) only [aLoad, ty33, rowOf, hpl, hrow, hmap, Value.cells] <;> rfl)) (by first | rfl | (simp [veq, veq1, veqs]; done) | (simp [veq, veq1, veqs, splice]; done)) trivial rfl <| .free rfl rfl (so_build (by simp only [aparts, lk] <;> rfl) (by simp (disch := first | assumption | omega | (simp only [nx] <;> omega) | fail) only [aBuild, ty62, hpl, hrow, hmap, Value.cells] <;> rfl)) rfl <| .change rfl rfl (so_box (by simp only [lk] <;> rfl)) rfl ⟨.inl rfl, .inr (so_load (by simp only [lk] <;> rfl) (by simp (disch := first | assumption | omega | (simp only [nx] <;> omega) | fail) only [aLoad, ty27, rowOf, hpl, hrow, hmap, Value.cells] <;> rfl)), .inr (so_load (by simp only [lk] <;> rfl) (by simp (disch := first | assumption | omega | (simp only [nx] <;> omega) | fail) only [aLoad, ty57, rowOf, hpl, hrow, hmap, Value.cells] <;> rfl)), trivial⟩ rfl <| .change rfl rfl (so_mapUpdate (by simp only [lk] <;> rfl) (by simp only [lk] <;> rfl) (by simp only [lk] <;> rfl) (mu_new tyOK ty57 rfl ty27 rfl (by simp (disch := first | assumption | omega | (simp only [nx] <;> omega) | fail) only [aCells, rowOf, hpl, hrow, hmap, Value.cells] <;> rfl) hidx)) rfl ⟨.inl rfl, .inl rfl, .inl rfl, trivial⟩ rfl <| .nil) <| SQ.normal ?_
  refine W.seq <| W.reg <| OSuf.aop tyOK rfl (so_fieldAddr (by simp only [lk] <;> rfl) (fa_ok (k := 3) ty33 rfl rfl ty27 rfl rfl)) rfl <| OSuf.aop tyOK rfl (so_load (by simp only [lk] <;> rfl) (by simp (disch := first | assumption | omega | (simp only [nx] <;> omega) | fail) only [aLoad, ty27, rowOf, hpl, hrow, hmap, Value.cells] <;> rfl)) rfl <| OSuf.aop tyOK rfl (so_assign (by simp only [lk] <;> rfl)) rfl <| OSuf.nil <| SQ.normal ?_
  refine CWp.ret <| FQ.ret (by simp only [aRet, Try.f18, aResults, aResult, lk, Nat.reduceEqDiff, reduceIte] <;> rfl) ?_
  -- leaf: end
  refine ⟨rfl, h.next + 1, by omega, ⟨?_, ?_, hrm, ?_, ?_, ?_, ?_, ?_, ?_, ?_, ?_, by simp only; omega⟩, ?_, ?_⟩
  · simp only [nx]; omega
  · simp only [nx]; omega
  · simp (disch := first | assumption | omega | (simp only [nx] <;> omega) | fail) only [hpl]; rfl
  · simp (disch := first | assumption | omega | (simp only [nx] <;> omega) | fail) only [hpl]; simp [Qn.ent]
  · intro q hq
    rcases List.mem_append.1 hq with h9 | h9
    · have := hA.born q h9; simp only; omega
    · simp at h9; subst h9; simp
  · refine List.pairwise_append.2 ⟨hA.borns, by simp, fun a ha b hb => ?_⟩
    simp at hb; subst hb; exact hA.born a ha
  · refine List.pairwise_append.2 ⟨hA.ids, by simp, fun a ha b hb => ?_⟩
    simp at hb; subst hb; have := (hA.idr a ha).2.1; simp only; omega
  · intro q hq
    rcases List.mem_append.1 hq with h9 | h9
    · have := hA.idr q h9; exact ⟨this.1, by simp only; omega, this.2.2⟩
    · simp at h9; subst h9; exact ⟨by simp only; omega, by simp only; omega, rfl⟩
  · intro q hq
    rcases List.mem_append.1 hq with h9 | h9
    · obtain ⟨g1, g2, g3, g4⟩ := hA.rows q h9
      have g2' : ¬ r = q.row := fun e => g2 e.symm
      have g3' : ¬ S.m = q.row := fun e => g3 e.symm
      refine ⟨by simp only [nx]; omega, g2, g3, ?_⟩
      simp (disch := first | assumption | omega | (simp only [nx] <;> omega) | fail) only [hpl]; exact g4
    · simp at h9; subst h9
      refine ⟨by simp only [nx]; omega, by simp only; omega, by simp only; omega, ?_⟩
      have g3' : ¬ S.m = h.next + 1 := by omega
      simp (disch := first | assumption | omega | (simp only [nx] <;> omega) | fail) only [hpl]; rfl
  · refine List.pairwise_append.2 ⟨hA.rowd, by simp, fun a ha b hb => ?_⟩
    simp at hb; subst hb; have := (hA.rows a ha).1; simp only; omega
  · simp only [nx]; omega
  · intro z hz h1 h2 h3
    simp (disch := first | assumption | omega | (simp only [nx] <;> omega) | fail) only [hpl]

def delQ (id : Int) (qs : List Qn) : List Qn := qs.filter fun q => !(q.id == id)
def findQ (id : Int) (qs : List Qn) : Option Qn := qs.find? fun q => q.id == id
theorem idx_none {id : Int} {qs : List Qn} (hf : findQ id qs = none) : idxI id (qs.map Qn.ent) 0 = none := idxI_none fun x hx => by
  obtain ⟨q, hq, rfl⟩ := List.mem_map.1 hx
  have := List.find?_eq_none.1 hf q hq
  simp only [Qn.ent]; intro e; simp [e] at this
def zeroMsg : Msg := ⟨0, 0, 0, 0, 0, 0, ⟨#[]⟩, ⟨#[]⟩, false, false, ⟨#[]⟩, 0⟩
theorem bv_msg (n : Nat) (m : Msg) (b : Bool) : BV n (.tuple #[m.v, .bool b]) := ⟨fun _ => none, _, .tuple (.cons (.agg (.of_flat1 _ _ rfl)) (.cons (.bool b) .nil))⟩
theorem answer_none (h : AHeap) (r : Nat) (S : RS) (hA : RA h r S) (id : Int) (hf : findQ id S.qs = none) :
    FWp Try.prog 9 [P0 r, U64 id] h fun u h' => u = .tuple #[zeroMsg.v, .bool false] ∧ h' = h := by
  have hrow := hA.row
  have hmap := hA.map
  have hlt := hA.lt
  have hml := hA.mlt
  have hidx := idx_none hf
  refine FWp.gcs (bv_msg _ _ _) (W.enter tyOK Try.func9 rfl rfl ?_)
  simp only [entry]
  refine W.seq <| W.reg <| OSuf.aop tyOK rfl (so_alloc (by simp only [aAlloc, ty33] <;> rfl)) rfl <| OSuf.aopF tyOK rfl (so_assign (by simp only [lk] <;> rfl)) (fun _ => rfl) rfl <| OSuf.nil <| SQ.normal ?_
  refine W.seq <| W.seq <| W.reg <| OSuf.aop tyOK rfl (so_move (by simp only [lk] <;> rfl)) rfl <| OSuf.callD rfl (by simp only [aopnds, lk] <;> rfl) en23 (none_c _ r S (hA.mono (by simp) fun z hz => AHeap.get_new_ne (by omega))) rfl <| OSuf.aopF tyOK rfl (so_move (by simp only [lk] <;> rfl)) (fun _ => rfl) rfl <| OSuf.aop tyOK (aguard_of rfl rfl (by simp only [lk] <;> rfl) rfl) (so_move (by simp only [lk] <;> rfl)) rfl <| OSuf.aop tyOK (aguard_of rfl rfl (by simp only [lk] <;> rfl) rfl) (so_nilCheck (by simp only [lk] <;> rfl)) rfl <| OSuf.aop tyOK (aguard_of rfl rfl (by simp only [lk] <;> rfl) rfl) (so_fieldAddr (by simp only [lk] <;> rfl) (fa_ok (k := 1) ty59 rfl rfl ty57 rfl rfl)) rfl <| OSuf.aop tyOK (aguard_of rfl rfl (by simp only [lk] <;> rfl) rfl) (so_load (by simp only [lk] <;> rfl) (by simp (disch := first | assumption | omega | (simp only [nx] <;> omega) | fail) only [aLoad, ty57, rowOf, hpl, hrow, hmap, Value.cells, places, ty27, ty33, ty57, ty59, ty60, ty62] <;> rfl)) rfl <| OSuf.aop tyOK (aguard_of rfl rfl (by simp only [lk] <;> rfl) rfl) (so_move (by simp only [lk] <;> rfl)) rfl <| OSuf.aop tyOK (aguard_of rfl rfl (by simp only [lk] <;> rfl) rfl) (so_lookup (by simp only [lk] <;> rfl) (by simp only [lk] <;> rfl) (lk_none tyOK ty57 rfl ty27 rfl ty60 rfl rfl (by simp (disch := first | assumption | omega | (simp only [nx] <;> omega) | fail) only [aCells, rowOf, hpl, hrow, hmap, Value.cells, places, ty27, ty33, ty57, ty59, ty60, ty62] <;> rfl) hidx)) rfl <| OSuf.aopT tyOK (aguard_of rfl rfl (by simp only [lk] <;> rfl) rfl) (so_bin (by simp only [lk] <;> rfl) (by simp only [lk] <;> rfl) (bi_nil0 tyOK ⟨_, _, ty60, rfl⟩)) (fun _ => rfl) rfl <| OSuf.aopT tyOK rfl (so_pick (by simp only [lk] <;> rfl) (by simp only [lk, cond_true, cond_false] <;> rfl)) (fun _ => rfl) rfl <| OSuf.nil <| SQ.normal ?_
  refine W.yes (by simp only [lk] <;> rfl) <| W.seq <| W.reg <| OSuf.aop tyOK rfl (so_build (by simp only [aparts, lk] <;> rfl) (by simp (disch := first | assumption | omega | (simp only [nx] <;> omega) | fail) only [aBuild, ty33, hpl, hrow, hmap, Value.cells, places, ty27, ty33, ty57, ty59, ty60, ty62] <;> rfl)) rfl <| OSuf.aop tyOK rfl (so_store (by simp only [lk] <;> rfl) (by simp only [lk] <;> rfl) (by simp (disch := first | assumption | omega | (simp only [nx] <;> omega) | fail) only [aStore, ty33, writeRow, hpl, hrow, hmap, Value.cells, places, ty27, ty33, ty57, ty59, ty60, ty62] <;> rfl)) rfl <| OSuf.aopF tyOK rfl (so_assign (by simp only [lk] <;> rfl)) (fun _ => rfl) rfl <| OSuf.nil <| SQ.normal ?_
  refine CWp.ret <| SQ.ret <| FQ.ret (by simp (disch := first | assumption | omega | (simp only [nx] <;> omega) | fail) only [aRet, Try.f9, aResults, aResult, lk, Nat.reduceEqDiff, reduceIte, aLoad, rowOf, hpl, hrow, hmap, Value.cells, places, ty27, ty33, ty57, ty59, ty60, ty62] <;> rfl) ?_
  -- leaf: end
  refine ⟨rfl, fun z o hz ho => ?_⟩
  simp (disch := first | assumption | omega | (simp only [nx] <;> omega) | fail) only [hpl]; exact ho

theorem find_idx {id : Int} : ∀ {qs : List Qn} {q : Qn} (k : Nat), findQ id qs = some q → ∃ j, idxI id (qs.map Qn.ent) k = some (k + j, P0 q.row) ∧ (qs.map Qn.ent).eraseIdx j = (qs.eraseIdx j).map Qn.ent ∧ qs[j]? = some q
  | [], q, k, h => by cases h
  | p :: qs, q, k, h => by
    unfold findQ at h
    rw [List.find?_cons] at h
    by_cases hp : p.id = id
    · have e1 : (p.id == id) = true := by simpa using hp
      rw [e1] at h
      cases h
      refine ⟨0, ?_, by simp, by simp⟩
      have e2 : (id == p.ent.1) = true := by simp [Qn.ent, hp]
      simp only [List.map_cons, idxI, e2, cond_true, Nat.add_zero]; rfl
    · have e1 : (p.id == id) = false := by simpa using hp
      rw [e1] at h
      obtain ⟨j, h1, h2, h3⟩ := find_idx (k + 1) (show findQ id qs = some q from h)
      have e2 : (id == p.ent.1) = false := by simp [Qn.ent]; exact fun e => hp e.symm
      refine ⟨j + 1, ?_, by simp [h2], by simpa using h3⟩
      simp only [List.map_cons, idxI, e2, cond_false, h1]
      congr 2; omega
theorem erase_del {id : Int} : ∀ {qs : List Qn} {j : Nat} {q : Qn}, qs.Pairwise (fun a b => a.id < b.id) → qs[j]? = some q → q.id = id → qs.eraseIdx j = delQ id qs
  | p :: qs, 0, q, hp, hj, hq => by
    simp at hj; subst hj
    have h' := List.pairwise_cons.1 hp
    simp only [List.eraseIdx_cons_zero, delQ]
    rw [List.filter_cons, if_neg (by simp [hq])]
    exact (List.filter_eq_self.2 fun x hx => by have := h'.1 x hx; simp; omega).symm
  | p :: qs, j + 1, q, hp, hj, hq => by
    have h' := List.pairwise_cons.1 hp
    simp at hj
    have hm : q ∈ qs := List.mem_of_getElem? hj
    have := h'.1 q hm
    simp only [List.eraseIdx_cons_succ, delQ]
    rw [List.filter_cons, if_pos (by simp; omega), erase_del h'.2 hj hq]; rfl

theorem answer_some (h : AHeap) (r : Nat) (S : RS) (hA : RA h r S) (id : Int) (q : Qn) (hf : findQ id S.qs = some q) :
    FWp Try.prog 9 [P0 r, U64 id] h fun u h' => u = .tuple #[q.msg.v, .bool true] ∧ RA h' r ⟨S.last, delQ id S.qs, S.clock, S.m⟩ ∧ FrR h h' r S := by
  have hrow := hA.row
  have hmap := hA.map
  have hlt := hA.lt
  have hml := hA.mlt
  have hrm := hA.rm
  have hrm' : ¬ S.m = r := fun e => hrm e.symm
  obtain ⟨j, hidx, herase, hj⟩ := find_idx 0 hf
  rw [Nat.zero_add] at hidx
  have hqm : q ∈ S.qs := List.mem_of_getElem? hj
  have hqid : q.id = id := by have := List.find?_some hf; simpa using this
  obtain ⟨g1, g2, g3, g4⟩ := hA.rows q hqm
  have hdel := erase_del hA.ids hj hqid
  have cs1 : cellsOf q.cs 0 13 = some q.msg.cs := rfl
  have g4' : h.get q.row = some (.cells [I64 q.msg.kind, U64 q.msg.te, U64 q.msg.di, U64 q.msg.id, U64 q.msg.lsn, U64 q.msg.low, .string q.msg.key, .string q.msg.hi, .bool q.msg.del, .bool q.msg.found, .string q.msg.val, .slice none 0 0, I64 q.msg.err, .bool q.asked, U64 q.at_] 1) := g4
  refine W.enter tyOK Try.func9 rfl rfl ?_
  simp only [entry]
  refine W.seq <| W.reg <| OSuf.aop tyOK rfl (so_alloc (by simp only [aAlloc, ty33] <;> rfl)) rfl <| OSuf.aopF tyOK rfl (so_assign (by simp only [lk] <;> rfl)) (fun _ => rfl) rfl <| OSuf.nil <| SQ.normal ?_
  refine W.seq <| W.seq <| W.reg <| OSuf.aop tyOK rfl (so_move (by simp only [lk] <;> rfl)) rfl <| OSuf.callD rfl (by simp only [aopnds, lk] <;> rfl) en23 (none_c _ r S (hA.mono (by simp) fun z hz => AHeap.get_new_ne (by omega))) rfl <| OSuf.aopF tyOK rfl (so_move (by simp only [lk] <;> rfl)) (fun _ => rfl) rfl <| OSuf.aop tyOK (aguard_of rfl rfl (by simp only [lk] <;> rfl) rfl) (so_move (by simp only [lk] <;> rfl)) rfl <| OSuf.aop tyOK (aguard_of rfl rfl (by simp only [lk] <;> rfl) rfl) (so_nilCheck (by simp only [lk] <;> rfl)) rfl <| OSuf.aop tyOK (aguard_of rfl rfl (by simp only [lk] <;> rfl) rfl) (so_fieldAddr (by simp only [lk] <;> rfl) (fa_ok (k := 1) ty59 rfl rfl ty57 rfl rfl)) rfl <| OSuf.aop tyOK (aguard_of rfl rfl (by simp only [lk] <;> rfl) rfl) (so_load (by simp only [lk] <;> rfl) (by simp (disch := first | assumption | omega | (simp only [nx] <;> omega) | fail) only [aLoad, ty57, rowOf, hpl, hrow, hmap, g4', Value.cells, places, ty27, ty33, ty57, ty59, ty60, ty62] <;> rfl)) rfl <| OSuf.aop tyOK (aguard_of rfl rfl (by simp only [lk] <;> rfl) rfl) (so_move (by simp only [lk] <;> rfl)) rfl <| OSuf.aop tyOK (aguard_of rfl rfl (by simp only [lk] <;> rfl) rfl) (so_lookup (by simp only [lk] <;> rfl) (by simp only [lk] <;> rfl) (lk_some tyOK ty57 rfl ty27 rfl (by simp (disch := first | assumption | omega | (simp only [nx] <;> omega) | fail) only [aCells, rowOf, hpl, hrow, hmap, g4', Value.cells, places, ty27, ty33, ty57, ty59, ty60, ty62] <;> rfl) hidx)) rfl <| OSuf.aopF tyOK (aguard_of rfl rfl (by simp only [lk] <;> rfl) rfl) (so_bin (by simp only [lk] <;> rfl) (by simp only [lk] <;> rfl) (bi_nil ⟨_, _, ty60, rfl⟩)) (fun _ => rfl) rfl <| OSuf.aopF tyOK rfl (so_pick (by simp only [lk] <;> rfl) (by simp only [lk, cond_true, cond_false] <;> rfl)) (fun _ => rfl) rfl <| OSuf.nil <| SQ.normal ?_
  refine W.no (by simp only [lk] <;> rfl) <| CWp.skip <| SQ.normal ?_
  refine W.seq <| W.reg <| OSuf.aop tyOK rfl (so_move (by simp only [lk] <;> rfl)) rfl <| OSuf.aop tyOK rfl (so_nilCheck (by simp only [lk] <;> rfl)) rfl <| OSuf.aop tyOK rfl (so_fieldAddr (by simp only [lk] <;> rfl) (fa_ok (k := 1) ty59 rfl rfl ty57 rfl rfl)) rfl <| OSuf.aop tyOK rfl (so_load (by simp only [lk] <;> rfl) (by simp (disch := first | assumption | omega | (simp only [nx] <;> omega) | fail) only [aLoad, ty57, rowOf, hpl, hrow, hmap, g4', Value.cells, places, ty27, ty33, ty57, ty59, ty60, ty62] <;> rfl)) rfl <| OSuf.aop tyOK rfl (so_move (by simp only [lk] <;> rfl)) rfl <| OSuf.aop tyOK rfl (so_lookup (by simp only [lk] <;> rfl) (by simp only [lk] <;> rfl) (lk_some tyOK ty57 rfl ty27 rfl (by simp (disch := first | assumption | omega | (simp only [nx] <;> omega) | fail) only [aCells, rowOf, hpl, hrow, hmap, g4', Value.cells, places, ty27, ty33, ty57, ty59, ty60, ty62] <;> rfl) hidx)) rfl <| OSuf.aop tyOK rfl (so_nilCheck (by simp only [lk] <;> rfl)) rfl <| OSuf.aop tyOK rfl (so_fieldAddr (by simp only [lk] <;> rfl) (fa_ok (k := 0) ty62 rfl rfl ty33 rfl rfl)) rfl <| OSuf.aop tyOK rfl (so_load (by simp only [lk] <;> rfl) (by simp (disch := first | assumption | omega | (simp only [nx] <;> omega) | fail) only [aLoad, ty33, rowOf, hpl, hrow, hmap, g4', Value.cells, places, ty27, ty33, ty57, ty59, ty60, ty62] <;> rfl)) rfl <| OSuf.aop tyOK rfl (so_alloc (by simp only [aAlloc, ty33] <;> rfl)) rfl <| OSuf.aop tyOK rfl (so_store (by simp only [lk] <;> rfl) (by simp only [lk] <;> rfl) (by simp (disch := first | assumption | omega | (simp only [nx] <;> omega) | fail) only [aStore, ty33, writeRow, hpl, hrow, hmap, g4', Value.cells, places, ty27, ty33, ty57, ty59, ty60, ty62] <;> rfl)) rfl <| OSuf.nil <| SQ.normal ?_
  refine W.seq <| W.reg <| OSuf.aop tyOK rfl (so_move (by simp only [lk] <;> rfl)) rfl <| OSuf.aop tyOK rfl (so_nilCheck (by simp only [lk] <;> rfl)) rfl <| OSuf.aop tyOK rfl (so_fieldAddr (by simp only [lk] <;> rfl) (fa_ok (k := 1) ty59 rfl rfl ty57 rfl rfl)) rfl <| OSuf.aop tyOK rfl (so_load (by simp only [lk] <;> rfl) (by simp (disch := first | assumption | omega | (simp only [nx] <;> omega) | fail) only [aLoad, ty57, rowOf, hpl, hrow, hmap, g4', Value.cells, places, ty27, ty33, ty57, ty59, ty60, ty62] <;> rfl)) rfl <| OSuf.aop tyOK rfl (so_move (by simp only [lk] <;> rfl)) rfl <| OSuf.aop tyOK rfl (so_delete (by simp only [aopnds, lk] <;> rfl) (de_some tyOK rfl ty57 rfl ty27 rfl (by simp (disch := first | assumption | omega | (simp only [nx] <;> omega) | fail) only [aCells, rowOf, hpl, hrow, hmap, g4', Value.cells, places, ty27, ty33, ty57, ty59, ty60, ty62] <;> rfl) hidx)) rfl <| OSuf.nil <| SQ.normal ?_
  refine W.seq <| W.reg <| OSuf.aop tyOK rfl (so_load (by simp only [lk] <;> rfl) (by simp (disch := first | assumption | omega | (simp only [nx] <;> omega) | fail) only [aLoad, ty33, rowOf, hpl, hrow, hmap, g4', Value.cells, places, ty27, ty33, ty57, ty59, ty60, ty62] <;> rfl)) rfl <| OSuf.aop tyOK rfl (so_store (by simp only [lk] <;> rfl) (by simp only [lk] <;> rfl) (by simp (disch := first | assumption | omega | (simp only [nx] <;> omega) | fail) only [aStore, ty33, writeRow, hpl, hrow, hmap, g4', Value.cells, places, ty27, ty33, ty57, ty59, ty60, ty62] <;> rfl)) rfl <| OSuf.aopT tyOK rfl (so_assign (by simp only [lk] <;> rfl)) (fun _ => rfl) rfl <| OSuf.nil <| SQ.normal ?_
  refine CWp.ret <| FQ.ret (by simp (disch := first | assumption | omega | (simp only [nx] <;> omega) | fail) only [aRet, Try.f9, aResults, aResult, lk, Nat.reduceEqDiff, reduceIte, aLoad, rowOf, hpl, hrow, hmap, g4', Value.cells, places, ty27, ty33, ty57, ty59, ty60, ty62] <;> rfl) ?_
  -- leaf: end
  have sub : ∀ x ∈ delQ id S.qs, x ∈ S.qs := fun x hx => (List.mem_filter.1 hx).1
  have subl : (delQ id S.qs).Sublist S.qs := List.filter_sublist
  refine ⟨rfl, ⟨?_, ?_, hrm, ?_, ?_, fun x hx => hA.born x (sub x hx), hA.borns.sublist subl, hA.ids.sublist subl, fun x hx => hA.idr x (sub x hx), fun x hx => ?_, hA.rowd.sublist subl, hA.l0⟩, ?_, fun z hz h1 h2 h3 => ?_⟩
  · simp only [nx]; omega
  · simp only [nx]; omega
  · simp (disch := first | assumption | omega | (simp only [nx] <;> omega) | fail) only [hpl]; exact hrow
  · simp (disch := first | assumption | omega | (simp only [nx] <;> omega) | fail) only [hpl]; rw [herase, hdel]
  · obtain ⟨k1, k2, k3, k4⟩ := hA.rows x (sub x hx)
    have k3' : ¬ S.m = x.row := fun e => k3 e.symm
    refine ⟨by simp only [nx]; omega, k2, k3, ?_⟩
    simp (disch := first | assumption | omega | (simp only [nx] <;> omega) | fail) only [hpl]; exact k4
  · simp only [nx]; omega
  · simp (disch := first | assumption | omega | (simp only [nx] <;> omega) | fail) only [hpl]
end Go.Proofs.Ytmokbpphniafpaa
