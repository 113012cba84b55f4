/-
  Merged: DepsA, DepsB, DepsC, DepsD, DepsE, DepsF.
-/
import Derived.Test.YtfbfihfmlenklaaTy
import Derived.Test.YtfbfihfmlenklaaAb35
import Derived.Test.YtfbfihfmlenklaaKS
namespace Go.Proofs.Ytfbfihfmlenklaa
open Go.Ab
set_option linter.unusedSimpArgs false
set_option linter.unusedVariables false
set_option maxRecDepth 10000
set_option maxHeartbeats 4000000

abbrev P0 (p : Nat) : Value := .pointer (some ⟨p, 0, none⟩)
abbrev I64 (n : Int) : Value := .int .i64 n
abbrev U64 (n : Int) : Value := .int .u64 n

/-! Pairs of numbers as keys. -/
def encP (p : Int × Int) : Value := .agg #[U64 p.1, U64 p.2]
theorem eqp (a b c d : Int) : pureRun Try.prog (Op.equal 60 (.agg #[.int .u64 a, .int .u64 b]) (.agg #[.int .u64 c, .int .u64 d])) = some (a == c && b == d) := by
  have u1 : Try.prog.underlying 60 = some (.struct #[{ name := "ts", type := 29, offset := 0, embedded := false, tag := "", pkgPath := "couplet/deps", byteOffset := 0 }, { name := "on", type := 29, offset := 1, embedded := false, tag := "", pkgPath := "couplet/deps", byteOffset := 8 }]) := by kernel_rfl
  have u2 : Try.prog.underlying 29 = some (.int .u64) := by kernel_rfl
  have u3 : Try.prog.stoodInHeld 60 = false := by kernel_rfl
  have p1 : ∀ x y : Value, pureRun Try.prog (part 29 #[x, y] 0) = some x := fun x y => by kernel_rfl
  have p2 : ∀ x y : Value, pureRun Try.prog (part 29 #[x, y] 1) = some y := fun x y => by kernel_rfl
  have e1 : ∀ k (x y : Int), pureRun Try.prog (Op.equalIn (k + 1) 29 (.int .u64 x) (.int .u64 y)) = some (x == y) := fun k x y => by
    simp only [Op.equalIn, underlying, bind_assoc, pureRun_program, u2, pure_bind, pureRun_pure, if_true]
  show pureRun Try.prog (Op.equalIn (9998 + 1 + 1) 60 _ _) = _
  generalize 9998 = k
  rw [Op.equalIn]
  simp only [underlying, bind_assoc, pureRun_program, u1, pure_bind, u3, Bool.false_eq_true, if_false]
  rw [← Array.forIn_toList]
  simp only [List.forIn_cons, bind_assoc]
  rw [if_pos (by decide)]
  simp only [bind_assoc]
  rw [pureRun_bind (p1 _ _), pureRun_bind (p1 _ _), pureRun_bind (e1 _ _ _)]
  cases hac : a == c
  · simp [pureRun_pure]
  · simp only [Bool.not_true, Bool.false_eq_true, if_false, pure_bind, bind_assoc]
    rw [if_pos (by decide)]
    simp only [bind_assoc]
    rw [pureRun_bind (p2 _ _), pureRun_bind (p2 _ _), pureRun_bind (e1 _ _ _)]
    cases hbd : b == d <;> simp [pureRun_pure]
theorem keyP : KeyOK Try.prog T 60 encP := by
  refine ⟨find_ask ty60 (fun a b => rfl) fun a b => ?_, fun e a => ?_, fun a => ?_⟩
  · rw [encP, encP, eqp]
    congr 1
    rw [Bool.eq_iff_iff]; simp [Prod.ext_iff]
  · cases e
    · show (flat _ && (pureRun Try.prog (Instr.checkKey _ 10000 60 (.agg #[.int .u64 a.1, .int .u64 a.2]))).isSome) = true
      kernel_rfl
    · show (flat _ && (pureRun Try.prog (Instr.checkKey _ 10000 60 (.agg #[.int .u64 a.1, .int .u64 a.2]))).isSome) = true
      kernel_rfl
  · simp [encP, Instr.sameBits]

/-- Who waits for whom. -/
structure Pr where
  key : Int × Int
  hangs : Bool
  born : Nat
def Pr.ent (p : Pr) : (Int × Int) × Value × Nat := (p.key, .bool p.hangs, p.born)
structure DS where
  ps : List Pr
  clock : Nat
  m : Nat
structure DA (h : AHeap) (r : Nat) (S : DS) : Prop where
  lt : r < h.next
  mlt : S.m < h.next
  rm : ¬ r = S.m
  row : h.get r = some (.cells [.map (some S.m)] 1)
  map : h.get S.m = some (.map (mkK encP (S.ps.map Pr.ent)) S.clock)
  born : ∀ p ∈ S.ps, p.born < S.clock
  borns : (S.ps.map Pr.born).Nodup
  keys : (S.ps.map Pr.key).Nodup
theorem DA.mono {h h' : AHeap} {r : Nat} {S : DS} (hA : DA h r S) (hn : h.next ≤ h'.next) (hr : h'.get r = h.get r) (hm : h'.get S.m = h.get S.m) : DA h' r S :=
  ⟨Nat.lt_of_lt_of_le hA.lt hn, Nat.lt_of_lt_of_le hA.mlt hn, hA.rm, by rw [hr]; exact hA.row, by rw [hm]; exact hA.map, hA.born, hA.borns, hA.keys⟩
/-- What may change: the map; what is new. -/
def FrD (h h' : AHeap) (S : DS) : Prop := h.next ≤ h'.next ∧ ∀ z, z < h.next → ¬ S.m = z → h'.get z = h.get z

theorem new_c (h : AHeap) : FWp Try.prog 8 [] h fun u h' => u = P0 (h.next + 1) ∧ h' = (h.new (.map [] 0)).new (.cells [.map (some h.next)] 1) := by
  refine W.enter tyOK Try.func8 rfl rfl ?_
  simp only [entry]
  refine W.seq <| W.reg <| OSuf.aop tyOK rfl (so_assign (by simp only [lk] <;> rfl)) rfl <| OSuf.nil <| SQ.normal ?_
  refine W.seq <| W.reg <| OSuf.aop tyOK rfl (so_makeMap) rfl <| OSuf.aop tyOK rfl (so_build (by simp only [aparts, lk] <;> rfl) (by simp (disch := first | assumption | omega | (simp only [nx] <;> omega) | fail) only [aBuild, ty57, hpl, places, ty57] <;> rfl)) rfl <| OSuf.aop tyOK rfl (so_box (by simp only [lk] <;> rfl)) rfl <| OSuf.aop tyOK rfl (so_assign (by simp only [lk] <;> rfl)) rfl <| OSuf.nil <| SQ.normal ?_
  refine CWp.ret <| FQ.ret (by simp only [aRet, Try.f8, aResults, aResult, lk, Nat.reduceEqDiff, reduceIte] <;> rfl) ?_
  -- leaf: end
  exact ⟨rfl, rfl⟩
theorem new_da (h : AHeap) : DA ((h.new (.map [] 0)).new (.cells [.map (some h.next)] 1)) (h.next + 1) ⟨[], 0, h.next⟩ :=
  ⟨by simp, by simp; omega, by simp, AHeap.get_new_at (by simp), by rw [AHeap.get_new_ne (by simp)]; exact AHeap.get_new_same _ _, by simp, by simp, by simp⟩
theorem none_c (h : AHeap) (r : Nat) (S : DS) (hA : DA h r S) : FWp Try.prog 26 [P0 r] h fun u h' => u = .bool false ∧ h' = h := by
  have hrow := hA.row
  refine W.enter tyOK Try.func26 rfl rfl ?_
  simp only [entry]
  refine W.seq <| W.reg <| OSuf.aopF tyOK rfl (so_assign (by simp only [lk] <;> rfl)) (fun _ => rfl) rfl <| OSuf.nil <| SQ.normal ?_
  refine W.seq <| W.reg <| OSuf.aop tyOK rfl sm rfl <| OSuf.aopF tyOK rfl (so_bin (by simp only [lk] <;> rfl) (by simp only [lk] <;> rfl) (bi_nil ⟨_, _, ty23, rfl⟩)) (fun _ => rfl) rfl <| OSuf.aopF tyOK rfl sm (fun _ => rfl) rfl <| OSuf.aop tyOK ag sm rfl <| OSuf.aop tyOK ag (so_nilCheck (by simp only [lk] <;> rfl)) rfl <| OSuf.aop tyOK ag (so_fieldAddr (by simp only [lk] <;> rfl) (fa_ok (k := 0) ty57 rfl rfl ty55 rfl rfl)) rfl <| OSuf.aop tyOK ag (so_load (by simp only [lk] <;> rfl) (by simp (disch := first | assumption | omega | (simp only [nx] <;> omega) | fail) only [aLoad, ty55, rowOf, hpl, hrow] <;> rfl)) rfl <| OSuf.aop tyOK ag (so_bin (by simp only [lk] <;> rfl) (by simp only [lk] <;> rfl) (by simp (disch := first | assumption | omega | (simp only [nx] <;> omega) | fail) only [aBin, ty55, hpl, hrow] <;> rfl)) rfl <| OSuf.aop tyOK rfl (so_pick (by simp only [lk] <;> rfl) (by simp only [lk, cond_true, cond_false] <;> rfl)) rfl <| OSuf.aop tyOK rfl (so_assign (by simp only [lk] <;> rfl)) rfl <| OSuf.nil <| SQ.normal ?_
  refine CWp.ret <| FQ.ret (by simp only [aRet, Try.f26, aResults, aResult, lk, Nat.reduceEqDiff, reduceIte] <;> rfl) ?_
  -- leaf: end
  exact ⟨rfl, rfl⟩
theorem ml_ok {t kt et : TypeId} {ats : Array TypeId} {ti : TI} {T : Tr TI} {h : AHeap} {r clock : Nat} {es : List AEnt} (ha : ats.toList.head? = some t) (ht : T.get t = some ti) (hu : ti.und = .map kt et) (hr : h.get r = some (.map es clock)) : aLenOf T ats (.map (some r)) h = some (.int .i64 es.length) := len_map ha ht hu hr
theorem len_c (h : AHeap) (r : Nat) (S : DS) (hA : DA h r S) : FWp Try.prog 18 [P0 r] h fun u h' => u = I64 S.ps.length ∧ h' = h := by
  have hrow := hA.row
  have hmap := hA.map
  refine W.enter tyOK Try.func18 rfl rfl ?_
  simp only [entry]
  refine W.seq <| W.reg <| OSuf.aop tyOK rfl (so_assign (by simp only [lk] <;> rfl)) rfl <| OSuf.nil <| SQ.normal ?_
  refine W.seq <| W.seq <| W.reg <| OSuf.aop tyOK rfl sm rfl <| OSuf.callD rfl (by simp only [aopnds, lk] <;> rfl) en26 (none_c _ r S hA) rfl <| OSuf.nil <| SQ.normal ?_
  refine W.no (by simp only [lk] <;> rfl) <| CWp.skip <| SQ.normal ?_
  refine W.seq <| W.reg <| OSuf.aop tyOK rfl sm rfl <| OSuf.aop tyOK rfl (so_nilCheck (by simp only [lk] <;> rfl)) rfl <| OSuf.aop tyOK rfl (so_fieldAddr (by simp only [lk] <;> rfl) (fa_ok (k := 0) ty57 rfl rfl ty55 rfl rfl)) rfl <| OSuf.aop tyOK rfl (so_load (by simp only [lk] <;> rfl) (by simp (disch := first | assumption | omega | (simp only [nx] <;> omega) | fail) only [aLoad, ty55, rowOf, hpl, hrow, hmap] <;> rfl)) rfl <| OSuf.aop tyOK rfl (so_len (by simp only [aopnds, lk] <;> rfl) (by simp (disch := first | assumption | omega | (simp only [nx] <;> omega) | fail) only [aLenOf, ty55, hpl, hrow, hmap] <;> rfl)) rfl <| OSuf.aop tyOK rfl (so_assign (by simp only [lk] <;> rfl)) rfl <| OSuf.nil <| SQ.normal ?_
  refine CWp.ret <| FQ.ret (by simp only [aRet, Try.f18, aResults, aResult, lk, Nat.reduceEqDiff, reduceIte] <;> rfl) ?_
  -- leaf: end
  exact ⟨by simp [mkK], rfl⟩

/-- A pair is told. -/
def hasP (k : Int × Int) (ps : List Pr) : Bool := ps.any fun p => decide (p.key = k)
def putP (k : Int × Int) (hg : Bool) (S : DS) : DS :=
  bif hasP k S.ps then { S with ps := S.ps.map fun p => if p.key = k then { p with hangs := p.hangs || hg } else p }
  else ⟨S.ps ++ [⟨k, hg, S.clock⟩], S.clock + 1, S.m⟩
theorem set_map {k : Int × Int} {f : Pr → Pr} {p : Pr} : ∀ {ps : List Pr} {j : Nat}, (ps.map Pr.key).Nodup → ps[j]? = some p → p.key = k → (ps.map fun p => if p.key = k then f p else p) = ps.set j (f p)
  | q :: ps, 0, hn, hj, hk => by
    simp at hj; subst hj
    simp only [List.map_cons, List.nodup_cons] at hn
    rw [List.map_cons, if_pos hk, List.set_cons_zero]
    congr 1
    refine (List.map_congr_left fun x hx => ?_).trans (List.map_id _)
    rw [if_neg fun e => hn.1 (by rw [hk, ← e]; exact List.mem_map.2 ⟨x, hx, rfl⟩)]; rfl
  | q :: ps, j + 1, hn, hj, hk => by
    simp at hj
    simp only [List.map_cons, List.nodup_cons] at hn
    rw [List.map_cons, List.set_cons_succ, set_map hn.2 hj hk, if_neg fun e => hn.1 (by rw [e, ← hk]; exact List.mem_map.2 ⟨p, List.mem_of_getElem? hj, rfl⟩)]
theorem ent_map (f : Pr → Pr) (ps : List Pr) (j : Nat) (p : Pr) : (ps.set j p).map Pr.ent = (ps.map Pr.ent).set j p.ent := List.map_set
theorem ent_key (ps : List Pr) : (ps.map Pr.ent).map (·.1) = ps.map Pr.key := by simp [Pr.ent]
theorem ent_born (ps : List Pr) : (ps.map Pr.ent).map (·.2.2) = ps.map Pr.born := by simp [Pr.ent]
theorem has_idx {k : Int × Int} {ps : List Pr} (hn : (ps.map Pr.key).Nodup) (hh : hasP k ps = true) : ∃ j p, idxK k (ps.map Pr.ent) 0 = some (j, .bool p.hangs) ∧ ps[j]? = some p ∧ p.key = k := by
  obtain ⟨p, hp, hk⟩ := List.any_eq_true.1 hh
  have hk : p.key = k := by simpa using hk
  obtain ⟨j, h1, h2⟩ := idxK_mem (k := 0) (by rw [ent_key]; exact hn) (List.mem_map.2 ⟨p, hp, rfl⟩)
  rw [Nat.zero_add] at h1
  rw [List.getElem?_map] at h2
  cases hq : ps[j]? with
  | none => rw [hq] at h2; cases h2
  | some q =>
    rw [hq] at h2
    simp only [Option.map_some, Option.some.injEq, Pr.ent, Prod.mk.injEq, Value.bool.injEq] at h2
    refine ⟨j, q, ?_, hq, by rw [h2.1]; exact hk⟩
    rw [← hk, show p.key = p.ent.1 from rfl, h1, h2.2.1]; rfl
theorem has_none {k : Int × Int} {ps : List Pr} (hh : hasP k ps = false) : idxK k (ps.map Pr.ent) 0 = none := idxK_none fun x hx => by
  obtain ⟨p, hp, rfl⟩ := List.mem_map.1 hx
  have := List.any_eq_false.1 hh p hp
  intro e; simp [Pr.ent] at e; simp [e] at this

theorem put_c (h : AHeap) (r : Nat) (S : DS) (hA : DA h r S) (ts on : Int) (hg : Bool) (hlt : on < ts) :
    FWp Try.prog 24 [P0 r, .agg #[U64 ts, U64 on], .bool hg] h fun u h' => u = I64 0 ∧ DA h' r (putP (ts, on) hg S) ∧ FrD h h' S := by
  have hrow := hA.row
  have hmap := hA.map
  have hl := hA.lt
  have hml := hA.mlt
  have hrm := hA.rm
  have hrm' : ¬ S.m = r := fun e => hrm e.symm
  have hlt' : ¬ ts ≤ on := by omega
  have hA1 : ∀ o, DA (h.new o) r S := fun o => hA.mono (by simp) (AHeap.get_new_ne (by omega)) (AHeap.get_new_ne (by omega))
  refine W.enter tyOK Try.func24 rfl rfl ?_
  simp only [entry]
  cases hh : hasP (ts, on) S.ps
  · have hi := has_none hh
    have e : putP (ts, on) hg S = ⟨S.ps ++ [⟨(ts, on), hg, S.clock⟩], S.clock + 1, S.m⟩ := by rw [putP, hh]; rfl
    rw [e]
    refine W.seq <| W.reg <| OSuf.aop tyOK rfl (so_box (by simp only [lk] <;> rfl)) rfl <| OSuf.aop tyOK rfl (so_assign (by simp only [lk] <;> rfl)) rfl <| OSuf.nil <| SQ.normal ?_
    refine W.seq <| W.block <| W.seq <| W.reg <| OSuf.aop tyOK rfl sm rfl <| OSuf.callD rfl (by simp only [aopnds, lk] <;> rfl) en26 (none_c _ r S (hA1 _)) rfl <| OSuf.aopF tyOK rfl (so_assign (by simp only [lk] <;> rfl)) (fun _ => rfl) rfl <| OSuf.nil <| SQ.normal ?_
    refine W.no (by simp only [lk] <;> rfl) <| W.seq <| W.reg <| OSuf.aop tyOK rfl (so_fieldAddr (by simp only [lk] <;> rfl) (fa_ok (k := 1) ty60 rfl rfl ty29 rfl rfl)) rfl <| OSuf.aop tyOK rfl (so_load (by simp only [lk] <;> rfl) (by simp (disch := first | assumption | omega | (simp only [nx] <;> omega) | fail) only [aLoad, ty29, rowOf, hpl, hrow, hmap, Value.cells, places, ty29, ty4, ty55, ty57, ty60] <;> rfl)) rfl <| OSuf.aop tyOK rfl (so_fieldAddr (by simp only [lk] <;> rfl) (fa_ok (k := 0) ty60 rfl rfl ty29 rfl rfl)) rfl <| OSuf.aop tyOK rfl (so_load (by simp only [lk] <;> rfl) (by simp (disch := first | assumption | omega | (simp only [nx] <;> omega) | fail) only [aLoad, ty29, rowOf, hpl, hrow, hmap, Value.cells, places, ty29, ty4, ty55, ty57, ty60] <;> rfl)) rfl <| OSuf.aopF tyOK rfl (so_bin (by simp only [lk] <;> rfl) (by simp only [lk] <;> rfl) bi_geq) (fun _ => rfl) (by first | rfl | assumption | ((simp only [bl, hrow, hmap, Value.cells, places, ty29, ty4, ty55, ty57, ty60]) <;> first | done | assumption | omega) | (simp; done) | (simp; omega)) <| OSuf.aopF tyOK rfl (so_assign (by simp only [lk] <;> rfl)) (fun _ => rfl) rfl <| OSuf.nil <| SQ.normal ?_
    refine W.no (by simp only [lk] <;> rfl) <| CWp.skip <| BQ.normal <| SQ.normal ?_
    refine W.seq <| W.regD tyOK mixed (by kernel_rfl) <| SqW.aop rfl sm rfl <| SqW.aop rfl (so_nilCheck (by simp only [lk] <;> rfl)) rfl <| SqW.aop rfl (so_fieldAddr (by simp only [lk] <;> rfl) (fa_ok (k := 0) ty57 rfl rfl ty55 rfl rfl)) rfl <| SqW.aop rfl (so_load (by simp only [lk] <;> rfl) (by simp (disch := first | assumption | omega | (simp only [nx] <;> omega) | fail) only [aLoad, ty55, rowOf, hpl, hrow, hmap, Value.cells, places, ty29, ty4, ty55, ty57, ty60] <;> rfl)) rfl <| SqW.aop rfl (so_load (by simp only [lk] <;> rfl) (by simp (disch := first | assumption | omega | (simp only [nx] <;> omega) | fail) only [aLoad, ty60, rowOf, hpl, hrow, hmap, Value.cells, places, ty29, ty4, ty55, ty57, ty60] <;> rfl)) rfl <| SqW.aop rfl sm rfl <| SqW.aop rfl (so_nilCheck (by simp only [lk] <;> rfl)) rfl <| SqW.aop rfl (so_fieldAddr (by simp only [lk] <;> rfl) (fa_ok (k := 0) ty57 rfl rfl ty55 rfl rfl)) rfl <| SqW.aop rfl (so_load (by simp only [lk] <;> rfl) (by simp (disch := first | assumption | omega | (simp only [nx] <;> omega) | fail) only [aLoad, ty55, rowOf, hpl, hrow, hmap, Value.cells, places, ty29, ty4, ty55, ty57, ty60] <;> rfl)) rfl <| SqW.aop rfl (so_load (by simp only [lk] <;> rfl) (by simp (disch := first | assumption | omega | (simp only [nx] <;> omega) | fail) only [aLoad, ty60, rowOf, hpl, hrow, hmap, Value.cells, places, ty29, ty4, ty55, ty57, ty60] <;> rfl)) rfl <| SqW.aopF rfl (so_lookup (by simp only [lk] <;> rfl) (by simp only [lk] <;> rfl) (kl_none keyP (a := (ts, on)) ty55 rfl ty4 rfl rfl (by simp (disch := first | assumption | omega | (simp only [nx] <;> omega) | fail) only [aCells, rowOf, hpl, hrow, hmap, Value.cells, places, ty29, ty4, ty55, ty57, ty60] <;> rfl) hi)) (fun _ => rfl) (by first | rfl | assumption | ((simp only [bl, hrow, hmap, Value.cells, places, ty29, ty4, ty55, ty57, ty60]) <;> first | done | assumption | omega) | (simp; done) | (simp; omega)) <| SqW.aopF rfl sm (fun _ => rfl) rfl <| SqW.aop ag sm rfl <| SqW.aop rfl (so_pick (by simp only [lk] <;> rfl) (by simp only [lk, cond_true, cond_false] <;> rfl)) rfl <| SqW.aop rfl (so_mapUpdate (by simp only [lk] <;> rfl) (by simp only [lk] <;> rfl) (by simp only [lk] <;> rfl) (ku_new keyP (a := (ts, on)) ty55 rfl (by simp (disch := first | assumption | omega | (simp only [nx] <;> omega) | fail) only [aCells, rowOf, hpl, hrow, hmap, Value.cells, places, ty29, ty4, ty55, ty57, ty60] <;> rfl) hi)) rfl <| SqW.nil <| SQ.normal ?_
    refine W.seq <| W.reg <| OSuf.aop tyOK rfl (so_assign (by simp only [lk] <;> rfl)) rfl <| OSuf.nil <| SQ.normal ?_
    refine CWp.ret <| FQ.ret (by simp only [aRet, Try.f24, aResults, aResult, lk, Nat.reduceEqDiff, reduceIte] <;> rfl) ?_
    -- leaf: end
    refine ⟨rfl, ⟨?_, ?_, hrm, ?_, ?_, ?_, ?_, ?_⟩, ?_, ?_⟩
    · simp only [nx]; omega
    · simp only [nx]; omega
    · simp (disch := first | assumption | omega | (simp only [nx] <;> omega) | fail) only [hpl]; exact hrow
    · simp (disch := first | assumption | omega | (simp only [nx] <;> omega) | fail) only [hpl]; simp [Pr.ent]
    · intro p hp
      rcases List.mem_append.1 hp with h9 | h9
      · have := hA.born p h9; simp only; omega
      · simp at h9; subst h9; simp
    · rw [List.map_append]
      refine List.nodup_append.2 ⟨hA.borns, by simp, fun a ha b hb => ?_⟩
      obtain ⟨p, hp, rfl⟩ := List.mem_map.1 ha
      have := hA.born p hp
      simp at hb; subst hb; omega
    · rw [List.map_append]
      refine List.nodup_append.2 ⟨hA.keys, by simp, fun a ha b hb => ?_⟩
      obtain ⟨p, hp, rfl⟩ := List.mem_map.1 ha
      have := List.any_eq_false.1 hh p hp
      simp at hb; subst hb; simpa using this
    · simp only [nx]; omega
    · intro z hz h1
      simp (disch := first | assumption | omega | (simp only [nx] <;> omega) | fail) only [hpl]
  · obtain ⟨j, p, hi, hj, hk⟩ := has_idx hA.keys hh
    have hj2 : (S.ps.map Pr.ent)[j]? = some ((ts, on), .bool p.hangs, p.born) := by simp [hj, Pr.ent, hk]
    have e0 : (S.ps.map fun p => if p.key = (ts, on) then { p with hangs := p.hangs || hg } else p) = S.ps.set j { p with hangs := p.hangs || hg } := set_map (f := fun p => { p with hangs := p.hangs || hg }) hA.keys hj hk
    have e : putP (ts, on) hg S = { S with ps := S.ps.set j { p with hangs := p.hangs || hg } } := by rw [putP, hh, cond_true, e0]
    have mem : ∀ q ∈ S.ps.set j { p with hangs := p.hangs || hg }, ∃ q' ∈ S.ps, q'.key = q.key ∧ q'.born = q.born := fun q hq => by
      rcases List.mem_or_eq_of_mem_set hq with h9 | h9
      · exact ⟨q, h9, rfl, rfl⟩
      · exact ⟨p, List.mem_of_getElem? hj, by rw [h9], by rw [h9]⟩
    have jl := (List.getElem?_eq_some_iff.1 hj)
    have kk : (S.ps.set j { p with hangs := p.hangs || hg }).map Pr.key = S.ps.map Pr.key := by
      rw [List.map_set]; exact List.ext_getElem? fun i => by
        rw [List.getElem?_set]; split
        · rename_i e; subst e; split
          · simp [hj]
          · rename_i h9; have := jl.1; simp at h9; omega
        · rfl
    have bb : (S.ps.set j { p with hangs := p.hangs || hg }).map Pr.born = S.ps.map Pr.born := by
      rw [List.map_set]; exact List.ext_getElem? fun i => by
        rw [List.getElem?_set]; split
        · rename_i e; subst e; split
          · simp [hj]
          · rename_i h9; have := jl.1; simp at h9; omega
        · rfl
    rw [e]
    have fin : ∀ h', h'.next = h.next + 1 → (∀ z, z < h.next → ¬ S.m = z → h'.get z = h.get z) → h'.get S.m = some (.map (mkK encP ((S.ps.map Pr.ent).set j ((ts, on), .bool (p.hangs || hg), p.born))) S.clock) → (I64 0 = I64 0 ∧ DA h' r { S with ps := S.ps.set j { p with hangs := p.hangs || hg } } ∧ FrD h h' S) := fun h' h1 h2 h3 => by
      refine ⟨rfl, ⟨by omega, by simp only; omega, hrm, by rw [h2 r hl hrm']; exact hrow, ?_, fun q hq => ?_, by simp only [bb]; exact hA.borns, by simp only [kk]; exact hA.keys⟩, by omega, h2⟩
      · simp only [ent_map (fun p => p)]
        rw [h3]; simp [Pr.ent, hk]
      · obtain ⟨q', g1, g2, g3⟩ := mem q hq
        have := hA.born q' g1; simp only; omega
    cases hph : p.hangs
    · rw [hph] at hi hj2
      refine W.seq <| W.reg <| OSuf.aop tyOK rfl (so_box (by simp only [lk] <;> rfl)) rfl <| OSuf.aop tyOK rfl (so_assign (by simp only [lk] <;> rfl)) rfl <| OSuf.nil <| SQ.normal ?_
      refine W.seq <| W.block <| W.seq <| W.reg <| OSuf.aop tyOK rfl sm rfl <| OSuf.callD rfl (by simp only [aopnds, lk] <;> rfl) en26 (none_c _ r S (hA1 _)) rfl <| OSuf.aopF tyOK rfl (so_assign (by simp only [lk] <;> rfl)) (fun _ => rfl) rfl <| OSuf.nil <| SQ.normal ?_
      refine W.no (by simp only [lk] <;> rfl) <| W.seq <| W.reg <| OSuf.aop tyOK rfl (so_fieldAddr (by simp only [lk] <;> rfl) (fa_ok (k := 1) ty60 rfl rfl ty29 rfl rfl)) rfl <| OSuf.aop tyOK rfl (so_load (by simp only [lk] <;> rfl) (by simp (disch := first | assumption | omega | (simp only [nx] <;> omega) | fail) only [aLoad, ty29, rowOf, hpl, hrow, hmap, Value.cells, places, ty29, ty4, ty55, ty57, ty60] <;> rfl)) rfl <| OSuf.aop tyOK rfl (so_fieldAddr (by simp only [lk] <;> rfl) (fa_ok (k := 0) ty60 rfl rfl ty29 rfl rfl)) rfl <| OSuf.aop tyOK rfl (so_load (by simp only [lk] <;> rfl) (by simp (disch := first | assumption | omega | (simp only [nx] <;> omega) | fail) only [aLoad, ty29, rowOf, hpl, hrow, hmap, Value.cells, places, ty29, ty4, ty55, ty57, ty60] <;> rfl)) rfl <| OSuf.aopF tyOK rfl (so_bin (by simp only [lk] <;> rfl) (by simp only [lk] <;> rfl) bi_geq) (fun _ => rfl) (by first | rfl | assumption | ((simp only [bl, hrow, hmap, Value.cells, places, ty29, ty4, ty55, ty57, ty60]) <;> first | done | assumption | omega) | (simp; done) | (simp; omega)) <| OSuf.aopF tyOK rfl (so_assign (by simp only [lk] <;> rfl)) (fun _ => rfl) rfl <| OSuf.nil <| SQ.normal ?_
      refine W.no (by simp only [lk] <;> rfl) <| CWp.skip <| BQ.normal <| SQ.normal ?_
      refine W.seq <| W.regD tyOK mixed (by kernel_rfl) <| SqW.aop rfl sm rfl <| SqW.aop rfl (so_nilCheck (by simp only [lk] <;> rfl)) rfl <| SqW.aop rfl (so_fieldAddr (by simp only [lk] <;> rfl) (fa_ok (k := 0) ty57 rfl rfl ty55 rfl rfl)) rfl <| SqW.aop rfl (so_load (by simp only [lk] <;> rfl) (by simp (disch := first | assumption | omega | (simp only [nx] <;> omega) | fail) only [aLoad, ty55, rowOf, hpl, hrow, hmap, Value.cells, places, ty29, ty4, ty55, ty57, ty60] <;> rfl)) rfl <| SqW.aop rfl (so_load (by simp only [lk] <;> rfl) (by simp (disch := first | assumption | omega | (simp only [nx] <;> omega) | fail) only [aLoad, ty60, rowOf, hpl, hrow, hmap, Value.cells, places, ty29, ty4, ty55, ty57, ty60] <;> rfl)) rfl <| SqW.aop rfl sm rfl <| SqW.aop rfl (so_nilCheck (by simp only [lk] <;> rfl)) rfl <| SqW.aop rfl (so_fieldAddr (by simp only [lk] <;> rfl) (fa_ok (k := 0) ty57 rfl rfl ty55 rfl rfl)) rfl <| SqW.aop rfl (so_load (by simp only [lk] <;> rfl) (by simp (disch := first | assumption | omega | (simp only [nx] <;> omega) | fail) only [aLoad, ty55, rowOf, hpl, hrow, hmap, Value.cells, places, ty29, ty4, ty55, ty57, ty60] <;> rfl)) rfl <| SqW.aop rfl (so_load (by simp only [lk] <;> rfl) (by simp (disch := first | assumption | omega | (simp only [nx] <;> omega) | fail) only [aLoad, ty60, rowOf, hpl, hrow, hmap, Value.cells, places, ty29, ty4, ty55, ty57, ty60] <;> rfl)) rfl <| SqW.aopF rfl (so_lookup (by simp only [lk] <;> rfl) (by simp only [lk] <;> rfl) (kl_some keyP (a := (ts, on)) ty55 rfl (by simp (disch := first | assumption | omega | (simp only [nx] <;> omega) | fail) only [aCells, rowOf, hpl, hrow, hmap, Value.cells, places, ty29, ty4, ty55, ty57, ty60] <;> rfl) hi)) (fun _ => rfl) (by first | rfl | assumption | ((simp only [bl, hrow, hmap, Value.cells, places, ty29, ty4, ty55, ty57, ty60]) <;> first | done | assumption | omega) | (simp; done) | (simp; omega)) <| SqW.aopF rfl sm (fun _ => rfl) rfl <| SqW.aop ag sm rfl <| SqW.aop rfl (so_pick (by simp only [lk] <;> rfl) (by simp only [lk, cond_true, cond_false] <;> rfl)) rfl <| SqW.aop rfl (so_mapUpdate (by simp only [lk] <;> rfl) (by simp only [lk] <;> rfl) (by simp only [lk] <;> rfl) (ku_old keyP (a := (ts, on)) ty55 rfl (by simp (disch := first | assumption | omega | (simp only [nx] <;> omega) | fail) only [aCells, rowOf, hpl, hrow, hmap, Value.cells, places, ty29, ty4, ty55, ty57, ty60] <;> rfl) hi hj2)) rfl <| SqW.nil <| SQ.normal ?_
      refine W.seq <| W.reg <| OSuf.aop tyOK rfl (so_assign (by simp only [lk] <;> rfl)) rfl <| OSuf.nil <| SQ.normal ?_
      refine CWp.ret <| FQ.ret (by simp only [aRet, Try.f24, aResults, aResult, lk, Nat.reduceEqDiff, reduceIte] <;> rfl) ?_
      -- leaf: end
      rw [← hph]
      refine fin _ ?_ ?_ ?_
      · simp only [nx]
      · intro z hz h1; simp (disch := first | assumption | omega | (simp only [nx] <;> omega) | fail) only [hpl]
      · simp (disch := first | assumption | omega | (simp only [nx] <;> omega) | fail) only [hpl]; simp [hph]
    · rw [hph] at hi hj2
      refine W.seq <| W.reg <| OSuf.aop tyOK rfl (so_box (by simp only [lk] <;> rfl)) rfl <| OSuf.aop tyOK rfl (so_assign (by simp only [lk] <;> rfl)) rfl <| OSuf.nil <| SQ.normal ?_
      refine W.seq <| W.block <| W.seq <| W.reg <| OSuf.aop tyOK rfl sm rfl <| OSuf.callD rfl (by simp only [aopnds, lk] <;> rfl) en26 (none_c _ r S (hA1 _)) rfl <| OSuf.aopF tyOK rfl (so_assign (by simp only [lk] <;> rfl)) (fun _ => rfl) rfl <| OSuf.nil <| SQ.normal ?_
      refine W.no (by simp only [lk] <;> rfl) <| W.seq <| W.reg <| OSuf.aop tyOK rfl (so_fieldAddr (by simp only [lk] <;> rfl) (fa_ok (k := 1) ty60 rfl rfl ty29 rfl rfl)) rfl <| OSuf.aop tyOK rfl (so_load (by simp only [lk] <;> rfl) (by simp (disch := first | assumption | omega | (simp only [nx] <;> omega) | fail) only [aLoad, ty29, rowOf, hpl, hrow, hmap, Value.cells, places, ty29, ty4, ty55, ty57, ty60] <;> rfl)) rfl <| OSuf.aop tyOK rfl (so_fieldAddr (by simp only [lk] <;> rfl) (fa_ok (k := 0) ty60 rfl rfl ty29 rfl rfl)) rfl <| OSuf.aop tyOK rfl (so_load (by simp only [lk] <;> rfl) (by simp (disch := first | assumption | omega | (simp only [nx] <;> omega) | fail) only [aLoad, ty29, rowOf, hpl, hrow, hmap, Value.cells, places, ty29, ty4, ty55, ty57, ty60] <;> rfl)) rfl <| OSuf.aopF tyOK rfl (so_bin (by simp only [lk] <;> rfl) (by simp only [lk] <;> rfl) bi_geq) (fun _ => rfl) (by first | rfl | assumption | ((simp only [bl, hrow, hmap, Value.cells, places, ty29, ty4, ty55, ty57, ty60]) <;> first | done | assumption | omega) | (simp; done) | (simp; omega)) <| OSuf.aopF tyOK rfl (so_assign (by simp only [lk] <;> rfl)) (fun _ => rfl) rfl <| OSuf.nil <| SQ.normal ?_
      refine W.no (by simp only [lk] <;> rfl) <| CWp.skip <| BQ.normal <| SQ.normal ?_
      refine W.seq <| W.regD tyOK mixed (by kernel_rfl) <| SqW.aop rfl sm rfl <| SqW.aop rfl (so_nilCheck (by simp only [lk] <;> rfl)) rfl <| SqW.aop rfl (so_fieldAddr (by simp only [lk] <;> rfl) (fa_ok (k := 0) ty57 rfl rfl ty55 rfl rfl)) rfl <| SqW.aop rfl (so_load (by simp only [lk] <;> rfl) (by simp (disch := first | assumption | omega | (simp only [nx] <;> omega) | fail) only [aLoad, ty55, rowOf, hpl, hrow, hmap, Value.cells, places, ty29, ty4, ty55, ty57, ty60] <;> rfl)) rfl <| SqW.aop rfl (so_load (by simp only [lk] <;> rfl) (by simp (disch := first | assumption | omega | (simp only [nx] <;> omega) | fail) only [aLoad, ty60, rowOf, hpl, hrow, hmap, Value.cells, places, ty29, ty4, ty55, ty57, ty60] <;> rfl)) rfl <| SqW.aop rfl sm rfl <| SqW.aop rfl (so_nilCheck (by simp only [lk] <;> rfl)) rfl <| SqW.aop rfl (so_fieldAddr (by simp only [lk] <;> rfl) (fa_ok (k := 0) ty57 rfl rfl ty55 rfl rfl)) rfl <| SqW.aop rfl (so_load (by simp only [lk] <;> rfl) (by simp (disch := first | assumption | omega | (simp only [nx] <;> omega) | fail) only [aLoad, ty55, rowOf, hpl, hrow, hmap, Value.cells, places, ty29, ty4, ty55, ty57, ty60] <;> rfl)) rfl <| SqW.aop rfl (so_load (by simp only [lk] <;> rfl) (by simp (disch := first | assumption | omega | (simp only [nx] <;> omega) | fail) only [aLoad, ty60, rowOf, hpl, hrow, hmap, Value.cells, places, ty29, ty4, ty55, ty57, ty60] <;> rfl)) rfl <| SqW.aopT rfl (so_lookup (by simp only [lk] <;> rfl) (by simp only [lk] <;> rfl) (kl_some keyP (a := (ts, on)) ty55 rfl (by simp (disch := first | assumption | omega | (simp only [nx] <;> omega) | fail) only [aCells, rowOf, hpl, hrow, hmap, Value.cells, places, ty29, ty4, ty55, ty57, ty60] <;> rfl) hi)) (fun _ => rfl) (by first | rfl | assumption | ((simp only [bl, hrow, hmap, Value.cells, places, ty29, ty4, ty55, ty57, ty60]) <;> first | done | assumption | omega) | (simp; done) | (simp; omega)) <| SqW.aopT rfl sm (fun _ => rfl) rfl <| SqW.pass ag rfl <| SqW.aopT rfl (so_pick (by simp only [lk] <;> rfl) (by simp only [lk, cond_true, cond_false] <;> rfl)) (fun _ => rfl) rfl <| SqW.aop rfl (so_mapUpdate (by simp only [lk] <;> rfl) (by simp only [lk] <;> rfl) (by simp only [lk] <;> rfl) (ku_old keyP (a := (ts, on)) ty55 rfl (by simp (disch := first | assumption | omega | (simp only [nx] <;> omega) | fail) only [aCells, rowOf, hpl, hrow, hmap, Value.cells, places, ty29, ty4, ty55, ty57, ty60] <;> rfl) hi hj2)) rfl <| SqW.nil <| SQ.normal ?_
      refine W.seq <| W.reg <| OSuf.aop tyOK rfl (so_assign (by simp only [lk] <;> rfl)) rfl <| OSuf.nil <| SQ.normal ?_
      refine CWp.ret <| FQ.ret (by simp only [aRet, Try.f24, aResults, aResult, lk, Nat.reduceEqDiff, reduceIte] <;> rfl) ?_
      -- leaf: end
      rw [← hph]
      refine fin _ ?_ ?_ ?_
      · simp only [nx]
      · intro z hz h1; simp (disch := first | assumption | omega | (simp only [nx] <;> omega) | fail) only [hpl]
      · simp (disch := first | assumption | omega | (simp only [nx] <;> omega) | fail) only [hpl]; simp [hph]
theorem put_arg (h : AHeap) (r : Nat) (S : DS) (hA : DA h r S) (ts on : Int) (hg : Bool) (hlt : ts ≤ on) :
    FWp Try.prog 24 [P0 r, .agg #[U64 ts, U64 on], .bool hg] h fun u h' => u = I64 2 ∧ h' = h := by
  have hrow := hA.row
  have hmap := hA.map
  have hl := hA.lt
  have hml := hA.mlt
  have hA1 : ∀ o, DA (h.new o) r S := fun o => hA.mono (by simp) (AHeap.get_new_ne (by omega)) (AHeap.get_new_ne (by omega))
  refine FWp.gcs ⟨fun _ => none, _, .int _ _⟩ (W.enter tyOK Try.func24 rfl rfl ?_)
  simp only [entry]
  refine W.seq <| W.reg <| OSuf.aop tyOK rfl (so_box (by simp only [lk] <;> rfl)) rfl <| OSuf.aop tyOK rfl (so_assign (by simp only [lk] <;> rfl)) rfl <| OSuf.nil <| SQ.normal ?_
  refine W.seq <| W.block <| W.seq <| W.reg <| OSuf.aop tyOK rfl sm rfl <| OSuf.callD rfl (by simp only [aopnds, lk] <;> rfl) en26 (none_c _ r S (hA1 _)) rfl <| OSuf.aopF tyOK rfl (so_assign (by simp only [lk] <;> rfl)) (fun _ => rfl) rfl <| OSuf.nil <| SQ.normal ?_
  refine W.no (by simp only [lk] <;> rfl) <| W.seq <| W.reg <| OSuf.aop tyOK rfl (so_fieldAddr (by simp only [lk] <;> rfl) (fa_ok (k := 1) ty60 rfl rfl ty29 rfl rfl)) rfl <| OSuf.aop tyOK rfl (so_load (by simp only [lk] <;> rfl) (by simp (disch := first | assumption | omega | (simp only [nx] <;> omega) | fail) only [aLoad, ty29, rowOf, hpl, hrow, hmap, Value.cells, places, ty29, ty4, ty55, ty57, ty60] <;> rfl)) rfl <| OSuf.aop tyOK rfl (so_fieldAddr (by simp only [lk] <;> rfl) (fa_ok (k := 0) ty60 rfl rfl ty29 rfl rfl)) rfl <| OSuf.aop tyOK rfl (so_load (by simp only [lk] <;> rfl) (by simp (disch := first | assumption | omega | (simp only [nx] <;> omega) | fail) only [aLoad, ty29, rowOf, hpl, hrow, hmap, Value.cells, places, ty29, ty4, ty55, ty57, ty60] <;> rfl)) rfl <| OSuf.aopT tyOK rfl (so_bin (by simp only [lk] <;> rfl) (by simp only [lk] <;> rfl) bi_geq) (fun _ => rfl) (by first | rfl | assumption | ((simp only [bl, hrow, hmap, Value.cells, places, ty29, ty4, ty55, ty57, ty60]) <;> first | done | assumption | omega) | (simp; done) | (simp; omega)) <| OSuf.aopT tyOK rfl (so_assign (by simp only [lk] <;> rfl)) (fun _ => rfl) rfl <| OSuf.nil <| SQ.normal ?_
  refine W.yes (by simp only [lk] <;> rfl) <| W.seq <| W.reg <| OSuf.aop tyOK rfl (so_assign (by simp only [lk] <;> rfl)) rfl <| OSuf.nil <| SQ.normal ?_
  refine CWp.ret <| BQ.ret <| SQ.ret <| FQ.ret (by simp only [aRet, Try.f24, aResults, aResult, lk, Nat.reduceEqDiff, reduceIte] <;> rfl) ?_
  -- leaf: end
  refine ⟨rfl, fun z o hz ho => ?_⟩
  simp (disch := first | assumption | omega | (simp only [nx] <;> omega) | fail) only [hpl]; exact ho

theorem hang_c (h : AHeap) (r : Nat) (S : DS) (hA : DA h r S) (ts on : Int) (hlt : on < ts) :
    FWp Try.prog 9 [P0 r, U64 ts, U64 on] h fun u h' => u = I64 0 ∧ DA h' r (putP (ts, on) true S) ∧ FrD h h' S := by
  refine W.enter tyOK Try.func9 rfl rfl ?_
  simp only [entry]
  refine W.seq <| W.reg <| OSuf.aop tyOK rfl (so_assign (by simp only [lk] <;> rfl)) rfl <| OSuf.nil <| SQ.normal ?_
  refine W.seq <| W.reg <| OSuf.aop tyOK rfl sm rfl <| OSuf.aop tyOK rfl sm rfl <| OSuf.aop tyOK rfl sm rfl <| OSuf.aop tyOK rfl (so_build (by simp only [aparts, lk] <;> rfl) (by simp (disch := first | assumption | omega | (simp only [nx] <;> omega) | fail) only [aBuild, ty60, hpl, places, ty60] <;> rfl)) rfl <| OSuf.call rfl (by simp only [aopnds, lk] <;> rfl) en24 (put_c _ r S hA ts on true hlt) ?_
  rintro _ h2 ⟨rfl, hA2, hF2⟩
  refine ⟨_, rfl, ?_⟩
  refine OSuf.aop tyOK rfl (so_assign (by simp only [lk] <;> rfl)) rfl <| OSuf.nil <| SQ.normal ?_
  refine CWp.ret <| FQ.ret (by simp only [aRet, Try.f9, aResults, aResult, lk, Nat.reduceEqDiff, reduceIte] <;> rfl) ?_
  -- leaf: end
  exact ⟨rfl, hA2, hF2⟩
theorem over_c (h : AHeap) (r : Nat) (S : DS) (hA : DA h r S) (ts on : Int) (hlt : on < ts) :
    FWp Try.prog 11 [P0 r, U64 ts, U64 on] h fun u h' => u = I64 0 ∧ DA h' r (putP (ts, on) false S) ∧ FrD h h' S := by
  refine W.enter tyOK Try.func11 rfl rfl ?_
  simp only [entry]
  refine W.seq <| W.reg <| OSuf.aop tyOK rfl (so_assign (by simp only [lk] <;> rfl)) rfl <| OSuf.nil <| SQ.normal ?_
  refine W.seq <| W.reg <| OSuf.aop tyOK rfl sm rfl <| OSuf.aop tyOK rfl sm rfl <| OSuf.aop tyOK rfl sm rfl <| OSuf.aop tyOK rfl (so_build (by simp only [aparts, lk] <;> rfl) (by simp (disch := first | assumption | omega | (simp only [nx] <;> omega) | fail) only [aBuild, ty60, hpl, places, ty60] <;> rfl)) rfl <| OSuf.call rfl (by simp only [aopnds, lk] <;> rfl) en24 (put_c _ r S hA ts on false hlt) ?_
  rintro _ h2 ⟨rfl, hA2, hF2⟩
  refine ⟨_, rfl, ?_⟩
  refine OSuf.aop tyOK rfl (so_assign (by simp only [lk] <;> rfl)) rfl <| OSuf.nil <| SQ.normal ?_
  refine CWp.ret <| FQ.ret (by simp only [aRet, Try.f11, aResults, aResult, lk, Nat.reduceEqDiff, reduceIte] <;> rfl) ?_
  -- leaf: end
  exact ⟨rfl, hA2, hF2⟩
theorem hang_arg (h : AHeap) (r : Nat) (S : DS) (hA : DA h r S) (ts on : Int) (hlt : ts ≤ on) :
    FWp Try.prog 9 [P0 r, U64 ts, U64 on] h fun u h' => u = I64 2 ∧ h' = h := by
  refine W.enter tyOK Try.func9 rfl rfl ?_
  simp only [entry]
  refine W.seq <| W.reg <| OSuf.aop tyOK rfl (so_assign (by simp only [lk] <;> rfl)) rfl <| OSuf.nil <| SQ.normal ?_
  refine W.seq <| W.reg <| OSuf.aop tyOK rfl sm rfl <| OSuf.aop tyOK rfl sm rfl <| OSuf.aop tyOK rfl sm rfl <| OSuf.aop tyOK rfl (so_build (by simp only [aparts, lk] <;> rfl) (by simp (disch := first | assumption | omega | (simp only [nx] <;> omega) | fail) only [aBuild, ty60, hpl, places, ty60] <;> rfl)) rfl <| OSuf.callD rfl (by simp only [aopnds, lk] <;> rfl) en24 (put_arg _ r S hA ts on true hlt) rfl <| OSuf.aop tyOK rfl (so_assign (by simp only [lk] <;> rfl)) rfl <| OSuf.nil <| SQ.normal ?_
  refine CWp.ret <| FQ.ret (by simp only [aRet, Try.f9, aResults, aResult, lk, Nat.reduceEqDiff, reduceIte] <;> rfl) ?_
  -- leaf: end
  exact ⟨rfl, rfl⟩
theorem over_arg (h : AHeap) (r : Nat) (S : DS) (hA : DA h r S) (ts on : Int) (hlt : ts ≤ on) :
    FWp Try.prog 11 [P0 r, U64 ts, U64 on] h fun u h' => u = I64 2 ∧ h' = h := by
  refine W.enter tyOK Try.func11 rfl rfl ?_
  simp only [entry]
  refine W.seq <| W.reg <| OSuf.aop tyOK rfl (so_assign (by simp only [lk] <;> rfl)) rfl <| OSuf.nil <| SQ.normal ?_
  refine W.seq <| W.reg <| OSuf.aop tyOK rfl sm rfl <| OSuf.aop tyOK rfl sm rfl <| OSuf.aop tyOK rfl sm rfl <| OSuf.aop tyOK rfl (so_build (by simp only [aparts, lk] <;> rfl) (by simp (disch := first | assumption | omega | (simp only [nx] <;> omega) | fail) only [aBuild, ty60, hpl, places, ty60] <;> rfl)) rfl <| OSuf.callD rfl (by simp only [aopnds, lk] <;> rfl) en24 (put_arg _ r S hA ts on false hlt) rfl <| OSuf.aop tyOK rfl (so_assign (by simp only [lk] <;> rfl)) rfl <| OSuf.nil <| SQ.normal ?_
  refine CWp.ret <| FQ.ret (by simp only [aRet, Try.f11, aResults, aResult, lk, Nat.reduceEqDiff, reduceIte] <;> rfl) ?_
  -- leaf: end
  exact ⟨rfl, rfl⟩

theorem inj_nodup {α β : Type} (f : α → β) : ∀ {l : List α}, (l.map f).Nodup → ∀ {a b : α}, a ∈ l → b ∈ l → f a = f b → a = b
  | x :: l, hn, a, b, ha, hb, e => by
    simp only [List.map_cons, List.nodup_cons] at hn
    cases ha with
    | head => cases hb with
      | head => rfl
      | tail _ hb => exact (hn.1 (e ▸ List.mem_map.2 ⟨b, hb, rfl⟩)).elim
    | tail _ ha => cases hb with
      | head => exact (hn.1 (e ▸ List.mem_map.2 ⟨a, ha, rfl⟩)).elim
      | tail _ hb => exact inj_nodup f hn.2 ha hb e
/-- What is kept while some are looked at. -/
def keepD (D : Pr → Bool) (seen : Array Nat) (p : Pr) : Bool := !(D p && decide (p.born ∈ seen.toList))
theorem keepD_del {D : Pr → Bool} {seen : Array Nat} {ps : List Pr} {p : Pr} (hk : (ps.map Pr.key).Nodup) (hb : (ps.map Pr.born).Nodup) (hp : p ∈ ps) (hD : D p = true) :
    (ps.filter (keepD D seen)).filter (fun q => !decide (q.key = p.key)) = ps.filter (keepD D (seen.push p.born)) := by
  rw [List.filter_filter]
  refine List.filter_congr fun q hq => ?_
  by_cases e : q = p
  · subst e; simp [keepD, hD]
  · have h1 : ¬ q.key = p.key := fun h => e (inj_nodup _ hk hq hp h)
    have h2 : ¬ q.born = p.born := fun h => e (inj_nodup _ hb hq hp h)
    simp [keepD, h1, h2]
theorem keepD_keep {D : Pr → Bool} {seen : Array Nat} {ps : List Pr} {p : Pr} (hb : (ps.map Pr.born).Nodup) (hp : p ∈ ps) (hD : D p = false) :
    ps.filter (keepD D seen) = ps.filter (keepD D (seen.push p.born)) := by
  refine List.filter_congr fun q hq => ?_
  by_cases e : q = p
  · subst e; simp [keepD, hD]
  · have h2 : ¬ q.born = p.born := fun h => e (inj_nodup _ hb hq hp h)
    simp [keepD, h2]
theorem keepD_done {D : Pr → Bool} {seen : Array Nat} {ps : List Pr} (h : ∀ q ∈ ps.filter (keepD D seen), q.born ∈ seen.toList) : ps.filter (keepD D seen) = ps.filter (fun p => !D p) := by
  refine List.filter_congr fun q hq => ?_
  by_cases hs : q.born ∈ seen.toList
  · simp [keepD, hs]
  · have : keepD D seen q = true := by simp [keepD, hs]
    exact (hs (h q (List.mem_filter.2 ⟨hq, this⟩))).elim
theorem it_leftP {ps : List Pr} {seen : Array Nat} {e : AEnt} (he : e ∈ left (mkK encP (ps.map Pr.ent)) seen) : ∃ p ∈ ps, p.born ∉ seen.toList ∧ e = ⟨.agg #[U64 p.key.1, U64 p.key.2], .bool p.hangs, p.born⟩ := by
  obtain ⟨x, hx, h1, rfl⟩ := it_left he
  obtain ⟨p, hp, rfl⟩ := List.mem_map.1 hx
  exact ⟨p, hp, h1, rfl⟩
theorem it_doneP {ps : List Pr} {seen : Array Nat} {clock : Nat} (he : (left (mkK encP (ps.map Pr.ent)) seen).filter (fun e => decide (e.born < clock)) = []) (hb : ∀ p ∈ ps, p.born < clock) : ∀ p ∈ ps, p.born ∈ seen.toList :=
  fun p hp => it_done he (List.mem_map.2 ⟨p, hp, rfl⟩) (hb p hp)
theorem it_findP {ps : List Pr} (hb : (ps.map Pr.born).Nodup) {p : Pr} (hp : p ∈ ps) : (mkK encP (ps.map Pr.ent)).find? (fun e => e.born == p.born) = some ⟨.agg #[U64 p.key.1, U64 p.key.2], .bool p.hangs, p.born⟩ :=
  it_find (enc := encP) (by rw [ent_born]; exact hb) (List.mem_map.2 ⟨p, hp, rfl⟩)
theorem it_condP {ps : List Pr} {clock : Nat} {seen : Array Nat} (hb : ∀ p ∈ ps, p.born < clock) : (!seen.isEmpty && !(mkK encP (ps.map Pr.ent)).isEmpty && (mkK encP (ps.map Pr.ent)).all (fun e => decide (e.born ≥ clock))) = false :=
  it_cond fun x hx => by obtain ⟨p, hp, rfl⟩ := List.mem_map.1 hx; exact hb p hp
theorem erase_ent {ps : List Pr} {j : Nat} {p : Pr} (hk : (ps.map Pr.key).Nodup) (hj : (ps.map Pr.ent)[j]? = some p.ent) : (ps.map Pr.ent).eraseIdx j = (ps.filter fun q => !decide (q.key = p.key)).map Pr.ent := by
  rw [erase_filter (by rw [ent_key]; exact hk) hj, List.filter_map]; rfl

/-- A map that is gone through. -/
structure It (h0 h : AHeap) (r I : Nat) (S : DS) (D : Pr → Bool) (seen : Array Nat) (n : Nat) : Prop where
  n : n + seen.size = S.ps.length
  nd : seen.toList.Nodup
  sub : ∀ b ∈ seen.toList, b ∈ S.ps.map Pr.born
  da : DA h r ⟨S.ps.filter (keepD D seen), S.clock, S.m⟩
  lt : I < h.next
  ge : h0.next ≤ I
  it : h.get I = some (.mapIter (some S.m) S.clock seen S.clock)
  nx : h0.next ≤ h.next
  fr : ∀ z, z < h0.next → ¬ S.m = z → h.get z = h0.get z
theorem It.lt_of {h0 h : AHeap} {r I : Nat} {S : DS} {D : Pr → Bool} {seen : Array Nat} {n : Nat} (i : It h0 h r I S D seen n) {p : Pr} (hp : p ∈ S.ps) (hs : p.born ∉ seen.toList) : 0 < n := by
  have := seen_lt i.nd i.sub (List.mem_map.2 ⟨p, hp, rfl⟩) hs
  have h1 := i.n
  simp at this; omega
theorem It.keep {h0 h h' : AHeap} {r I : Nat} {S : DS} {D : Pr → Bool} {seen : Array Nat} {n : Nat} (i : It h0 h r I S D seen n) {p : Pr} (hp : p ∈ S.ps) (hs : p.born ∉ seen.toList) (hb : (S.ps.map Pr.born).Nodup) (hD : D p = false)
    (hn : h.next ≤ h'.next) (hI : h'.get I = some (.mapIter (some S.m) S.clock (seen.push p.born) S.clock)) (hk : ∀ z, z < h.next → ¬ z = I → h'.get z = h.get z) (hrI : r < h0.next) (hmI : S.m < h0.next) : It h0 h' r I S D (seen.push p.born) (n - 1) := by
  have h0n := i.lt_of hp hs
  have hn1 := i.n
  have hge := i.ge
  have hlt := i.lt
  refine ⟨by simp; omega, seen_push i.nd hs, fun b hb => ?_, ?_, by omega, hge, hI, by have := i.nx; omega, fun z hz hm => ?_⟩
  · rcases mem_push.1 hb with h9 | h9
    · exact i.sub b h9
    · exact h9 ▸ List.mem_map.2 ⟨p, hp, rfl⟩
  · rw [← keepD_keep hb hp hD]
    exact i.da.mono hn (hk r (by have := i.nx; omega) (by omega)) (hk S.m (by have := i.nx; omega) (by omega))
  · rw [hk z (by have := i.nx; omega) (by omega)]; exact i.fr z hz hm
theorem It.del {h0 h h' : AHeap} {r I : Nat} {S : DS} {D : Pr → Bool} {seen : Array Nat} {n : Nat} (i : It h0 h r I S D seen n) {p : Pr} (hp : p ∈ S.ps) (hs : p.born ∉ seen.toList) (hb : (S.ps.map Pr.born).Nodup) (hky : (S.ps.map Pr.key).Nodup) (hD : D p = true)
    (hn : h.next ≤ h'.next) (hI : h'.get I = some (.mapIter (some S.m) S.clock (seen.push p.born) S.clock)) (hm : h'.get S.m = some (.map (mkK encP (((S.ps.filter (keepD D seen)).filter fun q => !decide (q.key = p.key)).map Pr.ent)) S.clock)) (hk : ∀ z, z < h.next → ¬ z = I → ¬ z = S.m → h'.get z = h.get z) (hrI : r < h0.next) (hmI : S.m < h0.next) : It h0 h' r I S D (seen.push p.born) (n - 1) := by
  have h0n := i.lt_of hp hs
  have hn1 := i.n
  have hge := i.ge
  have hlt := i.lt
  have hda := i.da
  have hrm := hda.rm
  refine ⟨by simp; omega, seen_push i.nd hs, fun b hb => ?_, ?_, by omega, hge, hI, by have := i.nx; omega, fun z hz hm => ?_⟩
  · rcases mem_push.1 hb with h9 | h9
    · exact i.sub b h9
    · exact h9 ▸ List.mem_map.2 ⟨p, hp, rfl⟩
  · rw [keepD_del hky hb hp hD] at hm
    have sl : (S.ps.filter (keepD D (seen.push p.born))).Sublist S.ps := List.filter_sublist
    have sl2 : (S.ps.filter (keepD D (seen.push p.born))).Sublist (S.ps.filter (keepD D seen)) := by rw [← keepD_del hky hb hp hD]; exact List.filter_sublist
    exact ⟨Nat.lt_of_lt_of_le hda.lt hn, Nat.lt_of_lt_of_le hda.mlt hn, hrm, by rw [hk r (by have := i.nx; omega) (by omega) hrm]; exact hda.row, hm, fun q hq => hda.born q (sl2.subset hq), hb.sublist (sl.map _), hky.sublist (sl.map _)⟩
  · rw [hk z (by have := i.nx; omega) (by omega) (fun e => hm e.symm)]; exact i.fr z hz hm

theorem logged_c (h : AHeap) (r : Nat) (S : DS) (hA : DA h r S) (ts : Int) :
    FWp Try.prog 13 [P0 r, U64 ts] h fun u h' => u = .tuple #[] ∧ DA h' r ⟨S.ps.filter (fun p => !decide (p.key.2 = ts)), S.clock, S.m⟩ ∧ FrD h h' S := by
  have hrow := hA.row
  have hmap := hA.map
  have hl := hA.lt
  have hml := hA.mlt
  have hrm := hA.rm
  have e0 : S.ps.filter (keepD (fun p => decide (p.key.2 = ts)) #[]) = S.ps := List.filter_eq_self.2 fun p _ => by simp [keepD]
  refine W.enter tyOK Try.func13 rfl rfl ?_
  simp only [entry]
  refine W.seq <| W.seq <| W.reg <| OSuf.aop tyOK rfl sm rfl <| OSuf.callD rfl (by simp only [aopnds, lk] <;> rfl) en26 (none_c _ r S hA) rfl <| OSuf.nil <| SQ.normal ?_
  refine W.no (by simp only [lk] <;> rfl) <| CWp.skip <| SQ.normal ?_
  refine W.seq <| W.reg <| OSuf.aop tyOK rfl sm rfl <| OSuf.aop tyOK rfl (so_nilCheck (by simp only [lk] <;> rfl)) rfl <| OSuf.aop tyOK rfl (so_fieldAddr (by simp only [lk] <;> rfl) (fa_ok (k := 0) ty57 rfl rfl ty55 rfl rfl)) rfl <| OSuf.aop tyOK rfl (so_load (by simp only [lk] <;> rfl) (by simp (disch := first | assumption | omega | (simp only [nx] <;> omega) | fail) only [aLoad, ty55, rowOf, hpl, hrow, hmap] <;> rfl)) rfl <| OSuf.aop tyOK rfl (so_range (by simp only [lk] <;> rfl) (by simp (disch := first | assumption | omega | (simp only [nx] <;> omega) | fail) only [aRange, ty55, hpl, hrow, hmap] <;> rfl)) rfl <| OSuf.nil <| SQ.normal ?_
  -- leaf: loop
  refine W.cut (fun L h' => DA h' r ⟨S.ps.filter (fun p => !decide (p.key.2 = ts)), S.clock, S.m⟩ ∧ FrD h h' S) (W.block (W.loop (fun n L h' => ∃ seen, It h h' r h.next S (fun p => decide (p.key.2 = ts)) seen n ∧ L = [(0, P0 r), (1, U64 ts), (11, P0 h.next)]) (n := S.ps.length)
    ⟨#[], ⟨by simp, by simp, by simp, ?_, by simp, by omega, AHeap.get_new_same _ _, by simp, fun z hz _ => AHeap.get_new_ne (by omega)⟩, rfl⟩ ?_ ?_)) ?_
  · rw [e0]; exact hA.mono (by simp) (AHeap.get_new_ne (by omega)) (AHeap.get_new_ne (by omega))
  · simp [HasA, Tr.get_put]
  · rintro n L h2 ⟨seen, hI, rfl⟩
    simp only [mkA]
    have hda := hI.da
    have hrow2 := hda.row
    have hmap2 : h2.get S.m = some (.map (mkK encP ((S.ps.filter (keepD (fun p => decide (p.key.2 = ts)) seen)).map Pr.ent)) S.clock) := hda.map
    have hlt2 := hda.lt
    have hmlt2 := hda.mlt
    have hIlt := hI.lt
    have g1 : ¬ h.next = r := by omega
    have g2 : ¬ h.next = S.m := by omega
    have g3 : ¬ S.m = h.next := by omega
    have g4 : ¬ r = h.next := by omega
    have g5 : ¬ S.m = r := fun e => hrm e.symm
    refine W.seq <| W.reg <| OSuf.next rfl (by simp only [lk] <;> rfl) hI.it hmap2 (it_condP hda.born) (fun he => ⟨_, rfl, ?_⟩) (fun e he => ⟨_, rfl, ?_⟩)
    · skip
      refine OSuf.aopF tyOK rfl (so_extract (by simp only [lk] <;> rfl) (by simp (disch := first | assumption | omega | (simp only [nx] <;> omega) | fail) only [aExtract, hpl, hrow2, hmap2, Value.cells, places, ty29, ty4, ty55, ty57, ty60] <;> rfl)) (fun _ => rfl) (by first | rfl | assumption | ((simp only [bl, hrow2, hmap2, Value.cells, places, ty29, ty4, ty55, ty57, ty60]) <;> first | done | assumption | omega) | (simp; done) | (simp; omega)) <| OSuf.nil <| SQ.normal ?_
      refine W.seq <| W.no (by simp only [lk] <;> rfl) <| CWp.exit <| SQ.exit <| LQ.exit <| BQ.exit <| ?_
      refine NQ.normal (L := []) trivial ⟨?_, hI.nx, hI.fr⟩
      rw [← keepD_done (it_doneP he hda.born)]; exact hda
    · skip
      obtain ⟨p, hp, hns, rfl⟩ := it_leftP he
      have hpS : p ∈ S.ps := (List.mem_filter.1 hp).1
      have hfind := it_findP hda.borns hp
      obtain ⟨j, hi, hj⟩ := idxK_mem (k := 0) (by rw [ent_key]; exact hda.keys) (List.mem_map.2 ⟨p, hp, rfl⟩)
      rw [Nat.zero_add] at hi
      refine OSuf.aopT tyOK rfl (so_extract (by simp only [lk] <;> rfl) (by simp (disch := first | assumption | omega | (simp only [nx] <;> omega) | fail) only [aExtract, hpl, hrow2, hmap2, Value.cells, places, ty29, ty4, ty55, ty57, ty60] <;> rfl)) (fun _ => rfl) (by first | rfl | assumption | ((simp only [bl, hrow2, hmap2, Value.cells, places, ty29, ty4, ty55, ty57, ty60]) <;> first | done | assumption | omega) | (simp; done) | (simp; omega)) <| OSuf.nil <| SQ.normal ?_
      refine W.seq <| W.yes (by simp only [lk] <;> rfl) <| CWp.skip <| SQ.normal ?_
      refine W.block <| W.seq <| W.reg <| OSuf.aop tyOK rfl (so_entry (by simp only [lk] <;> rfl) (en_ok (AHeap.get_set_same _ _ _) (by simp (disch := first | assumption | omega | (simp only [nx] <;> omega) | fail) only [aCells, rowOf, hpl, hrow2, hmap2, Value.cells, places, ty29, ty4, ty55, ty57, ty60] <;> first | rfl | exact hmap2) hfind)) rfl <| OSuf.aop tyOK rfl (so_extract (by simp only [lk] <;> rfl) (by simp (disch := first | assumption | omega | (simp only [nx] <;> omega) | fail) only [aExtract, hpl, hrow2, hmap2, Value.cells, places, ty29, ty4, ty55, ty57, ty60] <;> rfl)) rfl <| OSuf.aop tyOK rfl (so_alloc (by simp only [aAlloc, ty60] <;> rfl)) rfl <| OSuf.aop tyOK rfl (so_store (by simp only [lk] <;> rfl) (by simp only [lk] <;> rfl) (by simp (disch := first | assumption | omega | (simp only [nx] <;> omega) | fail) only [aStore, ty60, writeRow, hpl, hrow2, hmap2, Value.cells, places, ty29, ty4, ty55, ty57, ty60] <;> rfl)) rfl <| OSuf.nil <| SQ.normal ?_
      refine W.seq <| W.reg <| OSuf.aop tyOK rfl (so_fieldAddr (by simp only [lk] <;> rfl) (fa_ok (k := 1) ty60 rfl rfl ty29 rfl rfl)) rfl <| OSuf.aop tyOK rfl (so_load (by simp only [lk] <;> rfl) (by simp (disch := first | assumption | omega | (simp only [nx] <;> omega) | fail) only [aLoad, ty29, rowOf, hpl, hrow2, hmap2, Value.cells, places, ty29, ty4, ty55, ty57, ty60] <;> rfl)) rfl <| OSuf.aop tyOK rfl sm rfl <| OSuf.aopB tyOK rfl (so_bin (by simp only [lk] <;> rfl) (by simp only [lk] <;> rfl) bi_eql) (fun _ => rfl) (fun hon => ?_) (fun hon => ?_)
      · try simp only [bl] at hon
        refine OSuf.nil <| SQ.normal ?_
        refine W.yes (by simp only [lk] <;> rfl) <| W.regD tyOK mixed (by kernel_rfl) <| SqW.aop rfl sm rfl <| SqW.aop rfl (so_nilCheck (by simp only [lk] <;> rfl)) rfl <| SqW.aop rfl (so_fieldAddr (by simp only [lk] <;> rfl) (fa_ok (k := 0) ty57 rfl rfl ty55 rfl rfl)) rfl <| SqW.aop rfl (so_load (by simp only [lk] <;> rfl) (by simp (disch := first | assumption | omega | (simp only [nx] <;> omega) | fail) only [aLoad, ty55, rowOf, hpl, hrow2, hmap2, Value.cells, places, ty29, ty4, ty55, ty57, ty60] <;> rfl)) rfl <| SqW.aop rfl (so_load (by simp only [lk] <;> rfl) (by simp (disch := first | assumption | omega | (simp only [nx] <;> omega) | fail) only [aLoad, ty60, rowOf, hpl, hrow2, hmap2, Value.cells, places, ty29, ty4, ty55, ty57, ty60] <;> rfl)) rfl <| SqW.aop rfl (so_delete (by simp only [aopnds, lk] <;> rfl) (kd_some keyP (a := p.key) rfl ty55 rfl (by simp (disch := first | assumption | omega | (simp only [nx] <;> omega) | fail) only [aCells, rowOf, hpl, hrow2, hmap2, Value.cells, places, ty29, ty4, ty55, ty57, ty60] <;> first | rfl | exact hmap2) hi)) rfl <| SqW.nil <| BQ.normal <| ?_
        rw [erase_ent hda.keys hj]
        refine LQ.normal (m := n - 1) (L := [(0, P0 r), (1, U64 ts), (11, P0 h.next)]) (by have := hI.lt_of hpS hns; omega) ?_ ⟨_, hI.del hpS hns hA.borns hA.keys (by simpa using hon) (by simp only [nx]; omega) (by simp (disch := first | assumption | omega | (simp only [nx] <;> omega) | fail) only [hpl]) (by simp (disch := first | assumption | omega | (simp only [nx] <;> omega) | fail) only [hpl]) (fun z hz a b => ?_) hl hml, rfl⟩
        · simp only [HasA, Tr.get_put, Nat.reduceEqDiff, reduceIte, and_self]
        · have a' : ¬ h.next = z := fun e => a e.symm
          have b' : ¬ S.m = z := fun e => b e.symm
          simp (disch := first | assumption | omega | (simp only [nx] <;> omega) | fail) only [hpl]
      · try simp only [bl] at hon
        refine OSuf.nil <| SQ.normal ?_
        refine W.no (by simp only [lk] <;> rfl) <| CWp.skip <| BQ.normal <| ?_
        refine LQ.normal (m := n - 1) (L := [(0, P0 r), (1, U64 ts), (11, P0 h.next)]) (by have := hI.lt_of hpS hns; omega) ?_ ⟨_, hI.keep hpS hns hA.borns (by simpa using hon) (by simp only [nx]; omega) (by simp (disch := first | assumption | omega | (simp only [nx] <;> omega) | fail) only [hpl]) (fun z hz a => ?_) hl hml, rfl⟩
        · simp only [HasA, Tr.get_put, Nat.reduceEqDiff, reduceIte, and_self]
        · have a' : ¬ h.next = z := fun e => a e.symm
          simp (disch := first | assumption | omega | (simp only [nx] <;> omega) | fail) only [hpl]
  rintro L a' h2 ha ⟨hA2, hF2⟩
  refine FQ.normal (by simp only [aRet, Try.f13, aResults] <;> rfl) ?_
  exact ⟨rfl, hA2, hF2⟩

theorem ready_c (h : AHeap) (r : Nat) (S : DS) (hA : DA h r S) (ts : Int) :
    FWp Try.prog 20 [P0 r, U64 ts] h fun u h' => u = .bool (!(S.ps.any fun p => decide (p.key.1 = ts))) ∧ h' = h := by
  have hrow := hA.row
  have hmap := hA.map
  have hl := hA.lt
  have hml := hA.mlt
  have hrm := hA.rm
  have e0 : ∀ seen, S.ps.filter (keepD (fun p => false) seen) = S.ps := fun seen => List.filter_eq_self.2 fun p _ => by simp [keepD]
  refine FWp.gcs ⟨fun _ => none, _, .bool _⟩ (W.enter tyOK Try.func20 rfl rfl ?_)
  simp only [entry]
  refine W.seq <| W.reg <| OSuf.aopF tyOK rfl (so_assign (by simp only [lk] <;> rfl)) (fun _ => rfl) rfl <| OSuf.nil <| SQ.normal ?_
  refine W.seq <| W.seq <| W.reg <| OSuf.aop tyOK rfl sm rfl <| OSuf.callD rfl (by simp only [aopnds, lk] <;> rfl) en26 (none_c _ r S hA) rfl <| OSuf.nil <| SQ.normal ?_
  refine W.no (by simp only [lk] <;> rfl) <| CWp.skip <| SQ.normal ?_
  refine W.seq <| W.seq <| W.reg <| OSuf.aop tyOK rfl sm rfl <| OSuf.aop tyOK rfl (so_nilCheck (by simp only [lk] <;> rfl)) rfl <| OSuf.aop tyOK rfl (so_fieldAddr (by simp only [lk] <;> rfl) (fa_ok (k := 0) ty57 rfl rfl ty55 rfl rfl)) rfl <| OSuf.aop tyOK rfl (so_load (by simp only [lk] <;> rfl) (by simp (disch := first | assumption | omega | (simp only [nx] <;> omega) | fail) only [aLoad, ty55, rowOf, hpl, hrow, hmap] <;> rfl)) rfl <| OSuf.aop tyOK rfl (so_range (by simp only [lk] <;> rfl) (by simp (disch := first | assumption | omega | (simp only [nx] <;> omega) | fail) only [aRange, ty55, hpl, hrow, hmap] <;> rfl)) rfl <| OSuf.nil <| SQ.normal ?_
  -- leaf: loop
  refine W.cut (fun L h' => (∀ p ∈ S.ps, ¬ p.key.1 = ts) ∧ h.next ≤ h'.next ∧ (∀ z, z < h.next → h'.get z = h.get z) ∧ L = []) (W.block (W.loop (fun n L h' => ∃ seen, It h h' r h.next S (fun p => false) seen n ∧ (∀ p ∈ S.ps, p.born ∈ seen.toList → ¬ p.key.1 = ts) ∧ h'.get S.m = h.get S.m ∧ L = [(0, P0 r), (1, U64 ts), (12, P0 h.next)]) (n := S.ps.length)
    ⟨#[], ⟨by simp, by simp, by simp, ?_, by simp, by omega, AHeap.get_new_same _ _, by simp, fun z hz _ => AHeap.get_new_ne (by omega)⟩, by simp, AHeap.get_new_ne (by omega), rfl⟩ ?_ ?_)) ?_
  · rw [e0]; exact hA.mono (by simp) (AHeap.get_new_ne (by omega)) (AHeap.get_new_ne (by omega))
  · simp [HasA, Tr.get_put]
  · rintro n L h2 ⟨seen, hI, hno, hgm, rfl⟩
    simp only [mkA]
    have hda := hI.da
    rw [e0] at hda
    have hrow2 := hda.row
    have hmap2 := hda.map
    have hlt2 := hda.lt
    have hmlt2 := hda.mlt
    have hIlt := hI.lt
    have g1 : ¬ h.next = r := by omega
    have g2 : ¬ h.next = S.m := by omega
    have g3 : ¬ S.m = h.next := by omega
    have g4 : ¬ r = h.next := by omega
    have same : ∀ z, z < h.next → h2.get z = h.get z := fun z hz => by
      by_cases e : S.m = z
      · subst e; exact hgm
      · exact hI.fr z hz e
    refine W.seq <| W.reg <| OSuf.next rfl (by simp only [lk] <;> rfl) hI.it hmap2 (it_condP hda.born) (fun he => ⟨_, rfl, ?_⟩) (fun e he => ⟨_, rfl, ?_⟩)
    · skip
      refine OSuf.aopF tyOK rfl (so_extract (by simp only [lk] <;> rfl) (by simp (disch := first | assumption | omega | (simp only [nx] <;> omega) | fail) only [aExtract, hpl, hrow2, hmap2, Value.cells, places, ty29, ty4, ty55, ty57, ty60] <;> rfl)) (fun _ => rfl) (by first | rfl | assumption | ((simp only [bl, hrow2, hmap2, Value.cells, places, ty29, ty4, ty55, ty57, ty60]) <;> first | done | assumption | omega) | (simp; done) | (simp; omega)) <| OSuf.nil <| SQ.normal ?_
      refine W.seq <| W.no (by simp only [lk] <;> rfl) <| CWp.exit <| SQ.exit <| LQ.exit <| BQ.exit <| ?_
      refine NQ.normal (L := []) trivial ⟨fun p hp => hno p hp (it_doneP he hda.born p hp), hI.nx, same, rfl⟩
    · skip
      obtain ⟨p, hp, hns, rfl⟩ := it_leftP he
      have hfind := it_findP hda.borns hp
      refine OSuf.aopT tyOK rfl (so_extract (by simp only [lk] <;> rfl) (by simp (disch := first | assumption | omega | (simp only [nx] <;> omega) | fail) only [aExtract, hpl, hrow2, hmap2, Value.cells, places, ty29, ty4, ty55, ty57, ty60] <;> rfl)) (fun _ => rfl) (by first | rfl | assumption | ((simp only [bl, hrow2, hmap2, Value.cells, places, ty29, ty4, ty55, ty57, ty60]) <;> first | done | assumption | omega) | (simp; done) | (simp; omega)) <| OSuf.nil <| SQ.normal ?_
      refine W.seq <| W.yes (by simp only [lk] <;> rfl) <| CWp.skip <| SQ.normal ?_
      refine W.block <| W.seq <| W.reg <| OSuf.aop tyOK rfl (so_entry (by simp only [lk] <;> rfl) (en_ok (AHeap.get_set_same _ _ _) (by simp (disch := first | assumption | omega | (simp only [nx] <;> omega) | fail) only [aCells, rowOf, hpl, hrow2, hmap2, Value.cells, places, ty29, ty4, ty55, ty57, ty60] <;> first | rfl | exact hmap2) hfind)) rfl <| OSuf.aop tyOK rfl (so_extract (by simp only [lk] <;> rfl) (by simp (disch := first | assumption | omega | (simp only [nx] <;> omega) | fail) only [aExtract, hpl, hrow2, hmap2, Value.cells, places, ty29, ty4, ty55, ty57, ty60] <;> rfl)) rfl <| OSuf.aop tyOK rfl (so_alloc (by simp only [aAlloc, ty60] <;> rfl)) rfl <| OSuf.aop tyOK rfl (so_store (by simp only [lk] <;> rfl) (by simp only [lk] <;> rfl) (by simp (disch := first | assumption | omega | (simp only [nx] <;> omega) | fail) only [aStore, ty60, writeRow, hpl, hrow2, hmap2, Value.cells, places, ty29, ty4, ty55, ty57, ty60] <;> rfl)) rfl <| OSuf.nil <| SQ.normal ?_
      refine W.seq <| W.reg <| OSuf.aop tyOK rfl (so_fieldAddr (by simp only [lk] <;> rfl) (fa_ok (k := 0) ty60 rfl rfl ty29 rfl rfl)) rfl <| OSuf.aop tyOK rfl (so_load (by simp only [lk] <;> rfl) (by simp (disch := first | assumption | omega | (simp only [nx] <;> omega) | fail) only [aLoad, ty29, rowOf, hpl, hrow2, hmap2, Value.cells, places, ty29, ty4, ty55, ty57, ty60] <;> rfl)) rfl <| OSuf.aop tyOK rfl sm rfl <| OSuf.aopB tyOK rfl (so_bin (by simp only [lk] <;> rfl) (by simp only [lk] <;> rfl) bi_eql) (fun _ => rfl) (fun hon => ?_) (fun hon => ?_)
      · try simp only [bl] at hon
        refine OSuf.nil <| SQ.normal ?_
        refine W.yes (by simp only [lk] <;> rfl) <| W.seq <| W.reg <| OSuf.aopF tyOK rfl (so_assign (by simp only [lk] <;> rfl)) (fun _ => rfl) rfl <| OSuf.nil <| SQ.normal ?_
        refine CWp.ret <| BQ.ret <| LQ.ret <| BQ.ret <| NQ.ret <| SQ.ret <| FQ.ret (by simp only [aRet, Try.f20, aResults, aResult, lk, Nat.reduceEqDiff, reduceIte] <;> rfl) ?_
        have : S.ps.any (fun p => decide (p.key.1 = ts)) = true := List.any_eq_true.2 ⟨p, hp, by simpa using hon⟩
        rw [this]
        refine ⟨rfl, fun z o hz ho => ?_⟩
        have a' : ¬ h.next = z := by omega
        have : z < h2.next := by omega
        simp (disch := first | assumption | omega | (simp only [nx] <;> omega) | fail) only [hpl]; rw [same z hz]; exact ho
      · try simp only [bl] at hon
        refine OSuf.nil <| SQ.normal ?_
        refine W.no (by simp only [lk] <;> rfl) <| CWp.skip <| BQ.normal <| ?_
        refine LQ.normal (m := n - 1) (L := [(0, P0 r), (1, U64 ts), (12, P0 h.next)]) (by have := hI.lt_of hp hns; omega) ?_ ⟨_, hI.keep hp hns hA.borns rfl (by simp only [nx]; omega) (by simp (disch := first | assumption | omega | (simp only [nx] <;> omega) | fail) only [hpl]) (fun z hz a => ?_) hl hml, fun q hq hs => ?_, ?_, rfl⟩
        · simp only [HasA, Tr.get_put, Nat.reduceEqDiff, reduceIte, and_self]
        · have a' : ¬ h.next = z := fun e => a e.symm
          simp (disch := first | assumption | omega | (simp only [nx] <;> omega) | fail) only [hpl]
        · rcases mem_push.1 hs with h9 | h9
          · exact hno q hq h9
          · have := inj_nodup Pr.born hA.borns hq hp h9
            subst this; simpa using hon
        · simp (disch := first | assumption | omega | (simp only [nx] <;> omega) | fail) only [hpl]; exact hgm
  rintro L a' h2 ha ⟨hno, hnx, same, rfl⟩
  have : S.ps.any (fun p => decide (p.key.1 = ts)) = false := List.any_eq_false.2 fun p hp => by simpa using hno p hp
  rw [this]
  refine SQ.normal <| CWp.known ha ?_
  simp only [mkA]
  refine W.seq <| W.reg <| OSuf.aopT tyOK rfl (so_assign (by simp only [lk] <;> rfl)) (fun _ => rfl) rfl <| OSuf.nil <| SQ.normal ?_
  refine CWp.ret <| FQ.ret (by simp only [aRet, Try.f20, aResults, aResult, lk, Nat.reduceEqDiff, reduceIte] <;> rfl) ?_
  -- leaf: end
  exact ⟨rfl, fun z o hz ho => by rw [same z hz]; exact ho⟩

/-- Who hangs on one, by whatever way. -/
inductive Reach (ps : List Pr) (x : Int) : Int → Prop
  | refl : Reach ps x x
  | step {y : Int} {p : Pr} (hr : Reach ps x y) (hp : p ∈ ps) (hh : p.hangs = true) (ho : p.key.2 = y) : Reach ps x p.key.1
theorem Reach.trans {ps : List Pr} {x y z : Int} (a : Reach ps x y) (b : Reach ps y z) : Reach ps x z := by
  induction b with
  | refl => exact a
  | step _ hp hh ho ih => exact ih.step hp hh ho
abbrev GL := List (Int × Value × Nat)
def gk (l : GL) : List Int := l.map (·.1)
def cntG (x : Int) (l : GL) : Int := if x ∈ gk l then 1 else 0
theorem gk_append (l m : GL) : gk (l ++ m) = gk l ++ gk m := List.map_append
theorem idx_not {x : Int} {l : GL} (h : x ∉ gk l) : idxI x l 0 = none := idxI_none fun y hy e => h (e ▸ List.mem_map.2 ⟨y, hy, rfl⟩)
theorem idx_mem {x : Int} {l : GL} (h : x ∈ gk l) : ∃ j v, idxI x l 0 = some (j, v) ∧ ∃ y ∈ l, y.2.1 = v := by
  cases hi : idxI x l 0 with
  | none =>
    obtain ⟨y, hy, e⟩ := List.mem_map.1 h
    exact (idxI_none' hi y hy e.symm).elim
  | some jv =>
    obtain ⟨j, v⟩ := jv
    obtain ⟨m, b, h1, h2⟩ := idxI_some hi
    exact ⟨j, v, rfl, _, List.mem_of_getElem? h2, rfl⟩
theorem lk_cnt {t kt et : TypeId} {ti ki ei : TI} {x : Int} {g clk : Nat} {l : GL} {h : AHeap} (ht : T.get t = some ti) (hu : ti.und = .map kt et) (hk : T.get kt = some ki) (hku : ki.und = .int .u64) (he : T.get et = some ei) (hz : ei.zero = some (I64 0))
    (hr : h.get g = some (.map (mkE .u64 l) clk)) (ho : ∀ y ∈ l, y.2.1 = I64 1) : aLookup Try.prog T t (.map (some g)) (U64 x) false h = some (I64 (cntG x l)) := by
  by_cases hm : x ∈ gk l
  · obtain ⟨j, v, hi, y, hy, e⟩ := idx_mem hm
    rw [lk_some tyOK ht hu hk hku hr hi, cntG, if_pos hm, ← e, ho y hy]; rfl
  · rw [lk_none tyOK ht hu hk hku he hz rfl hr (idx_not hm), cntG, if_neg hm]; rfl

/-- What is told while those that hang are gone through. -/
structure TS (h : AHeap) (bd bg bt r g : Nat) (S : DS) (l : GL) (clk : Nat) : Prop where
  da : DA h r S
  lts : bd < h.next ∧ bg < h.next ∧ bt < h.next ∧ g < h.next
  gne : ¬ g = bd ∧ ¬ g = bg ∧ ¬ g = bt ∧ ¬ g = r ∧ ¬ g = S.m
  rbd : h.get bd = some (.cells [P0 r] 1)
  rbg : h.get bg = some (.cells [.map (some g)] 1)
  rbt : h.get bt = some (.cells [.func (.func 27) #[] #[P0 bd, P0 bg, P0 bt]] 1)
  map : h.get g = some (.map (mkE .u64 l) clk)
  lt : ∀ x ∈ l, x.2.2 < clk
  bn : (l.map (·.2.2)).Nodup
  keys : (gk l).Nodup
  ones : ∀ x ∈ l, x.2.1 = I64 1
theorem TS.mono {h h' : AHeap} {bd bg bt r g : Nat} {S : DS} {l : GL} {clk : Nat} (t : TS h bd bg bt r g S l clk) (hn : h.next ≤ h'.next) (hk : ∀ z, z < h.next → h'.get z = h.get z) : TS h' bd bg bt r g S l clk := by
  obtain ⟨l1, l2, l3, l4⟩ := t.lts
  exact ⟨t.da.mono hn (hk r t.da.lt) (hk S.m t.da.mlt), ⟨by omega, by omega, by omega, by omega⟩, t.gne, by rw [hk bd l1]; exact t.rbd, by rw [hk bg l2]; exact t.rbg, by rw [hk bt l3]; exact t.rbt, by rw [hk g l4]; exact t.map, t.lt, t.bn, t.keys, t.ones⟩
theorem TS.add {h h' : AHeap} {bd bg bt r g : Nat} {S : DS} {l : GL} {clk : Nat} (t : TS h bd bg bt r g S l clk) {x : Int} (hx : x ∉ gk l) (hn : h.next ≤ h'.next) (k1 : h'.get bd = h.get bd) (k2 : h'.get bg = h.get bg) (k3 : h'.get bt = h.get bt) (k4 : h'.get r = h.get r) (k5 : h'.get S.m = h.get S.m) (hm : h'.get g = some (.map (mkE .u64 (l ++ [(x, I64 1, clk)])) (clk + 1))) :
    TS h' bd bg bt r g S (l ++ [(x, I64 1, clk)]) (clk + 1) := by
  obtain ⟨l1, l2, l3, l4⟩ := t.lts
  refine ⟨t.da.mono hn k4 k5, ⟨by omega, by omega, by omega, by omega⟩, t.gne, by rw [k1]; exact t.rbd, by rw [k2]; exact t.rbg, by rw [k3]; exact t.rbt, hm, fun y hy => ?_, ?_, ?_, fun y hy => ?_⟩
  · rcases List.mem_append.1 hy with h9 | h9
    · have := t.lt y h9; omega
    · simp at h9; subst h9; simp
  · rw [List.map_append]
    refine List.nodup_append.2 ⟨t.bn, by simp, fun a ha b hb => ?_⟩
    obtain ⟨y, hy, rfl⟩ := List.mem_map.1 ha
    have := t.lt y hy
    simp at hb; subst hb; omega
  · rw [gk_append]
    refine List.nodup_append.2 ⟨t.keys, by simp [gk], fun a ha b hb => ?_⟩
    simp [gk] at hb; subst hb; rintro rfl; exact hx ha
  · rcases List.mem_append.1 hy with h9 | h9
    · exact t.ones y h9
    · simp at h9; subst h9; rfl
theorem filter_len {α : Type} {f g : α → Bool} (h : ∀ x, f x = true → g x = true) : ∀ l : List α, (l.filter f).length ≤ (l.filter g).length
  | [] => Nat.le_refl _
  | x :: l => by
    have ih := filter_len h l
    rw [List.filter_cons, List.filter_cons]
    by_cases hf : f x = true
    · rw [if_pos hf, if_pos (h x hf)]; simp; exact ih
    · rw [if_neg hf]
      split
      · simp; omega
      · exact ih
/-- How many could still be added. -/
def more (S : DS) (l : GL) : Nat := (S.ps.filter fun p => !decide (p.key.1 ∈ gk l)).length
theorem more_le (S : DS) (l m : GL) : more S (l ++ m) ≤ more S l := by
  unfold more
  refine filter_len (fun p hp => ?_) _
  simp [gk_append] at hp ⊢; exact hp.1
theorem more_lt {S : DS} {l : GL} {p : Pr} (hp : p ∈ S.ps) (hn : p.key.1 ∉ gk l) (b : Nat) : more S (l ++ [(p.key.1, I64 1, b)]) < more S l := by
  unfold more
  have : ∀ ps : List Pr, p ∈ ps → (ps.filter fun q => !decide (q.key.1 ∈ gk (l ++ [(p.key.1, I64 1, b)]))).length < (ps.filter fun q => !decide (q.key.1 ∈ gk l)).length := by
    intro ps
    have le : ∀ ps : List Pr, (ps.filter fun q => !decide (q.key.1 ∈ gk (l ++ [(p.key.1, I64 1, b)]))).length ≤ (ps.filter fun q => !decide (q.key.1 ∈ gk l)).length := fun ps => by
      refine filter_len (fun q hq => ?_) _
      simp [gk_append] at hq ⊢; exact hq.1
    induction ps with
    | nil => intro h; cases h
    | cons q ps ih =>
      intro h
      rw [List.filter_cons, List.filter_cons]
      cases h with
      | head =>
        rw [if_neg (by simp [gk]), if_pos (by simpa using hn)]
        have := le ps
        simp; omega
      | tail _ h =>
        have := ih h
        by_cases h1 : q.key.1 ∈ gk l
        · rw [if_neg (by simp [gk_append, h1]), if_neg (by simpa using h1)]; exact this
        · rw [if_pos (c := (!decide (q.key.1 ∈ gk l)) = true) (by simpa using h1)]
          split <;> simp <;> omega
  exact this _ hp

structure TI (h h' : AHeap) (bd bg bt r g : Nat) (x : Int) (S : DS) (l N : GL) (clk : Nat) (seen : Array Nat) (n : Nat) : Prop where
  n : n + seen.size = S.ps.length
  nd : seen.toList.Nodup
  sub : ∀ b ∈ seen.toList, b ∈ S.ps.map Pr.born
  lt : h.next < h'.next
  it : h'.get h.next = some (.mapIter (some S.m) S.clock seen S.clock)
  ts : TS h' bd bg bt r g S (l ++ N) clk
  fr : ∀ z, z < h.next → ¬ g = z → h'.get z = h.get z
  re : ∀ y ∈ N, Reach S.ps x y.1 ∧ ∃ p ∈ S.ps, p.key.1 = y.1
  cl : ∀ p ∈ S.ps, p.hangs = true → p.key.2 ∈ gk N → p.key.1 ∈ gk (l ++ N)
  dn : ∀ p ∈ S.ps, p.born ∈ seen.toList → p.hangs = true → p.key.2 = x → p.key.1 ∈ gk (l ++ N)
theorem TI.lt_of {h h' : AHeap} {bd bg bt r g : Nat} {x : Int} {S : DS} {l N : GL} {clk : Nat} {seen : Array Nat} {n : Nat} (i : TI h h' bd bg bt r g x S l N clk seen n) {p : Pr} (hp : p ∈ S.ps) (hs : p.born ∉ seen.toList) : 0 < n := by
  have := seen_lt i.nd i.sub (List.mem_map.2 ⟨p, hp, rfl⟩) hs
  have h1 := i.n
  simp at this; omega
theorem TI.skip {h h' h'' : AHeap} {bd bg bt r g : Nat} {x : Int} {S : DS} {l N : GL} {clk : Nat} {seen : Array Nat} {n : Nat} (i : TI h h' bd bg bt r g x S l N clk seen n) {p : Pr} (hp : p ∈ S.ps) (hs : p.born ∉ seen.toList) (hb : (S.ps.map Pr.born).Nodup)
    (hd : p.hangs = true → p.key.2 = x → p.key.1 ∈ gk (l ++ N)) (hn : h'.next ≤ h''.next) (hI : h''.get h.next = some (.mapIter (some S.m) S.clock (seen.push p.born) S.clock)) (hk : ∀ z, z < h'.next → ¬ z = h.next → h''.get z = h'.get z)
    (hlo : bd < h.next ∧ bg < h.next ∧ bt < h.next ∧ r < h.next ∧ g < h.next ∧ S.m < h.next) : TI h h'' bd bg bt r g x S l N clk (seen.push p.born) (n - 1) := by
  have h0n := i.lt_of hp hs
  have hn1 := i.n
  have hlt := i.lt
  obtain ⟨o1, o2, o3, o4, o5, o6⟩ := hlo
  have t := i.ts
  obtain ⟨l1, l2, l3, l4⟩ := t.lts
  refine ⟨by simp; omega, seen_push i.nd hs, fun b hb => ?_, by omega, hI, ?_, fun z hz hg => ?_, i.re, i.cl, fun q hq hs' hh ho => ?_⟩
  · rcases mem_push.1 hb with h9 | h9
    · exact i.sub b h9
    · exact h9 ▸ List.mem_map.2 ⟨p, hp, rfl⟩
  · exact ⟨t.da.mono hn (hk r t.da.lt (by omega)) (hk S.m t.da.mlt (by omega)), ⟨by omega, by omega, by omega, by omega⟩, t.gne, by rw [hk bd l1 (by omega)]; exact t.rbd, by rw [hk bg l2 (by omega)]; exact t.rbg, by rw [hk bt l3 (by omega)]; exact t.rbt, by rw [hk g l4 (by omega)]; exact t.map, t.lt, t.bn, t.keys, t.ones⟩
  · rw [hk z (by omega) (by omega)]; exact i.fr z hz hg
  · rcases mem_push.1 hs' with h9 | h9
    · exact i.dn q hq h9 hh ho
    · have := inj_nodup Pr.born hb hq hp h9
      subst this; exact hd hh ho

def TakeC (bd bg bt r g : Nat) (S : DS) (n : Nat) : Prop := ∀ (h : AHeap) (l : GL) (clk : Nat) (x : Int), TS h bd bg bt r g S l clk → more S l ≤ n →
    FWp Try.prog 27 [U64 x, P0 bd, P0 bg, P0 bt] h fun u h' => ∃ N clk', TS h' bd bg bt r g S (l ++ N) clk' ∧ h.next ≤ h'.next ∧ (∀ z, z < h.next → ¬ g = z → h'.get z = h.get z) ∧
      (∀ y ∈ N, Reach S.ps x y.1 ∧ ∃ p ∈ S.ps, p.key.1 = y.1) ∧ ∀ p ∈ S.ps, p.hangs = true → (p.key.2 = x ∨ p.key.2 ∈ gk N) → p.key.1 ∈ gk (l ++ N)

theorem take_v {bd bg bt r g : Nat} {S : DS} {n : Nat} (t : TakeC bd bg bt r g S n) {h : AHeap} {l : GL} {clk : Nat} {x : Int} (hT : TS h bd bg bt r g S l clk) (hm : more S l ≤ n) :
    VWp Try.prog (.func (.func 27) #[] #[P0 bd, P0 bg, P0 bt]) [U64 x] h fun u h' => ∃ N clk', TS h' bd bg bt r g S (l ++ N) clk' ∧ h.next ≤ h'.next ∧ (∀ z, z < h.next → ¬ g = z → h'.get z = h.get z) ∧
      (∀ y ∈ N, Reach S.ps x y.1 ∧ ∃ p ∈ S.ps, p.key.1 = y.1) ∧ ∀ p ∈ S.ps, p.hangs = true → (p.key.2 = x ∨ p.key.2 ∈ gk N) → p.key.1 ∈ gk (l ++ N) :=
  VWp.func en27 (t h l clk x hT hm)
theorem take_step (bd bg bt r g : Nat) (S : DS) (n0 : Nat) (ih : ∀ n, n < n0 → TakeC bd bg bt r g S n) : TakeC bd bg bt r g S n0 := by
  intro h l clk x hT hmore
  have hA := hT.da
  have hrow := hA.row
  have hmap := hA.map
  have hl := hA.lt
  have hml := hA.mlt
  obtain ⟨l1, l2, l3, l4⟩ := hT.lts
  obtain ⟨g1, g2, g3, g4, g5⟩ := hT.gne
  have r1 := hT.rbd
  refine W.enter tyOK Try.func27 rfl rfl ?_
  simp only [entry]
  refine W.seq <| W.reg <| OSuf.aop tyOK rfl (so_load (by simp only [lk] <;> rfl) (by simp (disch := first | assumption | omega | (simp only [nx] <;> omega) | fail) only [aLoad, ty23, rowOf, hpl, hrow, hmap, r1] <;> rfl)) rfl <| OSuf.aop tyOK rfl (so_nilCheck (by simp only [lk] <;> rfl)) rfl <| OSuf.aop tyOK rfl (so_fieldAddr (by simp only [lk] <;> rfl) (fa_ok (k := 0) ty57 rfl rfl ty55 rfl rfl)) rfl <| OSuf.aop tyOK rfl (so_load (by simp only [lk] <;> rfl) (by simp (disch := first | assumption | omega | (simp only [nx] <;> omega) | fail) only [aLoad, ty55, rowOf, hpl, hrow, hmap, r1] <;> rfl)) rfl <| OSuf.aop tyOK rfl (so_range (by simp only [lk] <;> rfl) (by simp (disch := first | assumption | omega | (simp only [nx] <;> omega) | fail) only [aRange, ty55, hpl, hrow, hmap, r1] <;> rfl)) rfl <| OSuf.nil <| SQ.normal ?_
  -- leaf: loop
  refine W.cut (fun L h' => ∃ N clk', TS h' bd bg bt r g S (l ++ N) clk' ∧ h.next ≤ h'.next ∧ (∀ z, z < h.next → ¬ g = z → h'.get z = h.get z) ∧
      (∀ y ∈ N, Reach S.ps x y.1 ∧ ∃ p ∈ S.ps, p.key.1 = y.1) ∧ ∀ p ∈ S.ps, p.hangs = true → (p.key.2 = x ∨ p.key.2 ∈ gk N) → p.key.1 ∈ gk (l ++ N)) (W.block (W.loop (fun n L h' => ∃ seen N clk', TI h h' bd bg bt r g x S l N clk' seen n ∧ L = [(0, U64 x), (1, P0 bd), (2, P0 bg), (3, P0 bt), (11, P0 h.next)]) (n := S.ps.length)
    ⟨#[], [], clk, ⟨by simp, by simp, by simp, by simp, AHeap.get_new_same _ _, by rw [List.append_nil]; exact hT.mono (by simp) (fun z hz => AHeap.get_new_ne (by omega)), fun z hz _ => AHeap.get_new_ne (by omega), by simp, by simp [gk], by simp⟩, rfl⟩ ?_ ?_)) ?_
  · simp [HasA, Tr.get_put]
  · rintro n L h2 ⟨seen, N, clk', hI, rfl⟩
    simp only [mkA]
    have hT2 := hI.ts
    have hda := hT2.da
    have hmap2 := hda.map
    have hlt2 := hda.lt
    have hmlt2 := hda.mlt
    have hIlt := hI.lt
    have r2 := hT2.rbg
    have r3 := hT2.rbt
    have hgm := hT2.map
    have hones := hT2.ones
    have n1 : ¬ h.next = bd := by omega
    have n2 : ¬ h.next = bg := by omega
    have n3 : ¬ h.next = bt := by omega
    have n4 : ¬ h.next = g := by omega
    have n5 : ¬ h.next = S.m := by omega
    have n6 : ¬ S.m = h.next := by omega
    have n7 : ¬ g = h.next := by omega
    have n8 : ¬ h.next = r := by omega
    have hlo : bd < h.next ∧ bg < h.next ∧ bt < h.next ∧ r < h.next ∧ g < h.next ∧ S.m < h.next := ⟨l1, l2, l3, hl, l4, hml⟩
    refine W.seq <| W.reg <| OSuf.next rfl (by simp only [lk] <;> rfl) hI.it hmap2 (it_condP hda.born) (fun he => ⟨_, rfl, ?_⟩) (fun e he => ⟨_, rfl, ?_⟩)
    · skip
      refine OSuf.aopF tyOK rfl (so_extract (by simp only [lk] <;> rfl) (by simp (disch := first | assumption | omega | (simp only [nx] <;> omega) | fail) only [aExtract, hpl, hmap2, Value.cells, places, ty23, ty29, ty3, ty34, ty4, ty55, ty57, ty60, ty64, r2, r3, hgm] <;> rfl)) (fun _ => rfl) (by first | rfl | assumption | ((simp only [bl, hmap2, Value.cells, places, ty23, ty29, ty3, ty34, ty4, ty55, ty57, ty60, ty64, r2, r3, hgm]) <;> first | done | assumption | omega) | (simp; done) | (simp; omega)) <| OSuf.nil <| SQ.normal ?_
      refine W.seq <| W.no (by simp only [lk] <;> rfl) <| CWp.exit <| SQ.exit <| LQ.exit <| BQ.exit <| ?_
      refine NQ.normal (L := []) trivial ⟨N, clk', hT2, by omega, hI.fr, hI.re, fun p hp hh ho => ?_⟩
      rcases ho with h9 | h9
      · exact hI.dn p hp (it_doneP he hda.born p hp) hh h9
      · exact hI.cl p hp hh h9
    · skip
      obtain ⟨p, hp, hns, rfl⟩ := it_leftP he
      have hfind := it_findP hda.borns hp
      have hn0 := hI.lt_of hp hns
      refine OSuf.aopT tyOK rfl (so_extract (by simp only [lk] <;> rfl) (by simp (disch := first | assumption | omega | (simp only [nx] <;> omega) | fail) only [aExtract, hpl, hmap2, Value.cells, places, ty23, ty29, ty3, ty34, ty4, ty55, ty57, ty60, ty64, r2, r3, hgm] <;> rfl)) (fun _ => rfl) (by first | rfl | assumption | ((simp only [bl, hmap2, Value.cells, places, ty23, ty29, ty3, ty34, ty4, ty55, ty57, ty60, ty64, r2, r3, hgm]) <;> first | done | assumption | omega) | (simp; done) | (simp; omega)) <| OSuf.nil <| SQ.normal ?_
      refine W.seq <| W.yes (by simp only [lk] <;> rfl) <| CWp.skip <| SQ.normal ?_
      refine W.block <| W.seq <| W.reg <| OSuf.aop tyOK rfl (so_entry (by simp only [lk] <;> rfl) (en_ok (AHeap.get_set_same _ _ _) (by simp (disch := first | assumption | omega | (simp only [nx] <;> omega) | fail) only [aCells, rowOf, hpl, hmap2, Value.cells, places, ty23, ty29, ty3, ty34, ty4, ty55, ty57, ty60, ty64, r2, r3, hgm] <;> first | rfl | exact hmap2) hfind)) rfl <| OSuf.aop tyOK rfl (so_extract (by simp only [lk] <;> rfl) (by simp (disch := first | assumption | omega | (simp only [nx] <;> omega) | fail) only [aExtract, hpl, hmap2, Value.cells, places, ty23, ty29, ty3, ty34, ty4, ty55, ty57, ty60, ty64, r2, r3, hgm] <;> rfl)) rfl <| OSuf.aopB tyOK rfl (so_extract (by simp only [lk] <;> rfl) (by simp (disch := first | assumption | omega | (simp only [nx] <;> omega) | fail) only [aExtract, hpl, hmap2, Value.cells, places, ty23, ty29, ty3, ty34, ty4, ty55, ty57, ty60, ty64, r2, r3, hgm] <;> rfl)) (fun _ => rfl) (fun hh => ?_) (fun hh => ?_)
      · try simp only [bl] at hh
        refine OSuf.aop tyOK rfl (so_alloc (by simp only [aAlloc, ty60] <;> rfl)) rfl <| OSuf.aop tyOK rfl (so_store (by simp only [lk] <;> rfl) (by simp only [lk] <;> rfl) (by simp (disch := first | assumption | omega | (simp only [nx] <;> omega) | fail) only [aStore, ty60, writeRow, hpl, hmap2, Value.cells, places, ty23, ty29, ty3, ty34, ty4, ty55, ty57, ty60, ty64, r2, r3, hgm] <;> rfl)) rfl <| OSuf.aopT tyOK rfl (so_assign (by simp only [lk] <;> rfl)) (fun _ => rfl) rfl <| OSuf.nil <| SQ.normal ?_
        refine W.seq <| W.reg <| OSuf.aopT tyOK rfl sm (fun _ => rfl) rfl <| OSuf.aopT tyOK rfl sm (fun _ => rfl) rfl <| OSuf.aop tyOK ag (so_fieldAddr (by simp only [lk] <;> rfl) (fa_ok (k := 1) ty60 rfl rfl ty29 rfl rfl)) rfl <| OSuf.aop tyOK ag (so_load (by simp only [lk] <;> rfl) (by simp (disch := first | assumption | omega | (simp only [nx] <;> omega) | fail) only [aLoad, ty29, rowOf, hpl, hmap2, Value.cells, places, ty23, ty29, ty3, ty34, ty4, ty55, ty57, ty60, ty64, r2, r3, hgm] <;> rfl)) rfl <| OSuf.aop tyOK ag sm rfl <| OSuf.aopB tyOK ag (so_bin (by simp only [lk] <;> rfl) (by simp only [lk] <;> rfl) bi_eql) (fun _ => rfl) (fun hon => ?_) (fun hon => ?_)
        · try simp only [bl] at hon
          refine OSuf.aopT tyOK rfl (so_pick (by simp only [lk] <;> rfl) (by simp only [lk, cond_true, cond_false] <;> rfl)) (fun _ => rfl) rfl <| OSuf.aopT tyOK rfl sm (fun _ => rfl) rfl <| OSuf.aop tyOK ag (so_load (by simp only [lk] <;> rfl) (by simp (disch := first | assumption | omega | (simp only [nx] <;> omega) | fail) only [aLoad, ty64, rowOf, hpl, hmap2, Value.cells, places, ty23, ty29, ty3, ty34, ty4, ty55, ty57, ty60, ty64, r2, r3, hgm] <;> rfl)) rfl <| OSuf.aop tyOK ag (so_fieldAddr (by simp only [lk] <;> rfl) (fa_ok (k := 0) ty60 rfl rfl ty29 rfl rfl)) rfl <| OSuf.aop tyOK ag (so_load (by simp only [lk] <;> rfl) (by simp (disch := first | assumption | omega | (simp only [nx] <;> omega) | fail) only [aLoad, ty29, rowOf, hpl, hmap2, Value.cells, places, ty23, ty29, ty3, ty34, ty4, ty55, ty57, ty60, ty64, r2, r3, hgm] <;> rfl)) rfl <| OSuf.aop tyOK ag (so_lookup (by simp only [lk] <;> rfl) (by simp only [lk] <;> rfl) (lk_cnt ty64 rfl ty29 rfl ty3 rfl (by simp (disch := first | assumption | omega | (simp only [nx] <;> omega) | fail) only [aCells, rowOf, hpl, hmap2, Value.cells, places, ty23, ty29, ty3, ty34, ty4, ty55, ty57, ty60, ty64, r2, r3, hgm] <;> first | rfl | exact hgm) hones)) rfl <| OSuf.aopB tyOK ag (so_bin (by simp only [lk] <;> rfl) (by simp only [lk] <;> rfl) bi_eql) (fun _ => rfl) (fun hz => ?_) (fun hz => ?_)
          · try simp only [bl] at hz
            refine OSuf.aopT tyOK rfl (so_pick (by simp only [lk] <;> rfl) (by simp only [lk, cond_true, cond_false] <;> rfl)) (fun _ => rfl) rfl <| OSuf.nil <| SQ.normal ?_
            refine W.yes (by simp only [lk] <;> rfl) <| W.seq <| W.reg <| OSuf.aop tyOK rfl (so_load (by simp only [lk] <;> rfl) (by simp (disch := first | assumption | omega | (simp only [nx] <;> omega) | fail) only [aLoad, ty64, rowOf, hpl, hmap2, Value.cells, places, ty23, ty29, ty3, ty34, ty4, ty55, ty57, ty60, ty64, r2, r3, hgm] <;> rfl)) rfl <| OSuf.aop tyOK rfl (so_fieldAddr (by simp only [lk] <;> rfl) (fa_ok (k := 0) ty60 rfl rfl ty29 rfl rfl)) rfl <| OSuf.aop tyOK rfl (so_load (by simp only [lk] <;> rfl) (by simp (disch := first | assumption | omega | (simp only [nx] <;> omega) | fail) only [aLoad, ty29, rowOf, hpl, hmap2, Value.cells, places, ty23, ty29, ty3, ty34, ty4, ty55, ty57, ty60, ty64, r2, r3, hgm] <;> rfl)) rfl <| OSuf.aop tyOK rfl (so_mapUpdate (by simp only [lk] <;> rfl) (by simp only [lk] <;> rfl) (by simp only [lk] <;> rfl) (mu_new tyOK ty64 rfl ty29 rfl (by simp (disch := first | assumption | omega | (simp only [nx] <;> omega) | fail) only [aCells, rowOf, hpl, hmap2, Value.cells, places, ty23, ty29, ty3, ty34, ty4, ty55, ty57, ty60, ty64, r2, r3, hgm] <;> first | rfl | exact hgm) (idx_not (l := l ++ N) (x := p.key.1) (by intro hm; simp [cntG, hm] at hz)))) rfl <| OSuf.nil <| SQ.normal ?_
            refine W.reg <| OSuf.aop tyOK rfl (so_load (by simp only [lk] <;> rfl) (by simp (disch := first | assumption | omega | (simp only [nx] <;> omega) | fail) only [aLoad, ty34, rowOf, hpl, hmap2, Value.cells, places, ty23, ty29, ty3, ty34, ty4, ty55, ty57, ty60, ty64, r2, r3, hgm] <;> rfl)) rfl <| OSuf.aop tyOK rfl (so_fieldAddr (by simp only [lk] <;> rfl) (fa_ok (k := 0) ty60 rfl rfl ty29 rfl rfl)) rfl <| OSuf.aop tyOK rfl (so_load (by simp only [lk] <;> rfl) (by simp (disch := first | assumption | omega | (simp only [nx] <;> omega) | fail) only [aLoad, ty29, rowOf, hpl, hmap2, Value.cells, places, ty23, ty29, ty3, ty34, ty4, ty55, ty57, ty60, ty64, r2, r3, hgm] <;> rfl)) rfl <| OSuf.vcall rfl (by simp only [lk] <;> rfl) (by simp only [aopnds, lk] <;> rfl) (take_v (ih (more S (l ++ N ++ [(p.key.1, I64 1, clk')])) (by have a1 := more_lt (l := l ++ N) hp (by intro hm; simp [cntG, hm] at hz) clk'; have a2 := more_le S l N; omega)) (x := p.key.1) (TS.add hT2 (by intro hm; simp [cntG, hm] at hz) (by simp only [nx]; omega) (by simp (disch := first | assumption | omega | (simp only [nx] <;> omega) | fail) only [hpl]) (by simp (disch := first | assumption | omega | (simp only [nx] <;> omega) | fail) only [hpl]) (by simp (disch := first | assumption | omega | (simp only [nx] <;> omega) | fail) only [hpl]) (by simp (disch := first | assumption | omega | (simp only [nx] <;> omega) | fail) only [hpl]) (by simp (disch := first | assumption | omega | (simp only [nx] <;> omega) | fail) only [hpl]) (by simp (disch := first | assumption | omega | (simp only [nx] <;> omega) | fail) only [hpl])) (Nat.le_refl _)) ?_
            rintro _ h3 ⟨N2, clk2, hT3, hn3, hf3, hre3, hcl3⟩
            refine ⟨_, rfl, ?_⟩
            refine OSuf.nil <| BQ.normal <| ?_
            have hon' : p.key.2 = x := by simpa using hon
            have hh' : p.hangs = true := by simpa using hh
            have hst : Reach S.ps x p.key.1 := Reach.refl.step hp hh' hon'
            have eN : l ++ N ++ [(p.key.1, I64 1, clk')] ++ N2 = l ++ (N ++ [(p.key.1, I64 1, clk')] ++ N2) := by simp
            rw [eN] at hT3 hcl3
            simp only [nx] at hn3 hf3
            have hn1 := hI.n
            have inN : ∀ z, z ∈ gk (l ++ N) → z ∈ gk (l ++ (N ++ [(p.key.1, I64 1, clk')] ++ N2)) := fun z hz => by rw [← eN]; simp only [gk_append, List.mem_append] at hz ⊢; exact .inl (.inl hz)
            have inP : p.key.1 ∈ gk (l ++ (N ++ [(p.key.1, I64 1, clk')] ++ N2)) := by simp [gk]
            refine LQ.normal (m := n - 1) (L := [(0, U64 x), (1, P0 bd), (2, P0 bg), (3, P0 bt), (11, P0 h.next)]) (by omega) ?_ ⟨seen.push p.born, N ++ [(p.key.1, I64 1, clk')] ++ N2, clk2, ⟨by simp; omega, seen_push hI.nd hns, fun b hb => ?_, by omega, ?_, hT3, fun z hz hg => ?_, fun y hy => ?_, fun q hq h1 h2 => ?_, fun q hq h1 h2 h3 => ?_⟩, rfl⟩
            · simp only [HasA, Tr.get_put, Nat.reduceEqDiff, reduceIte, and_self]
            · rcases mem_push.1 hb with h9 | h9
              · exact hI.sub b h9
              · exact h9 ▸ List.mem_map.2 ⟨p, hp, rfl⟩
            · rw [hf3 h.next (by omega) n7]; simp (disch := first | assumption | omega | (simp only [nx] <;> omega) | fail) only [hpl]
            · have a' : ¬ h.next = z := by omega
              rw [hf3 z (by omega) hg]; simp (disch := first | assumption | omega | (simp only [nx] <;> omega) | fail) only [hpl]; exact hI.fr z hz hg
            · rcases List.mem_append.1 hy with h9 | h9
              · rcases List.mem_append.1 h9 with h9 | h9
                · exact hI.re y h9
                · simp at h9; subst h9; exact ⟨hst, p, hp, rfl⟩
              · exact ⟨hst.trans (hre3 y h9).1, (hre3 y h9).2⟩
            · simp only [gk_append, List.mem_append] at h2
              rcases h2 with (h9 | h9) | h9
              · exact inN _ (hI.cl q hq h1 h9)
              · simp [gk] at h9; exact hcl3 q hq h1 (.inl h9)
              · exact hcl3 q hq h1 (.inr h9)
            · rcases mem_push.1 h1 with h9 | h9
              · exact inN _ (hI.dn q hq h9 h2 h3)
              · have := inj_nodup Pr.born hA.borns hq hp h9
                subst this; exact inP
          · try simp only [bl] at hz
            refine OSuf.aopF tyOK rfl (so_pick (by simp only [lk] <;> rfl) (by simp only [lk, cond_true, cond_false] <;> rfl)) (fun _ => rfl) rfl <| OSuf.nil <| SQ.normal ?_
            refine W.no (by simp only [lk] <;> rfl) <| CWp.skip <| BQ.normal <| ?_
            refine LQ.normal (m := n - 1) (L := [(0, U64 x), (1, P0 bd), (2, P0 bg), (3, P0 bt), (11, P0 h.next)]) (by omega) ?_ ⟨_, N, clk', hI.skip hp hns hA.borns (fun _ _ => ?_) (by simp only [nx]; omega) (by simp (disch := first | assumption | omega | (simp only [nx] <;> omega) | fail) only [hpl]) (fun z hz a => ?_) hlo, rfl⟩
            · simp only [HasA, Tr.get_put, Nat.reduceEqDiff, reduceIte, and_self]
            · refine Classical.byContradiction fun hm => ?_
              simp [cntG, hm] at hz
            · have a' : ¬ h.next = z := fun e => a e.symm
              simp (disch := first | assumption | omega | (simp only [nx] <;> omega) | fail) only [hpl]
        · try simp only [bl] at hon
          refine OSuf.aopF tyOK rfl (so_pick (by simp only [lk] <;> rfl) (by simp only [lk, cond_true, cond_false] <;> rfl)) (fun _ => rfl) rfl <| OSuf.aopF tyOK rfl sm (fun _ => rfl) rfl <| OSuf.pass ag rfl <| OSuf.pass ag rfl <| OSuf.pass ag rfl <| OSuf.pass ag rfl <| OSuf.pass ag rfl <| OSuf.aopF tyOK rfl (so_pick (by simp only [lk] <;> rfl) (by simp only [lk, cond_true, cond_false] <;> rfl)) (fun _ => rfl) rfl <| OSuf.nil <| SQ.normal ?_
          refine W.no (by simp only [lk] <;> rfl) <| CWp.skip <| BQ.normal <| ?_
          refine LQ.normal (m := n - 1) (L := [(0, U64 x), (1, P0 bd), (2, P0 bg), (3, P0 bt), (11, P0 h.next)]) (by omega) ?_ ⟨_, N, clk', hI.skip hp hns hA.borns (fun _ e => by simp [e] at hon) (by simp only [nx]; omega) (by simp (disch := first | assumption | omega | (simp only [nx] <;> omega) | fail) only [hpl]) (fun z hz a => ?_) hlo, rfl⟩
          · simp only [HasA, Tr.get_put, Nat.reduceEqDiff, reduceIte, and_self]
          · have a' : ¬ h.next = z := fun e => a e.symm
            simp (disch := first | assumption | omega | (simp only [nx] <;> omega) | fail) only [hpl]
      · try simp only [bl] at hh
        refine OSuf.aop tyOK rfl (so_alloc (by simp only [aAlloc, ty60] <;> rfl)) rfl <| OSuf.aop tyOK rfl (so_store (by simp only [lk] <;> rfl) (by simp only [lk] <;> rfl) (by simp (disch := first | assumption | omega | (simp only [nx] <;> omega) | fail) only [aStore, ty60, writeRow, hpl, hmap2, Value.cells, places, ty23, ty29, ty3, ty34, ty4, ty55, ty57, ty60, ty64, r2, r3, hgm] <;> rfl)) rfl <| OSuf.aopF tyOK rfl (so_assign (by simp only [lk] <;> rfl)) (fun _ => rfl) rfl <| OSuf.nil <| SQ.normal ?_
        refine W.seq <| W.reg <| OSuf.aopF tyOK rfl sm (fun _ => rfl) rfl <| OSuf.aopF tyOK rfl sm (fun _ => rfl) rfl <| OSuf.pass ag rfl <| OSuf.pass ag rfl <| OSuf.pass ag rfl <| OSuf.pass ag rfl <| OSuf.aopF tyOK rfl (so_pick (by simp only [lk] <;> rfl) (by simp only [lk, cond_true, cond_false] <;> rfl)) (fun _ => rfl) rfl <| OSuf.aopF tyOK rfl sm (fun _ => rfl) rfl <| OSuf.pass ag rfl <| OSuf.pass ag rfl <| OSuf.pass ag rfl <| OSuf.pass ag rfl <| OSuf.pass ag rfl <| OSuf.aopF tyOK rfl (so_pick (by simp only [lk] <;> rfl) (by simp only [lk, cond_true, cond_false] <;> rfl)) (fun _ => rfl) rfl <| OSuf.nil <| SQ.normal ?_
        refine W.no (by simp only [lk] <;> rfl) <| CWp.skip <| BQ.normal <| ?_
        refine LQ.normal (m := n - 1) (L := [(0, U64 x), (1, P0 bd), (2, P0 bg), (3, P0 bt), (11, P0 h.next)]) (by omega) ?_ ⟨_, N, clk', hI.skip hp hns hA.borns (fun e _ => by simp [e] at hh) (by simp only [nx]; omega) (by simp (disch := first | assumption | omega | (simp only [nx] <;> omega) | fail) only [hpl]) (fun z hz a => ?_) hlo, rfl⟩
        · simp only [HasA, Tr.get_put, Nat.reduceEqDiff, reduceIte, and_self]
        · have a' : ¬ h.next = z := fun e => a e.symm
          simp (disch := first | assumption | omega | (simp only [nx] <;> omega) | fail) only [hpl]
  rintro L a' h2 ha hq
  refine FQ.normal (by simp only [aRet, Try.f27, aResults] <;> rfl) ?_
  exact hq
theorem take_c (bd bg bt r g : Nat) (S : DS) : ∀ n, TakeC bd bg bt r g S n := fun n => by
  induction n using Nat.strongRecOn with
  | _ n ih => exact take_step bd bg bt r g S n ih

def goneD (l : GL) (p : Pr) : Bool := decide (p.key.1 ∈ gk l) || decide (p.key.2 ∈ gk l)
theorem gone2_c (h : AHeap) (bg g clk : Nat) (l : GL) (hb : bg < h.next) (hg : g < h.next) (rbg : h.get bg = some (.cells [.map (some g)] 1)) (hm : h.get g = some (.map (mkE .u64 l) clk)) (hones : ∀ x ∈ l, x.2.1 = I64 1) (p : Pr) (v : Value) :
    FWp Try.prog 29 [.agg #[U64 p.key.1, U64 p.key.2], v, P0 bg] h fun u h' => u = .bool (goneD l p) ∧ h' = h := by
  refine FWp.gcs ⟨fun _ => none, _, .bool _⟩ (W.enter tyOK Try.func29 rfl rfl ?_)
  simp only [entry]
  refine W.seq <| W.reg <| OSuf.aop tyOK rfl (so_box (by simp only [lk] <;> rfl)) rfl <| OSuf.aopF tyOK rfl (so_assign (by simp only [lk] <;> rfl)) (fun _ => rfl) rfl <| OSuf.nil <| SQ.normal ?_
  refine W.seq <| W.reg <| OSuf.aop tyOK rfl (so_load (by simp only [lk] <;> rfl) (by simp (disch := first | assumption | omega | (simp only [nx] <;> omega) | fail) only [aLoad, ty64, rowOf, hpl, Value.cells, rbg, hm] <;> rfl)) rfl <| OSuf.aop tyOK rfl (so_fieldAddr (by simp only [lk] <;> rfl) (fa_ok (k := 0) ty60 rfl rfl ty29 rfl rfl)) rfl <| OSuf.aop tyOK rfl (so_load (by simp only [lk] <;> rfl) (by simp (disch := first | assumption | omega | (simp only [nx] <;> omega) | fail) only [aLoad, ty29, rowOf, hpl, Value.cells, rbg, hm] <;> rfl)) rfl <| OSuf.aop tyOK rfl (so_lookup (by simp only [lk] <;> rfl) (by simp only [lk] <;> rfl) (lk_cnt ty64 rfl ty29 rfl ty3 rfl (by simp (disch := first | assumption | omega | (simp only [nx] <;> omega) | fail) only [aCells, rowOf, hpl, Value.cells, rbg, hm] <;> first | rfl | exact hm) hones)) rfl <| OSuf.aopB tyOK rfl (so_bin (by simp only [lk] <;> rfl) (by simp only [lk] <;> rfl) bi_gtr) (fun _ => rfl) (fun h1 => ?_) (fun h1 => ?_)
  · try simp only [bl] at h1
    refine OSuf.aopT tyOK rfl sm (fun _ => rfl) rfl <| OSuf.pass ag rfl <| OSuf.pass ag rfl <| OSuf.pass ag rfl <| OSuf.pass ag rfl <| OSuf.pass ag rfl <| OSuf.aopT tyOK rfl (so_pick (by simp only [lk] <;> rfl) (by simp only [lk, cond_true, cond_false] <;> rfl)) (fun _ => rfl) rfl <| OSuf.aopT tyOK rfl (so_assign (by simp only [lk] <;> rfl)) (fun _ => rfl) rfl <| OSuf.nil <| SQ.normal ?_
    refine CWp.ret <| FQ.ret (by simp only [aRet, Try.f29, aResults, aResult, lk, Nat.reduceEqDiff, reduceIte] <;> rfl) ?_
    have : p.key.1 ∈ gk l := Classical.byContradiction fun hn => by simp [cntG, hn] at h1
    refine ⟨by simp [goneD, this], fun z o hz ho => ?_⟩
    simp (disch := first | assumption | omega | (simp only [nx] <;> omega) | fail) only [hpl]; exact ho
  · try simp only [bl] at h1
    refine OSuf.aopF tyOK rfl sm (fun _ => rfl) rfl <| OSuf.aop tyOK ag (so_load (by simp only [lk] <;> rfl) (by simp (disch := first | assumption | omega | (simp only [nx] <;> omega) | fail) only [aLoad, ty64, rowOf, hpl, Value.cells, rbg, hm] <;> rfl)) rfl <| OSuf.aop tyOK ag (so_fieldAddr (by simp only [lk] <;> rfl) (fa_ok (k := 1) ty60 rfl rfl ty29 rfl rfl)) rfl <| OSuf.aop tyOK ag (so_load (by simp only [lk] <;> rfl) (by simp (disch := first | assumption | omega | (simp only [nx] <;> omega) | fail) only [aLoad, ty29, rowOf, hpl, Value.cells, rbg, hm] <;> rfl)) rfl <| OSuf.aop tyOK ag (so_lookup (by simp only [lk] <;> rfl) (by simp only [lk] <;> rfl) (lk_cnt ty64 rfl ty29 rfl ty3 rfl (by simp (disch := first | assumption | omega | (simp only [nx] <;> omega) | fail) only [aCells, rowOf, hpl, Value.cells, rbg, hm] <;> first | rfl | exact hm) hones)) rfl <| OSuf.aop tyOK ag (so_bin (by simp only [lk] <;> rfl) (by simp only [lk] <;> rfl) bi_gtr) rfl <| OSuf.aop tyOK rfl (so_pick (by simp only [lk] <;> rfl) (by simp only [lk, cond_true, cond_false] <;> rfl)) rfl <| OSuf.aop tyOK rfl (so_assign (by simp only [lk] <;> rfl)) rfl <| OSuf.nil <| SQ.normal ?_
    refine CWp.ret <| FQ.ret (by simp only [aRet, Try.f29, aResults, aResult, lk, Nat.reduceEqDiff, reduceIte] <;> rfl) ?_
    have a1 : ¬ p.key.1 ∈ gk l := fun hn => by simp [cntG, hn] at h1
    refine ⟨?_, fun z o hz ho => ?_⟩
    · by_cases hm2 : p.key.2 ∈ gk l <;> simp [goneD, cntG, hm2, a1]
    · simp (disch := first | assumption | omega | (simp only [nx] <;> omega) | fail) only [hpl]; exact ho

theorem delfn_c (h : AHeap) (r : Nat) (S : DS) (hA : DA h r S) (fv : Value) (D : Pr → Bool)
    (hf : ∀ h', h.next ≤ h'.next → (∀ z, z < h.next → ¬ S.m = z → h'.get z = h.get z) → ∀ p ∈ S.ps, VWp Try.prog fv [.agg #[U64 p.key.1, U64 p.key.2], .bool p.hangs] h' fun u h'' => u = .bool (D p) ∧ h'' = h') :
    FWp Try.prog 28 [.map (some S.m), fv] h fun u h' => DA h' r ⟨S.ps.filter (fun p => !D p), S.clock, S.m⟩ ∧ FrD h h' S := by
  have hrow := hA.row
  have hmap := hA.map
  have hl := hA.lt
  have hml := hA.mlt
  have hrm := hA.rm
  have e0 : S.ps.filter (keepD D #[]) = S.ps := List.filter_eq_self.2 fun p _ => by simp [keepD]
  refine W.enter tyOK Try.func28 rfl rfl ?_
  simp only [entry]
  refine W.seq <| W.reg <| OSuf.aop tyOK rfl sm rfl <| OSuf.aop tyOK rfl (so_range (by simp only [lk] <;> rfl) (by simp (disch := first | assumption | omega | (simp only [nx] <;> omega) | fail) only [aRange, ty55, hpl, hrow, hmap] <;> rfl)) rfl <| OSuf.nil <| SQ.normal ?_
  -- leaf: loop
  refine W.cut (fun L h' => DA h' r ⟨S.ps.filter (fun p => !D p), S.clock, S.m⟩ ∧ FrD h h' S) (W.block (W.loop (fun n L h' => ∃ seen, It h h' r h.next S D seen n ∧ L = [(0, .map (some S.m)), (1, fv), (7, P0 h.next)]) (n := S.ps.length)
    ⟨#[], ⟨by simp, by simp, by simp, ?_, by simp, by omega, AHeap.get_new_same _ _, by simp, fun z hz _ => AHeap.get_new_ne (by omega)⟩, rfl⟩ ?_ ?_)) ?_
  · rw [e0]; exact hA.mono (by simp) (AHeap.get_new_ne (by omega)) (AHeap.get_new_ne (by omega))
  · simp [HasA, Tr.get_put]
  · rintro n L h2 ⟨seen, hI, rfl⟩
    simp only [mkA]
    have hda := hI.da
    have hmap2 : h2.get S.m = some (.map (mkK encP ((S.ps.filter (keepD D seen)).map Pr.ent)) S.clock) := hda.map
    have hlt2 := hda.lt
    have hmlt2 : S.m < h2.next := hda.mlt
    have hIlt := hI.lt
    have hInx := hI.nx
    have g1 : ¬ h.next = r := by omega
    have g2 : ¬ h.next = S.m := by omega
    have g3 : ¬ S.m = h.next := by omega
    have g4 : ¬ r = h.next := by omega
    have g5 : ¬ S.m = r := fun e => hrm e.symm
    refine W.seq <| W.reg <| OSuf.next rfl (by simp only [lk] <;> rfl) hI.it hmap2 (it_condP hda.born) (fun he => ⟨_, rfl, ?_⟩) (fun e he => ⟨_, rfl, ?_⟩)
    · skip
      refine OSuf.aopF tyOK rfl (so_extract (by simp only [lk] <;> rfl) (by simp (disch := first | assumption | omega | (simp only [nx] <;> omega) | fail) only [aExtract, hpl, hmap2, Value.cells, places, ty4, ty55, ty60] <;> rfl)) (fun _ => rfl) (by first | rfl | assumption | ((simp only [bl, hmap2, Value.cells, places, ty4, ty55, ty60]) <;> first | done | assumption | omega) | (simp; done) | (simp; omega)) <| OSuf.nil <| SQ.normal ?_
      refine W.seq <| W.no (by simp only [lk] <;> rfl) <| CWp.exit <| SQ.exit <| LQ.exit <| BQ.exit <| ?_
      refine NQ.normal (L := []) trivial ⟨?_, hI.nx, hI.fr⟩
      rw [← keepD_done (it_doneP he hda.born)]; exact hda
    · skip
      obtain ⟨p, hp, hns, rfl⟩ := it_leftP he
      have hpS : p ∈ S.ps := (List.mem_filter.1 hp).1
      have hfind := it_findP hda.borns hp
      obtain ⟨j, hi, hj⟩ := idxK_mem (k := 0) (by rw [ent_key]; exact hda.keys) (List.mem_map.2 ⟨p, hp, rfl⟩)
      rw [Nat.zero_add] at hi
      refine OSuf.aopT tyOK rfl (so_extract (by simp only [lk] <;> rfl) (by simp (disch := first | assumption | omega | (simp only [nx] <;> omega) | fail) only [aExtract, hpl, hmap2, Value.cells, places, ty4, ty55, ty60] <;> rfl)) (fun _ => rfl) (by first | rfl | assumption | ((simp only [bl, hmap2, Value.cells, places, ty4, ty55, ty60]) <;> first | done | assumption | omega) | (simp; done) | (simp; omega)) <| OSuf.nil <| SQ.normal ?_
      refine W.seq <| W.yes (by simp only [lk] <;> rfl) <| CWp.skip <| SQ.normal ?_
      refine W.block <| W.seq <| W.reg <| OSuf.aop tyOK rfl (so_entry (by simp only [lk] <;> rfl) (en_ok (AHeap.get_set_same _ _ _) (by simp (disch := first | assumption | omega | (simp only [nx] <;> omega) | fail) only [aCells, rowOf, hpl, hmap2, Value.cells, places, ty4, ty55, ty60] <;> first | rfl | exact hmap2) hfind)) rfl <| OSuf.aop tyOK rfl (so_extract (by simp only [lk] <;> rfl) (by simp (disch := first | assumption | omega | (simp only [nx] <;> omega) | fail) only [aExtract, hpl, hmap2, Value.cells, places, ty4, ty55, ty60] <;> rfl)) rfl <| OSuf.aop tyOK rfl (so_extract (by simp only [lk] <;> rfl) (by simp (disch := first | assumption | omega | (simp only [nx] <;> omega) | fail) only [aExtract, hpl, hmap2, Value.cells, places, ty4, ty55, ty60] <;> rfl)) rfl <| OSuf.aop tyOK rfl (so_alloc (by simp only [aAlloc, ty60] <;> rfl)) rfl <| OSuf.aop tyOK rfl (so_store (by simp only [lk] <;> rfl) (by simp only [lk] <;> rfl) (by simp (disch := first | assumption | omega | (simp only [nx] <;> omega) | fail) only [aStore, ty60, writeRow, hpl, hmap2, Value.cells, places, ty4, ty55, ty60] <;> rfl)) rfl <| OSuf.aop tyOK rfl (so_assign (by simp only [lk] <;> rfl)) rfl <| OSuf.nil <| SQ.normal ?_
      refine W.seq <| W.reg <| OSuf.aop tyOK rfl sm rfl <| OSuf.aop tyOK rfl (so_load (by simp only [lk] <;> rfl) (by simp (disch := first | assumption | omega | (simp only [nx] <;> omega) | fail) only [aLoad, ty60, rowOf, hpl, hmap2, Value.cells, places, ty4, ty55, ty60] <;> rfl)) rfl <| OSuf.aop tyOK rfl sm rfl <| OSuf.vcallD rfl (by simp only [lk] <;> rfl) (by simp only [aopnds, lk] <;> rfl) (hf _ (by simp only [nx]; omega) (fun z hz hzm => by have a' : ¬ h.next = z := (by omega); have := hI.fr z hz hzm; simp (disch := first | assumption | omega | (simp only [nx] <;> omega) | fail) only [hpl]; exact this) p hpS) rfl <| OSuf.nil <| SQ.normal ?_
      refine CWp.ifs (by simp only [lk] <;> rfl) (fun hD => ?_) (fun hD => ?_)
      · skip
        refine W.reg <| OSuf.aop tyOK rfl sm rfl <| OSuf.aop tyOK rfl (so_load (by simp only [lk] <;> rfl) (by simp (disch := first | assumption | omega | (simp only [nx] <;> omega) | fail) only [aLoad, ty60, rowOf, hpl, hmap2, Value.cells, places, ty4, ty55, ty60] <;> rfl)) rfl <| OSuf.aop tyOK rfl (so_delete (by simp only [aopnds, lk] <;> rfl) (kd_some keyP (a := p.key) rfl ty55 rfl (by simp (disch := first | assumption | omega | (simp only [nx] <;> omega) | fail) only [aCells, rowOf, hpl, hmap2, Value.cells, places, ty4, ty55, ty60] <;> first | rfl | exact hmap2) hi)) rfl <| OSuf.nil <| BQ.normal <| ?_
        rw [erase_ent hda.keys hj]
        refine LQ.normal (m := n - 1) (L := [(0, .map (some S.m)), (1, fv), (7, P0 h.next)]) (by have := hI.lt_of hpS hns; omega) ?_ ⟨_, hI.del hpS hns hA.borns hA.keys (by simpa using hD) (by simp only [nx]; omega) (by simp (disch := first | assumption | omega | (simp only [nx] <;> omega) | fail) only [hpl]) (by simp (disch := first | assumption | omega | (simp only [nx] <;> omega) | fail) only [hpl]) (fun z hz a b => ?_) hl hml, rfl⟩
        · simp only [HasA, Tr.get_put, Nat.reduceEqDiff, reduceIte, and_self]
        · have a' : ¬ h.next = z := fun e => a e.symm
          have b' : ¬ S.m = z := fun e => b e.symm
          simp (disch := first | assumption | omega | (simp only [nx] <;> omega) | fail) only [hpl]
      · skip
        refine CWp.skip <| BQ.normal <| ?_
        refine LQ.normal (m := n - 1) (L := [(0, .map (some S.m)), (1, fv), (7, P0 h.next)]) (by have := hI.lt_of hpS hns; omega) ?_ ⟨_, hI.keep hpS hns hA.borns (by simpa using hD) (by simp only [nx]; omega) (by simp (disch := first | assumption | omega | (simp only [nx] <;> omega) | fail) only [hpl]) (fun z hz a => ?_) hl hml, rfl⟩
        · simp only [HasA, Tr.get_put, Nat.reduceEqDiff, reduceIte, and_self]
        · have a' : ¬ h.next = z := fun e => a e.symm
          simp (disch := first | assumption | omega | (simp only [nx] <;> omega) | fail) only [hpl]
  rintro L a' h2 ha ⟨hA2, hF2⟩
  refine FQ.normal (by simp only [aRet, Try.f28, aResults] <;> rfl) ?_
  exact ⟨hA2, hF2⟩

theorem nodup_lenI : ∀ {a b : List Int}, a.Nodup → (∀ x ∈ a, x ∈ b) → a.length ≤ b.length
  | [], b, _, _ => Nat.zero_le _
  | x :: a, b, hn, hs => by
    have hx := hs x List.mem_cons_self
    have hn' := List.nodup_cons.1 hn
    have := nodup_lenI (a := a) (b := b.erase x) hn'.2 (fun y hy => (List.mem_erase_of_ne (fun e => hn'.1 (by rw [← e]; exact hy))).2 (hs y (List.mem_cons_of_mem _ hy)))
    rw [List.length_erase_of_mem hx] at this
    have : 0 < b.length := List.length_pos_of_mem hx
    simp; omega
theorem lt_of_sorted : ∀ {l : List Int}, l.Pairwise (· ≤ ·) → l.Nodup → l.Pairwise (· < ·)
  | [], _, _ => .nil
  | x :: l, hs, hn => by
    have h1 := List.pairwise_cons.1 hs
    have h2 := List.nodup_cons.1 hn
    refine List.pairwise_cons.2 ⟨fun y hy => ?_, lt_of_sorted h1.2 h2.2⟩
    have := h1.1 y hy
    have : x ≠ y := fun e => h2.1 (e ▸ hy)
    omega
/-- Whether one of a pair is among some. -/
def inG (ts : Int) (G : List Int) (p : Pr) : Bool := decide (p.key.1 ∈ ts :: G) || decide (p.key.2 ∈ ts :: G)
structure GoneR (h h' : AHeap) (r : Nat) (S : DS) (ts : Int) (u : Value) (G : List Int) : Prop where
  reach : ∀ y, y ∈ ts :: G ↔ Reach S.ps ts y
  nts : ts ∉ G
  sorted : G.Pairwise (· < ·)
  sub : ∀ y ∈ G, ∃ p ∈ S.ps, p.key.1 = y
  out : SortU.OutAt h' h.next G u
  da : DA h' r ⟨S.ps.filter (fun p => !inG ts G p), S.clock, S.m⟩
  fr : FrD h h' S
theorem mapN (N : GL) (clk : Nat) {x : Int × Value × Nat} (h1 : ∀ y ∈ [x] ++ N, y.2.2 < clk) (h2 : (([x] ++ N).map (·.2.2)).Nodup) : SortU.MapOK N clk := by
  have h2 : (N.map (·.2.2)).Nodup := (List.nodup_cons.1 h2).2
  refine ⟨fun y hy => h1 y (List.mem_append.2 (.inr hy)), fun y hy z hz e => inj_nodup _ h2 hy hz e, ?_⟩
  have : ∀ l : GL, (l.map (·.2.2)).Nodup → l.Nodup := by
    intro l
    induction l with
    | nil => intro _; exact List.nodup_nil
    | cons y l ih =>
      intro h
      simp only [List.map_cons, List.nodup_cons] at h
      exact List.nodup_cons.2 ⟨fun hm => h.1 (List.mem_map.2 ⟨y, hm, rfl⟩), ih h.2⟩
  exact this N h2
theorem lenN (N : GL) {x : Int × Value × Nat} {S : DS} {ts : Int} (h1 : (gk ([x] ++ N)).Nodup) (h2 : ∀ y ∈ N, Reach S.ps ts y.1 ∧ ∃ p ∈ S.ps, p.key.1 = y.1) (hb : S.ps.length ≤ 1000000) : N.length ≤ 1000000 := by
  have h1 : (gk N).Nodup := (List.nodup_cons.1 h1).2
  have := nodup_lenI (b := S.ps.map fun p => p.key.1) h1 fun y hy => by
    obtain ⟨x, hx, rfl⟩ := List.mem_map.1 hy
    obtain ⟨_, p, hp, e⟩ := h2 x hx
    exact List.mem_map.2 ⟨p, hp, e⟩
  simp [gk] at this; omega
theorem gone_c (h : AHeap) (r : Nat) (S : DS) (hA : DA h r S) (ts : Int) (hbig : S.ps.length ≤ 1000000) :
    FWp Try.prog 16 [P0 r, U64 ts] h fun u h' => ∃ G, GoneR h h' r S ts u G := by
  have hrow := hA.row
  have hmap := hA.map
  have hl := hA.lt
  have hml := hA.mlt
  have hrm := hA.rm
  have hA1 : ∀ o, DA (h.new o) r S := fun o => hA.mono (by simp) (AHeap.get_new_ne (by omega)) (AHeap.get_new_ne (by omega))
  refine W.enter tyOK Try.func16 rfl rfl ?_
  simp only [entry]
  have c1 : ¬ r = h.next + 1 := by omega
  have c2 : ¬ S.m = h.next + 1 := by omega
  have lst : ∀ N : GL, [(ts, I64 1, 0)] ++ N = (ts, I64 1, 0) :: N := fun N => rfl
  have idx0 : ∀ N : GL, idxI ts ([(ts, I64 1, 0)] ++ N) 0 = some (0, I64 1) := fun N => by simp [idxI]
  refine W.seq <| W.reg <| OSuf.aop tyOK rfl (so_box (by simp only [lk] <;> rfl)) rfl <| OSuf.aop tyOK rfl (so_assign (by simp only [lk] <;> rfl)) rfl <| OSuf.nil <| SQ.normal ?_
  refine W.seq <| W.seq <| W.reg <| OSuf.aop tyOK rfl (so_load (by simp only [lk] <;> rfl) (by simp (disch := first | assumption | omega | (simp only [nx] <;> omega) | fail) only [aLoad, ty23, rowOf, hpl, hrow, hmap, Value.cells, places, ty23, ty29, ty3, ty34, ty55, ty57, ty64] <;> rfl)) rfl <| OSuf.callD rfl (by simp only [aopnds, lk] <;> rfl) en26 (none_c _ r S (hA1 _)) rfl <| OSuf.nil <| SQ.normal ?_
  refine W.no (by simp only [lk] <;> rfl) <| CWp.skip <| SQ.normal ?_
  refine W.seq <| W.reg <| OSuf.aop tyOK rfl (so_makeMap) rfl <| OSuf.aop tyOK rfl sm rfl <| OSuf.aop tyOK rfl (so_insert (by simp only [lk] <;> rfl) (by simp only [lk] <;> rfl) (by simp only [lk] <;> rfl) (mu_new tyOK ty64 rfl ty29 rfl (l := []) (by simp (disch := first | assumption | omega | (simp only [nx] <;> omega) | fail) only [aCells, rowOf, hpl, hrow, hmap, Value.cells, places, ty23, ty29, ty3, ty34, ty55, ty57, ty64] <;> rfl) rfl)) rfl <| OSuf.aop tyOK rfl sm rfl <| OSuf.aop tyOK rfl (so_alloc (by simp only [aAlloc, ty64] <;> rfl)) rfl <| OSuf.aop tyOK rfl (so_store (by simp only [lk] <;> rfl) (by simp only [lk] <;> rfl) (by simp (disch := first | assumption | omega | (simp only [nx] <;> omega) | fail) only [aStore, ty64, writeRow, hpl, hrow, hmap, Value.cells, places, ty23, ty29, ty3, ty34, ty55, ty57, ty64] <;> rfl)) rfl <| OSuf.nil <| SQ.normal ?_
  refine W.seq <| W.reg <| OSuf.aop tyOK rfl (so_alloc (by simp only [aAlloc, ty34] <;> rfl)) rfl <| OSuf.nil <| SQ.normal ?_
  refine W.seq <| W.reg <| OSuf.aop tyOK rfl (so_makeFunc rfl (by simp only [aopnds, lk] <;> rfl) (by simp only [aopnds, lk] <;> rfl)) rfl <| OSuf.aop tyOK rfl (so_store (by simp only [lk] <;> rfl) (by simp only [lk] <;> rfl) (by simp (disch := first | assumption | omega | (simp only [nx] <;> omega) | fail) only [aStore, ty34, writeRow, hpl, hrow, hmap, Value.cells, places, ty23, ty29, ty3, ty34, ty55, ty57, ty64] <;> rfl)) rfl <| OSuf.nil <| SQ.normal ?_
  refine W.seq <| W.reg <| OSuf.aop tyOK rfl (so_load (by simp only [lk] <;> rfl) (by simp (disch := first | assumption | omega | (simp only [nx] <;> omega) | fail) only [aLoad, ty34, rowOf, hpl, hrow, hmap, Value.cells, places, ty23, ty29, ty3, ty34, ty55, ty57, ty64] <;> rfl)) rfl <| OSuf.aop tyOK rfl sm rfl <| OSuf.vcall rfl (by simp only [lk] <;> rfl) (by simp only [aopnds, lk] <;> rfl) (take_v (take_c h.next (h.next + 2) (h.next + 3) r (h.next + 1) S (more S [(ts, I64 1, 0)])) (l := [(ts, I64 1, 0)]) (clk := 1) ⟨hA.mono (by simp only [nx]; omega) (by simp (disch := first | assumption | omega | (simp only [nx] <;> omega) | fail) only [hpl]) (by simp (disch := first | assumption | omega | (simp only [nx] <;> omega) | fail) only [hpl]), by simp only [nx]; omega, by omega, by simp (disch := first | assumption | omega | (simp only [nx] <;> omega) | fail) only [hpl] <;> rfl, by simp (disch := first | assumption | omega | (simp only [nx] <;> omega) | fail) only [hpl] <;> rfl, by simp (disch := first | assumption | omega | (simp only [nx] <;> omega) | fail) only [hpl] <;> rfl, by simp (disch := first | assumption | omega | (simp only [nx] <;> omega) | fail) only [hpl] <;> rfl, by simp, by simp, by simp [gk], by simp⟩ (Nat.le_refl _)) ?_
  rintro _ h3 ⟨N, clk', hT3, hn3, hf3, hre, hcl⟩
  simp only [nx] at hn3 hf3
  have hda3 := hT3.da
  have d1 := hT3.rbd
  have d2 := hda3.row
  have d3 := hT3.rbg
  have d4 := hT3.map
  have dn : h.next + 4 ≤ h3.next := (by omega)
  have dm := hda3.mlt
  refine ⟨_, rfl, ?_⟩
  refine OSuf.nil <| SQ.normal ?_
  refine W.seq <| W.reg <| OSuf.aop tyOK rfl (so_load (by simp only [lk] <;> rfl) (by simp (disch := first | assumption | omega | (simp only [nx] <;> omega) | fail) only [aLoad, ty23, rowOf, hpl, hrow, hmap, Value.cells, places, ty23, ty29, ty3, ty34, ty55, ty57, ty64, d1, d2, d3, d4, Value.cells] <;> rfl)) rfl <| OSuf.aop tyOK rfl (so_nilCheck (by simp only [lk] <;> rfl)) rfl <| OSuf.aop tyOK rfl (so_fieldAddr (by simp only [lk] <;> rfl) (fa_ok (k := 0) ty57 rfl rfl ty55 rfl rfl)) rfl <| OSuf.aop tyOK rfl (so_load (by simp only [lk] <;> rfl) (by simp (disch := first | assumption | omega | (simp only [nx] <;> omega) | fail) only [aLoad, ty55, rowOf, hpl, hrow, hmap, Value.cells, places, ty23, ty29, ty3, ty34, ty55, ty57, ty64, d1, d2, d3, d4, Value.cells] <;> rfl)) rfl <| OSuf.aop tyOK rfl (so_makeFunc rfl (by simp only [aopnds, lk] <;> rfl) (by simp only [aopnds, lk] <;> rfl)) rfl <| OSuf.call rfl (by simp only [aopnds, lk] <;> rfl) en28 (delfn_c h3 r S hda3 (.func (.func 29) #[] #[P0 (h.next + 2)]) (goneD ([(ts, I64 1, 0)] ++ N)) (fun h' e1 e2 p hp => VWp.func en29 (gone2_c h' (h.next + 2) (h.next + 1) clk' _ (by omega) (by omega) (by rw [e2 _ (by omega) (by omega)]; exact d3) (by rw [e2 _ (by omega) (by omega)]; exact d4) hT3.ones p _))) ?_
  rintro _ h4 ⟨hA4, hF4⟩
  have q1 : h4.get (h.next + 2) = some (.cells [.map (some (h.next + 1))] 1) := (by rw [hF4.2 _ (by omega) (by omega)]; exact d3)
  have q2 : h4.get (h.next + 1) = some (.map (mkE .u64 ([(ts, I64 1, 0)] ++ N)) clk') := (by rw [hF4.2 _ (by omega) (by omega)]; exact d4)
  have qn := hF4.1
  refine ⟨_, rfl, ?_⟩
  refine OSuf.nil <| SQ.normal ?_
  refine W.seq <| W.reg <| OSuf.aop tyOK rfl (so_load (by simp only [lk] <;> rfl) (by simp (disch := first | assumption | omega | (simp only [nx] <;> omega) | fail) only [aLoad, ty64, rowOf, hpl, hrow, hmap, Value.cells, places, ty23, ty29, ty3, ty34, ty55, ty57, ty64, d1, d2, d3, d4, Value.cells, q1, q2, Value.cells] <;> rfl)) rfl <| OSuf.aop tyOK rfl sm rfl <| OSuf.aop tyOK rfl (so_delete (by simp only [aopnds, lk] <;> rfl) (de_some tyOK rfl ty64 rfl ty29 rfl (by simp (disch := first | assumption | omega | (simp only [nx] <;> omega) | fail) only [aCells, rowOf, hpl, hrow, hmap, Value.cells, places, ty23, ty29, ty3, ty34, ty55, ty57, ty64, d1, d2, d3, d4, Value.cells, q1, q2, Value.cells] <;> first | rfl | exact q2) (idx0 N))) rfl <| OSuf.nil <| SQ.normal ?_
  refine W.seq <| W.reg <| OSuf.aop tyOK rfl (so_load (by simp only [lk] <;> rfl) (by simp (disch := first | assumption | omega | (simp only [nx] <;> omega) | fail) only [aLoad, ty64, rowOf, hpl, hrow, hmap, Value.cells, places, ty23, ty29, ty3, ty34, ty55, ty57, ty64, d1, d2, d3, d4, Value.cells, q1, q2, Value.cells] <;> rfl)) rfl <| OSuf.callD rfl (by simp only [aopnds, lk] <;> rfl) en31 (SortU.keys_c _ (h.next + 1)) rfl <| OSuf.call rfl (by simp only [aopnds, lk] <;> rfl) en30 (SortU.sorted_c _ h4.next (h.next + 1) clk' N (SortU.isI (gk N)) (mapN N clk' hT3.lt hT3.bn) (by simp only [nx]; omega) (by simp only [nx]; omega) (by simp (disch := first | assumption | omega | (simp only [nx] <;> omega) | fail) only [hpl]) (by simp (disch := first | assumption | omega | (simp only [nx] <;> omega) | fail) only [hpl]; rfl) (lenN N hT3.keys hre hbig) (SortU.isI_perm _) (SortU.isI_sorted _)) ?_
  rintro u h5 hres
  refine ⟨_, rfl, ?_⟩
  refine OSuf.aop tyOK rfl (so_assign (by simp only [lk] <;> rfl)) rfl <| OSuf.nil <| SQ.normal ?_
  refine CWp.ret <| FQ.ret (by simp only [aRet, Try.f16, aResults, aResult, lk, Nat.reduceEqDiff, reduceIte] <;> rfl) ?_
  -- leaf: end
  have keysN : (ts :: gk N).Nodup := hT3.keys
  have hp := SortU.isI_perm (gk N)
  have mem : ∀ y, y ∈ ts :: SortU.isI (gk N) ↔ y ∈ ts :: gk N := fun y => by simp only [List.mem_cons, hp.mem_iff]
  have hn5 : h4.next ≤ h5.next ∧ ∀ z, z < h4.next → ¬ z = h.next + 1 → h5.get z = h4.get z := by
    rcases hres with ⟨_, _, rfl⟩ | ⟨_, _, rfl⟩
    · refine ⟨by simp only [nx]; omega, fun z hz hne => ?_⟩
      have hne' : ¬ h.next + 1 = z := fun e => hne e.symm
      simp (disch := first | assumption | omega | (simp only [nx] <;> omega) | fail) only [hpl]
    · refine ⟨by simp only [nx]; omega, fun z hz hne => ?_⟩
      have hne' : ¬ h.next + 1 = z := fun e => hne e.symm
      simp (disch := first | assumption | omega | (simp only [nx] <;> omega) | fail) only [hpl]
  refine ⟨SortU.isI (gk N), fun y => ?_, fun hm => (List.nodup_cons.1 keysN).1 (hp.mem_iff.1 hm), lt_of_sorted (SortU.isI_sorted _) (hp.nodup_iff.2 (List.nodup_cons.1 keysN).2), fun y hy => ?_, ?_, ?_, ?_, ?_⟩
  · rw [mem]
    constructor
    · intro hy
      cases hy with
      | head => exact .refl
      | tail _ hy =>
        obtain ⟨x, hx, rfl⟩ := List.mem_map.1 hy
        exact (hre x hx).1
    · intro hy
      induction hy with
      | refl => exact List.mem_cons_self
      | step hr hp hh ho ih =>
        refine hcl _ hp hh ?_
        cases ih with
        | head => exact .inl ho
        | tail _ ih => exact .inr (ho ▸ ih)
  · obtain ⟨x, hx, rfl⟩ := List.mem_map.1 (hp.mem_iff.1 hy)
    exact (hre x hx).2
  · rcases hres with ⟨e, rfl, rfl⟩ | ⟨e, rfl, rfl⟩
    · exact .none e
    · refine .some e rfl ?_ ?_ ?_
      · simp only [nx]; omega
      · simp only [nx]; omega
      · simp (disch := first | assumption | omega | (simp only [nx] <;> omega) | fail) only [hpl]
  · have e : S.ps.filter (fun p => !inG ts (SortU.isI (gk N)) p) = S.ps.filter (fun p => !goneD ([(ts, I64 1, 0)] ++ N) p) := List.filter_congr fun p _ => by
      unfold inG goneD
      have e1 : gk ([(ts, I64 1, 0)] ++ N) = ts :: gk N := rfl
      rw [e1]; simp only [mem]
    rw [e]
    exact hA4.mono hn5.1 (hn5.2 r hA4.lt (by omega)) (hn5.2 S.m hA4.mlt (by omega))
  · have := hn5.1; omega
  · intro z hz hm
    rw [hn5.2 z (by omega) (by omega), hF4.2 z (by omega) hm, hf3 z (by omega) (by omega)]
    simp (disch := first | assumption | omega | (simp only [nx] <;> omega) | fail) only [hpl]

theorem gcX {P : Program} {h H : AHeap} {f : FuncId} {args : List Value} {n : Nat} {o : AObj} (hn : H.next = h.next) (hb : BO h.next o)
    (hf : FWp P f args h fun u h' => ∃ x, u = .slice (some ⟨x, 0, none⟩) n 0 ∧ h.next ≤ x ∧ h'.get x = some o ∧ ∀ r p, H.get r = some p → (h.get r = some p ∧ (r < h.next → h'.get r = some p)) ∨ (r < h.next ∧ h'.get r = some p ∧ BO h.next p)) :
    FWp P f args h fun u h' => u = .slice (some ⟨h.next, 0, none⟩) n 0 ∧ h' = H.new o := by
  intro μ args' w hl st
  refine (hf μ args' w hl st).mono ?_
  rintro e w' ⟨u, v', h', μ', rfl, ⟨x, rfl, hx, hg, hk⟩, ex, hr⟩
  obtain ⟨en, h1, h2⟩ := Ext.newOne st ex hn (fun r o ho => by
    rcases hk r o ho with ⟨a, b⟩ | ⟨a, b, c⟩
    · have := (st.live r o a).1; exact ⟨this, b this, .inl a⟩
    · exact ⟨a, b, .inr c⟩) hg hx hb
  refine ⟨_, v', _, _, rfl, ⟨rfl, rfl⟩, h2, ?_⟩
  cases hr with
  | sliceU hlt hm hl hc => rw [h1] at hm; cases hm; exact .sliceU (by simp [hn]) (Emb.upd_same _ _ _) hl hc
  | sliceZ hlt hm => rw [h1] at hm; cases hm; exact .sliceZ (by simp [hn]) (Emb.upd_same _ _ _)

/-! What is told of pairs, read out of a heap. -/
def unP : List AEnt → Option (List Pr)
  | [] => some []
  | e :: es => match e.key, e.val, unP es with
    | .agg cs, .bool b, some l => match cs.toList with
      | [.int .u64 x, .int .u64 y] => some (⟨(x, y), b, e.born⟩ :: l)
      | _ => none
    | _, _, _ => none
theorem unP_mk : ∀ {es : List AEnt} {l : List Pr}, unP es = some l → es = mkK encP (l.map Pr.ent)
  | [], l, h => by simp only [unP, Option.some.injEq] at h; subst h; rfl
  | e :: es, l, h => by
    simp only [unP] at h
    split at h
    · rename_i cs b l0 h1 h2 h3
      split at h
      · rename_i x y hc
        cases h
        rw [unP_mk h3]
        cases e
        simp only at h1 h2
        subst h1 h2
        have : cs = #[.int .u64 x, .int .u64 y] := Array.toList_inj.1 hc
        subst this; rfl
      · cases h
    · cases h
def nodupB {α : Type} [DecidableEq α] : List α → Bool
  | [] => true
  | x :: l => !decide (x ∈ l) && nodupB l
theorem nodupB_ok {α : Type} [DecidableEq α] : ∀ {l : List α}, nodupB l = true → l.Nodup
  | [], _ => List.nodup_nil
  | x :: l, h => by
    simp only [nodupB, Bool.and_eq_true, Bool.not_eq_true', decide_eq_false_iff_not] at h
    exact List.nodup_cons.2 ⟨h.1, nodupB_ok h.2⟩
def depsAt (h : AHeap) (r : Nat) : Option DS :=
  match h.get r with
  | some (.cells [.map (some m)] 1) => match h.get m with
    | some (.map es clock) => match unP es with
      | some l => bif (Nat.ble (r + 1) h.next && Nat.ble (m + 1) h.next && !Nat.beq r m) && (l.all (fun p => Nat.ble (p.born + 1) clock) && (nodupB (l.map Pr.born) && nodupB (l.map Pr.key))) then some ⟨l, clock, m⟩ else none
      | none => none
    | _ => none
  | _ => none
theorem depsAt_ok {h : AHeap} {r : Nat} {S : DS} (hs : depsAt h r = some S) : DA h r S := by
  unfold depsAt at hs
  split at hs
  · rename_i m hr
    split at hs
    · rename_i es clock hm
      split at hs
      · rename_i l hl
        cases hb : (Nat.ble (r + 1) h.next && Nat.ble (m + 1) h.next && !Nat.beq r m) && (l.all (fun p => Nat.ble (p.born + 1) clock) && (nodupB (l.map Pr.born) && nodupB (l.map Pr.key)))
        · rw [hb, cond_false] at hs; cases hs
        · rw [hb, cond_true] at hs
          cases hs
          simp only [Bool.and_eq_true, Bool.not_eq_true'] at hb
          obtain ⟨⟨⟨b1, b2⟩, b3⟩, b4, b5, b6⟩ := hb
          have b3' : ¬ r = m := fun e => by rw [e, Nat.beq_refl] at b3; cases b3
          refine ⟨Nat.le_of_ble_eq_true b1, Nat.le_of_ble_eq_true b2, b3', hr, by rw [← unP_mk hl]; exact hm, fun p hp => Nat.le_of_ble_eq_true (List.all_eq_true.1 b4 p hp), nodupB_ok b5, nodupB_ok b6⟩
      · cases hs
    · cases hs
  · cases hs
theorem bo_map (n : Nat) (ps : List Pr) (clock : Nat) : BO n (.map (mkK encP (ps.map Pr.ent)) clock) := by
  intro e he
  obtain ⟨x, hx, rfl⟩ := List.mem_map.1 he
  obtain ⟨p, hp, rfl⟩ := List.mem_map.1 hx
  exact BV.flat rfl
theorem set_rows {h h' : AHeap} {r : Nat} {S S' : DS} (hm : S'.m = S.m) (hA : DA h r S) (hA' : DA h' r S') (hF : FrD h h' S) : ∀ z o, (h.set S.m (.map (mkK encP (S'.ps.map Pr.ent)) S'.clock)).get z = some o →
    (h.get z = some o ∧ (z < h.next → h'.get z = some o)) ∨ (z < h.next ∧ h'.get z = some o ∧ BO h.next o) := by
  intro z o hz
  rw [AHeap.get_set] at hz
  split at hz
  · rename_i e; subst e
    cases hz
    exact .inr ⟨hA.mlt, by rw [← hm]; exact hA'.map, bo_map _ _ _⟩
  · rename_i e
    exact .inl ⟨hz, fun hl => by rw [hF.2 z hl e]; exact hz⟩
theorem logged_e (h : AHeap) (r : Nat) (S : DS) (hA : DA h r S) (ts : Int) :
    FWp Try.prog 13 [P0 r, U64 ts] h fun u h' => u = .tuple #[] ∧ h' = h.set S.m (.map (mkK encP ((S.ps.filter (fun p => !decide (p.key.2 = ts))).map Pr.ent)) S.clock) :=
  FWp.gcE (logged_c h r S hA ts) fun u h' ⟨e, hA', hF⟩ => ⟨by rw [e]; exact BV.flat rfl, h.set S.m (.map (mkK encP ((S.ps.filter (fun p => !decide (p.key.2 = ts))).map Pr.ent)) S.clock), rfl, set_rows (S := S) (S' := ⟨S.ps.filter (fun p => !decide (p.key.2 = ts)), S.clock, S.m⟩) rfl hA hA' hF, e, rfl⟩

/-! Who goes along, by rounds. -/
def grow : List Pr → List Int → List Int
  | [], G => G
  | p :: ps, G => grow ps (bif p.hangs && (decide (p.key.2 ∈ G) && !decide (p.key.1 ∈ G)) then G ++ [p.key.1] else G)
def rounds (ps : List Pr) : Nat → List Int → List Int
  | 0, G => G
  | n + 1, G => rounds ps n (grow ps G)
theorem grow_re {all : List Pr} {ts : Int} : ∀ {ps : List Pr} {G : List Int}, (∀ p ∈ ps, p ∈ all) → (∀ y ∈ G, Reach all ts y) → G.Nodup → (∀ y ∈ grow ps G, Reach all ts y) ∧ (grow ps G).Nodup
  | [], G, _, h, hn => ⟨h, hn⟩
  | p :: ps, G, hs, h, hn => by
    simp only [grow]
    cases hb : p.hangs && (decide (p.key.2 ∈ G) && !decide (p.key.1 ∈ G))
    · rw [cond_false]; exact grow_re (fun q hq => hs q (List.mem_cons_of_mem _ hq)) h hn
    · rw [cond_true]
      simp only [Bool.and_eq_true, decide_eq_true_eq, Bool.not_eq_true', decide_eq_false_iff_not] at hb
      refine grow_re (fun q hq => hs q (List.mem_cons_of_mem _ hq)) (fun y hy => ?_) (List.nodup_append.2 ⟨hn, by simp, fun a ha b hb' => ?_⟩)
      · rcases List.mem_append.1 hy with h9 | h9
        · exact h y h9
        · simp at h9; subst h9; exact (h _ hb.2.1).step (hs p List.mem_cons_self) hb.1 rfl
      · simp at hb'; subst hb'; rintro rfl; exact hb.2.2 ha
theorem rounds_re {ps : List Pr} {ts : Int} : ∀ {n : Nat} {G : List Int}, (∀ y ∈ G, Reach ps ts y) → G.Nodup → (∀ y ∈ rounds ps n G, Reach ps ts y) ∧ (rounds ps n G).Nodup
  | 0, G, h, hn => ⟨h, hn⟩
  | n + 1, G, h, hn => by
    obtain ⟨a, b⟩ := grow_re (ps := ps) (fun _ h => h) h hn
    exact rounds_re (n := n) (G := grow ps G) a b
def closedB (ps : List Pr) (G : List Int) : Bool := ps.all fun p => !(p.hangs && decide (p.key.2 ∈ G)) || decide (p.key.1 ∈ G)
theorem closed_re {ps : List Pr} {ts : Int} {G : List Int} (h0 : ts ∈ G) (hc : closedB ps G = true) {y : Int} (hy : Reach ps ts y) : y ∈ G := by
  induction hy with
  | refl => exact h0
  | step hr hp hh ho ih =>
    have := List.all_eq_true.1 hc _ hp
    simp only [hh, Bool.true_and, Bool.or_eq_true, Bool.not_eq_true', decide_eq_false_iff_not, decide_eq_true_eq] at this
    rcases this with h9 | h9
    · exact (h9 (ho ▸ ih)).elim
    · exact h9
theorem sorted_eq : ∀ {a b : List Int}, a.Pairwise (· < ·) → b.Pairwise (· < ·) → (∀ y, y ∈ a ↔ y ∈ b) → a = b
  | [], [], _, _, _ => rfl
  | [], y :: b, _, _, h => by have := (h y).2 List.mem_cons_self; cases this
  | x :: a, [], _, _, h => by have := (h x).1 List.mem_cons_self; cases this
  | x :: a, y :: b, ha, hb, h => by
    have ha' := List.pairwise_cons.1 ha
    have hb' := List.pairwise_cons.1 hb
    have e : x = y := by
      have h1 := (h x).1 List.mem_cons_self
      have h2 := (h y).2 List.mem_cons_self
      cases h1 with
      | head => rfl
      | tail _ h1 =>
        cases h2 with
        | head => rfl
        | tail _ h2 => have a1 := ha'.1 y h2; have a2 := hb'.1 x h1; omega
    subst e
    congr 1
    refine sorted_eq ha'.2 hb'.2 fun z => ⟨fun hz => ?_, fun hz => ?_⟩
    · have := (h z).1 (List.mem_cons_of_mem _ hz)
      cases this with
      | head => have := ha'.1 _ hz; omega
      | tail _ h9 => exact h9
    · have := (h z).2 (List.mem_cons_of_mem _ hz)
      cases this with
      | head => have := hb'.1 _ hz; omega
      | tail _ h9 => exact h9
/-- Who goes along, rising. -/
def alongL (ps : List Pr) (ts : Int) : List Int := SortU.isI ((rounds ps (ps.length + 1) [ts]).filter fun y => !decide (y = ts))
theorem along_ok {h h' : AHeap} {r : Nat} {S : DS} {ts : Int} {u : Value} {G : List Int} (hg : GoneR h h' r S ts u G) (hc : closedB S.ps (rounds S.ps (S.ps.length + 1) [ts]) = true) (h0 : ts ∈ rounds S.ps (S.ps.length + 1) [ts]) : G = alongL S.ps ts := by
  obtain ⟨a, b⟩ := rounds_re (ps := S.ps) (ts := ts) (n := S.ps.length + 1) (G := [ts]) (fun y hy => by simp at hy; subst hy; exact .refl) (by simp)
  have hp := SortU.isI_perm ((rounds S.ps (S.ps.length + 1) [ts]).filter fun y => !decide (y = ts))
  refine sorted_eq hg.sorted (lt_of_sorted (SortU.isI_sorted _) (hp.nodup_iff.2 (b.filter _))) fun y => ?_
  unfold alongL
  rw [hp.mem_iff, List.mem_filter]
  have h1 := hg.reach y
  constructor
  · intro hy
    have hr := h1.1 (List.mem_cons_of_mem _ hy)
    refine ⟨closed_re h0 hc hr, ?_⟩
    simp; rintro rfl; exact hg.nts hy
  · rintro ⟨hy, hne⟩
    have := h1.2 (a y hy)
    cases this with
    | head => simp at hne
    | tail _ h9 => exact h9
def goneH (h : AHeap) (S : DS) (ts : Int) (G : List Int) : AHeap := h.set S.m (.map (mkK encP ((S.ps.filter (fun p => !inG ts G p)).map Pr.ent)) S.clock)
theorem gone_e (h : AHeap) (r : Nat) (S : DS) (hA : DA h r S) (ts : Int) (hbig : S.ps.length ≤ 1000000) (hc : closedB S.ps (rounds S.ps (S.ps.length + 1) [ts]) = true) (h0 : ts ∈ rounds S.ps (S.ps.length + 1) [ts]) :
    FWp Try.prog 16 [P0 r, U64 ts] h fun u h' => (alongL S.ps ts = [] ∧ u = .slice none 0 0 ∧ h' = goneH h S ts (alongL S.ps ts)) ∨ (alongL S.ps ts ≠ [] ∧ u = .slice (some ⟨h.next, 0, none⟩) (alongL S.ps ts).length 0 ∧ h' = (goneH h S ts (alongL S.ps ts)).new (.cells ((alongL S.ps ts).map (Value.int .u64)) 1)) := by
  have hg := gone_c h r S hA ts hbig
  by_cases hn : alongL S.ps ts = []
  · refine FWp.mono (FWp.gcE (K := fun u h' => u = .slice none 0 0 ∧ h' = goneH h S ts (alongL S.ps ts)) hg fun u h' ⟨G, hG⟩ => ?_) fun u h' hu => .inl ⟨hn, hu⟩
    have e := along_ok hG hc h0
    rw [hn] at e
    subst e
    rw [hn]
    have hu : u = .slice none 0 0 := by
      have := hG.out
      cases this with
      | none e => rfl
      | some ne _ _ _ _ => exact (ne rfl).elim
    exact ⟨by rw [hu]; exact BV.flat rfl, goneH h S ts [], rfl, set_rows (S := S) (S' := ⟨S.ps.filter (fun p => !inG ts [] p), S.clock, S.m⟩) rfl hA hG.da hG.fr, hu, rfl⟩
  · refine FWp.mono (gcX (H := goneH h S ts (alongL S.ps ts)) (n := (alongL S.ps ts).length) (o := .cells ((alongL S.ps ts).map (Value.int .u64)) 1) rfl (fun v hv => ?_) (hg.mono fun u h' ⟨G, hG⟩ => ?_)) fun u h' hu => .inr ⟨hn, hu⟩
    · obtain ⟨x, _, rfl⟩ := List.mem_map.1 hv; exact BV.flat rfl
    · have e := along_ok hG hc h0
      subst e
      have := hG.out
      cases this with
      | none e => exact (hn e).elim
      | some ne e hlo hx hg => subst e; exact ⟨_, rfl, hlo, hg, set_rows (S := S) (S' := ⟨S.ps.filter (fun p => !inG ts (alongL S.ps ts) p), S.clock, S.m⟩) rfl hA hG.da hG.fr⟩

def goneAt (h : AHeap) (S : DS) (ts : Int) : Option (Value × AHeap) :=
  bif (closedB S.ps (rounds S.ps (S.ps.length + 1) [ts]) && decide (ts ∈ rounds S.ps (S.ps.length + 1) [ts])) && Nat.ble S.ps.length 1000000 then
    match alongL S.ps ts with
    | [] => some (.slice none 0 0, goneH h S ts [])
    | x :: l => some (.slice (some ⟨h.next, 0, none⟩) (x :: l).length 0, (goneH h S ts (x :: l)).new (.cells ((x :: l).map (Value.int .u64)) 1))
  else none
def depsS (f : FuncId) (args : List Value) (h : AHeap) : Option (Value × AHeap) :=
  match args with
  | [.pointer (some ⟨r, 0, none⟩), .int .u64 ts] =>
    bif Nat.beq f 20 then match depsAt h r with
      | some S => some (.bool (!(S.ps.any fun p => decide (p.key.1 = ts))), h)
      | none => none
    else bif Nat.beq f 13 then match depsAt h r with
      | some S => some (.tuple #[], h.set S.m (.map (mkK encP ((S.ps.filter (fun p => !decide (p.key.2 = ts))).map Pr.ent)) S.clock))
      | none => none
    else bif Nat.beq f 16 then match depsAt h r with
      | some S => goneAt h S ts
      | none => none
    else none
  | _ => none
theorem depsS_ok (f : FuncId) (args : List Value) (h : AHeap) (v : Value) (h' : AHeap) (hk : depsS f args h = some (v, h')) : (∃ fn, Entered Try.prog f fn) ∧ FWp Try.prog f args h fun x y => x = v ∧ y = h' := by
  unfold depsS at hk
  split at hk
  · rename_i r ts
    cases h1 : Nat.beq f 20
    · rw [h1, cond_false] at hk
      cases h2 : Nat.beq f 13
      · rw [h2, cond_false] at hk
        cases h3 : Nat.beq f 16
        · rw [h3, cond_false] at hk; cases hk
        · rw [h3, cond_true] at hk
          obtain rfl := Nat.eq_of_beq_eq_true h3
          refine ⟨⟨_, en16⟩, ?_⟩
          split at hk
          · rename_i S hS
            unfold goneAt at hk
            cases hb : (closedB S.ps (rounds S.ps (S.ps.length + 1) [ts]) && decide (ts ∈ rounds S.ps (S.ps.length + 1) [ts])) && Nat.ble S.ps.length 1000000
            · rw [hb, cond_false] at hk; cases hk
            · rw [hb, cond_true] at hk
              simp only [Bool.and_eq_true, decide_eq_true_eq] at hb
              refine (gone_e h r S (depsAt_ok hS) ts (Nat.le_of_ble_eq_true hb.2) hb.1.1 hb.1.2).mono ?_
              split at hk
              · rename_i e
                simp only [Option.some.injEq, Prod.mk.injEq] at hk
                rintro x y (⟨_, rfl, rfl⟩ | ⟨hne, _⟩)
                · rw [e]; exact hk
                · exact (hne e).elim
              · rename_i z l e
                simp only [Option.some.injEq, Prod.mk.injEq] at hk
                rintro x y (⟨hne, _⟩ | ⟨_, rfl, rfl⟩)
                · rw [e] at hne; cases hne
                · rw [e]; exact hk
          · cases hk
      · rw [h2, cond_true] at hk
        obtain rfl := Nat.eq_of_beq_eq_true h2
        refine ⟨⟨_, en13⟩, ?_⟩
        split at hk
        · rename_i S hS
          simp only [Option.some.injEq, Prod.mk.injEq] at hk
          obtain ⟨rfl, rfl⟩ := hk
          exact logged_e h r S (depsAt_ok hS) ts
        · cases hk
    · rw [h1, cond_true] at hk
      obtain rfl := Nat.eq_of_beq_eq_true h1
      refine ⟨⟨_, en20⟩, ?_⟩
      split at hk
      · rename_i S hS
        simp only [Option.some.injEq, Prod.mk.injEq] at hk
        obtain ⟨rfl, rfl⟩ := hk
        exact ready_c h r S (depsAt_ok hS) ts
      · cases hk
  · cases hk
noncomputable def envD : Env := { envOf Try.prog 116 76 with S := depsS }
theorem envD_ok : EnvOK envD := ⟨tyOK_of Try.prog 116, (by kernel_rfl), fnOK_of Try.prog 76, depsS_ok⟩
set_option maxRecDepth 1000000 in
theorem worksRan : Ab.isTrue (Ab.evCall envD (Ab.ev envD 1000) 22 [] ⟨0, .leaf⟩) = true := by kernel_rfl
theorem works_c (h : AHeap) : FWp Try.prog 22 [] h fun u h' => u = .bool true ∧ h' = h :=
  FWp.ofClosed rfl (fun w => closed_true envD_ok 1000 worksRan w)
end Go.Proofs.Ytfbfihfmlenklaa
