/-
  Contracts of the package deps: New, none, Len, put, Hang, Over.
-/
import Derived.Test.YtfbfihfmlenklaaTy
import Derived.Test.YtfbfihfmlenklaaAb35
import Derived.Test.YtfbfihfmlenklaaKS
namespace Go.Proofs.Ytfbfihfmlenklaa
open Go.Ab
set_option linter.unusedSimpArgs false
set_option linter.unusedVariables false
set_option maxRecDepth 10000
set_option maxHeartbeats 4000000

abbrev P0 (p : Nat) : Value := .pointer (some ⟨p, 0, none⟩)
abbrev I64 (n : Int) : Value := .int .i64 n
abbrev U64 (n : Int) : Value := .int .u64 n

/-! Pairs of numbers as keys. -/
def encP (p : Int × Int) : Value := .agg #[U64 p.1, U64 p.2]
theorem eqp (a b c d : Int) : pureRun Try.prog (Op.equal 60 (.agg #[.int .u64 a, .int .u64 b]) (.agg #[.int .u64 c, .int .u64 d])) = some (a == c && b == d) := by
  have u1 : Try.prog.underlying 60 = some (.struct #[{ name := "ts", type := 29, offset := 0, embedded := false, tag := "", pkgPath := "couplet/deps", byteOffset := 0 }, { name := "on", type := 29, offset := 1, embedded := false, tag := "", pkgPath := "couplet/deps", byteOffset := 8 }]) := by kernel_rfl
  have u2 : Try.prog.underlying 29 = some (.int .u64) := by kernel_rfl
  have u3 : Try.prog.stoodInHeld 60 = false := by kernel_rfl
  have p1 : ∀ x y : Value, pureRun Try.prog (part 29 #[x, y] 0) = some x := fun x y => by kernel_rfl
  have p2 : ∀ x y : Value, pureRun Try.prog (part 29 #[x, y] 1) = some y := fun x y => by kernel_rfl
  have e1 : ∀ k (x y : Int), pureRun Try.prog (Op.equalIn (k + 1) 29 (.int .u64 x) (.int .u64 y)) = some (x == y) := fun k x y => by
    simp only [Op.equalIn, underlying, bind_assoc, pureRun_program, u2, pure_bind, pureRun_pure, if_true]
  show pureRun Try.prog (Op.equalIn (9998 + 1 + 1) 60 _ _) = _
  generalize 9998 = k
  rw [Op.equalIn]
  simp only [underlying, bind_assoc, pureRun_program, u1, pure_bind, u3, Bool.false_eq_true, if_false]
  rw [← Array.forIn_toList]
  simp only [List.forIn_cons, bind_assoc]
  rw [if_pos (by decide)]
  simp only [bind_assoc]
  rw [pureRun_bind (p1 _ _), pureRun_bind (p1 _ _), pureRun_bind (e1 _ _ _)]
  cases hac : a == c
  · simp [pureRun_pure]
  · simp only [Bool.not_true, Bool.false_eq_true, if_false, pure_bind, bind_assoc]
    rw [if_pos (by decide)]
    simp only [bind_assoc]
    rw [pureRun_bind (p2 _ _), pureRun_bind (p2 _ _), pureRun_bind (e1 _ _ _)]
    cases hbd : b == d <;> simp [pureRun_pure]
theorem keyP : KeyOK Try.prog T 60 encP := by
  refine ⟨find_ask ty60 (fun a b => rfl) fun a b => ?_, fun e a => ?_, fun a => ?_⟩
  · rw [encP, encP, eqp]
    congr 1
    rw [Bool.eq_iff_iff]; simp [Prod.ext_iff]
  · cases e
    · show (flat _ && (pureRun Try.prog (Instr.checkKey _ 10000 60 (.agg #[.int .u64 a.1, .int .u64 a.2]))).isSome) = true
      kernel_rfl
    · show (flat _ && (pureRun Try.prog (Instr.checkKey _ 10000 60 (.agg #[.int .u64 a.1, .int .u64 a.2]))).isSome) = true
      kernel_rfl
  · simp [encP, Instr.sameBits]

/-- Who waits for whom. -/
structure Pr where
  key : Int × Int
  hangs : Bool
  born : Nat
def Pr.ent (p : Pr) : (Int × Int) × Value × Nat := (p.key, .bool p.hangs, p.born)
structure DS where
  ps : List Pr
  clock : Nat
  m : Nat
structure DA (h : AHeap) (r : Nat) (S : DS) : Prop where
  lt : r < h.next
  mlt : S.m < h.next
  rm : ¬ r = S.m
  row : h.get r = some (.cells [.map (some S.m)] 1)
  map : h.get S.m = some (.map (mkK encP (S.ps.map Pr.ent)) S.clock)
  born : ∀ p ∈ S.ps, p.born < S.clock
  borns : (S.ps.map Pr.born).Nodup
  keys : (S.ps.map Pr.key).Nodup
theorem DA.mono {h h' : AHeap} {r : Nat} {S : DS} (hA : DA h r S) (hn : h.next ≤ h'.next) (hr : h'.get r = h.get r) (hm : h'.get S.m = h.get S.m) : DA h' r S :=
  ⟨Nat.lt_of_lt_of_le hA.lt hn, Nat.lt_of_lt_of_le hA.mlt hn, hA.rm, by rw [hr]; exact hA.row, by rw [hm]; exact hA.map, hA.born, hA.borns, hA.keys⟩
/-- What may change: the map; what is new. -/
def FrD (h h' : AHeap) (S : DS) : Prop := h.next ≤ h'.next ∧ ∀ z, z < h.next → ¬ S.m = z → h'.get z = h.get z

theorem new_c (h : AHeap) : FWp Try.prog 8 [] h fun u h' => u = P0 (h.next + 1) ∧ h' = (h.new (.map [] 0)).new (.cells [.map (some h.next)] 1) := by
  refine W.enter tyOK Try.func8 rfl rfl ?_
  simp only [entry]
  refine W.seq <| W.reg <| 
      OSuf.aop tyOK rfl (so_assign (by simp only [lk] <;> rfl)) rfl <|
      OSuf.nil <| SQ.normal ?_
  refine W.seq <| W.reg <| 
      OSuf.aop tyOK rfl (so_makeMap) rfl <|
      OSuf.aop tyOK rfl (so_build (by simp only [aparts, lk] <;> rfl) (by simp (disch := first | assumption | omega | (simp only [nx] <;> omega) | fail) only [aBuild, ty57, hpl, places, ty57] <;> rfl)) rfl <|
      OSuf.aop tyOK rfl (so_box (by simp only [lk] <;> rfl)) rfl <|
      OSuf.aop tyOK rfl (so_assign (by simp only [lk] <;> rfl)) rfl <|
      OSuf.nil <| SQ.normal ?_
  refine CWp.ret <| FQ.ret (by simp only [aRet, Try.f8, aResults, aResult, lk, Nat.reduceEqDiff, reduceIte] <;> rfl) ?_
  -- leaf: end
  exact ⟨rfl, rfl⟩
theorem new_da (h : AHeap) : DA ((h.new (.map [] 0)).new (.cells [.map (some h.next)] 1)) (h.next + 1) ⟨[], 0, h.next⟩ :=
  ⟨by simp, by simp; omega, by simp, AHeap.get_new_at (by simp), by rw [AHeap.get_new_ne (by simp)]; exact AHeap.get_new_same _ _, by simp, by simp, by simp⟩
theorem none_c (h : AHeap) (r : Nat) (S : DS) (hA : DA h r S) : FWp Try.prog 26 [P0 r] h fun u h' => u = .bool false ∧ h' = h := by
  have hrow := hA.row
  refine W.enter tyOK Try.func26 rfl rfl ?_
  simp only [entry]
  refine W.seq <| W.reg <| 
      OSuf.aopF tyOK rfl (so_assign (by simp only [lk] <;> rfl)) (fun _ => rfl) rfl <|
      OSuf.nil <| SQ.normal ?_
  refine W.seq <| W.reg <| 
      OSuf.aop tyOK rfl (so_move (by simp only [lk] <;> rfl)) rfl <|
      OSuf.aopF tyOK rfl (so_bin (by simp only [lk] <;> rfl) (by simp only [lk] <;> rfl) (bi_nil ⟨_, _, ty23, rfl⟩)) (fun _ => rfl) rfl <|
      OSuf.aopF tyOK rfl (so_move (by simp only [lk] <;> rfl)) (fun _ => rfl) rfl <|
      OSuf.aop tyOK (aguard_of rfl rfl (by simp only [lk] <;> rfl) rfl) (so_move (by simp only [lk] <;> rfl)) rfl <|
      OSuf.aop tyOK (aguard_of rfl rfl (by simp only [lk] <;> rfl) rfl) (so_nilCheck (by simp only [lk] <;> rfl)) rfl <|
      OSuf.aop tyOK (aguard_of rfl rfl (by simp only [lk] <;> rfl) rfl) (so_fieldAddr (by simp only [lk] <;> rfl) (fa_ok (k := 0) ty57 rfl rfl ty55 rfl rfl)) rfl <|
      OSuf.aop tyOK (aguard_of rfl rfl (by simp only [lk] <;> rfl) rfl) (so_load (by simp only [lk] <;> rfl) (by simp (disch := first | assumption | omega | (simp only [nx] <;> omega) | fail) only [aLoad, ty55, rowOf, hpl, hrow] <;> rfl)) rfl <|
      OSuf.aop tyOK (aguard_of rfl rfl (by simp only [lk] <;> rfl) rfl) (so_bin (by simp only [lk] <;> rfl) (by simp only [lk] <;> rfl) (by simp (disch := first | assumption | omega | (simp only [nx] <;> omega) | fail) only [aBin, ty55, hpl, hrow] <;> rfl)) rfl <|
      OSuf.aop tyOK rfl (so_pick (by simp only [lk] <;> rfl) (by simp only [lk, cond_true, cond_false] <;> rfl)) rfl <|
      OSuf.aop tyOK rfl (so_assign (by simp only [lk] <;> rfl)) rfl <|
      OSuf.nil <| SQ.normal ?_
  refine CWp.ret <| FQ.ret (by simp only [aRet, Try.f26, aResults, aResult, lk, Nat.reduceEqDiff, reduceIte] <;> rfl) ?_
  -- leaf: end
  exact ⟨rfl, rfl⟩
theorem ml_ok {t kt et : TypeId} {ats : Array TypeId} {ti : TI} {T : Tr TI} {h : AHeap} {r clock : Nat} {es : List AEnt} (ha : ats.toList.head? = some t) (ht : T.get t = some ti) (hu : ti.und = .map kt et) (hr : h.get r = some (.map es clock)) : aLenOf T ats (.map (some r)) h = some (.int .i64 es.length) := len_map ha ht hu hr
theorem len_c (h : AHeap) (r : Nat) (S : DS) (hA : DA h r S) : FWp Try.prog 18 [P0 r] h fun u h' => u = I64 S.ps.length ∧ h' = h := by
  have hrow := hA.row
  have hmap := hA.map
  refine W.enter tyOK Try.func18 rfl rfl ?_
  simp only [entry]
  refine W.seq <| W.reg <| 
      OSuf.aop tyOK rfl (so_assign (by simp only [lk] <;> rfl)) rfl <|
      OSuf.nil <| SQ.normal ?_
  refine W.seq <| W.seq <| W.reg <| 
      OSuf.aop tyOK rfl (so_move (by simp only [lk] <;> rfl)) rfl <|
      OSuf.callD rfl (by simp only [aopnds, lk] <;> rfl) en26 (none_c _ r S hA) rfl <|
      OSuf.nil <| SQ.normal ?_
  refine W.no (by simp only [lk] <;> rfl) <| CWp.skip <| SQ.normal ?_
  refine W.seq <| W.reg <| 
      OSuf.aop tyOK rfl (so_move (by simp only [lk] <;> rfl)) rfl <|
      OSuf.aop tyOK rfl (so_nilCheck (by simp only [lk] <;> rfl)) rfl <|
      OSuf.aop tyOK rfl (so_fieldAddr (by simp only [lk] <;> rfl) (fa_ok (k := 0) ty57 rfl rfl ty55 rfl rfl)) rfl <|
      OSuf.aop tyOK rfl (so_load (by simp only [lk] <;> rfl) (by simp (disch := first | assumption | omega | (simp only [nx] <;> omega) | fail) only [aLoad, ty55, rowOf, hpl, hrow, hmap] <;> rfl)) rfl <|
      OSuf.aop tyOK rfl (so_len (by simp only [aopnds, lk] <;> rfl) (by simp (disch := first | assumption | omega | (simp only [nx] <;> omega) | fail) only [aLenOf, ty55, hpl, hrow, hmap] <;> rfl)) rfl <|
      OSuf.aop tyOK rfl (so_assign (by simp only [lk] <;> rfl)) rfl <|
      OSuf.nil <| SQ.normal ?_
  refine CWp.ret <| FQ.ret (by simp only [aRet, Try.f18, aResults, aResult, lk, Nat.reduceEqDiff, reduceIte] <;> rfl) ?_
  -- leaf: end
  exact ⟨by simp [mkK], rfl⟩

/-- A pair is told. -/
def hasP (k : Int × Int) (ps : List Pr) : Bool := ps.any fun p => decide (p.key = k)
def putP (k : Int × Int) (hg : Bool) (S : DS) : DS :=
  bif hasP k S.ps then { S with ps := S.ps.map fun p => if p.key = k then { p with hangs := p.hangs || hg } else p }
  else ⟨S.ps ++ [⟨k, hg, S.clock⟩], S.clock + 1, S.m⟩
theorem set_map {k : Int × Int} {f : Pr → Pr} {p : Pr} : ∀ {ps : List Pr} {j : Nat}, (ps.map Pr.key).Nodup → ps[j]? = some p → p.key = k → (ps.map fun p => if p.key = k then f p else p) = ps.set j (f p)
  | q :: ps, 0, hn, hj, hk => by
    simp at hj; subst hj
    simp only [List.map_cons, List.nodup_cons] at hn
    rw [List.map_cons, if_pos hk, List.set_cons_zero]
    congr 1
    refine (List.map_congr_left fun x hx => ?_).trans (List.map_id _)
    rw [if_neg fun e => hn.1 (by rw [hk, ← e]; exact List.mem_map.2 ⟨x, hx, rfl⟩)]; rfl
  | q :: ps, j + 1, hn, hj, hk => by
    simp at hj
    simp only [List.map_cons, List.nodup_cons] at hn
    rw [List.map_cons, List.set_cons_succ, set_map hn.2 hj hk, if_neg fun e => hn.1 (by rw [e, ← hk]; exact List.mem_map.2 ⟨p, List.mem_of_getElem? hj, rfl⟩)]
theorem ent_map (f : Pr → Pr) (ps : List Pr) (j : Nat) (p : Pr) : (ps.set j p).map Pr.ent = (ps.map Pr.ent).set j p.ent := List.map_set
theorem ent_key (ps : List Pr) : (ps.map Pr.ent).map (·.1) = ps.map Pr.key := by simp [Pr.ent]
theorem ent_born (ps : List Pr) : (ps.map Pr.ent).map (·.2.2) = ps.map Pr.born := by simp [Pr.ent]
theorem has_idx {k : Int × Int} {ps : List Pr} (hn : (ps.map Pr.key).Nodup) (hh : hasP k ps = true) : ∃ j p, idxK k (ps.map Pr.ent) 0 = some (j, .bool p.hangs) ∧ ps[j]? = some p ∧ p.key = k := by
  obtain ⟨p, hp, hk⟩ := List.any_eq_true.1 hh
  have hk : p.key = k := by simpa using hk
  obtain ⟨j, h1, h2⟩ := idxK_mem (k := 0) (by rw [ent_key]; exact hn) (List.mem_map.2 ⟨p, hp, rfl⟩)
  rw [Nat.zero_add] at h1
  rw [List.getElem?_map] at h2
  cases hq : ps[j]? with
  | none => rw [hq] at h2; cases h2
  | some q =>
    rw [hq] at h2
    simp only [Option.map_some, Option.some.injEq, Pr.ent, Prod.mk.injEq, Value.bool.injEq] at h2
    refine ⟨j, q, ?_, hq, by rw [h2.1]; exact hk⟩
    rw [← hk, show p.key = p.ent.1 from rfl, h1, h2.2.1]; rfl
theorem has_none {k : Int × Int} {ps : List Pr} (hh : hasP k ps = false) : idxK k (ps.map Pr.ent) 0 = none := idxK_none fun x hx => by
  obtain ⟨p, hp, rfl⟩ := List.mem_map.1 hx
  have := List.any_eq_false.1 hh p hp
  intro e; simp [Pr.ent] at e; simp [e] at this

theorem put_c (h : AHeap) (r : Nat) (S : DS) (hA : DA h r S) (ts on : Int) (hg : Bool) (hlt : on < ts) :
    FWp Try.prog 24 [P0 r, .agg #[U64 ts, U64 on], .bool hg] h fun u h' => u = I64 0 ∧ DA h' r (putP (ts, on) hg S) ∧ FrD h h' S := by
  have hrow := hA.row
  have hmap := hA.map
  have hl := hA.lt
  have hml := hA.mlt
  have hrm := hA.rm
  have hrm' : ¬ S.m = r := fun e => hrm e.symm
  have hlt' : ¬ ts ≤ on := by omega
  have hA1 : ∀ o, DA (h.new o) r S := fun o => hA.mono (by simp) (AHeap.get_new_ne (by omega)) (AHeap.get_new_ne (by omega))
  refine W.enter tyOK Try.func24 rfl rfl ?_
  simp only [entry]
  cases hh : hasP (ts, on) S.ps
  · have hi := has_none hh
    have e : putP (ts, on) hg S = ⟨S.ps ++ [⟨(ts, on), hg, S.clock⟩], S.clock + 1, S.m⟩ := by rw [putP, hh]; rfl
    rw [e]
    refine W.seq <| W.reg <| 
        OSuf.aop tyOK rfl (so_box (by simp only [lk] <;> rfl)) rfl <|
        OSuf.aop tyOK rfl (so_assign (by simp only [lk] <;> rfl)) rfl <|
        OSuf.nil <| SQ.normal ?_
    refine W.seq <| W.block <| W.seq <| W.reg <| 
        OSuf.aop tyOK rfl (so_move (by simp only [lk] <;> rfl)) rfl <|
        OSuf.callD rfl (by simp only [aopnds, lk] <;> rfl) en26 (none_c _ r S (hA1 _)) rfl <|
        OSuf.aopF tyOK rfl (so_assign (by simp only [lk] <;> rfl)) (fun _ => rfl) rfl <|
        OSuf.nil <| SQ.normal ?_
    refine W.no (by simp only [lk] <;> rfl) <| W.seq <| W.reg <| 
        OSuf.aop tyOK rfl (so_fieldAddr (by simp only [lk] <;> rfl) (fa_ok (k := 1) ty60 rfl rfl ty29 rfl rfl)) rfl <|
        OSuf.aop tyOK rfl (so_load (by simp only [lk] <;> rfl) (by simp (disch := first | assumption | omega | (simp only [nx] <;> omega) | fail) only [aLoad, ty29, rowOf, hpl, hrow, hmap, Value.cells, places, ty29, ty4, ty55, ty57, ty60] <;> rfl)) rfl <|
        OSuf.aop tyOK rfl (so_fieldAddr (by simp only [lk] <;> rfl) (fa_ok (k := 0) ty60 rfl rfl ty29 rfl rfl)) rfl <|
        OSuf.aop tyOK rfl (so_load (by simp only [lk] <;> rfl) (by simp (disch := first | assumption | omega | (simp only [nx] <;> omega) | fail) only [aLoad, ty29, rowOf, hpl, hrow, hmap, Value.cells, places, ty29, ty4, ty55, ty57, ty60] <;> rfl)) rfl <|
        OSuf.aopF tyOK rfl (so_bin (by simp only [lk] <;> rfl) (by simp only [lk] <;> rfl) bi_geq) (fun _ => rfl) (by first | rfl | assumption | ((simp only [bl, hrow, hmap, Value.cells, places, ty29, ty4, ty55, ty57, ty60]) <;> first | done | assumption | omega) | (simp [hrow, hmap, Value.cells, places, ty29, ty4, ty55, ty57, ty60]; done) | (simp [hrow, hmap, Value.cells, places, ty29, ty4, ty55, ty57, ty60]; omega)) <|
        OSuf.aopF tyOK rfl (so_assign (by simp only [lk] <;> rfl)) (fun _ => rfl) rfl <|
        OSuf.nil <| SQ.normal ?_
    refine W.no (by simp only [lk] <;> rfl) <| CWp.skip <| BQ.normal <| SQ.normal ?_
    refine W.seq <| W.regD tyOK mixed (by kernel_rfl) <| 
        SqW.aop rfl (so_move (by simp only [lk] <;> rfl)) rfl <|
        SqW.aop rfl (so_nilCheck (by simp only [lk] <;> rfl)) rfl <|
        SqW.aop rfl (so_fieldAddr (by simp only [lk] <;> rfl) (fa_ok (k := 0) ty57 rfl rfl ty55 rfl rfl)) rfl <|
        SqW.aop rfl (so_load (by simp only [lk] <;> rfl) (by simp (disch := first | assumption | omega | (simp only [nx] <;> omega) | fail) only [aLoad, ty55, rowOf, hpl, hrow, hmap, Value.cells, places, ty29, ty4, ty55, ty57, ty60] <;> rfl)) rfl <|
        SqW.aop rfl (so_load (by simp only [lk] <;> rfl) (by simp (disch := first | assumption | omega | (simp only [nx] <;> omega) | fail) only [aLoad, ty60, rowOf, hpl, hrow, hmap, Value.cells, places, ty29, ty4, ty55, ty57, ty60] <;> rfl)) rfl <|
        SqW.aop rfl (so_move (by simp only [lk] <;> rfl)) rfl <|
        SqW.aop rfl (so_nilCheck (by simp only [lk] <;> rfl)) rfl <|
        SqW.aop rfl (so_fieldAddr (by simp only [lk] <;> rfl) (fa_ok (k := 0) ty57 rfl rfl ty55 rfl rfl)) rfl <|
        SqW.aop rfl (so_load (by simp only [lk] <;> rfl) (by simp (disch := first | assumption | omega | (simp only [nx] <;> omega) | fail) only [aLoad, ty55, rowOf, hpl, hrow, hmap, Value.cells, places, ty29, ty4, ty55, ty57, ty60] <;> rfl)) rfl <|
        SqW.aop rfl (so_load (by simp only [lk] <;> rfl) (by simp (disch := first | assumption | omega | (simp only [nx] <;> omega) | fail) only [aLoad, ty60, rowOf, hpl, hrow, hmap, Value.cells, places, ty29, ty4, ty55, ty57, ty60] <;> rfl)) rfl <|
        SqW.aopF rfl (so_lookup (by simp only [lk] <;> rfl) (by simp only [lk] <;> rfl) (kl_none keyP (a := (ts, on)) ty55 rfl ty4 rfl rfl (by simp (disch := first | assumption | omega | (simp only [nx] <;> omega) | fail) only [aCells, rowOf, hpl, hrow, hmap, Value.cells, places, ty29, ty4, ty55, ty57, ty60] <;> rfl) hi)) (fun _ => rfl) (by first | rfl | assumption | ((simp only [bl, hrow, hmap, Value.cells, places, ty29, ty4, ty55, ty57, ty60]) <;> first | done | assumption | omega) | (simp [hrow, hmap, Value.cells, places, ty29, ty4, ty55, ty57, ty60]; done) | (simp [hrow, hmap, Value.cells, places, ty29, ty4, ty55, ty57, ty60]; omega)) <|
        SqW.aopF rfl (so_move (by simp only [lk] <;> rfl)) (fun _ => rfl) rfl <|
        SqW.aop (aguard_of rfl rfl (by simp only [lk] <;> rfl) rfl) (so_move (by simp only [lk] <;> rfl)) rfl <|
        SqW.aop rfl (so_pick (by simp only [lk] <;> rfl) (by simp only [lk, cond_true, cond_false] <;> rfl)) rfl <|
        SqW.aop rfl (so_mapUpdate (by simp only [lk] <;> rfl) (by simp only [lk] <;> rfl) (by simp only [lk] <;> rfl) (ku_new keyP (a := (ts, on)) ty55 rfl (by simp (disch := first | assumption | omega | (simp only [nx] <;> omega) | fail) only [aCells, rowOf, hpl, hrow, hmap, Value.cells, places, ty29, ty4, ty55, ty57, ty60] <;> rfl) hi)) rfl <|
        SqW.nil <| SQ.normal ?_
    refine W.seq <| W.reg <| 
        OSuf.aop tyOK rfl (so_assign (by simp only [lk] <;> rfl)) rfl <|
        OSuf.nil <| SQ.normal ?_
    refine CWp.ret <| FQ.ret (by simp only [aRet, Try.f24, aResults, aResult, lk, Nat.reduceEqDiff, reduceIte] <;> rfl) ?_
    -- leaf: end
    refine ⟨rfl, ⟨?_, ?_, hrm, ?_, ?_, ?_, ?_, ?_⟩, ?_, ?_⟩
    · simp only [nx]; omega
    · simp only [nx]; omega
    · simp (disch := first | assumption | omega | (simp only [nx] <;> omega) | fail) only [hpl]; exact hrow
    · simp (disch := first | assumption | omega | (simp only [nx] <;> omega) | fail) only [hpl]; simp [Pr.ent]
    · intro p hp
      rcases List.mem_append.1 hp with h9 | h9
      · have := hA.born p h9; simp only; omega
      · simp at h9; subst h9; simp
    · rw [List.map_append]
      refine List.nodup_append.2 ⟨hA.borns, by simp, fun a ha b hb => ?_⟩
      obtain ⟨p, hp, rfl⟩ := List.mem_map.1 ha
      have := hA.born p hp
      simp at hb; subst hb; omega
    · rw [List.map_append]
      refine List.nodup_append.2 ⟨hA.keys, by simp, fun a ha b hb => ?_⟩
      obtain ⟨p, hp, rfl⟩ := List.mem_map.1 ha
      have := List.any_eq_false.1 hh p hp
      simp at hb; subst hb; simpa using this
    · simp only [nx]; omega
    · intro z hz h1
      simp (disch := first | assumption | omega | (simp only [nx] <;> omega) | fail) only [hpl]
  · obtain ⟨j, p, hi, hj, hk⟩ := has_idx hA.keys hh
    have hj2 : (S.ps.map Pr.ent)[j]? = some ((ts, on), .bool p.hangs, p.born) := by simp [hj, Pr.ent, hk]
    have e0 : (S.ps.map fun p => if p.key = (ts, on) then { p with hangs := p.hangs || hg } else p) = S.ps.set j { p with hangs := p.hangs || hg } := set_map (f := fun p => { p with hangs := p.hangs || hg }) hA.keys hj hk
    have e : putP (ts, on) hg S = { S with ps := S.ps.set j { p with hangs := p.hangs || hg } } := by rw [putP, hh, cond_true, e0]
    have mem : ∀ q ∈ S.ps.set j { p with hangs := p.hangs || hg }, ∃ q' ∈ S.ps, q'.key = q.key ∧ q'.born = q.born := fun q hq => by
      rcases List.mem_or_eq_of_mem_set hq with h9 | h9
      · exact ⟨q, h9, rfl, rfl⟩
      · exact ⟨p, List.mem_of_getElem? hj, by rw [h9], by rw [h9]⟩
    have jl := (List.getElem?_eq_some_iff.1 hj)
    have kk : (S.ps.set j { p with hangs := p.hangs || hg }).map Pr.key = S.ps.map Pr.key := by
      rw [List.map_set]; exact List.ext_getElem? fun i => by
        rw [List.getElem?_set]; split
        · rename_i e; subst e; split
          · simp [hj]
          · rename_i h9; have := jl.1; simp at h9; omega
        · rfl
    have bb : (S.ps.set j { p with hangs := p.hangs || hg }).map Pr.born = S.ps.map Pr.born := by
      rw [List.map_set]; exact List.ext_getElem? fun i => by
        rw [List.getElem?_set]; split
        · rename_i e; subst e; split
          · simp [hj]
          · rename_i h9; have := jl.1; simp at h9; omega
        · rfl
    rw [e]
    have fin : ∀ h', h'.next = h.next + 1 → (∀ z, z < h.next → ¬ S.m = z → h'.get z = h.get z) → h'.get S.m = some (.map (mkK encP ((S.ps.map Pr.ent).set j ((ts, on), .bool (p.hangs || hg), p.born))) S.clock) → (I64 0 = I64 0 ∧ DA h' r { S with ps := S.ps.set j { p with hangs := p.hangs || hg } } ∧ FrD h h' S) := fun h' h1 h2 h3 => by
      refine ⟨rfl, ⟨by omega, by simp only; omega, hrm, by rw [h2 r hl hrm']; exact hrow, ?_, fun q hq => ?_, by simp only [bb]; exact hA.borns, by simp only [kk]; exact hA.keys⟩, by omega, h2⟩
      · simp only [ent_map (fun p => p)]
        rw [h3]; simp [Pr.ent, hk]
      · obtain ⟨q', g1, g2, g3⟩ := mem q hq
        have := hA.born q' g1; simp only; omega
    cases hph : p.hangs
    · rw [hph] at hi hj2
      refine W.seq <| W.reg <| 
          OSuf.aop tyOK rfl (so_box (by simp only [lk] <;> rfl)) rfl <|
          OSuf.aop tyOK rfl (so_assign (by simp only [lk] <;> rfl)) rfl <|
          OSuf.nil <| SQ.normal ?_
      refine W.seq <| W.block <| W.seq <| W.reg <| 
          OSuf.aop tyOK rfl (so_move (by simp only [lk] <;> rfl)) rfl <|
          OSuf.callD rfl (by simp only [aopnds, lk] <;> rfl) en26 (none_c _ r S (hA1 _)) rfl <|
          OSuf.aopF tyOK rfl (so_assign (by simp only [lk] <;> rfl)) (fun _ => rfl) rfl <|
          OSuf.nil <| SQ.normal ?_
      refine W.no (by simp only [lk] <;> rfl) <| W.seq <| W.reg <| 
          OSuf.aop tyOK rfl (so_fieldAddr (by simp only [lk] <;> rfl) (fa_ok (k := 1) ty60 rfl rfl ty29 rfl rfl)) rfl <|
          OSuf.aop tyOK rfl (so_load (by simp only [lk] <;> rfl) (by simp (disch := first | assumption | omega | (simp only [nx] <;> omega) | fail) only [aLoad, ty29, rowOf, hpl, hrow, hmap, Value.cells, places, ty29, ty4, ty55, ty57, ty60] <;> rfl)) rfl <|
          OSuf.aop tyOK rfl (so_fieldAddr (by simp only [lk] <;> rfl) (fa_ok (k := 0) ty60 rfl rfl ty29 rfl rfl)) rfl <|
          OSuf.aop tyOK rfl (so_load (by simp only [lk] <;> rfl) (by simp (disch := first | assumption | omega | (simp only [nx] <;> omega) | fail) only [aLoad, ty29, rowOf, hpl, hrow, hmap, Value.cells, places, ty29, ty4, ty55, ty57, ty60] <;> rfl)) rfl <|
          OSuf.aopF tyOK rfl (so_bin (by simp only [lk] <;> rfl) (by simp only [lk] <;> rfl) bi_geq) (fun _ => rfl) (by first | rfl | assumption | ((simp only [bl, hrow, hmap, Value.cells, places, ty29, ty4, ty55, ty57, ty60]) <;> first | done | assumption | omega) | (simp [hrow, hmap, Value.cells, places, ty29, ty4, ty55, ty57, ty60]; done) | (simp [hrow, hmap, Value.cells, places, ty29, ty4, ty55, ty57, ty60]; omega)) <|
          OSuf.aopF tyOK rfl (so_assign (by simp only [lk] <;> rfl)) (fun _ => rfl) rfl <|
          OSuf.nil <| SQ.normal ?_
      refine W.no (by simp only [lk] <;> rfl) <| CWp.skip <| BQ.normal <| SQ.normal ?_
      refine W.seq <| W.regD tyOK mixed (by kernel_rfl) <| 
          SqW.aop rfl (so_move (by simp only [lk] <;> rfl)) rfl <|
          SqW.aop rfl (so_nilCheck (by simp only [lk] <;> rfl)) rfl <|
          SqW.aop rfl (so_fieldAddr (by simp only [lk] <;> rfl) (fa_ok (k := 0) ty57 rfl rfl ty55 rfl rfl)) rfl <|
          SqW.aop rfl (so_load (by simp only [lk] <;> rfl) (by simp (disch := first | assumption | omega | (simp only [nx] <;> omega) | fail) only [aLoad, ty55, rowOf, hpl, hrow, hmap, Value.cells, places, ty29, ty4, ty55, ty57, ty60] <;> rfl)) rfl <|
          SqW.aop rfl (so_load (by simp only [lk] <;> rfl) (by simp (disch := first | assumption | omega | (simp only [nx] <;> omega) | fail) only [aLoad, ty60, rowOf, hpl, hrow, hmap, Value.cells, places, ty29, ty4, ty55, ty57, ty60] <;> rfl)) rfl <|
          SqW.aop rfl (so_move (by simp only [lk] <;> rfl)) rfl <|
          SqW.aop rfl (so_nilCheck (by simp only [lk] <;> rfl)) rfl <|
          SqW.aop rfl (so_fieldAddr (by simp only [lk] <;> rfl) (fa_ok (k := 0) ty57 rfl rfl ty55 rfl rfl)) rfl <|
          SqW.aop rfl (so_load (by simp only [lk] <;> rfl) (by simp (disch := first | assumption | omega | (simp only [nx] <;> omega) | fail) only [aLoad, ty55, rowOf, hpl, hrow, hmap, Value.cells, places, ty29, ty4, ty55, ty57, ty60] <;> rfl)) rfl <|
          SqW.aop rfl (so_load (by simp only [lk] <;> rfl) (by simp (disch := first | assumption | omega | (simp only [nx] <;> omega) | fail) only [aLoad, ty60, rowOf, hpl, hrow, hmap, Value.cells, places, ty29, ty4, ty55, ty57, ty60] <;> rfl)) rfl <|
          SqW.aopF rfl (so_lookup (by simp only [lk] <;> rfl) (by simp only [lk] <;> rfl) (kl_some keyP (a := (ts, on)) ty55 rfl (by simp (disch := first | assumption | omega | (simp only [nx] <;> omega) | fail) only [aCells, rowOf, hpl, hrow, hmap, Value.cells, places, ty29, ty4, ty55, ty57, ty60] <;> rfl) hi)) (fun _ => rfl) (by first | rfl | assumption | ((simp only [bl, hrow, hmap, Value.cells, places, ty29, ty4, ty55, ty57, ty60]) <;> first | done | assumption | omega) | (simp [hrow, hmap, Value.cells, places, ty29, ty4, ty55, ty57, ty60]; done) | (simp [hrow, hmap, Value.cells, places, ty29, ty4, ty55, ty57, ty60]; omega)) <|
          SqW.aopF rfl (so_move (by simp only [lk] <;> rfl)) (fun _ => rfl) rfl <|
          SqW.aop (aguard_of rfl rfl (by simp only [lk] <;> rfl) rfl) (so_move (by simp only [lk] <;> rfl)) rfl <|
          SqW.aop rfl (so_pick (by simp only [lk] <;> rfl) (by simp only [lk, cond_true, cond_false] <;> rfl)) rfl <|
          SqW.aop rfl (so_mapUpdate (by simp only [lk] <;> rfl) (by simp only [lk] <;> rfl) (by simp only [lk] <;> rfl) (ku_old keyP (a := (ts, on)) ty55 rfl (by simp (disch := first | assumption | omega | (simp only [nx] <;> omega) | fail) only [aCells, rowOf, hpl, hrow, hmap, Value.cells, places, ty29, ty4, ty55, ty57, ty60] <;> rfl) hi hj2)) rfl <|
          SqW.nil <| SQ.normal ?_
      refine W.seq <| W.reg <| 
          OSuf.aop tyOK rfl (so_assign (by simp only [lk] <;> rfl)) rfl <|
          OSuf.nil <| SQ.normal ?_
      refine CWp.ret <| FQ.ret (by simp only [aRet, Try.f24, aResults, aResult, lk, Nat.reduceEqDiff, reduceIte] <;> rfl) ?_
      -- leaf: end
      rw [← hph]
      refine fin _ ?_ ?_ ?_
      · simp only [nx]
      · intro z hz h1; simp (disch := first | assumption | omega | (simp only [nx] <;> omega) | fail) only [hpl]
      · simp (disch := first | assumption | omega | (simp only [nx] <;> omega) | fail) only [hpl]; simp [hph]
    · rw [hph] at hi hj2
      refine W.seq <| W.reg <| 
          OSuf.aop tyOK rfl (so_box (by simp only [lk] <;> rfl)) rfl <|
          OSuf.aop tyOK rfl (so_assign (by simp only [lk] <;> rfl)) rfl <|
          OSuf.nil <| SQ.normal ?_
      refine W.seq <| W.block <| W.seq <| W.reg <| 
          OSuf.aop tyOK rfl (so_move (by simp only [lk] <;> rfl)) rfl <|
          OSuf.callD rfl (by simp only [aopnds, lk] <;> rfl) en26 (none_c _ r S (hA1 _)) rfl <|
          OSuf.aopF tyOK rfl (so_assign (by simp only [lk] <;> rfl)) (fun _ => rfl) rfl <|
          OSuf.nil <| SQ.normal ?_
      refine W.no (by simp only [lk] <;> rfl) <| W.seq <| W.reg <| 
          OSuf.aop tyOK rfl (so_fieldAddr (by simp only [lk] <;> rfl) (fa_ok (k := 1) ty60 rfl rfl ty29 rfl rfl)) rfl <|
          OSuf.aop tyOK rfl (so_load (by simp only [lk] <;> rfl) (by simp (disch := first | assumption | omega | (simp only [nx] <;> omega) | fail) only [aLoad, ty29, rowOf, hpl, hrow, hmap, Value.cells, places, ty29, ty4, ty55, ty57, ty60] <;> rfl)) rfl <|
          OSuf.aop tyOK rfl (so_fieldAddr (by simp only [lk] <;> rfl) (fa_ok (k := 0) ty60 rfl rfl ty29 rfl rfl)) rfl <|
          OSuf.aop tyOK rfl (so_load (by simp only [lk] <;> rfl) (by simp (disch := first | assumption | omega | (simp only [nx] <;> omega) | fail) only [aLoad, ty29, rowOf, hpl, hrow, hmap, Value.cells, places, ty29, ty4, ty55, ty57, ty60] <;> rfl)) rfl <|
          OSuf.aopF tyOK rfl (so_bin (by simp only [lk] <;> rfl) (by simp only [lk] <;> rfl) bi_geq) (fun _ => rfl) (by first | rfl | assumption | ((simp only [bl, hrow, hmap, Value.cells, places, ty29, ty4, ty55, ty57, ty60]) <;> first | done | assumption | omega) | (simp [hrow, hmap, Value.cells, places, ty29, ty4, ty55, ty57, ty60]; done) | (simp [hrow, hmap, Value.cells, places, ty29, ty4, ty55, ty57, ty60]; omega)) <|
          OSuf.aopF tyOK rfl (so_assign (by simp only [lk] <;> rfl)) (fun _ => rfl) rfl <|
          OSuf.nil <| SQ.normal ?_
      refine W.no (by simp only [lk] <;> rfl) <| CWp.skip <| BQ.normal <| SQ.normal ?_
      refine W.seq <| W.regD tyOK mixed (by kernel_rfl) <| 
          SqW.aop rfl (so_move (by simp only [lk] <;> rfl)) rfl <|
          SqW.aop rfl (so_nilCheck (by simp only [lk] <;> rfl)) rfl <|
          SqW.aop rfl (so_fieldAddr (by simp only [lk] <;> rfl) (fa_ok (k := 0) ty57 rfl rfl ty55 rfl rfl)) rfl <|
          SqW.aop rfl (so_load (by simp only [lk] <;> rfl) (by simp (disch := first | assumption | omega | (simp only [nx] <;> omega) | fail) only [aLoad, ty55, rowOf, hpl, hrow, hmap, Value.cells, places, ty29, ty4, ty55, ty57, ty60] <;> rfl)) rfl <|
          SqW.aop rfl (so_load (by simp only [lk] <;> rfl) (by simp (disch := first | assumption | omega | (simp only [nx] <;> omega) | fail) only [aLoad, ty60, rowOf, hpl, hrow, hmap, Value.cells, places, ty29, ty4, ty55, ty57, ty60] <;> rfl)) rfl <|
          SqW.aop rfl (so_move (by simp only [lk] <;> rfl)) rfl <|
          SqW.aop rfl (so_nilCheck (by simp only [lk] <;> rfl)) rfl <|
          SqW.aop rfl (so_fieldAddr (by simp only [lk] <;> rfl) (fa_ok (k := 0) ty57 rfl rfl ty55 rfl rfl)) rfl <|
          SqW.aop rfl (so_load (by simp only [lk] <;> rfl) (by simp (disch := first | assumption | omega | (simp only [nx] <;> omega) | fail) only [aLoad, ty55, rowOf, hpl, hrow, hmap, Value.cells, places, ty29, ty4, ty55, ty57, ty60] <;> rfl)) rfl <|
          SqW.aop rfl (so_load (by simp only [lk] <;> rfl) (by simp (disch := first | assumption | omega | (simp only [nx] <;> omega) | fail) only [aLoad, ty60, rowOf, hpl, hrow, hmap, Value.cells, places, ty29, ty4, ty55, ty57, ty60] <;> rfl)) rfl <|
          SqW.aopT rfl (so_lookup (by simp only [lk] <;> rfl) (by simp only [lk] <;> rfl) (kl_some keyP (a := (ts, on)) ty55 rfl (by simp (disch := first | assumption | omega | (simp only [nx] <;> omega) | fail) only [aCells, rowOf, hpl, hrow, hmap, Value.cells, places, ty29, ty4, ty55, ty57, ty60] <;> rfl) hi)) (fun _ => rfl) (by first | rfl | assumption | ((simp only [bl, hrow, hmap, Value.cells, places, ty29, ty4, ty55, ty57, ty60]) <;> first | done | assumption | omega) | (simp [hrow, hmap, Value.cells, places, ty29, ty4, ty55, ty57, ty60]; done) | (simp [hrow, hmap, Value.cells, places, ty29, ty4, ty55, ty57, ty60]; omega)) <|
          SqW.aopT rfl (so_move (by simp only [lk] <;> rfl)) (fun _ => rfl) rfl <|
          SqW.pass (aguard_of rfl rfl (by simp only [lk] <;> rfl) rfl) rfl <|
          SqW.aopT rfl (so_pick (by simp only [lk] <;> rfl) (by simp only [lk, cond_true, cond_false] <;> rfl)) (fun _ => rfl) rfl <|
          SqW.aop rfl (so_mapUpdate (by simp only [lk] <;> rfl) (by simp only [lk] <;> rfl) (by simp only [lk] <;> rfl) (ku_old keyP (a := (ts, on)) ty55 rfl (by simp (disch := first | assumption | omega | (simp only [nx] <;> omega) | fail) only [aCells, rowOf, hpl, hrow, hmap, Value.cells, places, ty29, ty4, ty55, ty57, ty60] <;> rfl) hi hj2)) rfl <|
          SqW.nil <| SQ.normal ?_
      refine W.seq <| W.reg <| 
          OSuf.aop tyOK rfl (so_assign (by simp only [lk] <;> rfl)) rfl <|
          OSuf.nil <| SQ.normal ?_
      refine CWp.ret <| FQ.ret (by simp only [aRet, Try.f24, aResults, aResult, lk, Nat.reduceEqDiff, reduceIte] <;> rfl) ?_
      -- leaf: end
      rw [← hph]
      refine fin _ ?_ ?_ ?_
      · simp only [nx]
      · intro z hz h1; simp (disch := first | assumption | omega | (simp only [nx] <;> omega) | fail) only [hpl]
      · simp (disch := first | assumption | omega | (simp only [nx] <;> omega) | fail) only [hpl]; simp [hph]
theorem put_arg (h : AHeap) (r : Nat) (S : DS) (hA : DA h r S) (ts on : Int) (hg : Bool) (hlt : ts ≤ on) :
    FWp Try.prog 24 [P0 r, .agg #[U64 ts, U64 on], .bool hg] h fun u h' => u = I64 2 ∧ h' = h := by
  have hrow := hA.row
  have hmap := hA.map
  have hl := hA.lt
  have hml := hA.mlt
  have hA1 : ∀ o, DA (h.new o) r S := fun o => hA.mono (by simp) (AHeap.get_new_ne (by omega)) (AHeap.get_new_ne (by omega))
  refine FWp.gcs ⟨fun _ => none, _, .int _ _⟩ (W.enter tyOK Try.func24 rfl rfl ?_)
  simp only [entry]
  refine W.seq <| W.reg <| 
      OSuf.aop tyOK rfl (so_box (by simp only [lk] <;> rfl)) rfl <|
      OSuf.aop tyOK rfl (so_assign (by simp only [lk] <;> rfl)) rfl <|
      OSuf.nil <| SQ.normal ?_
  refine W.seq <| W.block <| W.seq <| W.reg <| 
      OSuf.aop tyOK rfl (so_move (by simp only [lk] <;> rfl)) rfl <|
      OSuf.callD rfl (by simp only [aopnds, lk] <;> rfl) en26 (none_c _ r S (hA1 _)) rfl <|
      OSuf.aopF tyOK rfl (so_assign (by simp only [lk] <;> rfl)) (fun _ => rfl) rfl <|
      OSuf.nil <| SQ.normal ?_
  refine W.no (by simp only [lk] <;> rfl) <| W.seq <| W.reg <| 
      OSuf.aop tyOK rfl (so_fieldAddr (by simp only [lk] <;> rfl) (fa_ok (k := 1) ty60 rfl rfl ty29 rfl rfl)) rfl <|
      OSuf.aop tyOK rfl (so_load (by simp only [lk] <;> rfl) (by simp (disch := first | assumption | omega | (simp only [nx] <;> omega) | fail) only [aLoad, ty29, rowOf, hpl, hrow, hmap, Value.cells, places, ty29, ty4, ty55, ty57, ty60] <;> rfl)) rfl <|
      OSuf.aop tyOK rfl (so_fieldAddr (by simp only [lk] <;> rfl) (fa_ok (k := 0) ty60 rfl rfl ty29 rfl rfl)) rfl <|
      OSuf.aop tyOK rfl (so_load (by simp only [lk] <;> rfl) (by simp (disch := first | assumption | omega | (simp only [nx] <;> omega) | fail) only [aLoad, ty29, rowOf, hpl, hrow, hmap, Value.cells, places, ty29, ty4, ty55, ty57, ty60] <;> rfl)) rfl <|
      OSuf.aopT tyOK rfl (so_bin (by simp only [lk] <;> rfl) (by simp only [lk] <;> rfl) bi_geq) (fun _ => rfl) (by first | rfl | assumption | ((simp only [bl, hrow, hmap, Value.cells, places, ty29, ty4, ty55, ty57, ty60]) <;> first | done | assumption | omega) | (simp [hrow, hmap, Value.cells, places, ty29, ty4, ty55, ty57, ty60]; done) | (simp [hrow, hmap, Value.cells, places, ty29, ty4, ty55, ty57, ty60]; omega)) <|
      OSuf.aopT tyOK rfl (so_assign (by simp only [lk] <;> rfl)) (fun _ => rfl) rfl <|
      OSuf.nil <| SQ.normal ?_
  refine W.yes (by simp only [lk] <;> rfl) <| W.seq <| W.reg <| 
      OSuf.aop tyOK rfl (so_assign (by simp only [lk] <;> rfl)) rfl <|
      OSuf.nil <| SQ.normal ?_
  refine CWp.ret <| BQ.ret <| SQ.ret <| FQ.ret (by simp only [aRet, Try.f24, aResults, aResult, lk, Nat.reduceEqDiff, reduceIte] <;> rfl) ?_
  -- leaf: end
  refine ⟨rfl, fun z o hz ho => ?_⟩
  simp (disch := first | assumption | omega | (simp only [nx] <;> omega) | fail) only [hpl]; exact ho
end Go.Proofs.Ytfbfihfmlenklaa
