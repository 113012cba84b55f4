/-
  Merged: OrdA, OrdB, OrdC, OrdD, OrdE, OrdF, OrdG.
-/
import Derived.Test.YtjenbiohcecfnaaGreatTableO
import Derived.Test.YtjenbiohcecfnaaGreatAb39
namespace Go.Proofs.YtjenbiohcecfnaaGreat
open Go.Ab
set_option linter.unusedSimpArgs false
set_option linter.unusedVariables false
set_option maxRecDepth 10000
set_option maxHeartbeats 8000000
abbrev aggV (x : Vr) : Value := .agg #[U64 x.ts, U64 x.lsn, .bool x.del, .string x.val, .bool x.acked]
def zeroV : Vr := ⟨0, 0, false, ⟨#[]⟩, false⟩
def lastV (is : Vr → Bool) (V : List Vr) : Option Vr := V.reverse.find? is
theorem lastV_some {is : Vr → Bool} {V : List Vr} {m : Nat} {x : Vr} (hx : V[m]? = some x) (hi : is x = true) (hn : ∀ (j : Nat) (y : Vr), m < j → V[j]? = some y → is y = false) : lastV is V = some x := by
  have hm := (List.getElem?_eq_some_iff.1 hx).1
  have e : V = V.take m ++ x :: V.drop (m + 1) := by
    conv => lhs; rw [← List.take_append_drop m V, List.drop_eq_getElem_cons hm]
    rw [(List.getElem?_eq_some_iff.1 hx).2]
  rw [lastV, e, List.reverse_append, List.reverse_cons, List.append_assoc, List.find?_append]
  have h1 : (V.drop (m + 1)).reverse.find? is = none := by
    refine List.find?_eq_none.2 fun y hy => ?_
    obtain ⟨j, hj⟩ := List.getElem?_of_mem (List.mem_reverse.1 hy)
    rw [List.getElem?_drop] at hj
    simp [hn (m + 1 + j) y (by omega) hj]
  rw [h1]
  simp [hi]
theorem lastV_none {is : Vr → Bool} {V : List Vr} (hn : ∀ (j : Nat) (y : Vr), V[j]? = some y → is y = false) : lastV is V = none := by
  refine List.find?_eq_none.2 fun y hy => ?_
  obtain ⟨j, hj⟩ := List.getElem?_of_mem (List.mem_reverse.1 hy)
  simp [hn j y hj]
theorem bw1_g (h : AHeap) (q : Nat) (yv : Value) (V : List Vr) (v : Value) (J : Nat → AHeap → Prop) (R : AHeap → Prop) (hl : V.length ≤ 1000000) (hv : ∃ a c, v = .slice a V.length c) (hq : h.get q = some (.cells [v] 1)) (hJ : J V.length h)
    (hkeep : ∀ m g, J m g → g.get q = some (.cells [v] 1) ∧ AVs g V v)
    (step : ∀ m x g, V[m]? = some x → J (m + 1) g → VWp Tryz.prog yv [I64 (m : Int), aggV x] g (fun u g' => u = .bool true ∧ J m g') ∨ VWp Tryz.prog yv [I64 (m : Int), aggV x] g (fun u g' => u = .bool false ∧ R g'))
    (hend : ∀ g, J 0 g → R g) : FWp Tryz.prog 109 [yv, P0 q] h fun u h' => u = .tuple #[] ∧ R h' := by
  obtain ⟨a, c, rfl⟩ := hv
  have w1 : IntKind.i64.wrap ((V.length : Int) - 1) = (V.length : Int) - 1 := wrap_i64 (by omega) (by omega)
  refine W.enter tyOK Tryz.func109 rfl rfl ?_
  simp only [entry]
  refine W.seq <| W.reg <| OSuf.aop tyOK rfl (zl (hv := by simp (disch := first | assumption | omega | (simp only [nx] <;> omega) | fail) only [aLoad, ty34, rowOf, hpl, hq] <;> rfl)) rfl <| OSuf.aop tyOK rfl (so_len (by simp only [aopnds, lk] <;> rfl) (by simp (disch := first | assumption | omega | (simp only [nx] <;> omega) | fail) only [aLenOf, ty34, hpl, hq] <;> rfl)) rfl <| OSuf.aop tyOK rfl (zb (hv := bi_w bi_sub (by first | (simp only [w1] <;> rfl) | rfl))) rfl <| OSuf.aop tyOK rfl za rfl <| OSuf.nil <| SQ.normal ?_
  -- leaf: loop
  refine W.cut (fun L h' => R h' ∧ L = []) (W.block (W.loop (fun m L h' => m ≤ V.length ∧ J m h' ∧ L = [(0, yv), (1, P0 q), (3, I64 ((m : Int) - 1))]) (n := V.length) ⟨Nat.le_refl _, hJ, rfl⟩ ?_ ?_)) ?_
  · simp [HasA, Tr.get_put]
  · rintro m L g ⟨hm, hj, rfl⟩
    simp only [mkA]
    cases m with
    | zero =>
      refine W.seq <| W.seq <| W.reg <| OSuf.aop tyOK rfl sm rfl <| OSuf.aopF tyOK rfl (zb (hv := bi_geq)) (fun _ => rfl) (by first | rfl | assumption | ((simp only [bl]) <;> first | done | assumption | omega) | (simp; done) | (simp; omega)) <| OSuf.nil <| SQ.normal ?_
      refine W.no (by simp only [lk] <;> rfl) <| CWp.exit <| SQ.exit <| LQ.exit <| BQ.exit <| ?_
      -- leaf: cut
      exact NQ.normal (L := []) trivial ⟨hend g hj, rfl⟩
    | succ m =>
      have e0 : (((m + 1 : Nat) : Int) - 1) = (m : Int) := by omega
      rw [e0]
      obtain ⟨x, hx⟩ : ∃ x, V[m]? = some x := ⟨V[m]'(by omega), by simp⟩
      obtain ⟨k1, k2⟩ := hkeep _ g hj
      have w2 : IntKind.i64.wrap ((m : Int) - 1) = (m : Int) - 1 := wrap_i64 (by omega) (by omega)
      have hge : (m : Int) ≥ 0 := by omega
      have hy := step m x g hx hj
      cases hAs : k2 with
      | nil => simp at hx
      | emp => simp at hx
      | @some _ z off _ vs hne hz hg hc =>
        have b1 : (0 ≤ (m : Int) ∧ (m : Int) < (V.length : Int)) := by omega
        have g1 : cellsOf vs (off + m * 5) 5 = some [U64 x.ts, U64 x.lsn, .bool x.del, .string x.val, .bool x.acked] := cell_of hc hx
        have e1 : [U64 x.ts, U64 x.lsn, .bool x.del, .string x.val, .bool x.acked].toArray = #[U64 x.ts, U64 x.lsn, .bool x.del, .string x.val, .bool x.acked] := rfl
        simp only [rowOf] at hg
        rcases hy with hy | hy
        · refine W.seq <| W.seq <| W.reg <| OSuf.aop tyOK rfl sm rfl <| OSuf.aopT tyOK rfl (zb (hv := bi_geq)) (fun _ => rfl) (decide_eq_true hge) <| OSuf.nil <| SQ.normal ?_
          refine W.yes (by simp only [lk] <;> rfl) <| CWp.skip <| SQ.normal ?_
          refine W.seq <| W.block <| W.seq <| W.reg <| OSuf.aop tyOK rfl sm rfl <| OSuf.aop tyOK rfl sm rfl <| OSuf.aop tyOK rfl (zl (hv := by simp (disch := first | assumption | omega | (simp only [nx] <;> omega) | fail) only [aLoad, ty34, rowOf, hpl, k1, b1, sb, hg, g1, e1, cond_true, Option.map_some] <;> rfl)) rfl <| OSuf.aop tyOK rfl sm rfl <| OSuf.aop tyOK rfl (zi (hv := by simp (disch := first | assumption | omega | (simp only [nx] <;> omega) | fail) only [aIndexAddr, ty34, ty49, hpl, k1, b1, sb, hg, g1, e1, cond_true, Option.map_some] <;> rfl)) rfl <| OSuf.aop tyOK rfl (zl (hv := by simp (disch := first | assumption | omega | (simp only [nx] <;> omega) | fail) only [aLoad, ty49, rowOf, hpl, k1, b1, sb, hg, g1, e1, cond_true, Option.map_some] <;> rfl)) rfl <| OSuf.vcall rfl (by simp only [lk] <;> rfl) (by simp only [aopnds, lk] <;> rfl) (hy) ?_
          rintro u g' ⟨rfl, hj'⟩
          refine ⟨_, rfl, ?_⟩
          refine OSuf.aopF tyOK rfl (so_not (by simp only [lk] <;> rfl)) (fun _ => rfl) rfl <| OSuf.nil <| SQ.normal ?_
          refine W.no (by simp only [lk] <;> rfl) <| CWp.skip <| BQ.normal <| SQ.normal ?_
          refine W.reg <| OSuf.aop tyOK rfl sm rfl <| OSuf.aop tyOK rfl (zb (hv := bi_w bi_sub (by first | (simp only [w2, w2] <;> rfl) | rfl))) rfl <| OSuf.aop tyOK rfl za rfl <| OSuf.nil <| ?_
          -- leaf: round
          refine LQ.normal (m := m) (L := [(0, yv), (1, P0 q), (3, I64 ((m : Int) - 1))]) (by omega) ?_ ⟨by omega, hj', rfl⟩
          simp only [HasA, Tr.get_put, Nat.reduceEqDiff, reduceIte, w2, and_self]
        · refine W.seq <| W.seq <| W.reg <| OSuf.aop tyOK rfl sm rfl <| OSuf.aopT tyOK rfl (zb (hv := bi_geq)) (fun _ => rfl) (decide_eq_true hge) <| OSuf.nil <| SQ.normal ?_
          refine W.yes (by simp only [lk] <;> rfl) <| CWp.skip <| SQ.normal ?_
          refine W.seq <| W.block <| W.seq <| W.reg <| OSuf.aop tyOK rfl sm rfl <| OSuf.aop tyOK rfl sm rfl <| OSuf.aop tyOK rfl (zl (hv := by simp (disch := first | assumption | omega | (simp only [nx] <;> omega) | fail) only [aLoad, ty34, rowOf, hpl, k1, b1, sb, hg, g1, e1, cond_true, Option.map_some] <;> rfl)) rfl <| OSuf.aop tyOK rfl sm rfl <| OSuf.aop tyOK rfl (zi (hv := by simp (disch := first | assumption | omega | (simp only [nx] <;> omega) | fail) only [aIndexAddr, ty34, ty49, hpl, k1, b1, sb, hg, g1, e1, cond_true, Option.map_some] <;> rfl)) rfl <| OSuf.aop tyOK rfl (zl (hv := by simp (disch := first | assumption | omega | (simp only [nx] <;> omega) | fail) only [aLoad, ty49, rowOf, hpl, k1, b1, sb, hg, g1, e1, cond_true, Option.map_some] <;> rfl)) rfl <| OSuf.vcall rfl (by simp only [lk] <;> rfl) (by simp only [aopnds, lk] <;> rfl) (hy) ?_
          rintro u g' ⟨rfl, hr⟩
          refine ⟨_, rfl, ?_⟩
          refine OSuf.aopT tyOK rfl (so_not (by simp only [lk] <;> rfl)) (fun _ => rfl) rfl <| OSuf.nil <| SQ.normal ?_
          refine W.yes (by simp only [lk] <;> rfl) <| CWp.ret <| BQ.ret <| SQ.ret <| LQ.ret <| BQ.ret <| NQ.ret <| FQ.ret (by simp only [aRet, Tryz.f109, aResults, aResult, lk, Nat.reduceEqDiff, reduceIte] <;> rfl) ?_
          -- leaf: end
          exact ⟨rfl, hr⟩
  rintro L a' h' ha ⟨hr, rfl⟩
  exact FQ.normal (by simp only [aRet, Tryz.f109, aResults] <;> rfl) ⟨rfl, hr⟩
def AsksV (h : AHeap) (fv : Value) (is : Vr → Bool) : Prop := ∀ (g : AHeap) (x : Vr), h.next ≤ g.next → (∀ z, z < h.next → g.get z = h.get z) → VWp Tryz.prog fv [aggV x] g fun u g' => u = .bool (is x) ∧ g' = g
theorem AsksV.mono {h h' : AHeap} {fv : Value} {is : Vr → Bool} (a : AsksV h fv is) (hn : h.next ≤ h'.next) (hk : ∀ z, z < h.next → h'.get z = h.get z) : AsksV h' fv is := fun g x g1 g2 => a g x (Nat.le_trans hn g1) fun z hz => by rw [g2 z (by omega), hk z hz]
structure LG (h g : AHeap) (fv v : Value) (is : Vr → Bool) (V : List Vr) (LP : ALoop) (m : Nat) : Prop where
  next : h.next + 5 ≤ g.next
  f : g.get h.next = some (.cells [fv] 1)
  x : g.get (h.next + 1) = some (.cells [U64 0, U64 0, .bool false, .string ⟨#[]⟩, .bool false] 1)
  b : g.get (h.next + 2) = some (.cells [.bool false] 1)
  v : g.get (h.next + 3) = some (.cells [v] 1)
  l : g.get (h.next + 4) = some (.loop LP)
  old : ∀ z, z < h.next → g.get z = h.get z
  no : ∀ (j : Nat) (y : Vr), m ≤ j → V[j]? = some y → is y = false
structure LE (h g : AHeap) (x : Vr) (LP : ALoop) : Prop where
  next : h.next + 5 ≤ g.next
  x : g.get (h.next + 1) = some (.cells [U64 x.ts, U64 x.lsn, .bool x.del, .string x.val, .bool x.acked] 1)
  b : g.get (h.next + 2) = some (.cells [.bool true] 1)
  l : g.get (h.next + 4) = some (.loop (LP.with .done (some .ret)))
  old : ∀ z, z < h.next → g.get z = h.get z
theorem last_g (h : AHeap) (V : List Vr) (v fv : Value) (is : Vr → Bool) (hs : AVs h V v) (hl : V.length ≤ 1000000) (ha : AsksV h fv is) (hfv : ∃ f a b, fv = .func f a b) : FWp Tryz.prog 69 [v, fv] h fun u h' => u = .tuple #[aggV ((lastV is V).getD zeroV), .bool (lastV is V).isSome] ∧ h.next ≤ h'.next ∧ ∀ z, z < h.next → h'.get z = h.get z := by
  have tb69 := And.intro ty4 (And.intro ty49 (ty74))
  obtain ⟨a, c, rfl⟩ : ∃ a c, v = .slice a V.length c := by cases hs <;> exact ⟨_, _, rfl⟩
  obtain ⟨f1, f2, f3, rfl⟩ := hfv
  refine W.enter tyOK Tryz.func69 rfl rfl ?_
  simp only [entry]
  refine W.seq <| W.reg <| OSuf.aop tyOK rfl (so_box (by simp only [lk] <;> rfl)) rfl <| OSuf.aop tyOK rfl (so_alloc (by simp only [aAlloc, ty49] <;> rfl)) rfl <| OSuf.aop tyOK rfl (so_alloc (by simp only [aAlloc, ty4] <;> rfl)) rfl <| OSuf.nil <| SQ.normal ?_
  refine W.seq <| W.seq <| W.reg <| OSuf.aop tyOK rfl sm rfl <| OSuf.callD rfl (by simp only [aopnds, lk] <;> rfl) en91 (bw_c _ _) rfl <| OSuf.nil <| SQ.normal ?_
  -- leaf: loop
  refine W.block (CWp.rangeFunc (by simp only [aopnd, Tr.get_put, Nat.reduceEqDiff, reduceIte] <;> rfl) (fun l hl => by cases hl) (VWp.func en109 ?_))
  show FWp _ _ [_, _] _ _
  generalize hLP : (ALoop.mk _ _ _ _ _ _ _ _) = LP
  have hbusy : (LP.state == .busy) = false := by rw [← hLP]; rfl
  have hjn : jumpExit LP.pending = some .normal := by rw [← hLP]; rfl
  have hG : LG h (((((h.new (.cells [.func f1 f2 f3] 1)).new (.cells [U64 0, U64 0, .bool false, .string ⟨#[]⟩, .bool false] 1)).new (.cells [.bool false] 1)).new (.cells [.slice a V.length c] 1)).new (.loop LP)) (.func f1 f2 f3) (.slice a V.length c) is V LP V.length := by
    refine ⟨by simp, ?_, ?_, ?_, ?_, ?_, fun z hz => ?_, fun j y hj hy => ?_⟩
    all_goals first | (have := (List.getElem?_eq_some_iff.1 hy).1; omega) | (simp (disch := first | assumption | omega | (simp only [nx] <;> omega) | fail) only [hpl]; done) | (simp (disch := first | assumption | omega | (simp only [nx] <;> omega) | fail) only [hpl]; rfl)
  refine FWp.mono (K := fun v h2 => v = .tuple #[] ∧ ((lastV is V = none ∧ LG h h2 (.func f1 f2 f3) (.slice a V.length c) is V LP 0) ∨ ∃ x, lastV is V = some x ∧ LE h h2 x LP)) ?_ (fun v h2 hK => ?_)
  · refine bw1_g _ (h.next + 3) _ V _ (fun m g => LG h g (.func f1 f2 f3) (.slice a V.length c) is V LP m) _ hl ⟨_, _, rfl⟩ hG.v hG (fun m g hg => ⟨hg.v, avs_mono hs (by have := hg.next; omega) hg.old⟩) ?_ (fun g hg => .inl ⟨lastV_none fun j y hy => hg.no j y (Nat.zero_le _) hy, hg⟩)
    intro m x g hx hg
    obtain ⟨g1, g2, g3, g4, g5, g6, g7, g8⟩ := hg
    have hl := g6
    rw [← hLP] at hl
    cases hix : is x with
    | true =>
      refine .inr ?_
      refine VWp.mono (K := fun u g' => u = .bool false ∧ LE h g' x LP) (VWp.yield hl rfl ?_) (fun u g' hk => ⟨hk.1, .inr ⟨x, lastV_some hx hix fun j y hj hy => g8 j y (by omega) hy, hk.2⟩⟩)
      refine W.reg <| OSuf.aop tyOK rfl (so_alloc (by simp only [aAlloc, ty49] <;> rfl)) rfl <| OSuf.aop tyOK rfl (zs (hv := by simp (disch := first | assumption | omega | (simp only [nx] <;> omega) | fail) only [aStore, ty49, writeRow, hpl, Value.cells] <;> rfl)) rfl <| OSuf.nil <| ?_
      -- leaf: stop
      refine ⟨rfl, _, by (simp (disch := first | assumption | omega | (simp only [nx] <;> omega) | fail) only [hpl]; exact hl), rfl, ?_⟩
      have hask : ∀ G : AHeap, h.next ≤ G.next → (∀ z, z < h.next → G.get z = h.get z) → _ := fun G q1 q2 => ha G x q1 q2
      rw [hix] at hask
      refine W.block <| W.seq <| W.reg <| OSuf.aop tyOK rfl (zl (hv := by simp (disch := first | assumption | omega | (simp only [nx] <;> omega) | fail) only [aLoad, ty74, rowOf, hpl, g2, g3, g4, Value.cells] <;> rfl)) rfl <| OSuf.aop tyOK rfl (zl (hv := by simp (disch := first | assumption | omega | (simp only [nx] <;> omega) | fail) only [aLoad, ty49, rowOf, hpl, g2, g3, g4, Value.cells] <;> rfl)) rfl <| OSuf.vcallD rfl (by simp only [lk] <;> rfl) (by simp only [aopnds, lk] <;> rfl) (hask _ (by simp only [nx]; omega) (fun z hz => by simp (disch := first | assumption | omega | (simp only [nx] <;> omega) | fail) only [hpl]; exact g7 z hz)) rfl <| OSuf.nil <| SQ.normal ?_
      refine W.yes (by simp only [lk] <;> rfl) <| W.seq <| W.reg <| OSuf.aop tyOK rfl (zl (hv := by simp (disch := first | assumption | omega | (simp only [nx] <;> omega) | fail) only [aLoad, ty49, rowOf, hpl, g2, g3, g4, Value.cells] <;> rfl)) rfl <| OSuf.aop tyOK rfl (zs (hv := by simp (disch := first | assumption | omega | (simp only [nx] <;> omega) | fail) only [aStore, ty49, writeRow, hpl, g2, g3, g4, Value.cells] <;> rfl)) rfl <| OSuf.aop tyOK rfl (zs (hv := by simp (disch := first | assumption | omega | (simp only [nx] <;> omega) | fail) only [aStore, ty4, writeRow, hpl, g2, g3, g4, Value.cells] <;> rfl)) rfl <| OSuf.nil <| SQ.normal ?_
      refine CWp.ret <| BQ.ret <| ?_
      -- leaf: stop
      refine ⟨_, by (simp (disch := first | assumption | omega | (simp only [nx] <;> omega) | fail) only [hpl]; rfl), rfl, ?_, ?_, ?_, ?_, fun z hz => ?_⟩
      · simp only [nx]; omega
      · simp (disch := first | assumption | omega | (simp only [nx] <;> omega) | fail) only [hpl]; rfl
      · simp (disch := first | assumption | omega | (simp only [nx] <;> omega) | fail) only [hpl]; rfl
      · simp (disch := first | assumption | omega | (simp only [nx] <;> omega) | fail) only [hpl]; rw [← hLP]; rfl
      · simp (disch := first | assumption | omega | (simp only [nx] <;> omega) | fail) only [hpl]; exact g7 z hz
    | false =>
      refine .inl ?_
      refine VWp.yield hl rfl ?_
      refine W.reg <| OSuf.aop tyOK rfl (so_alloc (by simp only [aAlloc, ty49] <;> rfl)) rfl <| OSuf.aop tyOK rfl (zs (hv := by simp (disch := first | assumption | omega | (simp only [nx] <;> omega) | fail) only [aStore, ty49, writeRow, hpl, Value.cells] <;> rfl)) rfl <| OSuf.nil <| ?_
      -- leaf: stop
      refine ⟨rfl, _, by (simp (disch := first | assumption | omega | (simp only [nx] <;> omega) | fail) only [hpl]; exact hl), rfl, ?_⟩
      have hask : ∀ G : AHeap, h.next ≤ G.next → (∀ z, z < h.next → G.get z = h.get z) → _ := fun G q1 q2 => ha G x q1 q2
      rw [hix] at hask
      refine W.block <| W.seq <| W.reg <| OSuf.aop tyOK rfl (zl (hv := by simp (disch := first | assumption | omega | (simp only [nx] <;> omega) | fail) only [aLoad, ty74, rowOf, hpl, g2, g3, g4, Value.cells] <;> rfl)) rfl <| OSuf.aop tyOK rfl (zl (hv := by simp (disch := first | assumption | omega | (simp only [nx] <;> omega) | fail) only [aLoad, ty49, rowOf, hpl, g2, g3, g4, Value.cells] <;> rfl)) rfl <| OSuf.vcallD rfl (by simp only [lk] <;> rfl) (by simp only [aopnds, lk] <;> rfl) (hask _ (by simp only [nx]; omega) (fun z hz => by simp (disch := first | assumption | omega | (simp only [nx] <;> omega) | fail) only [hpl]; exact g7 z hz)) rfl <| OSuf.nil <| SQ.normal ?_
      refine W.no (by simp only [lk] <;> rfl) <| CWp.skip <| BQ.normal <| ?_
      -- leaf: stop
      refine ⟨_, by (simp (disch := first | assumption | omega | (simp only [nx] <;> omega) | fail) only [hpl]; rfl), rfl, ?_, ?_, ?_, ?_, ?_, ?_, fun z hz => ?_, fun j y hj hy => ?_⟩
      · simp only [nx]; omega
      · simp (disch := first | assumption | omega | (simp only [nx] <;> omega) | fail) only [hpl]; exact g2
      · simp (disch := first | assumption | omega | (simp only [nx] <;> omega) | fail) only [hpl]; exact g3
      · simp (disch := first | assumption | omega | (simp only [nx] <;> omega) | fail) only [hpl]; exact g4
      · simp (disch := first | assumption | omega | (simp only [nx] <;> omega) | fail) only [hpl]; exact g5
      · simp (disch := first | assumption | omega | (simp only [nx] <;> omega) | fail) only [hpl]; rw [← hLP]; rfl
      · simp (disch := first | assumption | omega | (simp only [nx] <;> omega) | fail) only [hpl]; exact g7 z hz
      · by_cases hjm : j = m
        · subst hjm; rw [hx] at hy; cases hy; exact hix
        · exact g8 j y (by omega) hy
  · clear hLP
    obtain ⟨rfl, ⟨e, hg⟩ | ⟨x, e, hE⟩⟩ := hK
    · obtain ⟨g1, g2, g3, g4, g5, g6, g7, g8⟩ := hg
      refine ⟨LP, .normal, g6, hbusy, hjn, ?_⟩
      refine BQ.normal <| SQ.normal ?_
      refine W.seq <| W.reg <| OSuf.aop tyOK rfl (zl (hv := by simp (disch := first | assumption | omega | (simp only [nx] <;> omega) | fail) only [aLoad, ty49, rowOf, hpl, g3, g4, Value.cells] <;> rfl)) rfl <| OSuf.aop tyOK rfl (zs (hv := by simp (disch := first | assumption | omega | (simp only [nx] <;> omega) | fail) only [aStore, ty49, writeRow, hpl, g3, g4, Value.cells] <;> rfl)) rfl <| OSuf.aop tyOK rfl (zs (hv := by simp (disch := first | assumption | omega | (simp only [nx] <;> omega) | fail) only [aStore, ty4, writeRow, hpl, g3, g4, Value.cells] <;> rfl)) rfl <| OSuf.nil <| SQ.normal ?_
      refine CWp.ret <| FQ.ret (by simp (disch := first | assumption | omega | (simp only [nx] <;> omega) | fail) only [aRet, Tryz.f69, aResults, aResult, lk, Nat.reduceEqDiff, reduceIte, aLoad, rowOf, hpl, g3, g4, Value.cells, places, tb69] <;> rfl) ?_
      -- leaf: end
      refine ⟨by rw [e]; rfl, by (simp only [nx]; omega), fun z hz => ?_⟩
      simp (disch := first | assumption | omega | (simp only [nx] <;> omega) | fail) only [hpl]; exact g7 z hz
    · obtain ⟨g1, g2, g3, g4, g5⟩ := hE
      refine ⟨_, .ret, g4, rfl, rfl, ?_⟩
      refine BQ.ret <| SQ.ret <| FQ.ret (by simp (disch := first | assumption | omega | (simp only [nx] <;> omega) | fail) only [aRet, Tryz.f69, aResults, aResult, lk, Nat.reduceEqDiff, reduceIte, aLoad, rowOf, hpl, g2, g3] <;> rfl) ?_
      refine ⟨by rw [e]; rfl, by (simp only [nx]; omega), fun z hz => ?_⟩
      simp (disch := first | assumption | omega | (simp only [nx] <;> omega) | fail) only [hpl]; exact g5 z hz
theorem bv_tup {n : Nat} (x : Vr) (b : Bool) : BV n (.tuple #[aggV x, .bool b]) :=
  ⟨fun _ => none, _, .tuple (.cons (.agg (.cons (.int _ _) (.cons (.int _ _) (.cons (.bool _) (.cons (.string _) (.cons (.bool _) .nil)))))) (.cons (.bool _) .nil))⟩
theorem seen_g (h : AHeap) (V : List Vr) (v fv : Value) (is : Vr → Bool) (hs : AVs h V v) (hl : V.length ≤ 1000000) (hr : Ris V) (ha : AsksV h fv is) (hfv : ∃ f a b, fv = .func f a b) : FWp Tryz.prog 47 [v, fv] h fun u h' => u = .tuple #[aggV ((lastV is V).getD zeroV), .bool (lastV is V).isSome] ∧ h.next ≤ h'.next ∧ ∀ z, z < h.next → h'.get z = h.get z := by
  have hs1 : AVs (h.new (.cells [U64 0, U64 0, .bool false, .string ⟨#[]⟩, .bool false] 1)) V v := avs_mono hs (by simp) fun z hz => AHeap.get_new_ne (by omega)
  have hl1 := last_g (h.new (.cells [U64 0, U64 0, .bool false, .string ⟨#[]⟩, .bool false] 1)) V v fv is hs1 hl (ha.mono (by simp) fun z hz => AHeap.get_new_ne (by omega)) hfv
  obtain ⟨x, hx⟩ : ∃ x, x = (lastV is V).getD zeroV := ⟨_, rfl⟩
  obtain ⟨b, hb⟩ : ∃ b, b = (lastV is V).isSome := ⟨_, rfl⟩
  rw [← hx, ← hb] at hl1 ⊢
  refine W.enter tyOK Tryz.func47 rfl rfl ?_
  simp only [entry]
  refine W.seq <| W.reg <| OSuf.aop tyOK rfl (so_alloc (by simp only [aAlloc, ty49] <;> rfl)) rfl <| OSuf.aopF tyOK rfl za (fun _ => rfl) rfl <| OSuf.nil <| SQ.normal ?_
  refine W.seq <| W.seq <| W.reg <| OSuf.aop tyOK rfl sm rfl <| OSuf.callD rfl (by simp only [aopnds, lk] <;> rfl) en53 (may_c _ V v hs1 hl true (by simp [hr])) rfl <| OSuf.aopF tyOK rfl (so_not (by simp only [lk] <;> rfl)) (fun _ => rfl) rfl <| OSuf.nil <| SQ.normal ?_
  refine W.no (by simp only [lk] <;> rfl) <| CWp.skip <| SQ.normal ?_
  refine W.seq <| W.reg <| OSuf.aop tyOK rfl sm rfl <| OSuf.aop tyOK rfl sm rfl <| OSuf.call rfl (by simp only [aopnds, lk] <;> rfl) en69 (hl1) ?_
  rintro _ h1 ⟨rfl, hn, ho⟩
  have h2 : h1.get h.next = some (.cells [U64 0, U64 0, .bool false, .string ⟨#[]⟩, .bool false] 1) := (ho _ (by simp)).trans (AHeap.get_new_same _ _)
  refine ⟨_, rfl, ?_⟩
  refine OSuf.aop tyOK rfl (ze (hv := by simp (disch := first | assumption | omega | (simp only [nx] <;> omega) | fail) only [aExtract, hpl, Value.cells, places, ty49, h2, Value.cells] <;> rfl)) rfl <| OSuf.aop tyOK rfl (ze (hv := by simp (disch := first | assumption | omega | (simp only [nx] <;> omega) | fail) only [aExtract, hpl, Value.cells, places, ty49, h2, Value.cells] <;> rfl)) rfl <| OSuf.aop tyOK rfl (zs (hv := by simp (disch := first | assumption | omega | (simp only [nx] <;> omega) | fail) only [aStore, ty49, writeRow, hpl, Value.cells, ty49, h2, Value.cells] <;> rfl)) rfl <| OSuf.aop tyOK rfl za rfl <| OSuf.nil <| SQ.normal ?_
  refine CWp.ret <| FQ.ret (by simp (disch := first | assumption | omega | (simp only [nx] <;> omega) | fail) only [aRet, Tryz.f47, aResults, aResult, lk, Nat.reduceEqDiff, reduceIte, aLoad, rowOf, hpl, Value.cells, places, ty49, h2, Value.cells] <;> rfl) ?_
  -- leaf: end
  simp only [nx] at hn
  refine ⟨rfl, by (simp only [nx]; omega), fun z hz => ?_⟩
  simp (disch := first | assumption | omega | (simp only [nx] <;> omega) | fail) only [hpl]
  rw [ho z (by simp; omega), AHeap.get_new_ne (by omega)]
theorem vis1_c (g : AHeap) (q : Nat) (ts : Int) (x : Vr) (hq : g.get q = some (.cells [U64 ts] 1)) (hlt : q < g.next) : FWp Tryz.prog 48 [aggV x, P0 q] g fun u g' => u = .bool (decide (x.ts ≤ ts)) ∧ g' = g := by
  refine FWp.gcs (.flat rfl) (W.enter tyOK Tryz.func48 rfl rfl ?_)
  simp only [entry]
  refine W.seq <| W.reg <| OSuf.aop tyOK rfl (so_box (by simp only [lk] <;> rfl)) rfl <| OSuf.aopF tyOK rfl za (fun _ => rfl) rfl <| OSuf.nil <| SQ.normal ?_
  refine W.seq <| W.reg <| OSuf.aop tyOK rfl (zf (hv := fa_ok (k := 0) ty49 rfl rfl ty27 rfl rfl)) rfl <| OSuf.aop tyOK rfl (zl (hv := by simp (disch := first | assumption | omega | (simp only [nx] <;> omega) | fail) only [aLoad, ty27, rowOf, hpl, hq, Value.cells] <;> rfl)) rfl <| OSuf.aop tyOK rfl (zl (hv := by simp (disch := first | assumption | omega | (simp only [nx] <;> omega) | fail) only [aLoad, ty27, rowOf, hpl, hq, Value.cells] <;> rfl)) rfl <| OSuf.aop tyOK rfl (zb (hv := bi_leq)) rfl <| OSuf.aop tyOK rfl za rfl <| OSuf.nil <| SQ.normal ?_
  refine CWp.ret <| FQ.ret (by simp only [aRet, Tryz.f48, aResults, aResult, lk, Nat.reduceEqDiff, reduceIte] <;> rfl) ?_
  -- leaf: end
  exact ⟨rfl, fun z o hz ho => by simp (disch := first | assumption | omega | (simp only [nx] <;> omega) | fail) only [hpl]; exact ho⟩
theorem visible_c (h : AHeap) (V : List Vr) (v : Value) (ts : Int) (hs : AVs h V v) (hl : V.length ≤ 1000000) (hr : Ris V) : FWp Tryz.prog 19 [v, U64 ts] h fun u h' => u = .tuple #[aggV ((lastV (fun x => decide (x.ts ≤ ts)) V).getD zeroV), .bool (lastV (fun x => decide (x.ts ≤ ts)) V).isSome] ∧ h' = h := by
  refine FWp.gcs (bv_tup _ _) ?_
  have hs1 : AVs ((h.new (.cells [U64 ts] 1)).new (.cells [U64 0, U64 0, .bool false, .string ⟨#[]⟩, .bool false] 1)) V v := avs_mono hs (by simp; omega) fun z hz => by simp (disch := first | assumption | omega | (simp only [nx] <;> omega) | fail) only [hpl]
  have hask : AsksV ((h.new (.cells [U64 ts] 1)).new (.cells [U64 0, U64 0, .bool false, .string ⟨#[]⟩, .bool false] 1)) (.func (.func 48) #[] #[P0 h.next]) (fun x => decide (x.ts ≤ ts)) := fun g x g1 g2 => VWp.func en48 (vis1_c g h.next ts x (by rw [g2 _ (by simp only [nx]; omega)]; simp (disch := first | assumption | omega | (simp only [nx] <;> omega) | fail) only [hpl]) (by simp only [nx] at g1; omega))
  have hl1 := seen_g _ V v _ _ hs1 hl hr hask ⟨_, _, _, rfl⟩
  obtain ⟨x, hx⟩ : ∃ x, x = (lastV (fun x => decide (x.ts ≤ ts)) V).getD zeroV := ⟨_, rfl⟩
  obtain ⟨b, hb⟩ : ∃ b, b = (lastV (fun x => decide (x.ts ≤ ts)) V).isSome := ⟨_, rfl⟩
  rw [← hx, ← hb] at hl1 ⊢
  refine W.enter tyOK Tryz.func19 rfl rfl ?_
  simp only [entry]
  refine W.seq <| W.reg <| OSuf.aop tyOK rfl (so_box (by simp only [lk] <;> rfl)) rfl <| OSuf.aop tyOK rfl (so_alloc (by simp only [aAlloc, ty49] <;> rfl)) rfl <| OSuf.aopF tyOK rfl za (fun _ => rfl) rfl <| OSuf.nil <| SQ.normal ?_
  refine W.seq <| W.reg <| OSuf.aop tyOK rfl sm rfl <| OSuf.aop tyOK rfl (so_makeFunc rfl (by simp only [aopnds, lk] <;> rfl) (by simp only [aopnds, lk] <;> rfl)) rfl <| OSuf.call rfl (by simp only [aopnds, lk] <;> rfl) en47 (hl1) ?_
  rintro _ h1 ⟨rfl, hn, ho⟩
  have h2 : h1.get (h.next + 1) = some (.cells [U64 0, U64 0, .bool false, .string ⟨#[]⟩, .bool false] 1) := (ho _ (by simp)).trans (by simp (disch := first | assumption | omega | (simp only [nx] <;> omega) | fail) only [hpl])
  refine ⟨_, rfl, ?_⟩
  refine OSuf.aop tyOK rfl (ze (hv := by simp (disch := first | assumption | omega | (simp only [nx] <;> omega) | fail) only [aExtract, hpl, Value.cells, places, ty49, h2, Value.cells] <;> rfl)) rfl <| OSuf.aop tyOK rfl (ze (hv := by simp (disch := first | assumption | omega | (simp only [nx] <;> omega) | fail) only [aExtract, hpl, Value.cells, places, ty49, h2, Value.cells] <;> rfl)) rfl <| OSuf.aop tyOK rfl (zs (hv := by simp (disch := first | assumption | omega | (simp only [nx] <;> omega) | fail) only [aStore, ty49, writeRow, hpl, Value.cells, ty49, h2, Value.cells] <;> rfl)) rfl <| OSuf.aop tyOK rfl za rfl <| OSuf.nil <| SQ.normal ?_
  refine CWp.ret <| FQ.ret (by simp (disch := first | assumption | omega | (simp only [nx] <;> omega) | fail) only [aRet, Tryz.f19, aResults, aResult, lk, Nat.reduceEqDiff, reduceIte, aLoad, rowOf, hpl, Value.cells, places, ty49, h2, Value.cells] <;> rfl) ?_
  -- leaf: end
  simp only [nx] at hn
  refine ⟨rfl, fun z o hz hh => ?_⟩
  simp (disch := first | assumption | omega | (simp only [nx] <;> omega) | fail) only [hpl]
  rw [ho z (by simp; omega)]; simp (disch := first | assumption | omega | (simp only [nx] <;> omega) | fail) only [hpl]; exact hh
theorem bel1_c (g : AHeap) (q : Nat) (ts : Int) (x : Vr) (hq : g.get q = some (.cells [U64 ts] 1)) (hlt : q < g.next) : FWp Tryz.prog 57 [aggV x, P0 q] g fun u g' => u = .bool (decide (x.ts < ts)) ∧ g' = g := by
  refine FWp.gcs (.flat rfl) (W.enter tyOK Tryz.func57 rfl rfl ?_)
  simp only [entry]
  refine W.seq <| W.reg <| OSuf.aop tyOK rfl (so_box (by simp only [lk] <;> rfl)) rfl <| OSuf.aopF tyOK rfl za (fun _ => rfl) rfl <| OSuf.nil <| SQ.normal ?_
  refine W.seq <| W.reg <| OSuf.aop tyOK rfl (zf (hv := fa_ok (k := 0) ty49 rfl rfl ty27 rfl rfl)) rfl <| OSuf.aop tyOK rfl (zl (hv := by simp (disch := first | assumption | omega | (simp only [nx] <;> omega) | fail) only [aLoad, ty27, rowOf, hpl, hq, Value.cells] <;> rfl)) rfl <| OSuf.aop tyOK rfl (zl (hv := by simp (disch := first | assumption | omega | (simp only [nx] <;> omega) | fail) only [aLoad, ty27, rowOf, hpl, hq, Value.cells] <;> rfl)) rfl <| OSuf.aop tyOK rfl (zb (hv := bi_lss)) rfl <| OSuf.aop tyOK rfl za rfl <| OSuf.nil <| SQ.normal ?_
  refine CWp.ret <| FQ.ret (by simp only [aRet, Tryz.f57, aResults, aResult, lk, Nat.reduceEqDiff, reduceIte] <;> rfl) ?_
  -- leaf: end
  exact ⟨rfl, fun z o hz ho => by simp (disch := first | assumption | omega | (simp only [nx] <;> omega) | fail) only [hpl]; exact ho⟩
theorem below_c (h : AHeap) (V : List Vr) (v : Value) (ts : Int) (hs : AVs h V v) (hl : V.length ≤ 1000000) (hr : Ris V) : FWp Tryz.prog 28 [v, U64 ts] h fun u h' => u = .tuple #[aggV ((lastV (fun x => decide (x.ts < ts)) V).getD zeroV), .bool (lastV (fun x => decide (x.ts < ts)) V).isSome] ∧ h' = h := by
  refine FWp.gcs (bv_tup _ _) ?_
  have hs1 : AVs ((h.new (.cells [U64 ts] 1)).new (.cells [U64 0, U64 0, .bool false, .string ⟨#[]⟩, .bool false] 1)) V v := avs_mono hs (by simp; omega) fun z hz => by simp (disch := first | assumption | omega | (simp only [nx] <;> omega) | fail) only [hpl]
  have hask : AsksV ((h.new (.cells [U64 ts] 1)).new (.cells [U64 0, U64 0, .bool false, .string ⟨#[]⟩, .bool false] 1)) (.func (.func 57) #[] #[P0 h.next]) (fun x => decide (x.ts < ts)) := fun g x g1 g2 => VWp.func en57 (bel1_c g h.next ts x (by rw [g2 _ (by simp only [nx]; omega)]; simp (disch := first | assumption | omega | (simp only [nx] <;> omega) | fail) only [hpl]) (by simp only [nx] at g1; omega))
  have hl1 := seen_g _ V v _ _ hs1 hl hr hask ⟨_, _, _, rfl⟩
  obtain ⟨x, hx⟩ : ∃ x, x = (lastV (fun x => decide (x.ts < ts)) V).getD zeroV := ⟨_, rfl⟩
  obtain ⟨b, hb⟩ : ∃ b, b = (lastV (fun x => decide (x.ts < ts)) V).isSome := ⟨_, rfl⟩
  rw [← hx, ← hb] at hl1 ⊢
  refine W.enter tyOK Tryz.func28 rfl rfl ?_
  simp only [entry]
  refine W.seq <| W.reg <| OSuf.aop tyOK rfl (so_box (by simp only [lk] <;> rfl)) rfl <| OSuf.aop tyOK rfl (so_alloc (by simp only [aAlloc, ty49] <;> rfl)) rfl <| OSuf.aopF tyOK rfl za (fun _ => rfl) rfl <| OSuf.nil <| SQ.normal ?_
  refine W.seq <| W.reg <| OSuf.aop tyOK rfl sm rfl <| OSuf.aop tyOK rfl (so_makeFunc rfl (by simp only [aopnds, lk] <;> rfl) (by simp only [aopnds, lk] <;> rfl)) rfl <| OSuf.call rfl (by simp only [aopnds, lk] <;> rfl) en47 (hl1) ?_
  rintro _ h1 ⟨rfl, hn, ho⟩
  have h2 : h1.get (h.next + 1) = some (.cells [U64 0, U64 0, .bool false, .string ⟨#[]⟩, .bool false] 1) := (ho _ (by simp)).trans (by simp (disch := first | assumption | omega | (simp only [nx] <;> omega) | fail) only [hpl])
  refine ⟨_, rfl, ?_⟩
  refine OSuf.aop tyOK rfl (ze (hv := by simp (disch := first | assumption | omega | (simp only [nx] <;> omega) | fail) only [aExtract, hpl, Value.cells, places, ty49, h2, Value.cells] <;> rfl)) rfl <| OSuf.aop tyOK rfl (ze (hv := by simp (disch := first | assumption | omega | (simp only [nx] <;> omega) | fail) only [aExtract, hpl, Value.cells, places, ty49, h2, Value.cells] <;> rfl)) rfl <| OSuf.aop tyOK rfl (zs (hv := by simp (disch := first | assumption | omega | (simp only [nx] <;> omega) | fail) only [aStore, ty49, writeRow, hpl, Value.cells, ty49, h2, Value.cells] <;> rfl)) rfl <| OSuf.aop tyOK rfl za rfl <| OSuf.nil <| SQ.normal ?_
  refine CWp.ret <| FQ.ret (by simp (disch := first | assumption | omega | (simp only [nx] <;> omega) | fail) only [aRet, Tryz.f28, aResults, aResult, lk, Nat.reduceEqDiff, reduceIte, aLoad, rowOf, hpl, Value.cells, places, ty49, h2, Value.cells] <;> rfl) ?_
  -- leaf: end
  simp only [nx] at hn
  refine ⟨rfl, fun z o hz hh => ?_⟩
  simp (disch := first | assumption | omega | (simp only [nx] <;> omega) | fail) only [hpl]
  rw [ho z (by simp; omega)]; simp (disch := first | assumption | omega | (simp only [nx] <;> omega) | fail) only [hpl]; exact hh
theorem newest_g (h : AHeap) (V : List Vr) (v : Value) (hs : AVs h V v) (hl : V.length ≤ 1000000) (hr : Ris V) : FWp Tryz.prog 25 [v] h fun u h' => u = .tuple #[aggV ((lastV (fun _ => true) V).getD zeroV), .bool (lastV (fun _ => true) V).isSome] ∧ h' = h := by
  refine FWp.gcs (bv_tup _ _) ?_
  have hs1 : AVs (h.new (.cells [U64 0, U64 0, .bool false, .string ⟨#[]⟩, .bool false] 1)) V v := avs_mono hs (by simp) fun z hz => by simp (disch := first | assumption | omega | (simp only [nx] <;> omega) | fail) only [hpl]
  have hask : AsksV (h.new (.cells [U64 0, U64 0, .bool false, .string ⟨#[]⟩, .bool false] 1)) (.func (.func 50) #[] #[]) (fun _ => true) := fun g x g1 g2 => VWp.func en50 (newest1_c g x)
  have hl1 := seen_g _ V v _ _ hs1 hl hr hask ⟨_, _, _, rfl⟩
  obtain ⟨x, hx⟩ : ∃ x, x = (lastV (fun _ => true) V).getD zeroV := ⟨_, rfl⟩
  obtain ⟨b, hb⟩ : ∃ b, b = (lastV (fun _ => true) V).isSome := ⟨_, rfl⟩
  rw [← hx, ← hb] at hl1 ⊢
  refine W.enter tyOK Tryz.func25 rfl rfl ?_
  simp only [entry]
  refine W.seq <| W.reg <| OSuf.aop tyOK rfl (so_alloc (by simp only [aAlloc, ty49] <;> rfl)) rfl <| OSuf.aopF tyOK rfl za (fun _ => rfl) rfl <| OSuf.nil <| SQ.normal ?_
  refine W.seq <| W.reg <| OSuf.aop tyOK rfl sm rfl <| OSuf.call rfl (by simp only [aopnds, lk] <;> rfl) en47 (hl1) ?_
  rintro _ h1 ⟨rfl, hn, ho⟩
  have h2 : h1.get h.next = some (.cells [U64 0, U64 0, .bool false, .string ⟨#[]⟩, .bool false] 1) := (ho _ (by simp)).trans (by simp (disch := first | assumption | omega | (simp only [nx] <;> omega) | fail) only [hpl])
  refine ⟨_, rfl, ?_⟩
  refine OSuf.aop tyOK rfl (ze (hv := by simp (disch := first | assumption | omega | (simp only [nx] <;> omega) | fail) only [aExtract, hpl, Value.cells, places, ty49, h2, Value.cells] <;> rfl)) rfl <| OSuf.aop tyOK rfl (ze (hv := by simp (disch := first | assumption | omega | (simp only [nx] <;> omega) | fail) only [aExtract, hpl, Value.cells, places, ty49, h2, Value.cells] <;> rfl)) rfl <| OSuf.aop tyOK rfl (zs (hv := by simp (disch := first | assumption | omega | (simp only [nx] <;> omega) | fail) only [aStore, ty49, writeRow, hpl, Value.cells, ty49, h2, Value.cells] <;> rfl)) rfl <| OSuf.aop tyOK rfl za rfl <| OSuf.nil <| SQ.normal ?_
  refine CWp.ret <| FQ.ret (by simp (disch := first | assumption | omega | (simp only [nx] <;> omega) | fail) only [aRet, Tryz.f25, aResults, aResult, lk, Nat.reduceEqDiff, reduceIte, aLoad, rowOf, hpl, Value.cells, places, ty49, h2, Value.cells] <;> rfl) ?_
  -- leaf: end
  simp only [nx] at hn
  refine ⟨rfl, fun z o hz hh => ?_⟩
  simp (disch := first | assumption | omega | (simp only [nx] <;> omega) | fail) only [hpl]
  rw [ho z (by simp; omega)]; simp (disch := first | assumption | omega | (simp only [nx] <;> omega) | fail) only [hpl]; exact hh
structure Vd where
  fetch : Bool
  err : Int
  found : Bool
  val : ByteArray
  hang : Int
  need : Int
  over : Int
def aggD (d : Vd) : Value := .agg #[.bool d.fetch, I64 d.err, .bool d.found, .string d.val, U64 d.hang, U64 d.need, U64 d.over]
def openB (v : Vr) : Bool := (v.ts != 0) && (v.lsn == 0)
theorem open_c (h : AHeap) (v : Vr) : FWp Tryz.prog 29 [aggV v] h fun u h' => u = .bool (openB v) ∧ h' = h := by
  refine FWp.gcs (.flat rfl) (W.enter tyOK Tryz.func29 rfl rfl ?_)
  simp only [entry]
  cases h1 : (v.ts != 0) with
  | true =>
    refine W.seq <| W.reg <| OSuf.aop tyOK rfl (so_box (by simp only [lk] <;> rfl)) rfl <| OSuf.aopF tyOK rfl za (fun _ => rfl) rfl <| OSuf.nil <| SQ.normal ?_
    refine W.seq <| W.reg <| OSuf.aop tyOK rfl (zf (hv := fa_ok (k := 0) ty49 rfl rfl ty27 rfl rfl)) rfl <| OSuf.aop tyOK rfl (zl (hv := by simp (disch := first | assumption | omega | (simp only [nx] <;> omega) | fail) only [aLoad, ty27, rowOf, hpl, Value.cells] <;> rfl)) rfl <| OSuf.aopT tyOK rfl (zb (hv := bi_neq)) (fun _ => rfl) (h1) <| OSuf.aopT tyOK rfl sm (fun _ => rfl) rfl <| OSuf.aop tyOK ag (zf (hv := fa_ok (k := 1) ty49 rfl rfl ty27 rfl rfl)) rfl <| OSuf.aop tyOK ag (zl (hv := by simp (disch := first | assumption | omega | (simp only [nx] <;> omega) | fail) only [aLoad, ty27, rowOf, hpl, Value.cells] <;> rfl)) rfl <| OSuf.aop tyOK ag (zb (hv := bi_eql)) rfl <| OSuf.aop tyOK rfl (so_pick (by simp only [lk] <;> rfl) (by simp only [lk, cond_true, cond_false] <;> rfl)) rfl <| OSuf.aop tyOK rfl za rfl <| OSuf.nil <| SQ.normal ?_
    refine CWp.ret <| FQ.ret (by simp only [aRet, Tryz.f29, aResults, aResult, lk, Nat.reduceEqDiff, reduceIte] <;> rfl) ?_
    -- leaf: end
    exact ⟨by rw [openB, h1]; rfl, fun z o hz ho => by simp (disch := first | assumption | omega | (simp only [nx] <;> omega) | fail) only [hpl]; exact ho⟩
  | false =>
    refine W.seq <| W.reg <| OSuf.aop tyOK rfl (so_box (by simp only [lk] <;> rfl)) rfl <| OSuf.aopF tyOK rfl za (fun _ => rfl) rfl <| OSuf.nil <| SQ.normal ?_
    refine W.seq <| W.reg <| OSuf.aop tyOK rfl (zf (hv := fa_ok (k := 0) ty49 rfl rfl ty27 rfl rfl)) rfl <| OSuf.aop tyOK rfl (zl (hv := by simp (disch := first | assumption | omega | (simp only [nx] <;> omega) | fail) only [aLoad, ty27, rowOf, hpl, Value.cells] <;> rfl)) rfl <| OSuf.aopF tyOK rfl (zb (hv := bi_neq)) (fun _ => rfl) (h1) <| OSuf.aopF tyOK rfl sm (fun _ => rfl) rfl <| OSuf.pass ag rfl <| OSuf.pass ag rfl <| OSuf.pass ag rfl <| OSuf.aopF tyOK rfl (so_pick (by simp only [lk] <;> rfl) (by simp only [lk, cond_true, cond_false] <;> rfl)) (fun _ => rfl) rfl <| OSuf.aopF tyOK rfl za (fun _ => rfl) rfl <| OSuf.nil <| SQ.normal ?_
    refine CWp.ret <| FQ.ret (by simp only [aRet, Tryz.f29, aResults, aResult, lk, Nat.reduceEqDiff, reduceIte] <;> rfl) ?_
    -- leaf: end
    exact ⟨by rw [openB, h1]; rfl, fun z o hz ho => by simp (disch := first | assumption | omega | (simp only [nx] <;> omega) | fail) only [hpl]; exact ho⟩
def hangV (v : Vr) (ts : Int) : Int := if openB v && (v.ts != ts) then v.ts else 0
def needV (v : Vr) (st : Int) : Int := if (v.ts != 0) && decide (v.lsn > st) then v.lsn else 0
def lookD (v : Vr) (ts st : Int) : Vd := ⟨false, 0, !v.del, v.val, hangV v ts, needV v st, 0⟩
theorem bv_d {n : Nat} (d : Vd) : BV n (aggD d) := ⟨fun _ => none, _, .agg (.cons (.bool _) (.cons (.int _ _) (.cons (.bool _) (.cons (.string _) (.cons (.int _ _) (.cons (.int _ _) (.cons (.int _ _) .nil)))))))⟩
theorem look_c (h : AHeap) (v : Vr) (ts st : Int) : FWp Tryz.prog 20 [aggV v, U64 ts, U64 st] h fun u h' => u = aggD (lookD v ts st) ∧ h' = h := by
  have tb20 := And.intro ty27 (And.intro ty29 (And.intro ty4 (And.intro ty49 (ty9))))
  refine FWp.gcs (bv_d _) (W.enter tyOK Tryz.func20 rfl rfl ?_)
  simp only [entry]
  refine W.seq <| W.reg <| OSuf.aop tyOK rfl (so_box (by simp only [lk] <;> rfl)) rfl <| OSuf.aop tyOK rfl (so_alloc (by simp only [aAlloc, ty29] <;> rfl)) rfl <| OSuf.nil <| SQ.normal ?_
  refine W.seq <| W.reg <| OSuf.aop tyOK rfl (zf (hv := fa_ok (k := 2) ty49 rfl rfl ty4 rfl rfl)) rfl <| OSuf.aop tyOK rfl (zl (hv := by simp (disch := first | assumption | omega | (simp only [nx] <;> omega) | fail) only [aLoad, ty4, rowOf, hpl, Value.cells] <;> rfl)) rfl <| OSuf.aop tyOK rfl (so_not (by simp only [lk] <;> rfl)) rfl <| OSuf.aop tyOK rfl (zf (hv := fa_ok (k := 3) ty49 rfl rfl ty9 rfl rfl)) rfl <| OSuf.aop tyOK rfl (zl (hv := by simp (disch := first | assumption | omega | (simp only [nx] <;> omega) | fail) only [aLoad, ty9, rowOf, hpl, Value.cells] <;> rfl)) rfl <| OSuf.aop tyOK rfl (so_build (by simp only [aparts, lk] <;> rfl) (by simp only [aBuild, ty29, Value.cells, places, tb20] <;> rfl)) rfl <| OSuf.aop tyOK rfl (so_alloc (by simp only [aAlloc, ty29] <;> rfl)) rfl <| OSuf.aop tyOK rfl (zs (hv := by simp (disch := first | assumption | omega | (simp only [nx] <;> omega) | fail) only [aStore, ty29, writeRow, hpl, Value.cells] <;> rfl)) rfl <| OSuf.nil <| SQ.normal ?_
  refine W.seq <| ?_
  -- leaf: upto
  have e0 : cellsOf [U64 v.ts, U64 v.lsn, .bool v.del, .string v.val, .bool v.acked] 0 5 = some [U64 v.ts, U64 v.lsn, .bool v.del, .string v.val, .bool v.acked] := rfl
  refine W.cut (fun L h' => h'.get h.next = some (.cells [U64 v.ts, U64 v.lsn, .bool v.del, .string v.val, .bool v.acked] 1) ∧ h'.get (h.next + 2) = some (.cells [.bool false, I64 0, .bool (!v.del), .string v.val, U64 (hangV v ts), U64 0, U64 0] 1) ∧ h'.get (h.next + 1) = some (.cells [.bool false, I64 0, .bool false, .string ⟨#[]⟩, U64 0, U64 0, U64 0] 1) ∧ h'.next = h.next + 3 ∧ (∀ z, z < h.next → h'.get z = h.get z) ∧ L = [(2, U64 st), (3, P0 h.next), (6, P0 (h.next + 1)), (7, P0 (h.next + 2))]) ?_ ?_
  · have ho := fun g : AHeap => open_c g v
    cases h1 : openB v with
    | false =>
      rw [h1] at ho
      refine W.seq <| W.reg <| OSuf.aop tyOK rfl (zl (hv := by simp (disch := first | assumption | omega | (simp only [nx] <;> omega) | fail) only [aLoad, ty49, rowOf, hpl, Value.cells, e0, Option.map_some, cond_true] <;> rfl)) rfl <| OSuf.callD rfl (by simp only [aopnds, lk] <;> rfl) en29 (ho _) rfl <| OSuf.aopF tyOK rfl sm (fun _ => rfl) rfl <| OSuf.pass ag rfl <| OSuf.pass ag rfl <| OSuf.pass ag rfl <| OSuf.pass ag rfl <| OSuf.aopF tyOK rfl (so_pick (by simp only [lk] <;> rfl) (by simp only [lk, cond_true, cond_false] <;> rfl)) (fun _ => rfl) rfl <| OSuf.nil <| SQ.normal ?_
      refine W.no (by simp only [lk] <;> rfl) <| CWp.skip <| ?_
      -- leaf: cut
      refine NQ.normal (L := [(2, U64 st), (3, P0 h.next), (6, P0 (h.next + 1)), (7, P0 (h.next + 2))]) ?_ ⟨?_, ?_, ?_, ?_, fun z hz => ?_, rfl⟩
      · simp only [HasA, Tr.get_put, Nat.reduceEqDiff, reduceIte, and_self] <;> first | done | trivial | exact ⟨rfl, trivial⟩ | exact ⟨rfl, rfl, trivial⟩
      · simp (disch := first | assumption | omega | (simp only [nx] <;> omega) | fail) only [hpl]
      · simp (disch := first | assumption | omega | (simp only [nx] <;> omega) | fail) only [hpl]; simp [hangV, h1] <;> rfl
      · simp (disch := first | assumption | omega | (simp only [nx] <;> omega) | fail) only [hpl] <;> rfl
      · rfl
      · simp (disch := first | assumption | omega | (simp only [nx] <;> omega) | fail) only [hpl]
    | true =>
      rw [h1] at ho
      cases h2 : (v.ts != ts) with
      | false =>
        refine W.seq <| W.reg <| OSuf.aop tyOK rfl (zl (hv := by simp (disch := first | assumption | omega | (simp only [nx] <;> omega) | fail) only [aLoad, ty49, rowOf, hpl, Value.cells, e0, Option.map_some, cond_true] <;> rfl)) rfl <| OSuf.callD rfl (by simp only [aopnds, lk] <;> rfl) en29 (ho _) rfl <| OSuf.aopT tyOK rfl sm (fun _ => rfl) rfl <| OSuf.aop tyOK ag (zf (hv := fa_ok (k := 0) ty49 rfl rfl ty27 rfl rfl)) rfl <| OSuf.aop tyOK ag (zl (hv := by simp (disch := first | assumption | omega | (simp only [nx] <;> omega) | fail) only [aLoad, ty27, rowOf, hpl, Value.cells, e0, Option.map_some, cond_true] <;> rfl)) rfl <| OSuf.aop tyOK ag sm rfl <| OSuf.aopF tyOK ag (zb (hv := bi_neq)) (fun _ => rfl) (h2) <| OSuf.aopF tyOK rfl (so_pick (by simp only [lk] <;> rfl) (by simp only [lk, cond_true, cond_false] <;> rfl)) (fun _ => rfl) rfl <| OSuf.nil <| SQ.normal ?_
        refine W.no (by simp only [lk] <;> rfl) <| CWp.skip <| ?_
        -- leaf: cut
        refine NQ.normal (L := [(2, U64 st), (3, P0 h.next), (6, P0 (h.next + 1)), (7, P0 (h.next + 2))]) ?_ ⟨?_, ?_, ?_, ?_, fun z hz => ?_, rfl⟩
        · simp only [HasA, Tr.get_put, Nat.reduceEqDiff, reduceIte, and_self] <;> first | done | trivial | exact ⟨rfl, trivial⟩ | exact ⟨rfl, rfl, trivial⟩
        · simp (disch := first | assumption | omega | (simp only [nx] <;> omega) | fail) only [hpl]
        · simp (disch := first | assumption | omega | (simp only [nx] <;> omega) | fail) only [hpl]; simp [hangV, h1, h2] <;> rfl
        · simp (disch := first | assumption | omega | (simp only [nx] <;> omega) | fail) only [hpl] <;> rfl
        · rfl
        · simp (disch := first | assumption | omega | (simp only [nx] <;> omega) | fail) only [hpl]
      | true =>
        refine W.seq <| W.reg <| OSuf.aop tyOK rfl (zl (hv := by simp (disch := first | assumption | omega | (simp only [nx] <;> omega) | fail) only [aLoad, ty49, rowOf, hpl, Value.cells, e0, Option.map_some, cond_true] <;> rfl)) rfl <| OSuf.callD rfl (by simp only [aopnds, lk] <;> rfl) en29 (ho _) rfl <| OSuf.aopT tyOK rfl sm (fun _ => rfl) rfl <| OSuf.aop tyOK ag (zf (hv := fa_ok (k := 0) ty49 rfl rfl ty27 rfl rfl)) rfl <| OSuf.aop tyOK ag (zl (hv := by simp (disch := first | assumption | omega | (simp only [nx] <;> omega) | fail) only [aLoad, ty27, rowOf, hpl, Value.cells, e0, Option.map_some, cond_true] <;> rfl)) rfl <| OSuf.aop tyOK ag sm rfl <| OSuf.aopT tyOK ag (zb (hv := bi_neq)) (fun _ => rfl) (h2) <| OSuf.aopT tyOK rfl (so_pick (by simp only [lk] <;> rfl) (by simp only [lk, cond_true, cond_false] <;> rfl)) (fun _ => rfl) rfl <| OSuf.nil <| SQ.normal ?_
        refine W.yes (by simp only [lk] <;> rfl) <| W.reg <| OSuf.aop tyOK rfl (zf (hv := fa_ok (k := 0) ty49 rfl rfl ty27 rfl rfl)) rfl <| OSuf.aop tyOK rfl (zl (hv := by simp (disch := first | assumption | omega | (simp only [nx] <;> omega) | fail) only [aLoad, ty27, rowOf, hpl, Value.cells, e0, Option.map_some, cond_true] <;> rfl)) rfl <| OSuf.aop tyOK rfl (zf (hv := fa_ok (k := 4) ty29 rfl rfl ty27 rfl rfl)) rfl <| OSuf.aop tyOK rfl (zs (hv := by simp (disch := first | assumption | omega | (simp only [nx] <;> omega) | fail) only [aStore, ty27, writeRow, hpl, Value.cells, e0, Option.map_some, cond_true] <;> rfl)) rfl <| OSuf.nil <| ?_
        -- leaf: cut
        refine NQ.normal (L := [(2, U64 st), (3, P0 h.next), (6, P0 (h.next + 1)), (7, P0 (h.next + 2))]) ?_ ⟨?_, ?_, ?_, ?_, fun z hz => ?_, rfl⟩
        · simp only [HasA, Tr.get_put, Nat.reduceEqDiff, reduceIte, and_self] <;> first | done | trivial | exact ⟨rfl, trivial⟩ | exact ⟨rfl, rfl, trivial⟩
        · simp (disch := first | assumption | omega | (simp only [nx] <;> omega) | fail) only [hpl]
        · simp (disch := first | assumption | omega | (simp only [nx] <;> omega) | fail) only [hpl]; simp [hangV, h1, h2] <;> rfl
        · simp (disch := first | assumption | omega | (simp only [nx] <;> omega) | fail) only [hpl] <;> rfl
        · rfl
        · simp (disch := first | assumption | omega | (simp only [nx] <;> omega) | fail) only [hpl]
  rintro L a' g ha ⟨g1, g2, g3, g4, g5, rfl⟩
  refine SQ.normal <| CWp.known ha ?_
  simp only [mkA]
  refine W.seq <| ?_
  -- leaf: upto
  refine W.cut (fun L h' => h'.get (h.next + 2) = some (.cells [.bool false, I64 0, .bool (!v.del), .string v.val, U64 (hangV v ts), U64 (needV v st), U64 0] 1) ∧ h'.get (h.next + 1) = some (.cells [.bool false, I64 0, .bool false, .string ⟨#[]⟩, U64 0, U64 0, U64 0] 1) ∧ h'.next = h.next + 3 ∧ (∀ z, z < h.next → h'.get z = h.get z) ∧ L = [(6, P0 (h.next + 1)), (7, P0 (h.next + 2))]) ?_ ?_
  · cases h1 : (v.ts != 0) with
    | false =>
      refine W.seq <| W.reg <| OSuf.aop tyOK rfl (zf (hv := fa_ok (k := 0) ty49 rfl rfl ty27 rfl rfl)) rfl <| OSuf.aop tyOK rfl (zl (hv := by simp (disch := first | assumption | omega | (simp only [nx] <;> omega) | fail) only [aLoad, ty27, rowOf, hpl, g1, g2, Value.cells] <;> rfl)) rfl <| OSuf.aopF tyOK rfl (zb (hv := bi_neq)) (fun _ => rfl) (h1) <| OSuf.aopF tyOK rfl sm (fun _ => rfl) rfl <| OSuf.pass ag rfl <| OSuf.pass ag rfl <| OSuf.pass ag rfl <| OSuf.pass ag rfl <| OSuf.aopF tyOK rfl (so_pick (by simp only [lk] <;> rfl) (by simp only [lk, cond_true, cond_false] <;> rfl)) (fun _ => rfl) rfl <| OSuf.nil <| SQ.normal ?_
      refine W.no (by simp only [lk] <;> rfl) <| CWp.skip <| ?_
      -- leaf: cut
      refine NQ.normal (L := [(6, P0 (h.next + 1)), (7, P0 (h.next + 2))]) ?_ ⟨?_, g3, g4, g5, rfl⟩
      · simp only [HasA, Tr.get_put, Nat.reduceEqDiff, reduceIte, and_self]
      · rw [g2]; simp [needV, h1]
    | true =>
      cases h2 : decide (v.lsn > st) with
      | false =>
        refine W.seq <| W.reg <| OSuf.aop tyOK rfl (zf (hv := fa_ok (k := 0) ty49 rfl rfl ty27 rfl rfl)) rfl <| OSuf.aop tyOK rfl (zl (hv := by simp (disch := first | assumption | omega | (simp only [nx] <;> omega) | fail) only [aLoad, ty27, rowOf, hpl, g1, g2, Value.cells] <;> rfl)) rfl <| OSuf.aopT tyOK rfl (zb (hv := bi_neq)) (fun _ => rfl) (h1) <| OSuf.aopT tyOK rfl sm (fun _ => rfl) rfl <| OSuf.aop tyOK ag (zf (hv := fa_ok (k := 1) ty49 rfl rfl ty27 rfl rfl)) rfl <| OSuf.aop tyOK ag (zl (hv := by simp (disch := first | assumption | omega | (simp only [nx] <;> omega) | fail) only [aLoad, ty27, rowOf, hpl, g1, g2, Value.cells] <;> rfl)) rfl <| OSuf.aop tyOK ag sm rfl <| OSuf.aopF tyOK ag (zb (hv := bi_gtr)) (fun _ => rfl) (h2) <| OSuf.aopF tyOK rfl (so_pick (by simp only [lk] <;> rfl) (by simp only [lk, cond_true, cond_false] <;> rfl)) (fun _ => rfl) rfl <| OSuf.nil <| SQ.normal ?_
        refine W.no (by simp only [lk] <;> rfl) <| CWp.skip <| ?_
        -- leaf: cut
        refine NQ.normal (L := [(6, P0 (h.next + 1)), (7, P0 (h.next + 2))]) ?_ ⟨?_, g3, g4, g5, rfl⟩
        · simp only [HasA, Tr.get_put, Nat.reduceEqDiff, reduceIte, and_self]
        · rw [g2]; simp only [needV, h1, h2]; rfl
      | true =>
        refine W.seq <| W.reg <| OSuf.aop tyOK rfl (zf (hv := fa_ok (k := 0) ty49 rfl rfl ty27 rfl rfl)) rfl <| OSuf.aop tyOK rfl (zl (hv := by simp (disch := first | assumption | omega | (simp only [nx] <;> omega) | fail) only [aLoad, ty27, rowOf, hpl, g1, g2, Value.cells] <;> rfl)) rfl <| OSuf.aopT tyOK rfl (zb (hv := bi_neq)) (fun _ => rfl) (h1) <| OSuf.aopT tyOK rfl sm (fun _ => rfl) rfl <| OSuf.aop tyOK ag (zf (hv := fa_ok (k := 1) ty49 rfl rfl ty27 rfl rfl)) rfl <| OSuf.aop tyOK ag (zl (hv := by simp (disch := first | assumption | omega | (simp only [nx] <;> omega) | fail) only [aLoad, ty27, rowOf, hpl, g1, g2, Value.cells] <;> rfl)) rfl <| OSuf.aop tyOK ag sm rfl <| OSuf.aopT tyOK ag (zb (hv := bi_gtr)) (fun _ => rfl) (h2) <| OSuf.aopT tyOK rfl (so_pick (by simp only [lk] <;> rfl) (by simp only [lk, cond_true, cond_false] <;> rfl)) (fun _ => rfl) rfl <| OSuf.nil <| SQ.normal ?_
        refine W.yes (by simp only [lk] <;> rfl) <| W.reg <| OSuf.aop tyOK rfl (zf (hv := fa_ok (k := 1) ty49 rfl rfl ty27 rfl rfl)) rfl <| OSuf.aop tyOK rfl (zl (hv := by simp (disch := first | assumption | omega | (simp only [nx] <;> omega) | fail) only [aLoad, ty27, rowOf, hpl, g1, g2, Value.cells] <;> rfl)) rfl <| OSuf.aop tyOK rfl (zf (hv := fa_ok (k := 5) ty29 rfl rfl ty27 rfl rfl)) rfl <| OSuf.aop tyOK rfl (zs (hv := by simp (disch := first | assumption | omega | (simp only [nx] <;> omega) | fail) only [aStore, ty27, writeRow, hpl, g1, g2, Value.cells] <;> rfl)) rfl <| OSuf.nil <| ?_
        -- leaf: cut
        refine NQ.normal (L := [(6, P0 (h.next + 1)), (7, P0 (h.next + 2))]) ?_ ⟨?_, ?_, by simp only [nx]; exact g4, fun z hz => ?_, rfl⟩
        · simp only [HasA, Tr.get_put, Nat.reduceEqDiff, reduceIte, and_self]
        · simp (disch := first | assumption | omega | (simp only [nx] <;> omega) | fail) only [hpl]; simp only [needV, h1, h2]; rfl
        · simp (disch := first | assumption | omega | (simp only [nx] <;> omega) | fail) only [hpl]; exact g3
        · simp (disch := first | assumption | omega | (simp only [nx] <;> omega) | fail) only [hpl]; exact g5 z hz
  clear g1 g2 g3 g4 g5 ha
  rintro L a' g ha ⟨g2, g3, g4, g5, rfl⟩
  have e7 : cellsOf [.bool false, I64 0, .bool (!v.del), .string v.val, U64 (hangV v ts), U64 (needV v st), U64 0] 0 7 = some [.bool false, I64 0, .bool (!v.del), .string v.val, U64 (hangV v ts), U64 (needV v st), U64 0] := rfl
  refine SQ.normal <| CWp.known ha ?_
  simp only [mkA]
  refine W.seq <| W.reg <| OSuf.aop tyOK rfl (zl (hv := by simp (disch := first | assumption | omega | (simp only [nx] <;> omega) | fail) only [aLoad, ty29, rowOf, hpl, g2, g3, Value.cells, e7, Option.map_some, cond_true] <;> rfl)) rfl <| OSuf.aop tyOK rfl (zs (hv := by simp (disch := first | assumption | omega | (simp only [nx] <;> omega) | fail) only [aStore, ty29, writeRow, hpl, g2, g3, Value.cells, e7, Option.map_some, cond_true] <;> rfl)) rfl <| OSuf.nil <| SQ.normal ?_
  refine CWp.ret <| FQ.ret (by simp (disch := first | assumption | omega | (simp only [nx] <;> omega) | fail) only [aRet, Tryz.f20, aResults, aResult, lk, Nat.reduceEqDiff, reduceIte, aLoad, rowOf, hpl, g2, g3, Value.cells, places, tb20, e7, Option.map_some, cond_true] <;> rfl) ?_
  -- leaf: end
  refine ⟨rfl, fun z o hz ho => ?_⟩
  simp (disch := first | assumption | omega | (simp only [nx] <;> omega) | fail) only [hpl]; rw [g5 z hz]; exact ho
theorem row_of {h : AHeap} {r : Nat} {fl : Int} {M : TM} (hA : TA h r fl M) {z : Nat} (hz : z ∈ M.rows) : z < h.next ∧ ∃ w, h.get z = some (.cells w 1) := by
  rcases List.mem_cons.1 hz with rfl | hz
  · exact ⟨hA.slt, _, hA.srow⟩
  · obtain ⟨l, hl, rfl⟩ := List.mem_map.1 hz
    obtain ⟨c, hc, hm⟩ := List.mem_flatten.1 hl
    obtain ⟨pre, post, rfl⟩ := List.append_of_mem hm
    exact ⟨(hA.chn _ hc).lt l hm, _, chn_full (hA.chn _ hc)⟩
theorem FrT.trans {h h1 h2 : AHeap} {r : Nat} {M M1 M2 : TM} (a : FrT h h1 r M M1) (b : FrT h1 h2 r M1 M2) : FrT h h2 r M M2 :=
  ⟨Nat.le_trans a.next b.next, fun z hz hr hm => (b.old z (Nat.lt_of_lt_of_le hz a.next) hr fun h9 => by rcases a.rows z h9 with h8 | h8; exact hm h8; omega).trans (a.old z hz hr hm), fun z hz => by
    rcases b.rows z hz with h9 | h9
    · exact a.rows z h9
    · exact .inr (Nat.le_trans a.next h9)⟩
theorem FrT.garb {h h1 : AHeap} {r : Nat} {M : TM} (hn : h.next ≤ h1.next) (hk : ∀ z, z < h.next → h1.get z = h.get z) : FrT h h1 r M M := ⟨hn, fun z hz _ _ => hk z hz, fun z hz => .inl hz⟩
structure OkA (A : List Rec) : Prop where
  len : A.length ≤ 1000
  v : ∀ x ∈ A, x.V.length ≤ 1000 ∧ Ris x.V
theorem OkA.big {A : List Rec} (o : OkA A) : A.length ≤ 1000000 := by have := o.len; omega
def readV (x : Rec) (ts st : Int) : Vd := if x.here then (match lastV (fun y => decide (y.ts ≤ ts)) x.V with
  | some v => lookD v ts st
  | none => ⟨false, 0, false, ⟨#[]⟩, 0, 0, 0⟩) else ⟨true, 0, false, ⟨#[]⟩, 0, 0, 0⟩
theorem touchR_is {k : List UInt8} {ts fl : Int} {A : List Rec} (hk : okKey k) : ∃ x, getR k (touchR k ts fl A) = some x := by
  rw [touchR]
  cases hg : getR k A with
  | some y => simp only; rw [getR_setR, if_pos (getR_key hg).2.symm]; exact ⟨_, rfl⟩
  | none => simp only [if_pos hk]; rw [getR_setR, if_pos rfl]; exact ⟨_, rfl⟩
theorem touchR_ok {k : List UInt8} {ts fl : Int} {A : List Rec} (o : OkA A) : ∀ x ∈ touchR k ts fl A, x.V.length ≤ 1000 ∧ Ris x.V := by
  intro x hx
  rw [touchR] at hx
  split at hx
  · rename_i y hy
    rcases setR_mem hx with h9 | h9
    · rw [h9]; exact o.v y (getR_key hy).1
    · exact o.v x h9
  · split at hx
    · rcases setR_mem hx with h9 | h9
      · rw [h9]; exact ⟨by simp, ris_nil⟩
      · exact o.v x h9
    · exact o.v x hx
theorem read_c (h : AHeap) (r : Nat) (fl : Int) (M : TM) (A : List Rec) (hB : TB h r fl M A) (hA : OkA A) (k : List UInt8) (hk : okKey k) (ts st : Int) (x : Rec) (hx : getR k (touchR k ts fl A) = some x) :
    ∃ H M', FWp Tryz.prog 6 [P0 r, U64 ts, encS k, U64 st] h (fun u h' => u = aggD (readV x ts st) ∧ h' = H) ∧ TB H r fl M' (touchR k ts fl A) ∧ FrT h H r M M' := by
  have tb6 := And.intro ty22 (And.intro ty29 (And.intro ty34 (And.intro ty36 (And.intro ty4 (ty49)))))
  have hlt := hB.ta.lt
  have hk9 : k.length < 9223372036854775808 := by have := hk.2; omega
  have hrows : ∀ z ∈ M.rows, z < h.next := fun z hz => (row_of hB.ta hz).1
  obtain ⟨h0, hh0⟩ : ∃ h0, h0 = h.new (.cells [.bool false, I64 0, .bool false, .string ⟨#[]⟩, U64 0, U64 0, U64 0] 1) := ⟨_, rfl⟩
  have n0 : h0.next = h.next + 1 := by rw [hh0]; rfl
  have o0 : ∀ z, z < h.next → h0.get z = h.get z := fun z hz => by rw [hh0, AHeap.get_new_ne (by omega)]
  have z0 : h0.get h.next = some (.cells [.bool false, I64 0, .bool false, .string ⟨#[]⟩, U64 0, U64 0, U64 0] 1) := by rw [hh0]; exact AHeap.get_new_same _ _
  have hB0 := hB.mono (h' := h0) (by omega) o0
  obtain ⟨H1, M', t1, t2, t3⟩ := touch_c h0 r fl M A hB0 k hk9 ts hA.big
  have n1 := t3.next
  have z1 : H1.get h.next = some (.cells [.bool false, I64 0, .bool false, .string ⟨#[]⟩, U64 0, U64 0, U64 0] 1) := by
    rw [t3.old _ (by omega) (by omega) (fun h9 => by have := hrows _ h9; omega)]; exact z0
  have hok := touchR_ok (k := k) (ts := ts) (fl := fl) hA
  have hxV := hok x (getR_key hx).1
  obtain ⟨rv, H2, r1, r2, r3, r4⟩ := row_some H1 r fl M' _ t2 k hk9 x hx (by omega)
  obtain ⟨ra, rc, rfl⟩ := avo_form r2
  have z2 : H2.get h.next = some (.cells [.bool false, I64 0, .bool false, .string ⟨#[]⟩, U64 0, U64 0, U64 0] 1) := by rw [r4 _ (by omega)]; exact z1
  have hB2 := t2.mono r3 r4
  have fin : ∀ H : AHeap, H2.next ≤ H.next → (∀ z, z < H2.next → ¬ z = h.next → H.get z = H2.get z) → TB H r fl M' (touchR k ts fl A) ∧ FrT h H r M M' := fun H g1 g2 => by
    have hm : ∀ z ∈ M'.rows, z < H2.next ∧ ¬ z = h.next := fun z hz => by
      refine ⟨(row_of hB2.ta hz).1, fun e => ?_⟩
      rcases t3.rows z hz with h9 | h9
      · have := hrows z h9; omega
      · omega
    refine ⟨⟨hB2.ta.keep g1 (g2 r (by omega) (by omega)) (fun z hz => g2 z (hm z hz).1 (hm z hz).2) (fun y w hy hg => g2 y hy fun e => by (rw [e, z2] at hg; simp at hg)), hB2.perm⟩, by omega, fun z hz hzr hzm => ?_, fun z hz => ?_⟩
    · rw [g2 z (by omega) (by omega), r4 z (by omega), t3.old z (by omega) hzr hzm, o0 z hz]
    · rcases t3.rows z hz with h9 | h9
      · exact .inl h9
      · exact .inr (by omega)
  have e4 : cellsOf [encS x.key, U64 x.rts, .bool x.here, .slice ra x.V.length rc] 0 4 = some [encS x.key, U64 x.rts, .bool x.here, .slice ra x.V.length rc] := rfl
  have e7 : ∀ a b c d e f g : Value, cellsOf [a, b, c, d, e, f, g] 0 7 = some [a, b, c, d, e, f, g] := fun _ _ _ _ _ _ _ => rfl
  cases hh : x.here with
  | false =>
    have ev : readV x ts st = ⟨true, 0, false, ⟨#[]⟩, 0, 0, 0⟩ := by simp [readV, hh]
    rw [ev]
    rw [hh] at e4
    refine ⟨((H2.new (.cells [encS [], U64 0, .bool false, .slice none 0 0] 1)).set H2.next (.cells [encS x.key, U64 x.rts, .bool x.here, .slice ra x.V.length rc] 1)).set h.next (.cells [.bool true, I64 0, .bool false, .string ⟨#[]⟩, U64 0, U64 0, U64 0] 1), M', ?_, fin _ (by simp only [nx]; omega) (fun z hz hzn => ?_)⟩
    · subst hh0
      refine W.enter tyOK Tryz.func6 rfl rfl ?_
      simp only [entry]
      refine W.seq <| W.reg <| OSuf.aop tyOK rfl (so_alloc (by simp only [aAlloc, ty29] <;> rfl)) rfl <| OSuf.nil <| SQ.normal ?_
      refine W.seq <| W.seq <| W.reg <| OSuf.aop tyOK rfl sm rfl <| OSuf.aopF tyOK rfl (zb (hv := bi_nil ⟨_, _, ty22, rfl⟩)) (fun _ => rfl) rfl <| OSuf.nil <| SQ.normal ?_
      refine W.no (by simp only [lk] <;> rfl) <| CWp.skip <| SQ.normal ?_
      refine W.seq <| W.reg <| OSuf.aop tyOK rfl sm rfl <| OSuf.aop tyOK rfl sm rfl <| OSuf.aop tyOK rfl sm rfl <| OSuf.callD rfl (by simp only [aopnds, lk] <;> rfl) en18 (t1) rfl <| OSuf.nil <| SQ.normal ?_
      refine W.seq <| W.reg <| OSuf.aop tyOK rfl sm rfl <| OSuf.aop tyOK rfl sm rfl <| OSuf.callD rfl (by simp only [aopnds, lk] <;> rfl) en8 (r1) rfl <| OSuf.aop tyOK rfl sm rfl <| OSuf.aop tyOK rfl (ze (hv := by simp (disch := first | assumption | omega | (simp only [nx] <;> omega) | fail) only [aExtract, hpl, Value.cells, places, tb6, rowV, z2, e7, cond_true] <;> rfl)) rfl <| OSuf.aop tyOK rfl (ze (hv := by simp (disch := first | assumption | omega | (simp only [nx] <;> omega) | fail) only [aExtract, hpl, Value.cells, places, tb6, rowV, z2, e7, cond_true] <;> rfl)) rfl <| OSuf.aop tyOK rfl (so_alloc (by simp only [aAlloc, ty36] <;> rfl)) rfl <| OSuf.aop tyOK rfl (zs (hv := by simp (disch := first | assumption | omega | (simp only [nx] <;> omega) | fail) only [aStore, ty36, writeRow, hpl, Value.cells, rowV, z2, e7, Option.map_some, cond_true] <;> rfl)) rfl <| OSuf.aop tyOK rfl za rfl <| OSuf.nil <| SQ.normal ?_
      refine W.seq <| W.seq <| W.reg <| OSuf.aop tyOK rfl (zf (hv := fa_ok (k := 2) ty36 rfl rfl ty4 rfl rfl)) rfl <| OSuf.aopF tyOK rfl (zl (hv := by simp (disch := first | assumption | omega | (simp only [nx] <;> omega) | fail) only [aLoad, ty4, rowOf, hpl, Value.cells, rowV, z2, e7, Option.map_some, cond_true] <;> rfl)) (fun _ => rfl) (hh) <| OSuf.aopT tyOK rfl (so_not (by simp only [lk] <;> rfl)) (fun _ => rfl) rfl <| OSuf.nil <| SQ.normal ?_
      refine W.yes (by simp only [lk] <;> rfl) <| W.seq <| W.reg <| OSuf.aop tyOK rfl (so_build (by simp only [aparts, lk] <;> rfl) (by simp only [aBuild, ty29, Value.cells, places, tb6, rowV, z2, e7, cond_true] <;> rfl)) rfl <| OSuf.aop tyOK rfl (zs (hv := by simp (disch := first | assumption | omega | (simp only [nx] <;> omega) | fail) only [aStore, ty29, writeRow, hpl, Value.cells, rowV, z2, e7, Option.map_some, cond_true] <;> rfl)) rfl <| OSuf.nil <| SQ.normal ?_
      refine CWp.ret <| SQ.ret <| FQ.ret (by simp (disch := first | assumption | omega | (simp only [nx] <;> omega) | fail) only [aRet, Tryz.f6, aResults, aResult, lk, Nat.reduceEqDiff, reduceIte, aLoad, rowOf, hpl, Value.cells, places, tb6, rowV, z2, e7, Option.map_some, cond_true] <;> rfl) ?_
      -- leaf: end
      exact ⟨rfl, rfl⟩
    · have q : ¬ h.next = z := fun e => hzn e.symm
      simp (disch := first | assumption | omega | (simp only [nx] <;> omega) | fail) only [hpl]
  | true =>
    rw [hh] at e4
    obtain ⟨H3, hH3⟩ : ∃ H3, H3 = (H2.new (.cells [encS [], U64 0, .bool false, .slice none 0 0] 1)).set H2.next (.cells [encS x.key, U64 x.rts, .bool x.here, .slice ra x.V.length rc] 1) := ⟨_, rfl⟩
    have n3 : H3.next = H2.next + 1 := by rw [hH3]; rfl
    have o3 : ∀ z, z < H2.next → H3.get z = H2.get z := fun z hz => by rw [hH3]; simp (disch := first | assumption | omega | (simp only [nx] <;> omega) | fail) only [hpl]
    have av3 : AVs H3 x.V (.slice ra x.V.length rc) := avo_avs (avo_mono r2 (by omega) fun y w hy _ => o3 y hy)
    have hvis := visible_c H3 x.V _ ts av3 (by omega) hxV.2
    have z3 : H3.get h.next = some (.cells [.bool false, I64 0, .bool false, .string ⟨#[]⟩, U64 0, U64 0, U64 0] 1) := by rw [o3 _ (by omega)]; exact z2
    cases hv : lastV (fun y => decide (y.ts ≤ ts)) x.V with
    | none =>
      have ev : readV x ts st = ⟨false, 0, false, ⟨#[]⟩, 0, 0, 0⟩ := by simp [readV, hh, hv]
      rw [ev]
      rw [hv] at hvis
      refine ⟨((H3.new (.cells [U64 0, U64 0, .bool false, .string ⟨#[]⟩, .bool false] 1)).set H3.next (.cells [U64 0, U64 0, .bool false, .string ⟨#[]⟩, .bool false] 1)).set h.next (.cells [.bool false, I64 0, .bool false, .string ⟨#[]⟩, U64 0, U64 0, U64 0] 1), M', ?_, fin _ (by simp only [nx]; omega) (fun z hz hzn => ?_)⟩
      · subst hh0 hH3
        refine W.enter tyOK Tryz.func6 rfl rfl ?_
        simp only [entry]
        refine W.seq <| W.reg <| OSuf.aop tyOK rfl (so_alloc (by simp only [aAlloc, ty29] <;> rfl)) rfl <| OSuf.nil <| SQ.normal ?_
        refine W.seq <| W.seq <| W.reg <| OSuf.aop tyOK rfl sm rfl <| OSuf.aopF tyOK rfl (zb (hv := bi_nil ⟨_, _, ty22, rfl⟩)) (fun _ => rfl) rfl <| OSuf.nil <| SQ.normal ?_
        refine W.no (by simp only [lk] <;> rfl) <| CWp.skip <| SQ.normal ?_
        refine W.seq <| W.reg <| OSuf.aop tyOK rfl sm rfl <| OSuf.aop tyOK rfl sm rfl <| OSuf.aop tyOK rfl sm rfl <| OSuf.callD rfl (by simp only [aopnds, lk] <;> rfl) en18 (t1) rfl <| OSuf.nil <| SQ.normal ?_
        refine W.seq <| W.reg <| OSuf.aop tyOK rfl sm rfl <| OSuf.aop tyOK rfl sm rfl <| OSuf.callD rfl (by simp only [aopnds, lk] <;> rfl) en8 (r1) rfl <| OSuf.aop tyOK rfl sm rfl <| OSuf.aop tyOK rfl (ze (hv := by simp (disch := first | assumption | omega | (simp only [nx] <;> omega) | fail) only [aExtract, hpl, Value.cells, places, tb6, rowV, z2, z3, e7, Option.getD_none, zeroV, cond_true] <;> rfl)) rfl <| OSuf.aop tyOK rfl (ze (hv := by simp (disch := first | assumption | omega | (simp only [nx] <;> omega) | fail) only [aExtract, hpl, Value.cells, places, tb6, rowV, z2, z3, e7, Option.getD_none, zeroV, cond_true] <;> rfl)) rfl <| OSuf.aop tyOK rfl (so_alloc (by simp only [aAlloc, ty36] <;> rfl)) rfl <| OSuf.aop tyOK rfl (zs (hv := by simp (disch := first | assumption | omega | (simp only [nx] <;> omega) | fail) only [aStore, ty36, writeRow, hpl, Value.cells, rowV, z2, z3, e7, Option.map_some, Option.getD_none, zeroV, cond_true] <;> rfl)) rfl <| OSuf.aop tyOK rfl za rfl <| OSuf.nil <| SQ.normal ?_
        refine W.seq <| W.seq <| W.reg <| OSuf.aop tyOK rfl (zf (hv := fa_ok (k := 2) ty36 rfl rfl ty4 rfl rfl)) rfl <| OSuf.aopT tyOK rfl (zl (hv := by simp (disch := first | assumption | omega | (simp only [nx] <;> omega) | fail) only [aLoad, ty4, rowOf, hpl, Value.cells, rowV, z2, z3, e7, Option.map_some, Option.getD_none, zeroV, cond_true] <;> rfl)) (fun _ => rfl) (hh) <| OSuf.aopF tyOK rfl (so_not (by simp only [lk] <;> rfl)) (fun _ => rfl) rfl <| OSuf.nil <| SQ.normal ?_
        refine W.no (by simp only [lk] <;> rfl) <| CWp.skip <| SQ.normal ?_
        refine W.seq <| W.reg <| OSuf.aop tyOK rfl (zf (hv := fa_ok (k := 3) ty36 rfl rfl ty34 rfl rfl)) rfl <| OSuf.aop tyOK rfl (zl (hv := by simp (disch := first | assumption | omega | (simp only [nx] <;> omega) | fail) only [aLoad, ty34, rowOf, hpl, Value.cells, rowV, z2, z3, e7, Option.map_some, Option.getD_none, zeroV, cond_true] <;> rfl)) rfl <| OSuf.aop tyOK rfl sm rfl <| OSuf.callD rfl (by simp only [aopnds, lk] <;> rfl) en19 (hvis) rfl <| OSuf.aop tyOK rfl sm rfl <| OSuf.aop tyOK rfl (ze (hv := by simp (disch := first | assumption | omega | (simp only [nx] <;> omega) | fail) only [aExtract, hpl, Value.cells, places, tb6, rowV, z2, z3, e7, Option.getD_none, zeroV, cond_true] <;> rfl)) rfl <| OSuf.aopF tyOK rfl (ze (hv := by simp (disch := first | assumption | omega | (simp only [nx] <;> omega) | fail) only [aExtract, hpl, Value.cells, places, tb6, rowV, z2, z3, e7, Option.getD_none, zeroV, cond_true] <;> rfl)) (fun _ => rfl) (by first | rfl | assumption | ((simp only [bl, Value.cells, places, tb6, rowV, z2, z3, e7, Option.map_some, Option.getD_none, zeroV, cond_true]) <;> first | done | assumption | omega) | (simp; done) | (simp; omega)) <| OSuf.aop tyOK rfl (so_alloc (by simp only [aAlloc, ty49] <;> rfl)) rfl <| OSuf.aop tyOK rfl (zs (hv := by simp (disch := first | assumption | omega | (simp only [nx] <;> omega) | fail) only [aStore, ty49, writeRow, hpl, Value.cells, rowV, z2, z3, e7, Option.map_some, Option.getD_none, zeroV, cond_true] <;> rfl)) rfl <| OSuf.aopF tyOK rfl za (fun _ => rfl) rfl <| OSuf.nil <| SQ.normal ?_
        refine W.seq <| W.seq <| W.reg <| OSuf.aopF tyOK rfl sm (fun _ => rfl) rfl <| OSuf.aopT tyOK rfl (so_not (by simp only [lk] <;> rfl)) (fun _ => rfl) rfl <| OSuf.nil <| SQ.normal ?_
        refine W.yes (by simp only [lk] <;> rfl) <| W.seq <| W.reg <| OSuf.aop tyOK rfl (so_build (by simp only [aparts, lk] <;> rfl) (by simp only [aBuild, ty29, Value.cells, places, tb6, rowV, z2, z3, e7, Option.getD_none, zeroV, cond_true] <;> rfl)) rfl <| OSuf.aop tyOK rfl (zs (hv := by simp (disch := first | assumption | omega | (simp only [nx] <;> omega) | fail) only [aStore, ty29, writeRow, hpl, Value.cells, rowV, z2, z3, e7, Option.map_some, Option.getD_none, zeroV, cond_true] <;> rfl)) rfl <| OSuf.nil <| SQ.normal ?_
        refine CWp.ret <| SQ.ret <| FQ.ret (by simp (disch := first | assumption | omega | (simp only [nx] <;> omega) | fail) only [aRet, Tryz.f6, aResults, aResult, lk, Nat.reduceEqDiff, reduceIte, aLoad, rowOf, hpl, Value.cells, places, tb6, rowV, z2, z3, e7, Option.map_some, Option.getD_none, zeroV, cond_true] <;> rfl) ?_
        -- leaf: end
        exact ⟨rfl, rfl⟩
      · have q : ¬ h.next = z := fun e => hzn e.symm
        simp (disch := first | assumption | omega | (simp only [nx] <;> omega) | fail) only [hpl]; exact o3 z hz
    | some w =>
      have ev : readV x ts st = lookD w ts st := by simp [readV, hh, hv]
      rw [ev]
      rw [hv] at hvis
      have e5 : cellsOf [U64 w.ts, U64 w.lsn, .bool w.del, .string w.val, .bool w.acked] 0 5 = some [U64 w.ts, U64 w.lsn, .bool w.del, .string w.val, .bool w.acked] := rfl
      have hlk := fun g => look_c g w ts st
      obtain ⟨d, hd⟩ : ∃ d, d = lookD w ts st := ⟨_, rfl⟩
      rw [← hd] at hlk ⊢
      refine ⟨((H3.new (.cells [U64 0, U64 0, .bool false, .string ⟨#[]⟩, .bool false] 1)).set H3.next (.cells [U64 w.ts, U64 w.lsn, .bool w.del, .string w.val, .bool w.acked] 1)).set h.next (.cells [.bool d.fetch, I64 d.err, .bool d.found, .string d.val, U64 d.hang, U64 d.need, U64 d.over] 1), M', ?_, fin _ (by simp only [nx]; omega) (fun z hz hzn => ?_)⟩
      · subst hh0 hH3
        refine W.enter tyOK Tryz.func6 rfl rfl ?_
        simp only [entry]
        refine W.seq <| W.reg <| OSuf.aop tyOK rfl (so_alloc (by simp only [aAlloc, ty29] <;> rfl)) rfl <| OSuf.nil <| SQ.normal ?_
        refine W.seq <| W.seq <| W.reg <| OSuf.aop tyOK rfl sm rfl <| OSuf.aopF tyOK rfl (zb (hv := bi_nil ⟨_, _, ty22, rfl⟩)) (fun _ => rfl) rfl <| OSuf.nil <| SQ.normal ?_
        refine W.no (by simp only [lk] <;> rfl) <| CWp.skip <| SQ.normal ?_
        refine W.seq <| W.reg <| OSuf.aop tyOK rfl sm rfl <| OSuf.aop tyOK rfl sm rfl <| OSuf.aop tyOK rfl sm rfl <| OSuf.callD rfl (by simp only [aopnds, lk] <;> rfl) en18 (t1) rfl <| OSuf.nil <| SQ.normal ?_
        refine W.seq <| W.reg <| OSuf.aop tyOK rfl sm rfl <| OSuf.aop tyOK rfl sm rfl <| OSuf.callD rfl (by simp only [aopnds, lk] <;> rfl) en8 (r1) rfl <| OSuf.aop tyOK rfl sm rfl <| OSuf.aop tyOK rfl (ze (hv := by simp (disch := first | assumption | omega | (simp only [nx] <;> omega) | fail) only [aExtract, hpl, Value.cells, places, tb6, rowV, z2, z3, e5, e7, Option.getD_some, cond_true, aggD] <;> rfl)) rfl <| OSuf.aop tyOK rfl (ze (hv := by simp (disch := first | assumption | omega | (simp only [nx] <;> omega) | fail) only [aExtract, hpl, Value.cells, places, tb6, rowV, z2, z3, e5, e7, Option.getD_some, cond_true, aggD] <;> rfl)) rfl <| OSuf.aop tyOK rfl (so_alloc (by simp only [aAlloc, ty36] <;> rfl)) rfl <| OSuf.aop tyOK rfl (zs (hv := by simp (disch := first | assumption | omega | (simp only [nx] <;> omega) | fail) only [aStore, ty36, writeRow, hpl, Value.cells, rowV, z2, z3, e5, e7, Option.map_some, Option.getD_some, cond_true, aggD] <;> rfl)) rfl <| OSuf.aop tyOK rfl za rfl <| OSuf.nil <| SQ.normal ?_
        refine W.seq <| W.seq <| W.reg <| OSuf.aop tyOK rfl (zf (hv := fa_ok (k := 2) ty36 rfl rfl ty4 rfl rfl)) rfl <| OSuf.aopT tyOK rfl (zl (hv := by simp (disch := first | assumption | omega | (simp only [nx] <;> omega) | fail) only [aLoad, ty4, rowOf, hpl, Value.cells, rowV, z2, z3, e5, e7, Option.map_some, Option.getD_some, cond_true, aggD] <;> rfl)) (fun _ => rfl) (hh) <| OSuf.aopF tyOK rfl (so_not (by simp only [lk] <;> rfl)) (fun _ => rfl) rfl <| OSuf.nil <| SQ.normal ?_
        refine W.no (by simp only [lk] <;> rfl) <| CWp.skip <| SQ.normal ?_
        refine W.seq <| W.reg <| OSuf.aop tyOK rfl (zf (hv := fa_ok (k := 3) ty36 rfl rfl ty34 rfl rfl)) rfl <| OSuf.aop tyOK rfl (zl (hv := by simp (disch := first | assumption | omega | (simp only [nx] <;> omega) | fail) only [aLoad, ty34, rowOf, hpl, Value.cells, rowV, z2, z3, e5, e7, Option.map_some, Option.getD_some, cond_true, aggD] <;> rfl)) rfl <| OSuf.aop tyOK rfl sm rfl <| OSuf.callD rfl (by simp only [aopnds, lk] <;> rfl) en19 (hvis) rfl <| OSuf.aop tyOK rfl sm rfl <| OSuf.aop tyOK rfl (ze (hv := by simp (disch := first | assumption | omega | (simp only [nx] <;> omega) | fail) only [aExtract, hpl, Value.cells, places, tb6, rowV, z2, z3, e5, e7, Option.getD_some, cond_true, aggD] <;> rfl)) rfl <| OSuf.aopT tyOK rfl (ze (hv := by simp (disch := first | assumption | omega | (simp only [nx] <;> omega) | fail) only [aExtract, hpl, Value.cells, places, tb6, rowV, z2, z3, e5, e7, Option.getD_some, cond_true, aggD] <;> rfl)) (fun _ => rfl) (by first | rfl | assumption | ((simp only [bl, Value.cells, places, tb6, rowV, z2, z3, e5, e7, Option.map_some, Option.getD_some, cond_true, aggD]) <;> first | done | assumption | omega) | (simp; done) | (simp; omega)) <| OSuf.aop tyOK rfl (so_alloc (by simp only [aAlloc, ty49] <;> rfl)) rfl <| OSuf.aop tyOK rfl (zs (hv := by simp (disch := first | assumption | omega | (simp only [nx] <;> omega) | fail) only [aStore, ty49, writeRow, hpl, Value.cells, rowV, z2, z3, e5, e7, Option.map_some, Option.getD_some, cond_true, aggD] <;> rfl)) rfl <| OSuf.aopT tyOK rfl za (fun _ => rfl) rfl <| OSuf.nil <| SQ.normal ?_
        refine W.seq <| W.seq <| W.reg <| OSuf.aopT tyOK rfl sm (fun _ => rfl) rfl <| OSuf.aopF tyOK rfl (so_not (by simp only [lk] <;> rfl)) (fun _ => rfl) rfl <| OSuf.nil <| SQ.normal ?_
        refine W.no (by simp only [lk] <;> rfl) <| CWp.skip <| SQ.normal ?_
        refine W.seq <| W.reg <| OSuf.aop tyOK rfl (zl (hv := by simp (disch := first | assumption | omega | (simp only [nx] <;> omega) | fail) only [aLoad, ty49, rowOf, hpl, Value.cells, rowV, z2, z3, e5, e7, Option.map_some, Option.getD_some, cond_true, aggD] <;> rfl)) rfl <| OSuf.aop tyOK rfl sm rfl <| OSuf.aop tyOK rfl sm rfl <| OSuf.callD rfl (by simp only [aopnds, lk] <;> rfl) en20 (hlk _) rfl <| OSuf.aop tyOK rfl (zs (hv := by simp (disch := first | assumption | omega | (simp only [nx] <;> omega) | fail) only [aStore, ty29, writeRow, hpl, Value.cells, rowV, z2, z3, e5, e7, Option.map_some, Option.getD_some, cond_true, aggD] <;> rfl)) rfl <| OSuf.nil <| SQ.normal ?_
        refine CWp.ret <| FQ.ret (by simp (disch := first | assumption | omega | (simp only [nx] <;> omega) | fail) only [aRet, Tryz.f6, aResults, aResult, lk, Nat.reduceEqDiff, reduceIte, aLoad, rowOf, hpl, Value.cells, places, tb6, rowV, z2, z3, e5, e7, Option.map_some, Option.getD_some, cond_true, aggD] <;> rfl) ?_
        -- leaf: end
        exact ⟨rfl, rfl⟩
      · have q : ¬ h.next = z := fun e => hzn e.symm
        simp (disch := first | assumption | omega | (simp only [nx] <;> omega) | fail) only [hpl]; exact o3 z hz
theorem spannew_c (h : AHeap) (n : Int) (hn : 1 ≤ n) : FWp Tryz.prog 14 [I64 n] h fun u h' => u = P0 h.next ∧ h' = h.new (.cells [I64 n, .slice none 0 0] 1) := by
  have d1 : decide (n < 1) = false := decide_eq_false (by omega)
  refine W.enter tyOK Tryz.func14 rfl rfl ?_
  simp only [entry]
  refine W.seq <| W.reg <| OSuf.aop tyOK rfl za rfl <| OSuf.nil <| SQ.normal ?_
  refine W.seq <| W.seq <| W.reg <| OSuf.aop tyOK rfl sm rfl <| OSuf.aopF tyOK rfl (zb (hv := bi_lss)) (fun _ => rfl) (d1) <| OSuf.nil <| SQ.normal ?_
  refine W.no (by simp only [lk] <;> rfl) <| CWp.skip <| SQ.normal ?_
  refine W.seq <| W.reg <| OSuf.aop tyOK rfl sm rfl <| OSuf.aop tyOK rfl (so_build (by simp only [aparts, lk] <;> rfl) (by simp only [aBuild, ty100, places, ty100, Value.cells] <;> rfl)) rfl <| OSuf.aop tyOK rfl (so_box (by simp only [lk] <;> rfl)) rfl <| OSuf.aop tyOK rfl za rfl <| OSuf.nil <| SQ.normal ?_
  refine CWp.ret <| FQ.ret (by simp only [aRet, Tryz.f14, aResults, aResult, lk, Nat.reduceEqDiff, reduceIte] <;> rfl) ?_
  -- leaf: end
  exact ⟨rfl, rfl⟩
theorem spanof_c (h : AHeap) (p : Nat) (k : List UInt8) : FWp Tryz.prog 49 [P0 p, encS k] h fun u h' => u = .func (.func 70) #[] #[P0 h.next, P0 (h.next + 1)] ∧ h' = (h.new (.cells [P0 p] 1)).new (.cells [encS k] 1) := by
  refine W.enter tyOK Tryz.func49 rfl rfl ?_
  simp only [entry]
  refine W.seq <| W.reg <| OSuf.aop tyOK rfl (so_box (by simp only [lk] <;> rfl)) rfl <| OSuf.aop tyOK rfl (so_box (by simp only [lk] <;> rfl)) rfl <| OSuf.aop tyOK rfl za rfl <| OSuf.nil <| SQ.normal ?_
  refine W.seq <| W.reg <| OSuf.aop tyOK rfl (so_makeFunc rfl (by simp only [aopnds, lk] <;> rfl) (by simp only [aopnds, lk] <;> rfl)) rfl <| OSuf.aop tyOK rfl za rfl <| OSuf.nil <| SQ.normal ?_
  refine CWp.ret <| FQ.ret (by simp only [aRet, Tryz.f49, aResults, aResult, lk, Nat.reduceEqDiff, reduceIte] <;> rfl) ?_
  -- leaf: end
  exact ⟨rfl, rfl⟩
theorem spanof1_c (h : AHeap) (p q1 q2 : Nat) (n : Int) (yv : Value) (h1 : h.get q1 = some (.cells [P0 p] 1)) (h2 : h.get p = some (.cells [I64 n, .slice none 0 0] 1)) : FWp Tryz.prog 70 [yv, P0 q1, P0 q2] h fun u h' => u = .tuple #[] ∧ h' = h := by
  refine W.enter tyOK Tryz.func70 rfl rfl ?_
  simp only [entry]
  refine W.seq <| W.reg <| OSuf.aop tyOK rfl (zl (hv := by simp (disch := first | assumption | omega | (simp only [nx] <;> omega) | fail) only [aLoad, ty23, rowOf, hpl, h1, h2] <;> rfl)) rfl <| OSuf.aop tyOK rfl (so_nilCheck (by simp only [lk] <;> rfl)) rfl <| OSuf.aop tyOK rfl (zf (hv := fa_ok (k := 1) ty100 rfl rfl ty98 rfl rfl)) rfl <| OSuf.aop tyOK rfl (zl (hv := by simp (disch := first | assumption | omega | (simp only [nx] <;> omega) | fail) only [aLoad, ty98, rowOf, hpl, h1, h2] <;> rfl)) rfl <| OSuf.aop tyOK rfl (so_len (by simp only [aopnds, lk] <;> rfl) (by simp (disch := first | assumption | omega | (simp only [nx] <;> omega) | fail) only [aLenOf, ty98, hpl, h1, h2] <;> rfl)) rfl <| OSuf.aop tyOK rfl sm rfl <| OSuf.nil <| SQ.normal ?_
  -- leaf: loop
  refine W.cut (fun L h' => h' = h ∧ L = []) (W.block (W.loop (fun m L h' => h' = h ∧ L = [(10, I64 0), (11, I64 0)]) (n := 0) ⟨rfl, rfl⟩ ?_ ?_)) ?_
  · simp [HasA, Tr.get_put]
  · rintro m L g ⟨rfl, rfl⟩
    simp only [mkA]
    refine W.seq <| W.reg <| OSuf.aopF tyOK rfl (zb (hv := bi_lss)) (fun _ => rfl) (by first | rfl | assumption | ((simp only [bl]) <;> first | done | assumption | omega) | (simp; done) | (simp; omega)) <| OSuf.nil <| SQ.normal ?_
    refine W.seq <| W.no (by simp only [lk] <;> rfl) <| CWp.exit <| SQ.exit <| LQ.exit <| BQ.exit <| ?_
    -- leaf: cut
    exact NQ.normal (L := []) trivial ⟨rfl, rfl⟩
  rintro L a' h' ha ⟨rfl, rfl⟩
  exact FQ.normal (by simp only [aRet, Tryz.f70, aResults] <;> rfl) ⟨rfl, rfl⟩
theorem spanmax_c (h : AHeap) (p : Nat) (n : Int) (k : List UInt8) (hp : p < h.next) (h2 : h.get p = some (.cells [I64 n, .slice none 0 0] 1)) : FWp Tryz.prog 23 [P0 p, encS k] h fun u h' => u = U64 0 ∧ h' = h := by
  refine FWp.gcs (.flat rfl) (W.enter tyOK Tryz.func23 rfl rfl ?_)
  simp only [entry]
  refine W.seq <| W.reg <| OSuf.aop tyOK rfl za rfl <| OSuf.nil <| SQ.normal ?_
  refine W.seq <| W.reg <| OSuf.aop tyOK rfl (so_alloc (by simp only [aAlloc, ty27] <;> rfl)) rfl <| OSuf.aop tyOK rfl (zs (hv := by simp (disch := first | assumption | omega | (simp only [nx] <;> omega) | fail) only [aStore, ty27, writeRow, hpl, Value.cells] <;> rfl)) rfl <| OSuf.nil <| SQ.normal ?_
  refine W.seq <| W.seq <| W.reg <| OSuf.aop tyOK rfl sm rfl <| OSuf.aopT tyOK rfl (zb (hv := bi_nnil ⟨_, _, ty23, rfl⟩)) (fun _ => rfl) rfl <| OSuf.nil <| SQ.normal ?_
  refine W.yes (by simp only [lk] <;> rfl) <| W.seq <| W.reg <| OSuf.aop tyOK rfl sm rfl <| OSuf.aop tyOK rfl sm rfl <| OSuf.callD rfl (by simp only [aopnds, lk] <;> rfl) en49 (spanof_c _ _ _) rfl <| OSuf.nil <| SQ.normal ?_
  -- leaf: loop
  refine W.block (CWp.rangeFunc (by simp only [aopnd, Tr.get_put, Nat.reduceEqDiff, reduceIte] <;> rfl) (fun l hl => by cases hl) (VWp.func en70 ?_))
  show FWp _ _ [_, _, _] _ _
  generalize hLP : (ALoop.mk _ _ _ _ _ _ _ _) = LP
  have hbusy : (LP.state == .busy) = false := by rw [← hLP]; rfl
  have hjn : jumpExit LP.pending = some .normal := by rw [← hLP]; rfl
  clear hLP
  refine (spanof1_c _ p (h.next + 1) (h.next + 2) n _ (by simp (disch := first | assumption | omega | (simp only [nx] <;> omega) | fail) only [hpl]) (by simp (disch := first | assumption | omega | (simp only [nx] <;> omega) | fail) only [hpl]; exact h2)).mono ?_
  rintro _ _ ⟨rfl, rfl⟩
  refine ⟨LP, .normal, by (simp (disch := first | assumption | omega | (simp only [nx] <;> omega) | fail) only [hpl]), hbusy, hjn, ?_⟩
  refine BQ.normal <| SQ.normal ?_
  refine W.seq <| W.reg <| OSuf.aop tyOK rfl (zl (hv := by simp (disch := first | assumption | omega | (simp only [nx] <;> omega) | fail) only [aLoad, ty27, rowOf, hpl, Value.cells] <;> rfl)) rfl <| OSuf.aop tyOK rfl za rfl <| OSuf.nil <| SQ.normal ?_
  refine CWp.ret <| FQ.ret (by simp only [aRet, Tryz.f23, aResults, aResult, lk, Nat.reduceEqDiff, reduceIte] <;> rfl) ?_
  -- leaf: end
  exact ⟨rfl, fun z o hz ho => by simp (disch := first | assumption | omega | (simp only [nx] <;> omega) | fail) only [hpl]; exact ho⟩
theorem flatV_app : ∀ a b : List Vr, flatV (a ++ b) = flatV a ++ flatV b
  | [], b => rfl
  | x :: a, b => by simp only [flatV, List.cons_append, flatV_app a b, List.append_assoc]
theorem flatV_one : ∀ V : List Vr, oneCells (flatV V) = true
  | [] => rfl
  | v :: V => by
    have := flatV_one V
    simp only [flatV, Vr.cs, oneCells, List.all_append, List.all_cons, List.all_nil, Bool.and_true, Bool.and_eq_true] at this ⊢
    exact ⟨⟨rfl, rfl, rfl, rfl, rfl⟩, this⟩
theorem splice_full : ∀ (vs xs : List Value), xs.length = vs.length → splice vs 0 xs = xs
  | [], [], _ => by simp [splice]
  | v :: vs, x :: xs, h => by simp only [splice]; rw [splice_full vs xs (by simpa using h)]
theorem avs_cells {h : AHeap} {V : List Vr} {a : Option Addr} {c : Nat} (hs : AVs h V (.slice a V.length c)) : aCells h 5 V.length (.slice a V.length c) = some (flatV V) := by
  generalize hv : Value.slice a V.length c = v at hs ⊢
  cases hs with
  | nil => rfl
  | emp => rfl
  | some hne hy hg hc => exact aCells_of hg (Nat.le_refl _) hc
theorem own_x (h : AHeap) (V : List Vr) (v : Value) (hs : AVs h V v) (hl : V.length ≤ 1000000) :
    ∃ H, FWp Tryz.prog 54 [v] h (fun u h' => u = .slice (some ⟨h.next, 0, none⟩) V.length (V.length + 1) ∧ h' = H) ∧ H.get h.next = some (.cells (flatV V) 5) ∧ H.next = h.next + 1 ∧ ∀ z, z < h.next → H.get z = h.get z := by
  obtain ⟨a, c, rfl⟩ := avs_form hs
  have c0 : (0 : Int) ≤ (V.length : Int) := by omega
  have c1 : (V.length : Int) ≤ 9223372036854775807 := by omega
  have c2 : (((48 : Nat) : Int) * (V.length : Int) ≤ 281474976710656) := by omega
  obtain ⟨Z, hZ⟩ : ∃ Z, Z = zeros [U64 0, U64 0, .bool false, .string ⟨#[]⟩, .bool false] V.length := ⟨_, rfl⟩
  have hZl : Z.length = V.length * 5 := by rw [hZ, zeros_length]; rfl
  have hcl : aCells (h.new (.cells Z 5)) 5 V.length (.slice a V.length c) = some (flatV V) := avs_cells (avs_mono hs (by simp) fun z hz => AHeap.get_new_ne (by omega))
  have hcp : ∃ H, (∀ ats t ti e ei, ats.toList.head? = some t → T.get t = some ti → ti.und = .slice e → T.get e = some ei → ei.size = 5 → aCopy T ats (.slice (some ⟨h.next, 0, none⟩) V.length (V.length + 1)) (.slice a V.length c) (h.new (.cells Z 5)) = some (.int .i64 (V.length : Int), H)) ∧ H.get h.next = some (.cells (flatV V) 5) ∧ H.next = h.next + 1 ∧ ∀ z, z < h.next → H.get z = h.get z := by
    have hmin : Nat.min V.length V.length = V.length := Nat.min_self _
    cases e0 : Nat.beq V.length 0 with
    | true =>
      have e1 := Nat.eq_of_beq_eq_true e0
      have e2 : V = [] := List.length_eq_zero_iff.1 e1
      refine ⟨h.new (.cells Z 5), fun ats t ti e ei ha t1 t2 t3 t4 => ?_, ?_, by simp, fun z hz => AHeap.get_new_ne (by omega)⟩
      · unfold aCopy
        split
        · rename_i t' ts hts
          rw [hts] at ha; simp at ha; subst ha
          simp only [t1, t2, t3, aLen, hmin, e0, cond_true, e1]; rfl
        · rename_i hts; rw [hts] at ha; simp at ha
      · subst e2
        rw [AHeap.get_new_same, hZ]; rfl
    | false =>
      refine ⟨(h.new (.cells Z 5)).set h.next (.cells (splice Z 0 (flatV V)) 5), fun ats t ti e ei ha t1 t2 t3 t4 => ?_, ?_, by simp, fun z hz => ?_⟩
      · unfold aCopy
        split
        · rename_i t' ts hts
          rw [hts] at ha; simp at ha; subst ha
          have hb : Nat.ble (0 + (flatV V).length) Z.length = true := Nat.ble_eq_true_of_le (by rw [flatV_length]; omega)
          simp only [t1, t2, t3, t4, aLen, hmin, e0, cond_false, hcl, writeRow, AHeap.get_new_same, hb, flatV_one, Bool.and_self, cond_true]
        · rename_i hts; rw [hts] at ha; simp at ha
      · rw [AHeap.get_set_same, splice_full _ _ (by rw [flatV_length]; omega)]
      · rw [AHeap.get_set_ne (by omega), AHeap.get_new_ne (by omega)]
  obtain ⟨H, h1, h2, h3, h4⟩ := hcp
  refine ⟨H, ?_, h2, h3, h4⟩
  rw [hZ] at h1
  have c3 : (Value.agg #[U64 0, U64 0, .bool false, .string ⟨#[]⟩, .bool false]).cells.toList.all flat1 = true := rfl
  have c4 : (Value.agg #[U64 0, U64 0, .bool false, .string ⟨#[]⟩, .bool false]).cells.size = 5 := rfl
  have c5 : (Value.agg #[U64 0, U64 0, .bool false, .string ⟨#[]⟩, .bool false]).cells.toList = [U64 0, U64 0, .bool false, .string ⟨#[]⟩, .bool false] := rfl
  refine W.enter tyOK Tryz.func54 rfl rfl ?_
  simp only [entry]
  refine W.seq <| W.reg <| OSuf.aop tyOK rfl za rfl <| OSuf.nil <| SQ.normal ?_
  refine W.seq <| W.reg <| OSuf.aop tyOK rfl sm rfl <| OSuf.aop tyOK rfl (so_len (by simp only [aopnds, lk] <;> rfl) (by simp (disch := first | assumption | omega | (simp only [nx] <;> omega) | fail) only [aLenOf, ty34, hpl, places, c0, c1, c2, c3, c4, c5, sb, Int.le_refl, ty34, ty49] <;> rfl)) rfl <| OSuf.aop tyOK rfl (so_makeSlice (by simp only [lk] <;> rfl) (by simp only [lk] <;> rfl) (by simp (disch := first | assumption | omega | (simp only [nx] <;> omega) | fail) only [aMakeSlice, ty34, ty49, hpl, places, c0, c1, c2, c3, c4, c5, sb, Int.le_refl, ty34, ty49] <;> rfl)) rfl <| OSuf.aop tyOK rfl za rfl <| OSuf.nil <| SQ.normal ?_
  refine W.seq <| W.reg <| OSuf.aop tyOK rfl sm rfl <| OSuf.aop tyOK rfl sm rfl <| OSuf.aop tyOK rfl (so_copy (by simp only [aopnds, lk] <;> rfl) (h1 _ _ _ _ _ rfl ty34 rfl ty49 rfl)) rfl <| OSuf.nil <| SQ.normal ?_
  refine W.seq <| W.reg <| OSuf.aop tyOK rfl sm rfl <| OSuf.aop tyOK rfl za rfl <| OSuf.nil <| SQ.normal ?_
  refine CWp.ret <| FQ.ret (by simp only [aRet, Tryz.f54, aResults, aResult, lk, Nat.reduceEqDiff, reduceIte] <;> rfl) ?_
  -- leaf: end
  exact ⟨rfl, rfl⟩
theorem index_c (h : AHeap) (V : List Vr) (v fv : Value) (is : Vr → Bool) (hs : AVs h V v) (hl : V.length ≤ 1000000) (ha : AsksV h fv is) (hfv : ∃ f a b, fv = .func f a b) (m : Nat) (hm : m ≤ V.length) (h1 : ∀ (j : Nat) (y : Vr), j < m → V[j]? = some y → is y = false) (h2 : ∀ y, V[m]? = some y → is y = true) :
    FWp Tryz.prog 92 [v, fv] h fun u h' => u = I64 (if m < V.length then (m : Int) else -1) ∧ h' = h := by
  obtain ⟨a, c, rfl⟩ := avs_form hs
  obtain ⟨f1, f2, f3, rfl⟩ := hfv
  refine W.enter tyOK Tryz.func92 rfl rfl ?_
  simp only [entry]
  refine W.seq <| W.reg <| OSuf.aop tyOK rfl za rfl <| OSuf.nil <| SQ.normal ?_
  refine W.seq <| W.seq <| W.reg <| OSuf.aop tyOK rfl sm rfl <| OSuf.aop tyOK rfl (so_len (by simp only [aopnds, lk] <;> rfl) (by simp (disch := first | assumption | omega | (simp only [nx] <;> omega) | fail) only [aLenOf, ty34, hpl] <;> rfl)) rfl <| OSuf.aop tyOK rfl sm rfl <| OSuf.nil <| SQ.normal ?_
  -- leaf: loop
  refine W.cut (fun L h' => h' = h ∧ m = V.length ∧ L = []) (W.block (W.loop (fun q L h' => ∃ i : Nat, q + i = V.length ∧ i ≤ m ∧ h' = h ∧ L = [(0, .slice a V.length c), (1, .func f1 f2 f3), (7, I64 V.length), (8, I64 i)]) (n := V.length) ⟨0, by omega, Nat.zero_le _, rfl, rfl⟩ ?_ ?_)) ?_
  · simp [HasA, Tr.get_put]
  · rintro q L g ⟨i, hq, him, rfl, rfl⟩
    simp only [mkA]
    have w2 : IntKind.i64.wrap ((i : Int) + 1) = ((i + 1 : Nat) : Int) := by rw [wrap_i64 (by omega) (by omega)]; omega
    by_cases hlt : (i : Int) < (V.length : Int)
    · obtain ⟨x, hx⟩ : ∃ x, V[i]? = some x := ⟨V[i]'(by omega), by simp⟩
      have hask := ha g x (Nat.le_refl _) (fun _ _ => rfl)
      have hss := hs
      generalize hv : Value.slice a V.length c = v at hss
      cases hss with
      | nil => simp at hx
      | emp => simp at hx
      | @some _ z off _ vs hne hz hg hc =>
        injection hv with ea eb ec
        subst ea ec
        have b1 : (0 ≤ (i : Int) ∧ (i : Int) < (V.length : Int)) := by omega
        have g1 : cellsOf vs (off + i * 5) 5 = some [U64 x.ts, U64 x.lsn, .bool x.del, .string x.val, .bool x.acked] := cell_of hc hx
        have e1 : [U64 x.ts, U64 x.lsn, .bool x.del, .string x.val, .bool x.acked].toArray = #[U64 x.ts, U64 x.lsn, .bool x.del, .string x.val, .bool x.acked] := rfl
        simp only [rowOf] at hg
        by_cases hie : i = m
        · subst hie
          rw [h2 x hx] at hask
          refine W.seq <| W.reg <| OSuf.aopT tyOK rfl (zb (hv := bi_lss)) (fun _ => rfl) (by first | rfl | assumption | ((simp only [bl, b1, sb, hg, g1, e1, cond_true, Option.map_some]) <;> first | done | assumption | omega) | (simp; done) | (simp; omega)) <| OSuf.nil <| SQ.normal ?_
          refine W.seq <| W.yes (by simp only [lk] <;> rfl) <| CWp.skip <| SQ.normal ?_
          refine W.seq <| W.block <| W.seq <| W.reg <| OSuf.aop tyOK rfl sm rfl <| OSuf.aop tyOK rfl za rfl <| OSuf.nil <| SQ.normal ?_
          refine W.seq <| W.reg <| OSuf.aop tyOK rfl sm rfl <| OSuf.aop tyOK rfl sm rfl <| OSuf.aop tyOK rfl sm rfl <| OSuf.aop tyOK rfl (zi (hv := by simp (disch := first | assumption | omega | (simp only [nx] <;> omega) | fail) only [aIndexAddr, ty34, ty49, hpl, b1, sb, hg, g1, e1, cond_true, Option.map_some] <;> rfl)) rfl <| OSuf.aop tyOK rfl (zl (hv := by simp (disch := first | assumption | omega | (simp only [nx] <;> omega) | fail) only [aLoad, ty49, rowOf, hpl, b1, sb, hg, g1, e1, cond_true, Option.map_some] <;> rfl)) rfl <| OSuf.vcallD rfl (by simp only [lk] <;> rfl) (by simp only [aopnds, lk] <;> rfl) (hask) rfl <| OSuf.nil <| SQ.normal ?_
          refine W.yes (by simp only [lk] <;> rfl) <| W.seq <| W.reg <| OSuf.aop tyOK rfl sm rfl <| OSuf.aop tyOK rfl za rfl <| OSuf.nil <| SQ.normal ?_
          refine CWp.ret <| BQ.ret <| SQ.ret <| LQ.ret <| BQ.ret <| NQ.ret <| SQ.ret <| FQ.ret (by simp only [aRet, Tryz.f92, aResults, aResult, lk, Nat.reduceEqDiff, reduceIte] <;> rfl) ?_
          -- leaf: end
          exact ⟨by rw [if_pos (by omega)], rfl⟩
        · rw [h1 i x (by omega) hx] at hask
          refine W.seq <| W.reg <| OSuf.aopT tyOK rfl (zb (hv := bi_lss)) (fun _ => rfl) (by first | rfl | assumption | ((simp only [bl, b1, sb, hg, g1, e1, cond_true, Option.map_some]) <;> first | done | assumption | omega) | (simp; done) | (simp; omega)) <| OSuf.nil <| SQ.normal ?_
          refine W.seq <| W.yes (by simp only [lk] <;> rfl) <| CWp.skip <| SQ.normal ?_
          refine W.seq <| W.block <| W.seq <| W.reg <| OSuf.aop tyOK rfl sm rfl <| OSuf.aop tyOK rfl za rfl <| OSuf.nil <| SQ.normal ?_
          refine W.seq <| W.reg <| OSuf.aop tyOK rfl sm rfl <| OSuf.aop tyOK rfl sm rfl <| OSuf.aop tyOK rfl sm rfl <| OSuf.aop tyOK rfl (zi (hv := by simp (disch := first | assumption | omega | (simp only [nx] <;> omega) | fail) only [aIndexAddr, ty34, ty49, hpl, b1, sb, hg, g1, e1, cond_true, Option.map_some] <;> rfl)) rfl <| OSuf.aop tyOK rfl (zl (hv := by simp (disch := first | assumption | omega | (simp only [nx] <;> omega) | fail) only [aLoad, ty49, rowOf, hpl, b1, sb, hg, g1, e1, cond_true, Option.map_some] <;> rfl)) rfl <| OSuf.vcallD rfl (by simp only [lk] <;> rfl) (by simp only [aopnds, lk] <;> rfl) (hask) rfl <| OSuf.nil <| SQ.normal ?_
          refine W.no (by simp only [lk] <;> rfl) <| CWp.skip <| BQ.normal <| SQ.normal ?_
          refine W.reg <| OSuf.aop tyOK rfl (zb (hv := bi_w bi_add (by first | (simp only [w2] <;> rfl) | rfl))) rfl <| OSuf.aop tyOK rfl sm rfl <| OSuf.nil <| ?_
          -- leaf: round
          refine LQ.normal (m := q - 1) (L := [(0, .slice (some ⟨z, off, none⟩) V.length c), (1, .func f1 f2 f3), (7, I64 V.length), (8, I64 ((i + 1 : Nat) : Int))]) (by omega) ?_ ⟨i + 1, by omega, by omega, rfl, rfl⟩
          simp only [HasA, Tr.get_put, Nat.reduceEqDiff, reduceIte, w2, and_self]
    · refine W.seq <| W.reg <| OSuf.aopF tyOK rfl (zb (hv := bi_lss)) (fun _ => rfl) (by first | rfl | assumption | ((simp only [bl]) <;> first | done | assumption | omega) | (simp; done) | (simp; omega)) <| OSuf.nil <| SQ.normal ?_
      refine W.seq <| W.no (by simp only [lk] <;> rfl) <| CWp.exit <| SQ.exit <| LQ.exit <| BQ.exit <| ?_
      -- leaf: cut
      exact NQ.normal (L := []) trivial ⟨rfl, by omega, rfl⟩
  rintro L a' h' ha ⟨rfl, e, rfl⟩
  refine SQ.normal <| CWp.known ha ?_
  simp only [mkA]
  refine W.seq <| W.reg <| OSuf.aop tyOK rfl za rfl <| OSuf.nil <| SQ.normal ?_
  refine CWp.ret <| FQ.ret (by simp only [aRet, Tryz.f92, aResults, aResult, lk, Nat.reduceEqDiff, reduceIte] <;> rfl) ?_
  -- leaf: end
  exact ⟨by rw [if_neg (by omega)], rfl⟩
theorem slk_lo {t elem : TypeId} {ti ei : TI} {y k : Nat} {h : AHeap} (ht : T.get t = some ti) (hu : ti.und = .slice elem) (he : T.get elem = some ei) (hz : ei.size = 5) : aSlice T t (.slice (some ⟨y, 0, none⟩) (k + 1) (k + 1 + 1)) (some (I64 (k : Int))) none none h = some (.slice (some ⟨y, k * 5, none⟩) 1 2) := by
  have hb : bounds (k + 1) (k + 1) (some (I64 (k : Int))) none none = some (k, k + 1, k + 1) := bounds_lo (by omega)
  have h1 : Nat.beq (k + 1) k = false := by
    cases h9 : Nat.beq (k + 1) k with
    | false => rfl
    | true => have := Nat.eq_of_beq_eq_true h9; omega
  have e1 : k + 1 - k = 1 := by omega
  simp only [aSlice, ht, hu, he, Nat.le_refl, if_true, hb, h1, cond_false, hz, Nat.zero_add, e1]
theorem slk_hi {t elem : TypeId} {ti ei : TI} {y k : Nat} {h : AHeap} (ht : T.get t = some ti) (hu : ti.und = .slice elem) (he : T.get elem = some ei) : aSlice T t (.slice (some ⟨y, 0, none⟩) (k + 1) (k + 1 + 1)) none (some (I64 (k : Int))) none h = some (.slice (some ⟨y, 0, none⟩) k (k + 1 + 1)) := by
  have hb : bounds (k + 1) (k + 1) none (some (I64 (k : Int))) none = some (0, k, k + 1) := bounds_hi (by omega)
  have h1 : Nat.beq (k + 1) 0 = false := rfl
  simp only [aSlice, ht, hu, he, Nat.le_refl, if_true, hb, h1, cond_false, Nat.zero_mul, Nat.add_zero, Nat.sub_zero]
abbrev Z5 : List Value := [U64 0, U64 0, .bool false, .string ⟨#[]⟩, .bool false]
theorem del_none (h : AHeap) (V : List Vr) (v fv : Value) (is : Vr → Bool) (hs : AVs h V v) (hl : V.length ≤ 1000000) (hak : AsksV h fv is) (hfv : ∃ f a b, fv = .func f a b) (hn : ∀ y ∈ V, is y = false) :
    FWp Tryz.prog 72 [v, fv] h fun u h' => u = v ∧ h' = h := by
  have hi := index_c h V v fv is hs hl hak hfv V.length (Nat.le_refl _) (fun j y _ hy => hn y (List.mem_of_getElem? hy)) (fun y hy => by have := (List.getElem?_eq_some_iff.1 hy).1; omega)
  rw [if_neg (Nat.lt_irrefl _)] at hi
  refine W.enter tyOK Tryz.func72 rfl rfl ?_
  simp only [entry]
  refine W.seq <| W.reg <| OSuf.aop tyOK rfl za rfl <| OSuf.nil <| SQ.normal ?_
  refine W.seq <| W.reg <| OSuf.aop tyOK rfl sm rfl <| OSuf.aop tyOK rfl sm rfl <| OSuf.callD rfl (by simp only [aopnds, lk] <;> rfl) en92 (hi) rfl <| OSuf.aop tyOK rfl za rfl <| OSuf.nil <| SQ.normal ?_
  refine W.seq <| W.seq <| W.reg <| OSuf.aop tyOK rfl sm rfl <| OSuf.aopT tyOK rfl (zb (hv := bi_eql)) (fun _ => rfl) (by first | rfl | assumption | ((simp only [bl]) <;> first | done | assumption | omega) | (simp; done) | (simp; omega)) <| OSuf.nil <| SQ.normal ?_
  refine W.yes (by simp only [lk] <;> rfl) <| W.seq <| W.reg <| OSuf.aop tyOK rfl sm rfl <| OSuf.aop tyOK rfl za rfl <| OSuf.nil <| SQ.normal ?_
  refine CWp.ret <| SQ.ret <| FQ.ret (by simp only [aRet, Tryz.f72, aResults, aResult, lk, Nat.reduceEqDiff, reduceIte] <;> rfl) ?_
  -- leaf: end
  exact ⟨rfl, rfl⟩
theorem del_last (h : AHeap) (K : List Vr) (x : Vr) (y : Nat) (fv : Value) (is : Vr → Bool) (hy : y < h.next) (hg : h.get y = some (.cells (flatV (K ++ [x])) 5)) (hl : K.length ≤ 100000) (hak : AsksV h fv is) (hfv : ∃ f a b, fv = .func f a b) (hn : ∀ y ∈ K, is y = false) (hx : is x = true) :
    FWp Tryz.prog 72 [.slice (some ⟨y, 0, none⟩) (K.length + 1) (K.length + 1 + 1), fv] h fun u h' => u = .slice (some ⟨y, 0, none⟩) K.length (K.length + 1 + 1) ∧ h' = h.set y (.cells (flatV K ++ (Z5 ++ [])) 5) := by
  have hs : AVs h (K ++ [x]) (.slice (some ⟨y, 0, none⟩) (K ++ [x]).length (K.length + 1 + 1)) := .some (by simp) hy (by simp only [rowOf, hg]) (cellsOf_all (by rw [flatV_length]))
  have hi := index_c h (K ++ [x]) _ fv is hs (by simp; omega) hak hfv K.length (by simp) (fun j z hj hz => hn z (by rw [List.getElem?_append_left hj] at hz; exact List.mem_of_getElem? hz)) (fun z hz => by simp at hz; rw [← hz]; exact hx)
  have hl2 : (K ++ [x]).length = K.length + 1 := by simp
  rw [hl2, if_pos (by omega)] at hi
  have w1 : IntKind.i64.wrap ((K.length : Int) + 1) = ((K.length + 1 : Nat) : Int) := by rw [wrap_i64 (by omega) (by omega)]; omega
  have d1 : ((K.length : Int) == -1) = false := by simp
  have hrow : h.get y = some (.cells (flatV K ++ (x.cs ++ [])) 5) := by rw [hg, flatV_app]; rfl
  refine W.enter tyOK Tryz.func72 rfl rfl ?_
  simp only [entry]
  refine W.seq <| W.reg <| OSuf.aop tyOK rfl za rfl <| OSuf.nil <| SQ.normal ?_
  refine W.seq <| W.reg <| OSuf.aop tyOK rfl sm rfl <| OSuf.aop tyOK rfl sm rfl <| OSuf.callD rfl (by simp only [aopnds, lk] <;> rfl) en92 (hi) rfl <| OSuf.aop tyOK rfl za rfl <| OSuf.nil <| SQ.normal ?_
  refine W.seq <| W.seq <| W.reg <| OSuf.aop tyOK rfl sm rfl <| OSuf.aopF tyOK rfl (zb (hv := bi_eql)) (fun _ => rfl) (d1) <| OSuf.nil <| SQ.normal ?_
  refine W.no (by simp only [lk] <;> rfl) <| CWp.skip <| SQ.normal ?_
  refine W.seq <| W.seq <| W.reg <| OSuf.aop tyOK rfl sm rfl <| OSuf.aop tyOK rfl (zb (hv := bi_w bi_add (by first | (simp only [w1] <;> rfl) | rfl))) rfl <| OSuf.aop tyOK rfl za rfl <| OSuf.nil <| SQ.normal ?_
  -- leaf: loop
  refine W.cut (fun L h' => h' = h ∧ L = [(0, .slice (some ⟨y, 0, none⟩) (K.length + 1) (K.length + 1 + 1)), (5, I64 K.length)]) (W.block (W.loop (fun m L h' => h' = h ∧ L = [(0, .slice (some ⟨y, 0, none⟩) (K.length + 1) (K.length + 1 + 1)), (5, I64 K.length), (6, I64 ((K.length + 1 : Nat) : Int))]) (n := 0) ⟨rfl, rfl⟩ ?_ ?_)) ?_
  · simp [HasA, Tr.get_put]
  · rintro m L g ⟨rfl, rfl⟩
    simp only [mkA]
    have d2 : decide (((K.length + 1 : Nat) : Int) < ((K.length + 1 : Nat) : Int)) = false := decide_eq_false (by omega)
    refine W.seq <| W.seq <| W.reg <| OSuf.aop tyOK rfl sm rfl <| OSuf.aop tyOK rfl sm rfl <| OSuf.aop tyOK rfl (so_len (by simp only [aopnds, lk] <;> rfl) (by simp (disch := first | assumption | omega | (simp only [nx] <;> omega) | fail) only [aLenOf, ty34, hpl] <;> rfl)) rfl <| OSuf.aopF tyOK rfl (zb (hv := bi_lss)) (fun _ => rfl) (d2) <| OSuf.nil <| SQ.normal ?_
    refine W.no (by simp only [lk] <;> rfl) <| CWp.exit <| SQ.exit <| LQ.exit <| BQ.exit <| ?_
    -- leaf: cut
    refine NQ.normal (L := [(0, .slice (some ⟨y, 0, none⟩) (K.length + 1) (K.length + 1 + 1)), (5, I64 K.length)]) ?_ ⟨rfl, rfl⟩
    simp only [HasA, Tr.get_put, Nat.reduceEqDiff, reduceIte, and_self]
  rintro L a' g ha ⟨rfl, rfl⟩
  refine SQ.normal <| CWp.known ha ?_
  simp only [mkA]
  refine W.seq <| W.reg <| OSuf.aop tyOK rfl sm rfl <| OSuf.aop tyOK rfl sm rfl <| OSuf.aop tyOK rfl (so_slice (by simp only [lk] <;> rfl) (by simp only [oopnd, lk] <;> rfl) (by simp only [oopnd, lk] <;> rfl) (by simp only [oopnd, lk] <;> rfl) (slk_lo ty34 rfl ty49 rfl)) rfl <| OSuf.aop tyOK rfl (so_clear (by simp only [aopnds, lk] <;> rfl) (cl_u rfl ty34 rfl ty49 rfl rfl rfl hrow (by rw [flatV_length]) rfl (by decide))) rfl <| OSuf.nil <| SQ.normal ?_
  refine W.seq <| W.reg <| OSuf.aop tyOK rfl sm rfl <| OSuf.aop tyOK rfl sm rfl <| OSuf.aop tyOK rfl (so_slice (by simp only [lk] <;> rfl) (by simp only [oopnd, lk] <;> rfl) (by simp only [oopnd, lk] <;> rfl) (by simp only [oopnd, lk] <;> rfl) (slk_hi ty34 rfl ty49)) rfl <| OSuf.aop tyOK rfl za rfl <| OSuf.nil <| SQ.normal ?_
  refine CWp.ret <| FQ.ret (by simp only [aRet, Tryz.f72, aResults, aResult, lk, Nat.reduceEqDiff, reduceIte] <;> rfl) ?_
  -- leaf: end
  exact ⟨rfl, rfl⟩
inductive Wo (h H : AHeap) (V : List Vr) (is : Vr → Bool) : List Vr → Value → Prop
  | all (hn : ∀ y ∈ V, is y = false) (hg : H.get h.next = some (.cells (flatV V) 5)) : Wo h H V is V (.slice (some ⟨h.next, 0, none⟩) V.length (V.length + 1))
  | last {K : List Vr} {x : Vr} (e : V = K ++ [x]) (hg : H.get h.next = some (.cells (flatV K ++ (Z5 ++ [])) 5)) : Wo h H V is K (.slice (some ⟨h.next, 0, none⟩) K.length (K.length + 1 + 1))
theorem without_c (h : AHeap) (V : List Vr) (v fv : Value) (z : Nat) (is : Vr → Bool) (hs : AVs h V v) (hl : V.length ≤ 100000) (hr : Ris V) (hak : AsksV h fv is) (hfv : ∃ f a b, fv = .func f a b) (hz : z < h.next) (hgz : h.get z = some (.cells [fv] 1))
    (hV : (∀ y ∈ V, is y = false) ∨ ∃ K x, V = K ++ [x] ∧ (∀ y ∈ K, is y = false) ∧ is x = true) :
    ∃ H K u, FWp Tryz.prog 55 [v, .slice (some ⟨z, 0, none⟩) 1 2] h (fun u' h' => u' = u ∧ h' = H) ∧ Wo h H V is K u ∧ H.next = h.next + 1 ∧ (∀ z, z < h.next → H.get z = h.get z) ∧ K = V.filter fun y => !is y := by
  obtain ⟨H1, o1, o2, o3, o4⟩ := own_x h V v hs (by omega)
  have hs1 : AVs H1 V v := avs_mono hs (by omega) o4
  have hmay := may_c H1 V v hs1 (by omega) true (by simp [hr])
  have ha1 := hak.mono (h' := H1) (by omega) o4
  have gz1 : H1.get z = some (.cells [fv] 1) := by rw [o4 z hz]; exact hgz
  have w1 : IntKind.i64.wrap ((0 : Int) + 1) = 1 := by decide
  -- the one call
  have hdel : ∃ H K u, FWp Tryz.prog 72 [.slice (some ⟨h.next, 0, none⟩) V.length (V.length + 1), fv] H1 (fun u' h' => u' = u ∧ h' = H) ∧ Wo h H V is K u ∧ H.next = h.next + 1 ∧ (∀ z, z < h.next → H.get z = h.get z) ∧ K = V.filter fun y => !is y := by
    rcases hV with hn | ⟨K, x, rfl, hn, hx⟩
    · have hs2 : AVs H1 V (.slice (some ⟨h.next, 0, none⟩) V.length (V.length + 1)) := by
        by_cases hV0 : V = []
        · subst hV0; exact .emp
        · exact .some hV0 (by omega) (by simp only [rowOf, o2]) (cellsOf_all (flatV_length V))
      refine ⟨H1, V, _, del_none H1 V _ fv is hs2 (by omega) ha1 hfv hn, .all hn o2, o3, o4, ?_⟩
      exact (List.filter_eq_self.2 fun y hy => by simp [hn y hy]).symm
    · have hl2 : (K ++ [x]).length = K.length + 1 := by simp
      rw [hl2]
      refine ⟨_, K, _, del_last H1 K x h.next fv is (by omega) o2 (by simp at hl; omega) ha1 hfv hn hx, .last rfl (AHeap.get_set_same _ _ _), by simpa using o3, fun z hz => by rw [AHeap.get_set_ne (by omega)]; exact o4 z hz, ?_⟩
      rw [List.filter_append]
      have : K.filter (fun y => !is y) = K := List.filter_eq_self.2 fun y hy => by simp [hn y hy]
      rw [this]; simp [hx]
  obtain ⟨H, K, u, d1, d2, d3, d4, d5⟩ := hdel
  refine ⟨H, K, u, ?_, d2, d3, d4, d5⟩
  refine W.enter tyOK Tryz.func55 rfl rfl ?_
  simp only [entry]
  refine W.seq <| W.reg <| OSuf.aop tyOK rfl za rfl <| OSuf.nil <| SQ.normal ?_
  refine W.seq <| W.reg <| OSuf.aop tyOK rfl sm rfl <| OSuf.callD rfl (by simp only [aopnds, lk] <;> rfl) en54 (o1) rfl <| OSuf.aop tyOK rfl za rfl <| OSuf.nil <| SQ.normal ?_
  refine W.seq <| W.seq <| W.reg <| OSuf.aop tyOK rfl sm rfl <| OSuf.callD rfl (by simp only [aopnds, lk] <;> rfl) en53 (hmay) rfl <| OSuf.aopF tyOK rfl (so_not (by simp only [lk] <;> rfl)) (fun _ => rfl) rfl <| OSuf.nil <| SQ.normal ?_
  refine W.no (by simp only [lk] <;> rfl) <| CWp.skip <| SQ.normal ?_
  refine W.seq <| W.seq <| W.reg <| OSuf.aop tyOK rfl sm rfl <| OSuf.aop tyOK rfl (so_len (by simp only [aopnds, lk] <;> rfl) (by simp (disch := first | assumption | omega | (simp only [nx] <;> omega) | fail) only [aLenOf, ty143, hpl] <;> rfl)) rfl <| OSuf.aop tyOK rfl sm rfl <| OSuf.nil <| SQ.normal ?_
  -- leaf: loop
  refine W.cut (fun L h' => h' = H ∧ L = [(5, u)]) (W.block (W.loop (fun m L h' => (m = 1 ∧ h' = H1 ∧ L = [(5, .slice (some ⟨h.next, 0, none⟩) V.length (V.length + 1)), (14, .slice (some ⟨z, 0, none⟩) 1 2), (15, I64 1), (16, I64 0)]) ∨ (m = 0 ∧ h' = H ∧ L = [(5, u), (14, .slice (some ⟨z, 0, none⟩) 1 2), (15, I64 1), (16, I64 1)])) (n := 1) (.inl ⟨rfl, rfl, rfl⟩) ?_ ?_)) ?_
  · simp [HasA, Tr.get_put]
  · rintro m L g (⟨rfl, rfl, rfl⟩ | ⟨rfl, rfl, rfl⟩)
    · simp only [mkA]
      refine W.seq <| W.reg <| OSuf.aopT tyOK rfl (zb (hv := bi_lss)) (fun _ => rfl) (by first | rfl | assumption | ((simp only [bl, gz1, sb]) <;> first | done | assumption | omega) | (simp; done) | (simp; omega)) <| OSuf.nil <| SQ.normal ?_
      refine W.seq <| W.yes (by simp only [lk] <;> rfl) <| CWp.skip <| SQ.normal ?_
      refine W.seq <| W.block <| W.seq <| W.reg <| OSuf.aop tyOK rfl (zi (hv := by simp (disch := first | assumption | omega | (simp only [nx] <;> omega) | fail) only [aIndexAddr, ty143, ty74, hpl, gz1, sb] <;> rfl)) rfl <| OSuf.aop tyOK rfl (zl (hv := by simp (disch := first | assumption | omega | (simp only [nx] <;> omega) | fail) only [aLoad, ty74, rowOf, hpl, gz1, sb] <;> rfl)) rfl <| OSuf.aop tyOK rfl za rfl <| OSuf.nil <| SQ.normal ?_
      refine W.reg <| OSuf.aop tyOK rfl sm rfl <| OSuf.aop tyOK rfl sm rfl <| OSuf.callD rfl (by simp only [aopnds, lk] <;> rfl) en72 (d1) rfl <| OSuf.aop tyOK rfl za rfl <| OSuf.nil <| BQ.normal <| SQ.normal ?_
      refine W.reg <| OSuf.aop tyOK rfl (zb (hv := bi_w bi_add (by first | (simp only [w1] <;> rfl) | rfl))) rfl <| OSuf.aop tyOK rfl sm rfl <| OSuf.nil <| ?_
      -- leaf: round
      refine LQ.normal (m := 0) (L := [(5, u), (14, .slice (some ⟨z, 0, none⟩) 1 2), (15, I64 1), (16, I64 1)]) (by omega) ?_ (.inr ⟨rfl, rfl, rfl⟩)
      simp only [HasA, Tr.get_put, Nat.reduceEqDiff, reduceIte, w1, and_self]
    · simp only [mkA]
      refine W.seq <| W.reg <| OSuf.aopF tyOK rfl (zb (hv := bi_lss)) (fun _ => rfl) (by first | rfl | assumption | ((simp only [bl]) <;> first | done | assumption | omega) | (simp; done) | (simp; omega)) <| OSuf.nil <| SQ.normal ?_
      refine W.seq <| W.no (by simp only [lk] <;> rfl) <| CWp.exit <| SQ.exit <| LQ.exit <| BQ.exit <| ?_
      -- leaf: cut
      refine NQ.normal (L := [(5, u)]) ?_ ⟨rfl, rfl⟩
      simp only [HasA, Tr.get_put, Nat.reduceEqDiff, reduceIte, and_self]
  rintro L a' g ha ⟨rfl, rfl⟩
  refine SQ.normal <| CWp.known ha ?_
  simp only [mkA]
  refine W.seq <| W.reg <| OSuf.aop tyOK rfl sm rfl <| OSuf.aop tyOK rfl za rfl <| OSuf.nil <| SQ.normal ?_
  refine CWp.ret <| FQ.ret (by simp only [aRet, Tryz.f55, aResults, aResult, lk, Nat.reduceEqDiff, reduceIte] <;> rfl) ?_
  -- leaf: end
  exact ⟨rfl, rfl⟩
theorem ap_full {h : AHeap} {ats : Array TypeId} {A : AppT} {r n : Nat} {x : Value} {vs B : List Value} (ha : appT T ats = some A) (hsz : A.size = 5) (hby : A.bytes ≤ 100) (hn : n ≤ 100000) (hl : aLen x = some 1) (hx : aCells h 5 1 x = some B) (hg : h.get r = some (.cells vs 5)) (hlen : vs.length = n * 5) :
    aAppend T ats (.slice (some ⟨r, 0, none⟩) n (n + 1)) x h = some (.slice (some ⟨h.next, 0, none⟩) (n + 1) 0, h.new (.cells (vs ++ B) 5)) := by
  have hb : Nat.ble ((2 * (n + 1) + 256) * A.bytes) 281474976710656 = true := Nat.ble_eq_true_of_le (by
    have : (2 * (n + 1) + 256) * A.bytes ≤ 300000 * 100 := Nat.mul_le_mul (by omega) hby
    omega)
  have h1 : Nat.ble (n + 1) n = false := by
    cases h9 : Nat.ble (n + 1) n with
    | false => rfl
    | true => have := Nat.le_of_ble_eq_true h9; omega
  have hs : sCells h 5 (.slice (some ⟨r, 0, none⟩) n (n + 1)) = some vs := by
    simp only [sCells]
    exact aCells_of (vs := vs) (by simp only [rowOf, hg]) (Nat.le_refl _) (cellsOf_all hlen)
  simp only [aAppend, ha, hl, hsz, hx, vLen, hb, cond_true, h1, cond_false, hs]
theorem ap_room {h : AHeap} {ats : Array TypeId} {A : AppT} {r n : Nat} {x : Value} {vs B : List Value} (ha : appT T ats = some A) (hsz : A.size = 5) (hby : A.bytes ≤ 100) (hn : n ≤ 100000) (hl : aLen x = some 1) (hx : aCells h 5 1 x = some B) (hB : B.length = 5) (hone : oneCells B = true) (hg : h.get r = some (.cells vs 5)) (hlen : vs.length = n * 5 + 5) :
    aAppend T ats (.slice (some ⟨r, 0, none⟩) n (n + 1 + 1)) x h = some (.slice (some ⟨r, 0, none⟩) (n + 1) (n + 1 + 1), h.set r (.cells (splice vs (n * 5) B) 5)) := by
  have hb : Nat.ble ((2 * (n + 1) + 256) * A.bytes) 281474976710656 = true := Nat.ble_eq_true_of_le (by
    have : (2 * (n + 1) + 256) * A.bytes ≤ 300000 * 100 := Nat.mul_le_mul (by omega) hby
    omega)
  have h1 : Nat.ble (n + 1) (n + 1) = true := Nat.ble_eq_true_of_le (Nat.le_refl _)
  have h2 : Nat.ble 1 (n + 1) = true := Nat.ble_eq_true_of_le (by omega)
  have h3 : Nat.beq 1 0 = false := rfl
  have h4 : Nat.ble (n * 5 + B.length) vs.length = true := Nat.ble_eq_true_of_le (by omega)
  simp only [aAppend, ha, hl, hsz, hx, vLen, hb, cond_true, h1, h2, h3, cond_false, writeRow, hg, Nat.zero_add, h4, hone, Bool.and_self]
def putV (w : Vr) (V : List Vr) : List Vr := (V.filter fun y => !(y.ts == w.ts)) ++ [w]
theorem ris_lt {V : List Vr} (hr : Ris V) : ∀ (d i : Nat) (x y : Vr), V[i]? = some x → V[i + d + 1]? = some y → x.ts < y.ts
  | 0, i, x, y, hx, hy => hr i x y hx hy
  | d + 1, i, x, y, hx, hy => by
    have hl := (List.getElem?_eq_some_iff.1 hy).1
    obtain ⟨z, hz⟩ : ∃ z, V[i + d + 1]? = some z := ⟨V[i + d + 1]'(by omega), by simp⟩
    have h1 := ris_lt hr d i x z hx hz
    have h2 := hr (i + d + 1) z y hz hy
    omega
theorem put_cases {w : Vr} {V : List Vr} (hr : Ris V) (hn : ∀ x ∈ V, x.ts ≤ w.ts) : (∀ y ∈ V, (y.ts == w.ts) = false) ∨ ∃ K x, V = K ++ [x] ∧ (∀ y ∈ K, (y.ts == w.ts) = false) ∧ (x.ts == w.ts) = true := by
  rcases List.eq_nil_or_concat V with rfl | ⟨K, x, rfl⟩
  · exact .inl fun y hy => by cases hy
  · rw [List.concat_eq_append] at *
    have hK : ∀ y ∈ K, y.ts < x.ts := fun y hy => by
      obtain ⟨i, hi⟩ := List.getElem?_of_mem hy
      have hil := (List.getElem?_eq_some_iff.1 hi).1
      refine ris_lt hr (K.length - i - 1) i y x (by rw [List.getElem?_append_left hil]; exact hi) ?_
      have : i + (K.length - i - 1) + 1 = K.length := by omega
      rw [this]; simp
    have hx := hn x (by simp)
    have hKw : ∀ y ∈ K, (y.ts == w.ts) = false := fun y hy => by
      have := hK y hy
      have : ¬ y.ts = w.ts := by omega
      simpa using this
    cases hxw : (x.ts == w.ts) with
    | true => exact .inr ⟨K, x, rfl, hKw, hxw⟩
    | false =>
      refine .inl fun y hy => ?_
      rcases List.mem_append.1 hy with h9 | h9
      · exact hKw y h9
      · simp at h9; rw [h9]; exact hxw
theorem put1_c (g : AHeap) (q : Nat) (w x : Vr) (hq : g.get q = some (.cells [U64 w.ts, U64 w.lsn, .bool w.del, .string w.val, .bool w.acked] 1)) (hlt : q < g.next) : FWp Tryz.prog 56 [aggV x, P0 q] g fun u g' => u = .bool (x.ts == w.ts) ∧ g' = g := by
  refine FWp.gcs (.flat rfl) (W.enter tyOK Tryz.func56 rfl rfl ?_)
  simp only [entry]
  refine W.seq <| W.reg <| OSuf.aop tyOK rfl (so_box (by simp only [lk] <;> rfl)) rfl <| OSuf.aopF tyOK rfl za (fun _ => rfl) rfl <| OSuf.nil <| SQ.normal ?_
  refine W.seq <| W.reg <| OSuf.aop tyOK rfl (zf (hv := fa_ok (k := 0) ty49 rfl rfl ty27 rfl rfl)) rfl <| OSuf.aop tyOK rfl (zl (hv := by simp (disch := first | assumption | omega | (simp only [nx] <;> omega) | fail) only [aLoad, ty27, rowOf, hpl, hq, Value.cells] <;> rfl)) rfl <| OSuf.aop tyOK rfl (zf (hv := fa_ok (k := 0) ty49 rfl rfl ty27 rfl rfl)) rfl <| OSuf.aop tyOK rfl (zl (hv := by simp (disch := first | assumption | omega | (simp only [nx] <;> omega) | fail) only [aLoad, ty27, rowOf, hpl, hq, Value.cells] <;> rfl)) rfl <| OSuf.aop tyOK rfl (zb (hv := bi_eql)) rfl <| OSuf.aop tyOK rfl za rfl <| OSuf.nil <| SQ.normal ?_
  refine CWp.ret <| FQ.ret (by simp only [aRet, Tryz.f56, aResults, aResult, lk, Nat.reduceEqDiff, reduceIte] <;> rfl) ?_
  -- leaf: end
  exact ⟨rfl, fun z o hz ho => by simp (disch := first | assumption | omega | (simp only [nx] <;> omega) | fail) only [hpl]; exact ho⟩
theorem lastV_all {V : List Vr} : lastV (fun _ => true) V = V.getLast? := by
  rw [lastV]
  rcases List.eq_nil_or_concat V with rfl | ⟨K, x, rfl⟩
  · rfl
  · simp
theorem put_c (h : AHeap) (V : List Vr) (v : Value) (w : Vr) (hs : AVs h V v) (hl : V.length ≤ 10000) (hr : Ris V) (hn : ∀ x ∈ V, x.ts ≤ w.ts) (hd : w.del = true → w.val = ⟨#[]⟩) (hsz : w.val.size ≤ 24) :
    ∃ b n c H, FWp Tryz.prog 27 [v, aggV w] h (fun u h' => u = .tuple #[.slice (some ⟨b, 0, none⟩) n c, I64 0] ∧ h' = H) ∧ AVs H (putV w V) (.slice (some ⟨b, 0, none⟩) n c) ∧ n = (putV w V).length ∧ h.next ≤ H.next ∧ (∀ z, z < h.next → H.get z = h.get z) ∧ h.next ≤ b := by
  have tb27 := And.intro ty143 (And.intro ty27 (And.intro ty34 (And.intro ty4 (And.intro ty49 (And.intro ty74 (ty9))))))
  obtain ⟨g0, hg0⟩ : ∃ g0, g0 = ((h.new (.cells [U64 w.ts, U64 w.lsn, .bool w.del, .string w.val, .bool w.acked] 1)).new (.cells Z5 1)).set (h.next + 1) (.cells [U64 ((lastV (fun _ => true) V).getD zeroV).ts, U64 ((lastV (fun _ => true) V).getD zeroV).lsn, .bool ((lastV (fun _ => true) V).getD zeroV).del, .string ((lastV (fun _ => true) V).getD zeroV).val, .bool ((lastV (fun _ => true) V).getD zeroV).acked] 1) := ⟨_, rfl⟩
  have n0 : g0.next = h.next + 2 := by rw [hg0]; rfl
  have o0 : ∀ z, z < h.next → g0.get z = h.get z := fun z hz => by rw [hg0]; simp (disch := first | assumption | omega | (simp only [nx] <;> omega) | fail) only [hpl]
  have zw : g0.get h.next = some (.cells [U64 w.ts, U64 w.lsn, .bool w.del, .string w.val, .bool w.acked] 1) := by rw [hg0]; simp (disch := first | assumption | omega | (simp only [nx] <;> omega) | fail) only [hpl]
  have zn : g0.get (h.next + 1) = some (.cells [U64 ((lastV (fun _ => true) V).getD zeroV).ts, U64 ((lastV (fun _ => true) V).getD zeroV).lsn, .bool ((lastV (fun _ => true) V).getD zeroV).del, .string ((lastV (fun _ => true) V).getD zeroV).val, .bool ((lastV (fun _ => true) V).getD zeroV).acked] 1) := by rw [hg0]; simp (disch := first | assumption | omega | (simp only [nx] <;> omega) | fail) only [hpl]
  have hs1 : AVs (h.new (.cells [U64 w.ts, U64 w.lsn, .bool w.del, .string w.val, .bool w.acked] 1)) V v := avs_mono hs (by simp) fun z hz => AHeap.get_new_ne (by omega)
  have hnew := newest_g _ V v hs1 (by omega) hr
  have hs0 : AVs g0 V v := avs_mono hs (by omega) o0
  have hmay := may_c g0 V v hs0 (by omega) true (by simp [hr])
  -- behind the block
  obtain ⟨g1, hg1⟩ : ∃ g1, g1 = g0.new (.cells [.func (.func 56) #[] #[P0 h.next]] 1) := ⟨_, rfl⟩
  have n1 : g1.next = h.next + 3 := by rw [hg1]; simp [n0]
  have o1 : ∀ z, z < g0.next → g1.get z = g0.get z := fun z hz => by rw [hg1, AHeap.get_new_ne (by omega)]
  have zff : g1.get g0.next = some (.cells [.func (.func 56) #[] #[P0 h.next]] 1) := by rw [hg1]; exact AHeap.get_new_same _ _
  have zw1 : g1.get h.next = some (.cells [U64 w.ts, U64 w.lsn, .bool w.del, .string w.val, .bool w.acked] 1) := by rw [o1 _ (by omega)]; exact zw
  have hask : AsksV g1 (.func (.func 56) #[] #[P0 h.next]) (fun x => x.ts == w.ts) := fun g x q1 q2 => VWp.func en56 (put1_c g h.next w x (by rw [q2 _ (by omega)]; exact zw1) (by omega))
  obtain ⟨H1, K, u, w1, w2, w3, w4, w5⟩ := without_c g1 V v _ g0.next _ (avs_mono hs0 (by omega) o1) (by omega) hr hask ⟨_, _, _, rfl⟩ (by omega) zff (put_cases hr hn)
  have zw2 : H1.get h.next = some (.cells [U64 w.ts, U64 w.lsn, .bool w.del, .string w.val, .bool w.acked] 1) := by rw [w4 _ (by omega)]; exact zw1
  obtain ⟨G, hG⟩ : ∃ G, G = H1.new (.cells [U64 w.ts, U64 w.lsn, .bool w.del, .string w.val, .bool w.acked] 5) := ⟨_, rfl⟩
  have hGn : G.next = H1.next + 1 := by rw [hG]; rfl
  have hGo : ∀ z, z < H1.next → G.get z = H1.get z := fun z hz => by rw [hG, AHeap.get_new_ne (by omega)]
  have zw3 : G.get h.next = some (.cells [U64 w.ts, U64 w.lsn, .bool w.del, .string w.val, .bool w.acked] 1) := by rw [hGo _ (by omega)]; exact zw2
  have hx : aCells G 5 1 (.slice (some ⟨H1.next, 0, none⟩) 1 2) = some [U64 w.ts, U64 w.lsn, .bool w.del, .string w.val, .bool w.acked] := aCells_of (vs := [U64 w.ts, U64 w.lsn, .bool w.del, .string w.val, .bool w.acked]) (by rw [hG]; simp only [rowOf, AHeap.get_new_same]) (Nat.le_refl _) rfl
  have hKl : K.length ≤ V.length := by rw [w5]; exact List.length_filter_le _ _
  have hKp : K ++ [w] = putV w V := by rw [putV, w5]
  have hap : ∃ b n c H, (∀ ats A, appT T ats = some A → A.size = 5 → A.bytes ≤ 100 → aAppend T ats u (.slice (some ⟨H1.next, 0, none⟩) 1 2) G = some (.slice (some ⟨b, 0, none⟩) n c, H)) ∧ AVs H (putV w V) (.slice (some ⟨b, 0, none⟩) n c) ∧ n = (putV w V).length ∧ h.next ≤ H.next ∧ (∀ z, z < h.next → H.get z = h.get z) ∧ h.next ≤ b := by
    rw [← hKp]
    cases w2 with
    | all hn2 hg2 =>
      have hg3 : G.get g1.next = some (.cells (flatV V) 5) := by rw [hGo _ (by omega)]; exact hg2
      refine ⟨G.next, V.length + 1, 0, G.new (.cells (flatV V ++ [U64 w.ts, U64 w.lsn, .bool w.del, .string w.val, .bool w.acked]) 5), fun ats A a1 a2 a3 => ap_full a1 a2 a3 (by omega) rfl hx hg3 (flatV_length V), ?_, by simp, by simp only [nx]; omega, fun z hz => ?_, by omega⟩
      · have e : V.length + 1 = (V ++ [w]).length := by simp
        rw [e]
        refine .some (by simp) (by simp) (vs := flatV V ++ [U64 w.ts, U64 w.lsn, .bool w.del, .string w.val, .bool w.acked]) (by simp only [rowOf, AHeap.get_new_same]) ?_
        rw [flatV_app]
        exact cellsOf_all (by rw [List.length_append, flatV_length]; simp; omega)
      · rw [AHeap.get_new_ne (by omega), hGo z (by omega), w4 z (by omega), o1 z (by omega), o0 z hz]
    | @last K x e hg2 =>
      have hg3 : G.get g1.next = some (.cells (flatV K ++ (Z5 ++ [])) 5) := by rw [hGo _ (by omega)]; exact hg2
      have hsp : splice (flatV K ++ (Z5 ++ [])) (K.length * 5) [U64 w.ts, U64 w.lsn, .bool w.del, .string w.val, .bool w.acked] = flatV K ++ ([U64 w.ts, U64 w.lsn, .bool w.del, .string w.val, .bool w.acked] ++ []) := by
        have := splice_app (flatV K) Z5 [] [U64 w.ts, U64 w.lsn, .bool w.del, .string w.val, .bool w.acked] rfl
        rw [flatV_length] at this; exact this
      refine ⟨g1.next, K.length + 1, K.length + 1 + 1, G.set g1.next (.cells (splice (flatV K ++ (Z5 ++ [])) (K.length * 5) [U64 w.ts, U64 w.lsn, .bool w.del, .string w.val, .bool w.acked]) 5), fun ats A a1 a2 a3 => ap_room a1 a2 a3 (by omega) rfl hx rfl rfl hg3 (by simp [flatV_length]), ?_, by simp, by simp only [nx]; omega, fun z hz => ?_, by omega⟩
      · have e : K.length + 1 = (K ++ [w]).length := by simp
        rw [hsp, e]
        refine .some (by simp) (by simp only [nx]; omega) (vs := flatV K ++ ([U64 w.ts, U64 w.lsn, .bool w.del, .string w.val, .bool w.acked] ++ [])) (by simp only [rowOf, AHeap.get_set_same]) ?_
        rw [flatV_app]
        exact cellsOf_all (by rw [List.length_append, flatV_length]; simp; omega)
      · rw [AHeap.get_set_ne (by omega), hGo z (by omega), w4 z (by omega), o1 z (by omega), o0 z hz]
  obtain ⟨b, n, c, H, p1, p2, p3, p4, p5, p6⟩ := hap
  refine ⟨b, n, c, H, ?_, p2, p3, p4, p5, p6⟩
  have e5 : cellsOf [U64 w.ts, U64 w.lsn, .bool w.del, .string w.val, .bool w.acked] 0 5 = some [U64 w.ts, U64 w.lsn, .bool w.del, .string w.val, .bool w.acked] := rfl
  have b24 : decide ((w.val.size : Int) > 24) = false := decide_eq_false (by omega)
  obtain ⟨nw, hnw⟩ : ∃ nw, nw = (lastV (fun _ => true) V).getD zeroV := ⟨_, rfl⟩
  have hgt : (lastV (fun _ => true) V).isSome = true → decide (nw.ts > w.ts) = false := fun hi => by
    rw [hnw, lastV_all] at *
    cases hv : V.getLast? with
    | none => rw [hv] at hi; cases hi
    | some x => exact decide_eq_false (by have := hn x (List.mem_of_getLast? hv); show ¬ x.ts > w.ts; omega)
  obtain ⟨iso, hiso⟩ : ∃ iso, iso = (lastV (fun _ => true) V).isSome := ⟨_, rfl⟩
  rw [← hnw, ← hiso] at hnew
  rw [← hiso] at hgt
  rw [← hnw] at zn hg0
  refine W.enter tyOK Tryz.func27 rfl rfl ?_
  simp only [entry]
  refine W.seq <| W.reg <| OSuf.aop tyOK rfl (so_box (by simp only [lk] <;> rfl)) rfl <| OSuf.aop tyOK rfl za rfl <| OSuf.aop tyOK rfl za rfl <| OSuf.nil <| SQ.normal ?_
  refine W.seq <| W.reg <| OSuf.aop tyOK rfl sm rfl <| OSuf.callD rfl (by simp only [aopnds, lk] <;> rfl) en25 (hnew) rfl <| OSuf.aop tyOK rfl sm rfl <| OSuf.aop tyOK rfl (ze (hv := by simp (disch := first | assumption | omega | (simp only [nx] <;> omega) | fail) only [aExtract, hpl, Value.cells, places, tb27] <;> rfl)) rfl <| OSuf.aop tyOK rfl (ze (hv := by simp (disch := first | assumption | omega | (simp only [nx] <;> omega) | fail) only [aExtract, hpl, Value.cells, places, tb27] <;> rfl)) rfl <| OSuf.aop tyOK rfl (so_alloc (by simp only [aAlloc, ty49] <;> rfl)) rfl <| OSuf.aop tyOK rfl (zs (hv := by simp (disch := first | assumption | omega | (simp only [nx] <;> omega) | fail) only [aStore, ty49, writeRow, hpl, Value.cells] <;> rfl)) rfl <| OSuf.aop tyOK rfl za rfl <| OSuf.nil <| SQ.normal ?_
  refine W.seq <| W.block <| ?_
  -- leaf: upto
  rw [hg0] at hmay
  refine W.cut (fun L h' => h' = g0 ∧ L = [(0, v), (3, P0 h.next)]) ?_ ?_
  · rcases Bool.eq_false_or_eq_true w.del with hdel | hdel
    · skip
      have hdv : (!(w.val.toList == (ByteArray.toList ⟨#[]⟩))) = false := by rw [hd hdel]; simp
      rcases Bool.eq_false_or_eq_true iso with hi | hi
      · skip
        refine W.seq <| W.reg <| OSuf.aop tyOK rfl sm rfl <| OSuf.callD rfl (by simp only [aopnds, lk] <;> rfl) en53 (hmay) rfl <| OSuf.aopF tyOK rfl (so_not (by simp only [lk] <;> rfl)) (fun _ => rfl) rfl <| OSuf.aopF tyOK rfl sm (fun _ => rfl) rfl <| OSuf.aop tyOK ag (zf (hv := fa_ok (k := 2) ty49 rfl rfl ty4 rfl rfl)) rfl <| OSuf.aopT tyOK ag (zl (hv := by simp (disch := first | assumption | omega | (simp only [nx] <;> omega) | fail) only [aLoad, ty4, rowOf, hpl, Value.cells] <;> rfl)) (fun _ => rfl) (hdel) <| OSuf.aopT tyOK ag sm (fun _ => rfl) rfl <| OSuf.aop tyOK ag (zf (hv := fa_ok (k := 3) ty49 rfl rfl ty9 rfl rfl)) rfl <| OSuf.aop tyOK ag (zl (hv := by simp (disch := first | assumption | omega | (simp only [nx] <;> omega) | fail) only [aLoad, ty9, rowOf, hpl, Value.cells] <;> rfl)) rfl <| OSuf.aopF tyOK ag (zb (hv := bs_neq)) (fun _ => rfl) (hdv) <| OSuf.aopF tyOK ag (so_pick (by simp only [lk] <;> rfl) (by simp only [lk, cond_true, cond_false] <;> rfl)) (fun _ => rfl) rfl <| OSuf.aopF tyOK rfl (so_pick (by simp only [lk] <;> rfl) (by simp only [lk, cond_true, cond_false] <;> rfl)) (fun _ => rfl) rfl <| OSuf.aopF tyOK rfl za (fun _ => rfl) rfl <| OSuf.nil <| SQ.normal ?_
        refine W.no (by simp only [lk] <;> rfl) <| W.seq <| W.reg <| OSuf.aop tyOK rfl (zf (hv := fa_ok (k := 3) ty49 rfl rfl ty9 rfl rfl)) rfl <| OSuf.aop tyOK rfl (zl (hv := by simp (disch := first | assumption | omega | (simp only [nx] <;> omega) | fail) only [aLoad, ty9, rowOf, hpl, Value.cells] <;> rfl)) rfl <| OSuf.aop tyOK rfl (so_len (by simp only [aopnds, lk] <;> rfl) (by simp (disch := first | assumption | omega | (simp only [nx] <;> omega) | fail) only [aLenOf, ty9, hpl, Value.cells, places, tb27] <;> rfl)) rfl <| OSuf.aopF tyOK rfl (zb (hv := bi_gtr)) (fun _ => rfl) (b24) <| OSuf.aopF tyOK rfl za (fun _ => rfl) rfl <| OSuf.nil <| SQ.normal ?_
        refine W.no (by simp only [lk] <;> rfl) <| W.seq <| W.reg <| OSuf.aopT tyOK rfl sm (fun _ => rfl) (hi) <| OSuf.aopT tyOK rfl sm (fun _ => rfl) rfl <| OSuf.aop tyOK ag (zf (hv := fa_ok (k := 0) ty49 rfl rfl ty27 rfl rfl)) rfl <| OSuf.aop tyOK ag (zl (hv := by simp (disch := first | assumption | omega | (simp only [nx] <;> omega) | fail) only [aLoad, ty27, rowOf, hpl, Value.cells] <;> rfl)) rfl <| OSuf.aop tyOK ag (zf (hv := fa_ok (k := 0) ty49 rfl rfl ty27 rfl rfl)) rfl <| OSuf.aop tyOK ag (zl (hv := by simp (disch := first | assumption | omega | (simp only [nx] <;> omega) | fail) only [aLoad, ty27, rowOf, hpl, Value.cells] <;> rfl)) rfl <| OSuf.aopF tyOK ag (zb (hv := bi_gtr)) (fun _ => rfl) (hgt hi) <| OSuf.aopF tyOK rfl (so_pick (by simp only [lk] <;> rfl) (by simp only [lk, cond_true, cond_false] <;> rfl)) (fun _ => rfl) rfl <| OSuf.aopF tyOK rfl za (fun _ => rfl) rfl <| OSuf.nil <| SQ.normal ?_
        refine W.no (by simp only [lk] <;> rfl) <| CWp.skip <| ?_
        -- leaf: cut
        refine NQ.normal (L := [(0, v), (3, P0 h.next)]) ?_ ⟨hg0.symm, rfl⟩
        simp only [HasA, Tr.get_put, Nat.reduceEqDiff, reduceIte, and_self]
      · skip
        refine W.seq <| W.reg <| OSuf.aop tyOK rfl sm rfl <| OSuf.callD rfl (by simp only [aopnds, lk] <;> rfl) en53 (hmay) rfl <| OSuf.aopF tyOK rfl (so_not (by simp only [lk] <;> rfl)) (fun _ => rfl) rfl <| OSuf.aopF tyOK rfl sm (fun _ => rfl) rfl <| OSuf.aop tyOK ag (zf (hv := fa_ok (k := 2) ty49 rfl rfl ty4 rfl rfl)) rfl <| OSuf.aopT tyOK ag (zl (hv := by simp (disch := first | assumption | omega | (simp only [nx] <;> omega) | fail) only [aLoad, ty4, rowOf, hpl, Value.cells] <;> rfl)) (fun _ => rfl) (hdel) <| OSuf.aopT tyOK ag sm (fun _ => rfl) rfl <| OSuf.aop tyOK ag (zf (hv := fa_ok (k := 3) ty49 rfl rfl ty9 rfl rfl)) rfl <| OSuf.aop tyOK ag (zl (hv := by simp (disch := first | assumption | omega | (simp only [nx] <;> omega) | fail) only [aLoad, ty9, rowOf, hpl, Value.cells] <;> rfl)) rfl <| OSuf.aopF tyOK ag (zb (hv := bs_neq)) (fun _ => rfl) (hdv) <| OSuf.aopF tyOK ag (so_pick (by simp only [lk] <;> rfl) (by simp only [lk, cond_true, cond_false] <;> rfl)) (fun _ => rfl) rfl <| OSuf.aopF tyOK rfl (so_pick (by simp only [lk] <;> rfl) (by simp only [lk, cond_true, cond_false] <;> rfl)) (fun _ => rfl) rfl <| OSuf.aopF tyOK rfl za (fun _ => rfl) rfl <| OSuf.nil <| SQ.normal ?_
        refine W.no (by simp only [lk] <;> rfl) <| W.seq <| W.reg <| OSuf.aop tyOK rfl (zf (hv := fa_ok (k := 3) ty49 rfl rfl ty9 rfl rfl)) rfl <| OSuf.aop tyOK rfl (zl (hv := by simp (disch := first | assumption | omega | (simp only [nx] <;> omega) | fail) only [aLoad, ty9, rowOf, hpl, Value.cells] <;> rfl)) rfl <| OSuf.aop tyOK rfl (so_len (by simp only [aopnds, lk] <;> rfl) (by simp (disch := first | assumption | omega | (simp only [nx] <;> omega) | fail) only [aLenOf, ty9, hpl, Value.cells, places, tb27] <;> rfl)) rfl <| OSuf.aopF tyOK rfl (zb (hv := bi_gtr)) (fun _ => rfl) (b24) <| OSuf.aopF tyOK rfl za (fun _ => rfl) rfl <| OSuf.nil <| SQ.normal ?_
        refine W.no (by simp only [lk] <;> rfl) <| W.seq <| W.reg <| OSuf.aopF tyOK rfl sm (fun _ => rfl) (hi) <| OSuf.aopF tyOK rfl sm (fun _ => rfl) rfl <| OSuf.pass ag rfl <| OSuf.pass ag rfl <| OSuf.pass ag rfl <| OSuf.pass ag rfl <| OSuf.pass ag rfl <| OSuf.aopF tyOK rfl (so_pick (by simp only [lk] <;> rfl) (by simp only [lk, cond_true, cond_false] <;> rfl)) (fun _ => rfl) rfl <| OSuf.aopF tyOK rfl za (fun _ => rfl) rfl <| OSuf.nil <| SQ.normal ?_
        refine W.no (by simp only [lk] <;> rfl) <| CWp.skip <| ?_
        -- leaf: cut
        refine NQ.normal (L := [(0, v), (3, P0 h.next)]) ?_ ⟨hg0.symm, rfl⟩
        simp only [HasA, Tr.get_put, Nat.reduceEqDiff, reduceIte, and_self]
    · rcases Bool.eq_false_or_eq_true iso with hi | hi
      · skip
        refine W.seq <| W.reg <| OSuf.aop tyOK rfl sm rfl <| OSuf.callD rfl (by simp only [aopnds, lk] <;> rfl) en53 (hmay) rfl <| OSuf.aopF tyOK rfl (so_not (by simp only [lk] <;> rfl)) (fun _ => rfl) rfl <| OSuf.aopF tyOK rfl sm (fun _ => rfl) rfl <| OSuf.aop tyOK ag (zf (hv := fa_ok (k := 2) ty49 rfl rfl ty4 rfl rfl)) rfl <| OSuf.aopF tyOK ag (zl (hv := by simp (disch := first | assumption | omega | (simp only [nx] <;> omega) | fail) only [aLoad, ty4, rowOf, hpl, Value.cells] <;> rfl)) (fun _ => rfl) (hdel) <| OSuf.aopF tyOK ag sm (fun _ => rfl) rfl <| OSuf.pass ag rfl <| OSuf.pass ag rfl <| OSuf.pass ag rfl <| OSuf.aopF tyOK ag (so_pick (by simp only [lk] <;> rfl) (by simp only [lk, cond_true, cond_false] <;> rfl)) (fun _ => rfl) rfl <| OSuf.aopF tyOK rfl (so_pick (by simp only [lk] <;> rfl) (by simp only [lk, cond_true, cond_false] <;> rfl)) (fun _ => rfl) rfl <| OSuf.aopF tyOK rfl za (fun _ => rfl) rfl <| OSuf.nil <| SQ.normal ?_
        refine W.no (by simp only [lk] <;> rfl) <| W.seq <| W.reg <| OSuf.aop tyOK rfl (zf (hv := fa_ok (k := 3) ty49 rfl rfl ty9 rfl rfl)) rfl <| OSuf.aop tyOK rfl (zl (hv := by simp (disch := first | assumption | omega | (simp only [nx] <;> omega) | fail) only [aLoad, ty9, rowOf, hpl, Value.cells] <;> rfl)) rfl <| OSuf.aop tyOK rfl (so_len (by simp only [aopnds, lk] <;> rfl) (by simp (disch := first | assumption | omega | (simp only [nx] <;> omega) | fail) only [aLenOf, ty9, hpl, Value.cells, places, tb27] <;> rfl)) rfl <| OSuf.aopF tyOK rfl (zb (hv := bi_gtr)) (fun _ => rfl) (b24) <| OSuf.aopF tyOK rfl za (fun _ => rfl) rfl <| OSuf.nil <| SQ.normal ?_
        refine W.no (by simp only [lk] <;> rfl) <| W.seq <| W.reg <| OSuf.aopT tyOK rfl sm (fun _ => rfl) (hi) <| OSuf.aopT tyOK rfl sm (fun _ => rfl) rfl <| OSuf.aop tyOK ag (zf (hv := fa_ok (k := 0) ty49 rfl rfl ty27 rfl rfl)) rfl <| OSuf.aop tyOK ag (zl (hv := by simp (disch := first | assumption | omega | (simp only [nx] <;> omega) | fail) only [aLoad, ty27, rowOf, hpl, Value.cells] <;> rfl)) rfl <| OSuf.aop tyOK ag (zf (hv := fa_ok (k := 0) ty49 rfl rfl ty27 rfl rfl)) rfl <| OSuf.aop tyOK ag (zl (hv := by simp (disch := first | assumption | omega | (simp only [nx] <;> omega) | fail) only [aLoad, ty27, rowOf, hpl, Value.cells] <;> rfl)) rfl <| OSuf.aopF tyOK ag (zb (hv := bi_gtr)) (fun _ => rfl) (hgt hi) <| OSuf.aopF tyOK rfl (so_pick (by simp only [lk] <;> rfl) (by simp only [lk, cond_true, cond_false] <;> rfl)) (fun _ => rfl) rfl <| OSuf.aopF tyOK rfl za (fun _ => rfl) rfl <| OSuf.nil <| SQ.normal ?_
        refine W.no (by simp only [lk] <;> rfl) <| CWp.skip <| ?_
        -- leaf: cut
        refine NQ.normal (L := [(0, v), (3, P0 h.next)]) ?_ ⟨hg0.symm, rfl⟩
        simp only [HasA, Tr.get_put, Nat.reduceEqDiff, reduceIte, and_self]
      · skip
        refine W.seq <| W.reg <| OSuf.aop tyOK rfl sm rfl <| OSuf.callD rfl (by simp only [aopnds, lk] <;> rfl) en53 (hmay) rfl <| OSuf.aopF tyOK rfl (so_not (by simp only [lk] <;> rfl)) (fun _ => rfl) rfl <| OSuf.aopF tyOK rfl sm (fun _ => rfl) rfl <| OSuf.aop tyOK ag (zf (hv := fa_ok (k := 2) ty49 rfl rfl ty4 rfl rfl)) rfl <| OSuf.aopF tyOK ag (zl (hv := by simp (disch := first | assumption | omega | (simp only [nx] <;> omega) | fail) only [aLoad, ty4, rowOf, hpl, Value.cells] <;> rfl)) (fun _ => rfl) (hdel) <| OSuf.aopF tyOK ag sm (fun _ => rfl) rfl <| OSuf.pass ag rfl <| OSuf.pass ag rfl <| OSuf.pass ag rfl <| OSuf.aopF tyOK ag (so_pick (by simp only [lk] <;> rfl) (by simp only [lk, cond_true, cond_false] <;> rfl)) (fun _ => rfl) rfl <| OSuf.aopF tyOK rfl (so_pick (by simp only [lk] <;> rfl) (by simp only [lk, cond_true, cond_false] <;> rfl)) (fun _ => rfl) rfl <| OSuf.aopF tyOK rfl za (fun _ => rfl) rfl <| OSuf.nil <| SQ.normal ?_
        refine W.no (by simp only [lk] <;> rfl) <| W.seq <| W.reg <| OSuf.aop tyOK rfl (zf (hv := fa_ok (k := 3) ty49 rfl rfl ty9 rfl rfl)) rfl <| OSuf.aop tyOK rfl (zl (hv := by simp (disch := first | assumption | omega | (simp only [nx] <;> omega) | fail) only [aLoad, ty9, rowOf, hpl, Value.cells] <;> rfl)) rfl <| OSuf.aop tyOK rfl (so_len (by simp only [aopnds, lk] <;> rfl) (by simp (disch := first | assumption | omega | (simp only [nx] <;> omega) | fail) only [aLenOf, ty9, hpl, Value.cells, places, tb27] <;> rfl)) rfl <| OSuf.aopF tyOK rfl (zb (hv := bi_gtr)) (fun _ => rfl) (b24) <| OSuf.aopF tyOK rfl za (fun _ => rfl) rfl <| OSuf.nil <| SQ.normal ?_
        refine W.no (by simp only [lk] <;> rfl) <| W.seq <| W.reg <| OSuf.aopF tyOK rfl sm (fun _ => rfl) (hi) <| OSuf.aopF tyOK rfl sm (fun _ => rfl) rfl <| OSuf.pass ag rfl <| OSuf.pass ag rfl <| OSuf.pass ag rfl <| OSuf.pass ag rfl <| OSuf.pass ag rfl <| OSuf.aopF tyOK rfl (so_pick (by simp only [lk] <;> rfl) (by simp only [lk, cond_true, cond_false] <;> rfl)) (fun _ => rfl) rfl <| OSuf.aopF tyOK rfl za (fun _ => rfl) rfl <| OSuf.nil <| SQ.normal ?_
        refine W.no (by simp only [lk] <;> rfl) <| CWp.skip <| ?_
        -- leaf: cut
        refine NQ.normal (L := [(0, v), (3, P0 h.next)]) ?_ ⟨hg0.symm, rfl⟩
        simp only [HasA, Tr.get_put, Nat.reduceEqDiff, reduceIte, and_self]
  rintro L a' h9 ha ⟨e9, rfl⟩
  subst e9
  subst hg1 hG
  refine BQ.normal <| SQ.normal <| CWp.known ha ?_
  simp only [mkA]
  refine W.seq <| CWp.sql tyOK mixed (ms := [0, 0, 2, 7, 0, 16, 63, 127, 255]) (by kernel_rfl) (
      .free rfl rfl rfl sm rfl <| .free rfl rfl rfl (so_makeFunc rfl (by simp only [aopnds, lk] <;> rfl) (by simp only [aopnds, lk] <;> rfl)) rfl <| .change rfl rfl rfl (so_buildSlice (by simp only [aparts, lk] <;> rfl) (by simp only [aBuildSlice, ty143, ty74, Value.cells, places, tb27, zw, zw1, zw2, zw3, e5, cond_true] <;> rfl)) rfl trivial rfl <| .call rfl rfl rfl (fcallO (by simp only [aopnds, lk] <;> rfl) en55 (w1)) rfl trivial rfl <| .read rfl rfl rfl (zl (hv := by simp (disch := first | assumption | omega | (simp only [nx] <;> omega) | fail) only [aLoad, ty49, rowOf, hpl, Value.cells, zw, zw1, zw2, zw3, e5, Option.map_some, cond_true] <;> rfl)) (by first | rfl | (simp [veq, veq1, veqs]; done) | (simp [veq, veq1, veqs, splice]; done)) ⟨.inr (zl (hv := by simp (disch := first | assumption | omega | (simp only [nx] <;> omega) | fail) only [aLoad, ty49, rowOf, hpl, Value.cells, zw, zw1, zw2, zw3, e5, Option.map_some, cond_true] <;> rfl)), .inr (zl (hv := by simp (disch := first | assumption | omega | (simp only [nx] <;> omega) | fail) only [aLoad, ty49, rowOf, hpl, Value.cells, zw, zw1, zw2, zw3, e5, Option.map_some, cond_true] <;> rfl)), trivial⟩ rfl <| .late rfl rfl rfl (so_buildSlice (by simp only [aparts, lk] <;> rfl) (by simp only [aBuildSlice, ty34, ty49, Value.cells, places, tb27, zw, zw1, zw2, zw3, e5, cond_true] <;> rfl)) rfl rfl ⟨.inl rfl, trivial⟩ rfl <| .change rfl rfl rfl (so_append (by simp only [aopnds, lk] <;> rfl) (p1 _ _ (by simp only [appT, ty34, ty49] <;> rfl) rfl (by decide))) rfl ⟨.inl rfl, trivial⟩ rfl <| .free rfl rfl rfl za rfl <| .free rfl rfl rfl za rfl <| .nil) <| SQ.normal ?_
  refine CWp.ret <| FQ.ret (by simp only [aRet, Tryz.f27, aResults, aResult, lk, Nat.reduceEqDiff, reduceIte] <;> rfl) ?_
  -- leaf: end
  exact ⟨rfl, rfl⟩
end Go.Proofs.YtjenbiohcecfnaaGreat
