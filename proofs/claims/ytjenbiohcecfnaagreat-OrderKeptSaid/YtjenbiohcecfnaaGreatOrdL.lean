/-
  Merged: OrdH, OrdI, OrdJ, OrdK, OrdL.
-/
import Derived.Test.YtjenbiohcecfnaaGreatOrdG
namespace Go.Proofs.YtjenbiohcecfnaaGreat
open Go.Ab
set_option linter.unusedSimpArgs false
set_option linter.unusedVariables false
set_option maxRecDepth 10000
set_option maxHeartbeats 8000000
def Ask0 (h : AHeap) (fv : Value) (b : Bool) : Prop := ∀ g : AHeap, h.next ≤ g.next → (∀ z, z < h.next → g.get z = h.get z) → VWp Tryz.prog fv [] g fun u g' => u = .bool b ∧ g' = g
theorem Ask0.mono {h h' : AHeap} {fv : Value} {b : Bool} (a : Ask0 h fv b) (hn : h.next ≤ h'.next) (hk : ∀ z, z < h.next → h'.get z = h.get z) : Ask0 h' fv b := fun g g1 g2 => a g (Nat.le_trans hn g1) fun z hz => by rw [g2 z (by omega), hk z hz]
theorem any1_c (h : AHeap) (f1 : Fn) (f2 f3 : Array Value) (b : Bool) (hq : Ask0 h (.func f1 f2 f3) b) : FWp Tryz.prog 52 [.func f1 f2 f3] h fun u h' => u = .bool b ∧ h' = h := by
  have hask := hq h (Nat.le_refl _) fun _ _ => rfl
  refine W.enter tyOK Tryz.func52 rfl rfl ?_
  simp only [entry]
  refine W.seq <| W.reg <| OSuf.aopF tyOK rfl za (fun _ => rfl) rfl <| OSuf.nil <| SQ.normal ?_
  refine W.seq <| W.reg <| OSuf.aop tyOK rfl sm rfl <| OSuf.vcallD rfl (by simp only [lk] <;> rfl) (by simp only [aopnds, lk] <;> rfl) (hask) rfl <| OSuf.aop tyOK rfl za rfl <| OSuf.nil <| SQ.normal ?_
  refine CWp.ret <| FQ.ret (by simp only [aRet, Tryz.f52, aResults, aResult, lk, Nat.reduceEqDiff, reduceIte] <;> rfl) ?_
  -- leaf: end
  exact ⟨rfl, rfl⟩
theorem idx0_c (h : AHeap) (l : List (Value × Bool)) (y c : Nat) (hy : y < h.next) (hg : h.get y = some (.cells (l.map Prod.fst) 1)) (hl : l.length ≤ 100) (hq : ∀ p ∈ l, (∃ a b c, p.1 = .func a b c) ∧ Ask0 h p.1 p.2) (m : Nat) (hm : m ≤ l.length) (h1 : ∀ (j : Nat) (p : Value × Bool), j < m → l[j]? = some p → p.2 = false) (h2 : ∀ p, l[m]? = some p → p.2 = true) :
    FWp Tryz.prog 71 [.slice (some ⟨y, 0, none⟩) l.length c, .func (.func 52) #[] #[]] h fun u h' => u = I64 (if m < l.length then (m : Int) else -1) ∧ h' = h := by
  refine W.enter tyOK Tryz.func71 rfl rfl ?_
  simp only [entry]
  refine W.seq <| W.reg <| OSuf.aop tyOK rfl za rfl <| OSuf.nil <| SQ.normal ?_
  refine W.seq <| W.seq <| W.reg <| OSuf.aop tyOK rfl sm rfl <| OSuf.aop tyOK rfl (so_len (by simp only [aopnds, lk] <;> rfl) (by simp (disch := first | assumption | omega | (simp only [nx] <;> omega) | fail) only [aLenOf, ty123, hpl] <;> rfl)) rfl <| OSuf.aop tyOK rfl sm rfl <| OSuf.nil <| SQ.normal ?_
  -- leaf: loop
  refine W.cut (fun L h' => h' = h ∧ m = l.length ∧ L = []) (W.block (W.loop (fun q L h' => ∃ i : Nat, q + i = l.length ∧ i ≤ m ∧ h' = h ∧ L = [(0, .slice (some ⟨y, 0, none⟩) l.length c), (1, .func (.func 52) #[] #[]), (7, I64 l.length), (8, I64 i)]) (n := l.length) ⟨0, by omega, Nat.zero_le _, rfl, rfl⟩ ?_ ?_)) ?_
  · simp [HasA, Tr.get_put]
  · rintro q L g ⟨i, hqi, him, rfl, rfl⟩
    simp only [mkA]
    have w2 : IntKind.i64.wrap ((i : Int) + 1) = ((i + 1 : Nat) : Int) := by rw [wrap_i64 (by omega) (by omega)]; omega
    by_cases hlt : (i : Int) < (l.length : Int)
    · obtain ⟨p, hp⟩ : ∃ p, l[i]? = some p := ⟨l[i]'(by omega), by simp⟩
      obtain ⟨⟨f1, f2, f3, hf⟩, hask0⟩ := hq p (List.mem_of_getElem? hp)
      rw [hf] at hask0
      have hask : VWp Tryz.prog (.func (.func 52) #[] #[]) [.func f1 f2 f3] g (fun u g' => u = .bool p.2 ∧ g' = g) := VWp.func en52 (any1_c g f1 f2 f3 p.2 hask0)
      have b1 : (0 ≤ (i : Int) ∧ (i : Int) < (l.length : Int)) := by omega
      have g1 : (l.map Prod.fst)[i]? = some (.func f1 f2 f3) := by
        rw [List.getElem?_map, hp, ← hf]; rfl
      by_cases hie : i = m
      · subst hie
        rw [h2 p hp] at hask
        refine W.seq <| W.reg <| OSuf.aopT tyOK rfl (zb (hv := bi_lss)) (fun _ => rfl) (by first | rfl | assumption | ((simp only [bl, b1, sb, hg, g1, Option.map_some]) <;> first | done | assumption | omega) | (simp; done) | (simp; omega)) <| OSuf.nil <| SQ.normal ?_
        refine W.seq <| W.yes (by simp only [lk] <;> rfl) <| CWp.skip <| SQ.normal ?_
        refine W.seq <| W.block <| W.seq <| W.reg <| OSuf.aop tyOK rfl sm rfl <| OSuf.aop tyOK rfl za rfl <| OSuf.nil <| SQ.normal ?_
        refine W.seq <| W.reg <| OSuf.aop tyOK rfl sm rfl <| OSuf.aop tyOK rfl sm rfl <| OSuf.aop tyOK rfl sm rfl <| OSuf.aop tyOK rfl (zi (hv := by simp (disch := first | assumption | omega | (simp only [nx] <;> omega) | fail) only [aIndexAddr, ty123, ty50, hpl, b1, sb, hg, g1, Option.map_some] <;> rfl)) rfl <| OSuf.aop tyOK rfl (zl (hv := by simp (disch := first | assumption | omega | (simp only [nx] <;> omega) | fail) only [aLoad, ty50, rowOf, hpl, b1, sb, hg, g1, Option.map_some] <;> rfl)) rfl <| OSuf.vcallD rfl (by simp only [lk] <;> rfl) (by simp only [aopnds, lk] <;> rfl) (hask) rfl <| OSuf.nil <| SQ.normal ?_
        refine W.yes (by simp only [lk] <;> rfl) <| W.seq <| W.reg <| OSuf.aop tyOK rfl sm rfl <| OSuf.aop tyOK rfl za rfl <| OSuf.nil <| SQ.normal ?_
        refine CWp.ret <| BQ.ret <| SQ.ret <| LQ.ret <| BQ.ret <| NQ.ret <| SQ.ret <| FQ.ret (by simp only [aRet, Tryz.f71, aResults, aResult, lk, Nat.reduceEqDiff, reduceIte] <;> rfl) ?_
        -- leaf: end
        exact ⟨by rw [if_pos (by omega)], rfl⟩
      · rw [h1 i p (by omega) hp] at hask
        refine W.seq <| W.reg <| OSuf.aopT tyOK rfl (zb (hv := bi_lss)) (fun _ => rfl) (by first | rfl | assumption | ((simp only [bl, b1, sb, hg, g1, Option.map_some]) <;> first | done | assumption | omega) | (simp; done) | (simp; omega)) <| OSuf.nil <| SQ.normal ?_
        refine W.seq <| W.yes (by simp only [lk] <;> rfl) <| CWp.skip <| SQ.normal ?_
        refine W.seq <| W.block <| W.seq <| W.reg <| OSuf.aop tyOK rfl sm rfl <| OSuf.aop tyOK rfl za rfl <| OSuf.nil <| SQ.normal ?_
        refine W.seq <| W.reg <| OSuf.aop tyOK rfl sm rfl <| OSuf.aop tyOK rfl sm rfl <| OSuf.aop tyOK rfl sm rfl <| OSuf.aop tyOK rfl (zi (hv := by simp (disch := first | assumption | omega | (simp only [nx] <;> omega) | fail) only [aIndexAddr, ty123, ty50, hpl, b1, sb, hg, g1, Option.map_some] <;> rfl)) rfl <| OSuf.aop tyOK rfl (zl (hv := by simp (disch := first | assumption | omega | (simp only [nx] <;> omega) | fail) only [aLoad, ty50, rowOf, hpl, b1, sb, hg, g1, Option.map_some] <;> rfl)) rfl <| OSuf.vcallD rfl (by simp only [lk] <;> rfl) (by simp only [aopnds, lk] <;> rfl) (hask) rfl <| OSuf.nil <| SQ.normal ?_
        refine W.no (by simp only [lk] <;> rfl) <| CWp.skip <| BQ.normal <| SQ.normal ?_
        refine W.reg <| OSuf.aop tyOK rfl (zb (hv := bi_w bi_add (by first | (simp only [w2] <;> rfl) | rfl))) rfl <| OSuf.aop tyOK rfl sm rfl <| OSuf.nil <| ?_
        -- leaf: round
        refine LQ.normal (m := q - 1) (L := [(0, .slice (some ⟨y, 0, none⟩) l.length c), (1, .func (.func 52) #[] #[]), (7, I64 l.length), (8, I64 ((i + 1 : Nat) : Int))]) (by omega) ?_ ⟨i + 1, by omega, by omega, rfl, rfl⟩
        simp only [HasA, Tr.get_put, Nat.reduceEqDiff, reduceIte, w2, and_self]
    · refine W.seq <| W.reg <| OSuf.aopF tyOK rfl (zb (hv := bi_lss)) (fun _ => rfl) (by first | rfl | assumption | ((simp only [bl]) <;> first | done | assumption | omega) | (simp; done) | (simp; omega)) <| OSuf.nil <| SQ.normal ?_
      refine W.seq <| W.no (by simp only [lk] <;> rfl) <| CWp.exit <| SQ.exit <| LQ.exit <| BQ.exit <| ?_
      -- leaf: cut
      exact NQ.normal (L := []) trivial ⟨rfl, by omega, rfl⟩
  rintro L a' h' ha ⟨rfl, e, rfl⟩
  refine SQ.normal <| CWp.known ha ?_
  simp only [mkA]
  refine W.seq <| W.reg <| OSuf.aop tyOK rfl za rfl <| OSuf.nil <| SQ.normal ?_
  refine CWp.ret <| FQ.ret (by simp only [aRet, Tryz.f71, aResults, aResult, lk, Nat.reduceEqDiff, reduceIte] <;> rfl) ?_
  -- leaf: end
  exact ⟨by rw [if_neg (by omega)], rfl⟩
theorem first_q : ∀ l : List (Value × Bool), ∃ m, m ≤ l.length ∧ (∀ (j : Nat) (p : Value × Bool), j < m → l[j]? = some p → p.2 = false) ∧ (∀ p, l[m]? = some p → p.2 = true) ∧ (l.any Prod.snd = decide (m < l.length))
  | [] => ⟨0, Nat.le_refl _, fun j p h => by omega, fun p h => by simp at h, rfl⟩
  | x :: l => by
    rcases Bool.eq_false_or_eq_true x.2 with hx | hx
    · exact ⟨0, Nat.zero_le _, fun j p h => by omega, fun p h => by simp at h; rw [← h]; exact hx, by simp [hx]⟩
    · obtain ⟨m, m1, m2, m3, m4⟩ := first_q l
      refine ⟨m + 1, by simp; omega, fun j p h1 h2 => ?_, fun p h => m3 p (by simpa using h), by simp only [List.any_cons, hx, Bool.false_or, m4, List.length_cons, Nat.add_lt_add_iff_right]⟩
      match j with
      | 0 => simp at h2; rw [← h2]; exact hx
      | j + 1 => exact m2 j p (by omega) (by simpa using h2)
theorem anyof_c (h : AHeap) (l : List (Value × Bool)) (y c : Nat) (hy : y < h.next) (hg : h.get y = some (.cells (l.map Prod.fst) 1)) (hl : l.length ≤ 100) (hq : ∀ p ∈ l, (∃ a b c, p.1 = .func a b c) ∧ Ask0 h p.1 p.2) :
    FWp Tryz.prog 26 [.slice (some ⟨y, 0, none⟩) l.length c] h fun u h' => u = .bool (l.any Prod.snd) ∧ h' = h := by
  obtain ⟨m, m1, m2, m3, m4⟩ := first_q l
  have hidx := idx0_c h l y c hy hg hl hq m m1 m2 m3
  obtain ⟨b, hb⟩ : ∃ b, b = l.any Prod.snd := ⟨_, rfl⟩
  rw [← hb] at m4 ⊢
  obtain ⟨r, hr⟩ : ∃ r : Int, r = if m < l.length then (m : Int) else -1 := ⟨_, rfl⟩
  rw [← hr] at hidx
  have hc : FWp Tryz.prog 51 [.slice (some ⟨y, 0, none⟩) l.length c, .func (.func 52) #[] #[]] h fun u h' => u = .bool b ∧ h' = h := by
    refine W.enter tyOK Tryz.func51 rfl rfl ?_
    simp only [entry]
    refine W.seq <| W.reg <| OSuf.aopF tyOK rfl za (fun _ => rfl) rfl <| OSuf.nil <| SQ.normal ?_
    refine W.seq <| W.reg <| OSuf.aop tyOK rfl sm rfl <| OSuf.aop tyOK rfl sm rfl <| OSuf.callD rfl (by simp only [aopnds, lk] <;> rfl) en71 (hidx) rfl <| OSuf.aop tyOK rfl (zb (hv := bi_geq)) rfl <| OSuf.aop tyOK rfl za rfl <| OSuf.nil <| SQ.normal ?_
    refine CWp.ret <| FQ.ret (by simp only [aRet, Tryz.f51, aResults, aResult, lk, Nat.reduceEqDiff, reduceIte] <;> rfl) ?_
    -- leaf: end
    refine ⟨?_, rfl⟩
    rw [m4, hr]
    by_cases hm : m < l.length
    · simp [hm]
    · simp [hm]
  refine W.enter tyOK Tryz.func26 rfl rfl ?_
  simp only [entry]
  refine W.seq <| W.reg <| OSuf.aopF tyOK rfl za (fun _ => rfl) rfl <| OSuf.nil <| SQ.normal ?_
  refine W.seq <| W.reg <| OSuf.aop tyOK rfl sm rfl <| OSuf.callD rfl (by simp only [aopnds, lk] <;> rfl) en51 (hc) rfl <| OSuf.aop tyOK rfl za rfl <| OSuf.nil <| SQ.normal ?_
  refine CWp.ret <| FQ.ret (by simp only [aRet, Tryz.f26, aResults, aResult, lk, Nat.reduceEqDiff, reduceIte] <;> rfl) ?_
  -- leaf: end
  exact ⟨rfl, rfl⟩
theorem w1_c (g : AHeap) (p q : Nat) (ts rts : Int) (k : List UInt8) (here : Bool) (v : Value) (hp : g.get p = some (.cells [U64 ts] 1)) (hq : g.get q = some (.cells [encS k, U64 rts, .bool here, v] 1)) :
    FWp Tryz.prog 21 [P0 p, P0 q] g fun u g' => u = .bool (decide (ts < rts)) ∧ g' = g := by
  refine W.enter tyOK Tryz.func21 rfl rfl ?_
  simp only [entry]
  refine W.seq <| W.reg <| OSuf.aopF tyOK rfl za (fun _ => rfl) rfl <| OSuf.nil <| SQ.normal ?_
  refine W.seq <| W.reg <| OSuf.aop tyOK rfl (zl (hv := by simp (disch := first | assumption | omega | (simp only [nx] <;> omega) | fail) only [aLoad, ty27, rowOf, hpl, hp, hq, Value.cells] <;> rfl)) rfl <| OSuf.aop tyOK rfl (zf (hv := fa_ok (k := 1) ty36 rfl rfl ty27 rfl rfl)) rfl <| OSuf.aop tyOK rfl (zl (hv := by simp (disch := first | assumption | omega | (simp only [nx] <;> omega) | fail) only [aLoad, ty27, rowOf, hpl, hp, hq, Value.cells] <;> rfl)) rfl <| OSuf.aop tyOK rfl (zb (hv := bi_lss)) rfl <| OSuf.aop tyOK rfl za rfl <| OSuf.nil <| SQ.normal ?_
  refine CWp.ret <| FQ.ret (by simp only [aRet, Tryz.f21, aResults, aResult, lk, Nat.reduceEqDiff, reduceIte] <;> rfl) ?_
  -- leaf: end
  exact ⟨rfl, rfl⟩
def MaxAt (h : AHeap) (sp : Nat) (k : List UInt8) (m : Int) : Prop := ∀ g : AHeap, h.next ≤ g.next → (∀ z, z < h.next → g.get z = h.get z) → FWp Tryz.prog 23 [P0 sp, encS k] g fun u g' => u = U64 m ∧ g' = g
theorem MaxAt.mono {h h' : AHeap} {sp : Nat} {k : List UInt8} {m : Int} (a : MaxAt h sp k m) (hn : h.next ≤ h'.next) (hk : ∀ z, z < h.next → h'.get z = h.get z) : MaxAt h' sp k m := fun g g1 g2 => a g (Nat.le_trans hn g1) fun z hz => by rw [g2 z (by omega), hk z hz]
theorem w2_c (g : AHeap) (p a b sp : Nat) (ts m : Int) (k : List UInt8) (w x y : Value) (hp : g.get p = some (.cells [U64 ts] 1)) (hq : g.get a = some (.cells [P0 sp] 1)) (hr : g.get b = some (.cells [encS k, w, x, y] 1)) (hm : MaxAt g sp k m) :
    FWp Tryz.prog 22 [P0 p, P0 a, P0 b] g fun u g' => u = .bool (decide (ts < m)) ∧ g' = g := by
  have hmx := hm g (Nat.le_refl _) fun _ _ => rfl
  refine W.enter tyOK Tryz.func22 rfl rfl ?_
  simp only [entry]
  refine W.seq <| W.reg <| OSuf.aopF tyOK rfl za (fun _ => rfl) rfl <| OSuf.nil <| SQ.normal ?_
  refine W.seq <| CWp.sqd tyOK mixed (ms := [0, 0, 0, 4, 14, 31, 63]) (by kernel_rfl) (
      .read rfl rfl (zl (hv := by simp (disch := first | assumption | omega | (simp only [nx] <;> omega) | fail) only [aLoad, ty27, rowOf, hpl, hp, hq, hr, Value.cells] <;> rfl)) (by first | rfl | (simp [veq, veq1, veqs]; done) | (simp [veq, veq1, veqs, splice]; done)) trivial rfl <| .read rfl rfl (zl (hv := by simp (disch := first | assumption | omega | (simp only [nx] <;> omega) | fail) only [aLoad, ty23, rowOf, hpl, hp, hq, hr, Value.cells] <;> rfl)) (by first | rfl | (simp [veq, veq1, veqs]; done) | (simp [veq, veq1, veqs, splice]; done)) trivial rfl <| .free rfl rfl (zf (hv := fa_ok (k := 0) ty33 rfl rfl ty9 rfl rfl)) rfl <| .read rfl rfl (zl (hv := by simp (disch := first | assumption | omega | (simp only [nx] <;> omega) | fail) only [aLoad, ty9, rowOf, hpl, hp, hq, hr, Value.cells] <;> rfl)) (by first | rfl | (simp [veq, veq1, veqs]; done) | (simp [veq, veq1, veqs, splice]; done)) trivial rfl <| .call rfl rfl (fcallO (by simp only [aopnds, lk] <;> rfl) en23 (hmx)) rfl ⟨.inl rfl, .inl rfl, .inr (zl (hv := by simp (disch := first | assumption | omega | (simp only [nx] <;> omega) | fail) only [aLoad, ty27, rowOf, hpl, hp, hq, hr, Value.cells] <;> rfl)), trivial⟩ rfl <| .free rfl rfl (zb (hv := bi_lss)) rfl <| .free rfl rfl za rfl <| .nil) <| SQ.normal ?_
  refine CWp.ret <| FQ.ret (by simp only [aRet, Tryz.f22, aResults, aResult, lk, Nat.reduceEqDiff, reduceIte] <;> rfl) ?_
  -- leaf: end
  exact ⟨rfl, rfl⟩
def newB (ts : Int) (V : List Vr) : Bool := match lastV (fun _ => true) V with
  | some v => decide (ts < v.ts)
  | none => false
theorem w3_c (g : AHeap) (p q : Nat) (ts rts : Int) (k : List UInt8) (here : Bool) (V : List Vr) (v : Value) (hp : g.get p = some (.cells [U64 ts] 1)) (hq : g.get q = some (.cells [encS k, U64 rts, .bool here, v] 1)) (hs : AVs g V v) (hl : V.length ≤ 1000000) (hr : Ris V) (hpn : p < g.next) (hqn : q < g.next) :
    FWp Tryz.prog 24 [P0 q, P0 p] g fun u g' => u = .bool (newB ts V) ∧ g' = g := by
  have tb24 := And.intro ty27 (And.intro ty34 (And.intro ty36 (ty49)))
  have hnew := newest_g g V v hs hl hr
  rw [newB]
  cases hv : lastV (fun _ => true) V with
  | none =>
    rw [hv] at hnew
    refine FWp.gcs (.flat rfl) (W.enter tyOK Tryz.func24 rfl rfl ?_)
    simp only [entry]
    refine W.seq <| W.reg <| OSuf.aopF tyOK rfl za (fun _ => rfl) rfl <| OSuf.nil <| SQ.normal ?_
    refine W.seq <| W.reg <| OSuf.aop tyOK rfl (zf (hv := fa_ok (k := 3) ty36 rfl rfl ty34 rfl rfl)) rfl <| OSuf.aop tyOK rfl (zl (hv := by simp (disch := first | assumption | omega | (simp only [nx] <;> omega) | fail) only [aLoad, ty34, rowOf, hpl, hp, hq, Value.cells, Option.getD_none, zeroV, Option.isSome_none] <;> rfl)) rfl <| OSuf.callD rfl (by simp only [aopnds, lk] <;> rfl) en25 (hnew) rfl <| OSuf.aop tyOK rfl sm rfl <| OSuf.aop tyOK rfl (ze (hv := by simp (disch := first | assumption | omega | (simp only [nx] <;> omega) | fail) only [aExtract, hpl, hp, hq, Value.cells, Option.getD_none, zeroV, Option.isSome_none, places, tb24] <;> rfl)) rfl <| OSuf.aopF tyOK rfl (ze (hv := by simp (disch := first | assumption | omega | (simp only [nx] <;> omega) | fail) only [aExtract, hpl, hp, hq, Value.cells, Option.getD_none, zeroV, Option.isSome_none, places, tb24] <;> rfl)) (fun _ => rfl) (by first | rfl | assumption | ((simp only [bl, hp, hq, Value.cells, Option.getD_none, zeroV, Option.isSome_none, places, tb24]) <;> first | done | assumption | omega) | (simp; done) | (simp; omega)) <| OSuf.aop tyOK rfl (so_alloc (by simp only [aAlloc, ty49] <;> rfl)) rfl <| OSuf.aop tyOK rfl (zs (hv := by simp (disch := first | assumption | omega | (simp only [nx] <;> omega) | fail) only [aStore, ty49, writeRow, hpl, hp, hq, Value.cells, Option.getD_none, zeroV, Option.isSome_none] <;> rfl)) rfl <| OSuf.aopF tyOK rfl za (fun _ => rfl) rfl <| OSuf.nil <| SQ.normal ?_
    refine W.seq <| W.reg <| OSuf.aopF tyOK rfl sm (fun _ => rfl) rfl <| OSuf.aopF tyOK rfl sm (fun _ => rfl) rfl <| OSuf.pass ag rfl <| OSuf.pass ag rfl <| OSuf.pass ag rfl <| OSuf.pass ag rfl <| OSuf.aopF tyOK rfl (so_pick (by simp only [lk] <;> rfl) (by simp only [lk, cond_true, cond_false] <;> rfl)) (fun _ => rfl) rfl <| OSuf.aopF tyOK rfl za (fun _ => rfl) rfl <| OSuf.nil <| SQ.normal ?_
    refine CWp.ret <| FQ.ret (by simp only [aRet, Tryz.f24, aResults, aResult, lk, Nat.reduceEqDiff, reduceIte] <;> rfl) ?_
    -- leaf: end
    exact ⟨rfl, fun z o hz ho => by simp (disch := first | assumption | omega | (simp only [nx] <;> omega) | fail) only [hpl]; exact ho⟩
  | some w =>
    rw [hv] at hnew
    refine FWp.gcs (.flat rfl) (W.enter tyOK Tryz.func24 rfl rfl ?_)
    simp only [entry]
    refine W.seq <| W.reg <| OSuf.aopF tyOK rfl za (fun _ => rfl) rfl <| OSuf.nil <| SQ.normal ?_
    refine W.seq <| W.reg <| OSuf.aop tyOK rfl (zf (hv := fa_ok (k := 3) ty36 rfl rfl ty34 rfl rfl)) rfl <| OSuf.aop tyOK rfl (zl (hv := by simp (disch := first | assumption | omega | (simp only [nx] <;> omega) | fail) only [aLoad, ty34, rowOf, hpl, hp, hq, Value.cells, Option.getD_some, Option.isSome_some] <;> rfl)) rfl <| OSuf.callD rfl (by simp only [aopnds, lk] <;> rfl) en25 (hnew) rfl <| OSuf.aop tyOK rfl sm rfl <| OSuf.aop tyOK rfl (ze (hv := by simp (disch := first | assumption | omega | (simp only [nx] <;> omega) | fail) only [aExtract, hpl, hp, hq, Value.cells, Option.getD_some, Option.isSome_some, places, tb24] <;> rfl)) rfl <| OSuf.aopT tyOK rfl (ze (hv := by simp (disch := first | assumption | omega | (simp only [nx] <;> omega) | fail) only [aExtract, hpl, hp, hq, Value.cells, Option.getD_some, Option.isSome_some, places, tb24] <;> rfl)) (fun _ => rfl) (by first | rfl | assumption | ((simp only [bl, hp, hq, Value.cells, Option.getD_some, Option.isSome_some, places, tb24]) <;> first | done | assumption | omega) | (simp; done) | (simp; omega)) <| OSuf.aop tyOK rfl (so_alloc (by simp only [aAlloc, ty49] <;> rfl)) rfl <| OSuf.aop tyOK rfl (zs (hv := by simp (disch := first | assumption | omega | (simp only [nx] <;> omega) | fail) only [aStore, ty49, writeRow, hpl, hp, hq, Value.cells, Option.getD_some, Option.isSome_some] <;> rfl)) rfl <| OSuf.aopT tyOK rfl za (fun _ => rfl) rfl <| OSuf.nil <| SQ.normal ?_
    refine W.seq <| W.reg <| OSuf.aopT tyOK rfl sm (fun _ => rfl) rfl <| OSuf.aopT tyOK rfl sm (fun _ => rfl) rfl <| OSuf.aop tyOK ag (zl (hv := by simp (disch := first | assumption | omega | (simp only [nx] <;> omega) | fail) only [aLoad, ty27, rowOf, hpl, hp, hq, Value.cells, Option.getD_some, Option.isSome_some] <;> rfl)) rfl <| OSuf.aop tyOK ag (zf (hv := fa_ok (k := 0) ty49 rfl rfl ty27 rfl rfl)) rfl <| OSuf.aop tyOK ag (zl (hv := by simp (disch := first | assumption | omega | (simp only [nx] <;> omega) | fail) only [aLoad, ty27, rowOf, hpl, hp, hq, Value.cells, Option.getD_some, Option.isSome_some] <;> rfl)) rfl <| OSuf.aop tyOK ag (zb (hv := bi_lss)) rfl <| OSuf.aop tyOK rfl (so_pick (by simp only [lk] <;> rfl) (by simp only [lk, cond_true, cond_false] <;> rfl)) rfl <| OSuf.aop tyOK rfl za rfl <| OSuf.nil <| SQ.normal ?_
    refine CWp.ret <| FQ.ret (by simp only [aRet, Tryz.f24, aResults, aResult, lk, Nat.reduceEqDiff, reduceIte] <;> rfl) ?_
    -- leaf: end
    exact ⟨rfl, fun z o hz ho => by simp (disch := first | assumption | omega | (simp only [nx] <;> omega) | fail) only [hpl]; exact ho⟩
def conB (x : Rec) (ts m : Int) : Bool := decide (ts < x.rts) || (decide (ts < m) || newB ts x.V)
def overV (ts : Int) (V : List Vr) : Int := match lastV (fun y => decide (y.ts < ts)) V with
  | some v => if openB v then v.ts else 0
  | none => 0
def fetD : Vd := ⟨true, 0, false, ⟨#[]⟩, 0, 0, 0⟩
def errD (n : Int) : Vd := ⟨false, n, false, ⟨#[]⟩, 0, 0, 0⟩
def writeD (k : List UInt8) (ts m : Int) (del : Bool) (val : ByteArray) (A : List Rec) : Vd × List Rec := match getR k A with
  | none => (fetD, A)
  | some x => if x.here then (if conB x ts m then (errD 14, A) else (⟨false, 0, false, ⟨#[]⟩, 0, 0, overV ts (putV ⟨ts, 0, del, val, false⟩ x.V)⟩, setR ⟨k, x.rts, true, putV ⟨ts, 0, del, val, false⟩ x.V⟩ A)) else (fetD, A)
theorem write_miss (h : AHeap) (r sp : Nat) (fl : Int) (M : TM) (A : List Rec) (hB : TB h r fl M A) (hA : OkA A) (k : List UInt8) (hk : okKey k) (ts : Int) (del : Bool) (val : ByteArray) (hx : ∀ x, getR k A = some x → x.here = false) :
    ∃ H, FWp Tryz.prog 7 [P0 r, P0 sp, U64 ts, .agg #[encS k, U64 0, .bool del, .string val]] h (fun u h' => u = aggD fetD ∧ h' = H) ∧ TB H r fl M A ∧ FrT h H r M M := by
  have tb7 := And.intro ty123 (And.intro ty22 (And.intro ty23 (And.intro ty27 (And.intro ty29 (And.intro ty33 (And.intro ty34 (And.intro ty36 (And.intro ty4 (And.intro ty49 (And.intro ty50 (ty9)))))))))))
  have hlt := hB.ta.lt
  have hk9 : k.length < 9223372036854775808 := by have := hk.2; omega
  have hrows : ∀ z ∈ M.rows, z < h.next := fun z hz => (row_of hB.ta hz).1
  obtain ⟨h0, hh0⟩ : ∃ h0, h0 = (((h.new (.cells [P0 sp] 1)).new (.cells [U64 ts] 1)).new (.cells [encS k, U64 0, .bool del, .string val] 1)).new (.cells [.bool false, I64 0, .bool false, .string ⟨#[]⟩, U64 0, U64 0, U64 0] 1) := ⟨_, rfl⟩
  have n0 : h0.next = h.next + 4 := by rw [hh0]; rfl
  have o0 : ∀ z, z < h.next → h0.get z = h.get z := fun z hz => by rw [hh0]; simp (disch := first | assumption | omega | (simp only [nx] <;> omega) | fail) only [hpl]
  have zv : h0.get (h.next + 3) = some (.cells [.bool false, I64 0, .bool false, .string ⟨#[]⟩, U64 0, U64 0, U64 0] 1) := by rw [hh0]; simp (disch := first | assumption | omega | (simp only [nx] <;> omega) | fail) only [hpl]
  have zr : h0.get (h.next + 2) = some (.cells [encS k, U64 0, .bool del, .string val] 1) := by rw [hh0]; simp (disch := first | assumption | omega | (simp only [nx] <;> omega) | fail) only [hpl]
  have hB0 := hB.mono (h' := h0) (by omega) o0
  have e7 : ∀ a b c d e f g : Value, cellsOf [a, b, c, d, e, f, g] 0 7 = some [a, b, c, d, e, f, g] := fun _ _ _ _ _ _ _ => rfl
  have fin : ∀ (H : AHeap), h.next ≤ H.next → (∀ z, z < h.next → H.get z = h.get z) → TB H r fl M A ∧ FrT h H r M M := fun H g1 g2 => ⟨hB.mono g1 g2, FrT.garb g1 g2⟩
  cases hg : getR k A with
  | none =>
    obtain ⟨H2, r1, r5⟩ : ∃ H2, FWp Tryz.prog 8 [P0 r, encS k] h0 (fun u h' => u = .tuple #[.agg #[encS [], U64 0, .bool false, .slice none 0 0], .bool false] ∧ h' = H2) ∧ H2 = h0 := ⟨h0, row_none h0 r fl M A hB0 k hk9 hg, rfl⟩
    have r3 : h0.next ≤ H2.next := by rw [r5]; exact Nat.le_refl _
    have r4 : ∀ z, z < h0.next → H2.get z = h0.get z := fun z _ => by rw [r5]
    have zv2 : H2.get (h.next + 3) = some (.cells [.bool false, I64 0, .bool false, .string ⟨#[]⟩, U64 0, U64 0, U64 0] 1) := by rw [r4 _ (by omega)]; exact zv
    clear r5
    refine ⟨((H2.new (.cells [encS [], U64 0, .bool false, .slice none 0 0] 1)).set H2.next (.cells [encS [], U64 0, .bool false, .slice none 0 0] 1)).set (h.next + 3) (.cells [.bool true, I64 0, .bool false, .string ⟨#[]⟩, U64 0, U64 0, U64 0] 1), ?_, fin _ (by simp only [nx]; omega) (fun z hz => ?_)⟩
    · subst hh0
      refine W.enter tyOK Tryz.func7 rfl rfl ?_
      simp only [entry]
      refine W.seq <| W.reg <| OSuf.aop tyOK rfl (so_box (by simp only [lk] <;> rfl)) rfl <| OSuf.aop tyOK rfl (so_box (by simp only [lk] <;> rfl)) rfl <| OSuf.aop tyOK rfl (so_box (by simp only [lk] <;> rfl)) rfl <| OSuf.aop tyOK rfl (so_alloc (by simp only [aAlloc, ty29] <;> rfl)) rfl <| OSuf.nil <| SQ.normal ?_
      refine W.seq <| W.seq <| W.reg <| OSuf.aop tyOK rfl sm rfl <| OSuf.aopF tyOK rfl (zb (hv := bi_nil ⟨_, _, ty22, rfl⟩)) (fun _ => rfl) rfl <| OSuf.aopF tyOK rfl sm (fun _ => rfl) rfl <| OSuf.aop tyOK ag (zl (hv := by simp (disch := first | assumption | omega | (simp only [nx] <;> omega) | fail) only [aLoad, ty23, rowOf, hpl, Value.cells, zr, zv2, e7, Option.map_some, cond_true] <;> rfl)) rfl <| OSuf.aopF tyOK ag (zb (hv := bi_nil ⟨_, _, ty23, rfl⟩)) (fun _ => rfl) rfl <| OSuf.aopF tyOK rfl (so_pick (by simp only [lk] <;> rfl) (by simp only [lk, cond_true, cond_false] <;> rfl)) (fun _ => rfl) rfl <| OSuf.nil <| SQ.normal ?_
      refine W.no (by simp only [lk] <;> rfl) <| CWp.skip <| SQ.normal ?_
      refine W.seq <| W.reg <| OSuf.aop tyOK rfl sm rfl <| OSuf.aop tyOK rfl (zf (hv := fa_ok (k := 0) ty33 rfl rfl ty9 rfl rfl)) rfl <| OSuf.aop tyOK rfl (zl (hv := by simp (disch := first | assumption | omega | (simp only [nx] <;> omega) | fail) only [aLoad, ty9, rowOf, hpl, Value.cells, zr, zv2, e7, Option.map_some, cond_true] <;> rfl)) rfl <| OSuf.callD rfl (by simp only [aopnds, lk] <;> rfl) en8 (r1) rfl <| OSuf.aop tyOK rfl sm rfl <| OSuf.aop tyOK rfl (ze (hv := by simp (disch := first | assumption | omega | (simp only [nx] <;> omega) | fail) only [aExtract, hpl, Value.cells, places, tb7, zr, zv2, e7, cond_true] <;> rfl)) rfl <| OSuf.aopF tyOK rfl (ze (hv := by simp (disch := first | assumption | omega | (simp only [nx] <;> omega) | fail) only [aExtract, hpl, Value.cells, places, tb7, zr, zv2, e7, cond_true] <;> rfl)) (fun _ => rfl) (by first | rfl | assumption | ((simp only [bl, Value.cells, places, tb7, zr, zv2, e7, Option.map_some, cond_true]) <;> first | done | assumption | omega) | (simp; done) | (simp; omega)) <| OSuf.aop tyOK rfl (so_alloc (by simp only [aAlloc, ty36] <;> rfl)) rfl <| OSuf.aop tyOK rfl (zs (hv := by simp (disch := first | assumption | omega | (simp only [nx] <;> omega) | fail) only [aStore, ty36, writeRow, hpl, Value.cells, zr, zv2, e7, Option.map_some, cond_true] <;> rfl)) rfl <| OSuf.aopF tyOK rfl za (fun _ => rfl) rfl <| OSuf.nil <| SQ.normal ?_
      refine W.seq <| W.seq <| W.reg <| OSuf.aopF tyOK rfl sm (fun _ => rfl) rfl <| OSuf.aopT tyOK rfl (so_not (by simp only [lk] <;> rfl)) (fun _ => rfl) rfl <| OSuf.aopT tyOK rfl sm (fun _ => rfl) rfl <| OSuf.pass ag rfl <| OSuf.pass ag rfl <| OSuf.pass ag rfl <| OSuf.aopT tyOK rfl (so_pick (by simp only [lk] <;> rfl) (by simp only [lk, cond_true, cond_false] <;> rfl)) (fun _ => rfl) rfl <| OSuf.nil <| SQ.normal ?_
      refine W.yes (by simp only [lk] <;> rfl) <| W.seq <| W.reg <| OSuf.aop tyOK rfl (so_build (by simp only [aparts, lk] <;> rfl) (by simp only [aBuild, ty29, Value.cells, places, tb7, zr, zv2, e7, cond_true] <;> rfl)) rfl <| OSuf.aop tyOK rfl (zs (hv := by simp (disch := first | assumption | omega | (simp only [nx] <;> omega) | fail) only [aStore, ty29, writeRow, hpl, Value.cells, zr, zv2, e7, Option.map_some, cond_true] <;> rfl)) rfl <| OSuf.nil <| SQ.normal ?_
      refine CWp.ret <| SQ.ret <| FQ.ret (by simp (disch := first | assumption | omega | (simp only [nx] <;> omega) | fail) only [aRet, Tryz.f7, aResults, aResult, lk, Nat.reduceEqDiff, reduceIte, aLoad, rowOf, hpl, Value.cells, places, tb7, zr, zv2, e7, Option.map_some, cond_true] <;> rfl) ?_
      -- leaf: end
      exact ⟨rfl, rfl⟩
    · simp (disch := first | assumption | omega | (simp only [nx] <;> omega) | fail) only [hpl]
      rw [r4 _ (by omega)]; exact o0 z hz
  | some x =>
    have hh := hx x hg
    obtain ⟨rv, H2, r1, r2, r3, r4⟩ := row_some h0 r fl M _ hB0 k hk9 x hg (by have := (hA.v x (getR_key hg).1).1; omega)
    obtain ⟨ra, rc, rfl⟩ := avo_form r2
    have zv2 : H2.get (h.next + 3) = some (.cells [.bool false, I64 0, .bool false, .string ⟨#[]⟩, U64 0, U64 0, U64 0] 1) := by rw [r4 _ (by omega)]; exact zv
    have e4 : cellsOf [encS x.key, U64 x.rts, .bool false, .slice ra x.V.length rc] 0 4 = some [encS x.key, U64 x.rts, .bool false, .slice ra x.V.length rc] := rfl
    refine ⟨((H2.new (.cells [encS [], U64 0, .bool false, .slice none 0 0] 1)).set H2.next (.cells [encS x.key, U64 x.rts, .bool false, .slice ra x.V.length rc] 1)).set (h.next + 3) (.cells [.bool true, I64 0, .bool false, .string ⟨#[]⟩, U64 0, U64 0, U64 0] 1), ?_, fin _ (by simp only [nx]; omega) (fun z hz => ?_)⟩
    · subst hh0
      refine W.enter tyOK Tryz.func7 rfl rfl ?_
      simp only [entry]
      refine W.seq <| W.reg <| OSuf.aop tyOK rfl (so_box (by simp only [lk] <;> rfl)) rfl <| OSuf.aop tyOK rfl (so_box (by simp only [lk] <;> rfl)) rfl <| OSuf.aop tyOK rfl (so_box (by simp only [lk] <;> rfl)) rfl <| OSuf.aop tyOK rfl (so_alloc (by simp only [aAlloc, ty29] <;> rfl)) rfl <| OSuf.nil <| SQ.normal ?_
      refine W.seq <| W.seq <| W.reg <| OSuf.aop tyOK rfl sm rfl <| OSuf.aopF tyOK rfl (zb (hv := bi_nil ⟨_, _, ty22, rfl⟩)) (fun _ => rfl) rfl <| OSuf.aopF tyOK rfl sm (fun _ => rfl) rfl <| OSuf.aop tyOK ag (zl (hv := by simp (disch := first | assumption | omega | (simp only [nx] <;> omega) | fail) only [aLoad, ty23, rowOf, hpl, Value.cells, rowV, zr, zv2, e7, Option.map_some, cond_true, hh] <;> rfl)) rfl <| OSuf.aopF tyOK ag (zb (hv := bi_nil ⟨_, _, ty23, rfl⟩)) (fun _ => rfl) rfl <| OSuf.aopF tyOK rfl (so_pick (by simp only [lk] <;> rfl) (by simp only [lk, cond_true, cond_false] <;> rfl)) (fun _ => rfl) rfl <| OSuf.nil <| SQ.normal ?_
      refine W.no (by simp only [lk] <;> rfl) <| CWp.skip <| SQ.normal ?_
      refine W.seq <| W.reg <| OSuf.aop tyOK rfl sm rfl <| OSuf.aop tyOK rfl (zf (hv := fa_ok (k := 0) ty33 rfl rfl ty9 rfl rfl)) rfl <| OSuf.aop tyOK rfl (zl (hv := by simp (disch := first | assumption | omega | (simp only [nx] <;> omega) | fail) only [aLoad, ty9, rowOf, hpl, Value.cells, rowV, zr, zv2, e7, Option.map_some, cond_true, hh] <;> rfl)) rfl <| OSuf.callD rfl (by simp only [aopnds, lk] <;> rfl) en8 (r1) rfl <| OSuf.aop tyOK rfl sm rfl <| OSuf.aop tyOK rfl (ze (hv := by simp (disch := first | assumption | omega | (simp only [nx] <;> omega) | fail) only [aExtract, hpl, Value.cells, places, tb7, rowV, zr, zv2, e7, cond_true, hh] <;> rfl)) rfl <| OSuf.aopT tyOK rfl (ze (hv := by simp (disch := first | assumption | omega | (simp only [nx] <;> omega) | fail) only [aExtract, hpl, Value.cells, places, tb7, rowV, zr, zv2, e7, cond_true, hh] <;> rfl)) (fun _ => rfl) (by first | rfl | assumption | ((simp only [bl, Value.cells, places, tb7, rowV, zr, zv2, e7, Option.map_some, cond_true, hh]) <;> first | done | assumption | omega) | (simp; done) | (simp; omega)) <| OSuf.aop tyOK rfl (so_alloc (by simp only [aAlloc, ty36] <;> rfl)) rfl <| OSuf.aop tyOK rfl (zs (hv := by simp (disch := first | assumption | omega | (simp only [nx] <;> omega) | fail) only [aStore, ty36, writeRow, hpl, Value.cells, rowV, zr, zv2, e7, Option.map_some, cond_true, hh] <;> rfl)) rfl <| OSuf.aopT tyOK rfl za (fun _ => rfl) rfl <| OSuf.nil <| SQ.normal ?_
      refine W.seq <| W.seq <| W.reg <| OSuf.aopT tyOK rfl sm (fun _ => rfl) rfl <| OSuf.aopF tyOK rfl (so_not (by simp only [lk] <;> rfl)) (fun _ => rfl) rfl <| OSuf.aopF tyOK rfl sm (fun _ => rfl) rfl <| OSuf.aop tyOK ag (zf (hv := fa_ok (k := 2) ty36 rfl rfl ty4 rfl rfl)) rfl <| OSuf.aopF tyOK ag (zl (hv := by simp (disch := first | assumption | omega | (simp only [nx] <;> omega) | fail) only [aLoad, ty4, rowOf, hpl, Value.cells, rowV, zr, zv2, e7, Option.map_some, cond_true, hh] <;> rfl)) (fun _ => rfl) (hh) <| OSuf.aopT tyOK ag (so_not (by simp only [lk] <;> rfl)) (fun _ => rfl) rfl <| OSuf.aopT tyOK rfl (so_pick (by simp only [lk] <;> rfl) (by simp only [lk, cond_true, cond_false] <;> rfl)) (fun _ => rfl) rfl <| OSuf.nil <| SQ.normal ?_
      refine W.yes (by simp only [lk] <;> rfl) <| W.seq <| W.reg <| OSuf.aop tyOK rfl (so_build (by simp only [aparts, lk] <;> rfl) (by simp only [aBuild, ty29, Value.cells, places, tb7, rowV, zr, zv2, e7, cond_true, hh] <;> rfl)) rfl <| OSuf.aop tyOK rfl (zs (hv := by simp (disch := first | assumption | omega | (simp only [nx] <;> omega) | fail) only [aStore, ty29, writeRow, hpl, Value.cells, rowV, zr, zv2, e7, Option.map_some, cond_true, hh] <;> rfl)) rfl <| OSuf.nil <| SQ.normal ?_
      refine CWp.ret <| SQ.ret <| FQ.ret (by simp (disch := first | assumption | omega | (simp only [nx] <;> omega) | fail) only [aRet, Tryz.f7, aResults, aResult, lk, Nat.reduceEqDiff, reduceIte, aLoad, rowOf, hpl, Value.cells, places, tb7, rowV, zr, zv2, e7, Option.map_some, cond_true, hh] <;> rfl) ?_
      -- leaf: end
      exact ⟨rfl, rfl⟩
    · simp (disch := first | assumption | omega | (simp only [nx] <;> omega) | fail) only [hpl]
      rw [r4 _ (by omega)]; exact o0 z hz
theorem new_le {ts : Int} {V : List Vr} (hr : Ris V) (hn : newB ts V = false) : ∀ x ∈ V, x.ts ≤ ts := by
  intro x hx
  rw [newB, lastV_all] at hn
  rcases List.eq_nil_or_concat V with rfl | ⟨K, y, rfl⟩
  · cases hx
  · simp at hn hx
    rcases hx with hx | rfl
    · obtain ⟨i, hi, rfl⟩ := List.getElem_of_mem hx
      have h1 : (K.concat y)[i]? = some K[i] := by simp [List.getElem?_append, hi]
      have h2 : (K.concat y)[i + (K.length - i - 1) + 1]? = some y := by
        have : i + (K.length - i - 1) + 1 = K.length := by omega
        rw [this]; simp
      have := ris_lt hr _ _ _ _ h1 h2
      omega
    · exact hn
theorem put_ris {w : Vr} {V : List Vr} (hr : Ris V) (hn : ∀ x ∈ V, x.ts ≤ w.ts) : Ris (putV w V) := by
  have hF : ∀ K : List Vr, Ris K → (∀ x ∈ K, x.ts < w.ts) → Ris (K ++ [w]) := by
    intro K h1 h2 i x y hx hy
    have hl := (List.getElem?_eq_some_iff.1 hy).1
    simp at hl
    by_cases h3 : i + 1 < K.length
    · rw [List.getElem?_append_left h3] at hy
      rw [List.getElem?_append_left (by omega)] at hx
      exact h1 i x y hx hy
    · have e : i + 1 = K.length := by omega
      rw [e] at hy
      rw [List.getElem?_append_left (by omega)] at hx
      simp at hy
      rw [← hy]; exact h2 x (List.mem_of_getElem? hx)
  rcases put_cases hr hn with h1 | ⟨K, x, rfl, h1, h2⟩
  · rw [putV, List.filter_eq_self.2 fun y hy => by simp [h1 y hy]]
    exact hF V hr fun x hx => by have := h1 x hx; have := hn x hx; simp at *; omega
  · rw [putV, List.filter_append, List.filter_eq_self.2 fun y hy => by simp [h1 y hy]]
    have h3 : ([x].filter fun y => !(y.ts == w.ts)) = [] := by simp [h2]
    rw [h3, List.append_nil]
    refine hF K (fun i a b ha hb => hr i a b (by rw [List.getElem?_append_left (List.getElem?_eq_some_iff.1 ha).1]; exact ha) (by rw [List.getElem?_append_left (List.getElem?_eq_some_iff.1 hb).1]; exact hb)) fun y hy => ?_
    have := h1 y hy; have := hn y (by simp [hy]); simp at *; omega
theorem write_con (h : AHeap) (r sp : Nat) (fl : Int) (M : TM) (A : List Rec) (hB : TB h r fl M A) (hA : OkA A) (k : List UInt8) (hk : okKey k) (ts m : Int) (del : Bool) (val : ByteArray) (hm : MaxAt h sp k m) (x : Rec) (hg : getR k A = some x) (hh : x.here = true) (hc : conB x ts m = true) :
    ∃ H, FWp Tryz.prog 7 [P0 r, P0 sp, U64 ts, .agg #[encS k, U64 0, .bool del, .string val]] h (fun u h' => u = aggD (errD 14) ∧ h' = H) ∧ TB H r fl M A ∧ FrT h H r M M := by
  have tb7 := And.intro ty123 (And.intro ty22 (And.intro ty23 (And.intro ty27 (And.intro ty29 (And.intro ty33 (And.intro ty34 (And.intro ty36 (And.intro ty4 (And.intro ty49 (And.intro ty50 (ty9)))))))))))
  have hlt := hB.ta.lt
  have hk9 : k.length < 9223372036854775808 := by have := hk.2; omega
  have hrows : ∀ z ∈ M.rows, z < h.next := fun z hz => (row_of hB.ta hz).1
  obtain ⟨h0, hh0⟩ : ∃ h0, h0 = (((h.new (.cells [P0 sp] 1)).new (.cells [U64 ts] 1)).new (.cells [encS k, U64 0, .bool del, .string val] 1)).new (.cells [.bool false, I64 0, .bool false, .string ⟨#[]⟩, U64 0, U64 0, U64 0] 1) := ⟨_, rfl⟩
  have n0 : h0.next = h.next + 4 := by rw [hh0]; rfl
  have o0 : ∀ z, z < h.next → h0.get z = h.get z := fun z hz => by rw [hh0]; simp (disch := first | assumption | omega | (simp only [nx] <;> omega) | fail) only [hpl]
  have zv : h0.get (h.next + 3) = some (.cells [.bool false, I64 0, .bool false, .string ⟨#[]⟩, U64 0, U64 0, U64 0] 1) := by rw [hh0]; simp (disch := first | assumption | omega | (simp only [nx] <;> omega) | fail) only [hpl]
  have zr : h0.get (h.next + 2) = some (.cells [encS k, U64 0, .bool del, .string val] 1) := by rw [hh0]; simp (disch := first | assumption | omega | (simp only [nx] <;> omega) | fail) only [hpl]
  have zt : h0.get (h.next + 1) = some (.cells [U64 ts] 1) := by rw [hh0]; simp (disch := first | assumption | omega | (simp only [nx] <;> omega) | fail) only [hpl]
  have zsq : h0.get h.next = some (.cells [P0 sp] 1) := by rw [hh0]; simp (disch := first | assumption | omega | (simp only [nx] <;> omega) | fail) only [hpl]
  have hB0 := hB.mono (h' := h0) (by omega) o0
  have e7 : ∀ a b c d e f g : Value, cellsOf [a, b, c, d, e, f, g] 0 7 = some [a, b, c, d, e, f, g] := fun _ _ _ _ _ _ _ => rfl
  have hxV := hA.v x (getR_key hg).1
  have hxk := (getR_key hg).2
  obtain ⟨rv, H2, r1, r2, r3, r4⟩ := row_some h0 r fl M _ hB0 k hk9 x hg (by omega)
  obtain ⟨ra, rc, rfl⟩ := avo_form r2
  have zv2 : H2.get (h.next + 3) = some (.cells [.bool false, I64 0, .bool false, .string ⟨#[]⟩, U64 0, U64 0, U64 0] 1) := by rw [r4 _ (by omega)]; exact zv
  have e4 : cellsOf [encS x.key, U64 x.rts, .bool true, .slice ra x.V.length rc] 0 4 = some [encS x.key, U64 x.rts, .bool true, .slice ra x.V.length rc] := rfl
  obtain ⟨H4, hH4⟩ : ∃ H4, H4 = ((H2.new (.cells [encS [], U64 0, .bool false, .slice none 0 0] 1)).set H2.next (.cells [encS x.key, U64 x.rts, .bool true, .slice ra x.V.length rc] 1)).new (.cells [.func (.func 21) #[] #[P0 (h.next + 1), P0 H2.next], .func (.func 22) #[] #[P0 (h.next + 1), P0 h.next, P0 (h.next + 2)], .func (.func 24) #[] #[P0 H2.next, P0 (h.next + 1)]] 1) := ⟨_, rfl⟩
  have n4 : H4.next = H2.next + 2 := by rw [hH4]; rfl
  have o4 : ∀ z, z < H2.next → H4.get z = H2.get z := fun z hz => by rw [hH4]; simp (disch := first | assumption | omega | (simp only [nx] <;> omega) | fail) only [hpl]
  have zr4 : H4.get (h.next + 2) = some (.cells [encS k, U64 0, .bool del, .string val] 1) := by rw [o4 _ (by omega), r4 _ (by omega)]; exact zr
  have zt4 : H4.get (h.next + 1) = some (.cells [U64 ts] 1) := by rw [o4 _ (by omega), r4 _ (by omega)]; exact zt
  have zs4 : H4.get h.next = some (.cells [P0 sp] 1) := by rw [o4 _ (by omega), r4 _ (by omega)]; exact zsq
  have zx4 : H4.get H2.next = some (.cells [encS x.key, U64 x.rts, .bool true, .slice ra x.V.length rc] 1) := by rw [hH4]; simp (disch := first | assumption | omega | (simp only [nx] <;> omega) | fail) only [hpl]
  have zv4 : H4.get (h.next + 3) = some (.cells [.bool false, I64 0, .bool false, .string ⟨#[]⟩, U64 0, U64 0, U64 0] 1) := by rw [o4 _ (by omega)]; exact zv2
  have zq4 : H4.get (H2.next + 1) = some (.cells [.func (.func 21) #[] #[P0 (h.next + 1), P0 H2.next], .func (.func 22) #[] #[P0 (h.next + 1), P0 h.next, P0 (h.next + 2)], .func (.func 24) #[] #[P0 H2.next, P0 (h.next + 1)]] 1) := by rw [hH4]; exact AHeap.get_new_same _ _
  have av4 : AVs H4 x.V (.slice ra x.V.length rc) := avo_avs (avo_mono r2 (by omega) fun y w hy _ => o4 y hy)
  have hm4 : MaxAt H4 sp k m := hm.mono (by omega) fun z hz => by rw [o4 _ (by omega), r4 _ (by omega), o0 _ hz]
  have hany := anyof_c H4 [(.func (.func 21) #[] #[P0 (h.next + 1), P0 H2.next], decide (ts < x.rts)), (.func (.func 22) #[] #[P0 (h.next + 1), P0 h.next, P0 (h.next + 2)], decide (ts < m)), (.func (.func 24) #[] #[P0 H2.next, P0 (h.next + 1)], newB ts x.V)] (H2.next + 1) 4 (by omega) zq4 (by simp) (by
    intro p hp
    simp only [List.mem_cons, List.not_mem_nil, or_false] at hp
    rcases hp with rfl | rfl | rfl
    · exact ⟨⟨_, _, _, rfl⟩, fun g g1 g2 => VWp.func en21 (w1_c g _ _ ts x.rts x.key true _ (by rw [g2 _ (by omega)]; exact zt4) (by rw [g2 _ (by omega)]; exact zx4))⟩
    · exact ⟨⟨_, _, _, rfl⟩, fun g g1 g2 => VWp.func en22 (w2_c g _ _ _ sp ts m k _ _ _ (by rw [g2 _ (by omega)]; exact zt4) (by rw [g2 _ (by omega)]; exact zs4) (by rw [g2 _ (by omega)]; exact zr4) (hm4.mono g1 g2))⟩
    · exact ⟨⟨_, _, _, rfl⟩, fun g g1 g2 => VWp.func en24 (w3_c g _ _ ts x.rts x.key true x.V _ (by rw [g2 _ (by omega)]; exact zt4) (by rw [g2 _ (by omega)]; exact zx4) (avs_mono av4 g1 g2) (by omega) hxV.2 (by omega) (by omega))⟩)
  have ec : List.any [(Value.func (.func 21) #[] #[P0 (h.next + 1), P0 H2.next], decide (ts < x.rts)), (.func (.func 22) #[] #[P0 (h.next + 1), P0 h.next, P0 (h.next + 2)], decide (ts < m)), (.func (.func 24) #[] #[P0 H2.next, P0 (h.next + 1)], newB ts x.V)] Prod.snd = conB x ts m := by simp [conB]
  rw [ec, hc] at hany
  refine ⟨H4.set (h.next + 3) (.cells [.bool false, I64 14, .bool false, .string ⟨#[]⟩, U64 0, U64 0, U64 0] 1), ?_, hB.mono (by simp only [nx]; omega) (fun z hz => ?_), FrT.garb (by simp only [nx]; omega) (fun z hz => ?_)⟩
  · subst hh0 hH4
    refine W.enter tyOK Tryz.func7 rfl rfl ?_
    simp only [entry]
    refine W.seq <| W.reg <| OSuf.aop tyOK rfl (so_box (by simp only [lk] <;> rfl)) rfl <| OSuf.aop tyOK rfl (so_box (by simp only [lk] <;> rfl)) rfl <| OSuf.aop tyOK rfl (so_box (by simp only [lk] <;> rfl)) rfl <| OSuf.aop tyOK rfl (so_alloc (by simp only [aAlloc, ty29] <;> rfl)) rfl <| OSuf.nil <| SQ.normal ?_
    refine W.seq <| W.seq <| W.reg <| OSuf.aop tyOK rfl sm rfl <| OSuf.aopF tyOK rfl (zb (hv := bi_nil ⟨_, _, ty22, rfl⟩)) (fun _ => rfl) rfl <| OSuf.aopF tyOK rfl sm (fun _ => rfl) rfl <| OSuf.aop tyOK ag (zl (hv := by simp (disch := first | assumption | omega | (simp only [nx] <;> omega) | fail) only [aLoad, ty23, rowOf, hpl, Value.cells, rowV, zr, zv2, zv4, e7, Option.map_some, cond_true, hh] <;> rfl)) rfl <| OSuf.aopF tyOK ag (zb (hv := bi_nil ⟨_, _, ty23, rfl⟩)) (fun _ => rfl) rfl <| OSuf.aopF tyOK rfl (so_pick (by simp only [lk] <;> rfl) (by simp only [lk, cond_true, cond_false] <;> rfl)) (fun _ => rfl) rfl <| OSuf.nil <| SQ.normal ?_
    refine W.no (by simp only [lk] <;> rfl) <| CWp.skip <| SQ.normal ?_
    refine W.seq <| W.reg <| OSuf.aop tyOK rfl sm rfl <| OSuf.aop tyOK rfl (zf (hv := fa_ok (k := 0) ty33 rfl rfl ty9 rfl rfl)) rfl <| OSuf.aop tyOK rfl (zl (hv := by simp (disch := first | assumption | omega | (simp only [nx] <;> omega) | fail) only [aLoad, ty9, rowOf, hpl, Value.cells, rowV, zr, zv2, zv4, e7, Option.map_some, cond_true, hh] <;> rfl)) rfl <| OSuf.callD rfl (by simp only [aopnds, lk] <;> rfl) en8 (r1) rfl <| OSuf.aop tyOK rfl sm rfl <| OSuf.aop tyOK rfl (ze (hv := by simp (disch := first | assumption | omega | (simp only [nx] <;> omega) | fail) only [aExtract, hpl, Value.cells, places, tb7, rowV, zr, zv2, zv4, e7, cond_true, hh] <;> rfl)) rfl <| OSuf.aopT tyOK rfl (ze (hv := by simp (disch := first | assumption | omega | (simp only [nx] <;> omega) | fail) only [aExtract, hpl, Value.cells, places, tb7, rowV, zr, zv2, zv4, e7, cond_true, hh] <;> rfl)) (fun _ => rfl) (by first | rfl | assumption | ((simp only [bl, Value.cells, places, tb7, rowV, zr, zv2, zv4, e7, Option.map_some, cond_true, hh]) <;> first | done | assumption | omega) | (simp; done) | (simp; omega)) <| OSuf.aop tyOK rfl (so_alloc (by simp only [aAlloc, ty36] <;> rfl)) rfl <| OSuf.aop tyOK rfl (zs (hv := by simp (disch := first | assumption | omega | (simp only [nx] <;> omega) | fail) only [aStore, ty36, writeRow, hpl, Value.cells, rowV, zr, zv2, zv4, e7, Option.map_some, cond_true, hh] <;> rfl)) rfl <| OSuf.aopT tyOK rfl za (fun _ => rfl) rfl <| OSuf.nil <| SQ.normal ?_
    refine W.seq <| W.seq <| W.reg <| OSuf.aopT tyOK rfl sm (fun _ => rfl) rfl <| OSuf.aopF tyOK rfl (so_not (by simp only [lk] <;> rfl)) (fun _ => rfl) rfl <| OSuf.aopF tyOK rfl sm (fun _ => rfl) rfl <| OSuf.aop tyOK ag (zf (hv := fa_ok (k := 2) ty36 rfl rfl ty4 rfl rfl)) rfl <| OSuf.aopT tyOK ag (zl (hv := by simp (disch := first | assumption | omega | (simp only [nx] <;> omega) | fail) only [aLoad, ty4, rowOf, hpl, Value.cells, rowV, zr, zv2, zv4, e7, Option.map_some, cond_true, hh] <;> rfl)) (fun _ => rfl) (hh) <| OSuf.aopF tyOK ag (so_not (by simp only [lk] <;> rfl)) (fun _ => rfl) rfl <| OSuf.aopF tyOK rfl (so_pick (by simp only [lk] <;> rfl) (by simp only [lk, cond_true, cond_false] <;> rfl)) (fun _ => rfl) rfl <| OSuf.nil <| SQ.normal ?_
    refine W.no (by simp only [lk] <;> rfl) <| CWp.skip <| SQ.normal ?_
    refine W.seq <| W.reg <| OSuf.aop tyOK rfl (so_makeFunc rfl (by simp only [aopnds, lk] <;> rfl) (by simp only [aopnds, lk] <;> rfl)) rfl <| OSuf.aop tyOK rfl za rfl <| OSuf.nil <| SQ.normal ?_
    refine W.seq <| W.reg <| OSuf.aop tyOK rfl (so_makeFunc rfl (by simp only [aopnds, lk] <;> rfl) (by simp only [aopnds, lk] <;> rfl)) rfl <| OSuf.aop tyOK rfl za rfl <| OSuf.nil <| SQ.normal ?_
    refine W.seq <| W.reg <| OSuf.aop tyOK rfl (so_makeFunc rfl (by simp only [aopnds, lk] <;> rfl) (by simp only [aopnds, lk] <;> rfl)) rfl <| OSuf.aop tyOK rfl za rfl <| OSuf.nil <| SQ.normal ?_
    refine W.seq <| W.seq <| W.reg <| OSuf.aop tyOK rfl sm rfl <| OSuf.aop tyOK rfl sm rfl <| OSuf.aop tyOK rfl sm rfl <| OSuf.aop tyOK rfl (so_buildSlice (by simp only [aparts, lk] <;> rfl) (by simp only [aBuildSlice, ty123, ty50, Value.cells, places, tb7, rowV, zr, zv2, zv4, e7, cond_true, hh] <;> rfl)) rfl <| OSuf.callD rfl (by simp only [aopnds, lk] <;> rfl) en26 (hany) rfl <| OSuf.nil <| SQ.normal ?_
    refine W.yes (by simp only [lk] <;> rfl) <| W.seq <| W.reg <| OSuf.aop tyOK rfl (so_build (by simp only [aparts, lk] <;> rfl) (by simp only [aBuild, ty29, Value.cells, places, tb7, rowV, zr, zv2, zv4, e7, cond_true, hh] <;> rfl)) rfl <| OSuf.aop tyOK rfl (zs (hv := by simp (disch := first | assumption | omega | (simp only [nx] <;> omega) | fail) only [aStore, ty29, writeRow, hpl, Value.cells, rowV, zr, zv2, zv4, e7, Option.map_some, cond_true, hh] <;> rfl)) rfl <| OSuf.nil <| SQ.normal ?_
    refine CWp.ret <| SQ.ret <| FQ.ret (by simp (disch := first | assumption | omega | (simp only [nx] <;> omega) | fail) only [aRet, Tryz.f7, aResults, aResult, lk, Nat.reduceEqDiff, reduceIte, aLoad, rowOf, hpl, Value.cells, places, tb7, rowV, zr, zv2, zv4, e7, Option.map_some, cond_true, hh] <;> rfl) ?_
    -- leaf: end
    exact ⟨rfl, rfl⟩
  · rw [AHeap.get_set_ne (by omega), o4 _ (by omega), r4 _ (by omega), o0 _ hz]
  · rw [AHeap.get_set_ne (by omega), o4 _ (by omega), r4 _ (by omega), o0 _ hz]
theorem avs_at {h h' : AHeap} {V : List Vr} {b n c : Nat} (a : AVs h V (.slice (some ⟨b, 0, none⟩) n c)) (hn : h.next ≤ h'.next) (hk : h'.get b = h.get b) : AVs h' V (.slice (some ⟨b, 0, none⟩) n c) := by
  cases a with
  | emp => exact .emp
  | some hne hy hg hc => exact .some hne (by omega) (by simp only [rowOf] at hg ⊢; rw [hk]; exact hg) hc
theorem write_put (h : AHeap) (r sp : Nat) (fl : Int) (M : TM) (A : List Rec) (hB : TB h r fl M A) (hA : OkA A) (k : List UInt8) (hk : okKey k) (ts m : Int) (del : Bool) (val : ByteArray) (hm : MaxAt h sp k m) (x : Rec) (hg : getR k A = some x) (hh : x.here = true) (hc : conB x ts m = false) (hd : del = true → val = ⟨#[]⟩) (hsz : val.size ≤ 24) :
    ∃ H M', FWp Tryz.prog 7 [P0 r, P0 sp, U64 ts, .agg #[encS k, U64 0, .bool del, .string val]] h (fun u h' => u = aggD ⟨false, 0, false, ⟨#[]⟩, 0, 0, overV ts (putV ⟨ts, 0, del, val, false⟩ x.V)⟩ ∧ h' = H) ∧ TB H r fl M' (setR ⟨k, x.rts, true, putV ⟨ts, 0, del, val, false⟩ x.V⟩ A) ∧ FrT h H r M M' := by
  have tb7 := And.intro ty123 (And.intro ty22 (And.intro ty23 (And.intro ty27 (And.intro ty29 (And.intro ty33 (And.intro ty34 (And.intro ty36 (And.intro ty4 (And.intro ty49 (And.intro ty50 (ty9)))))))))))
  have hlt := hB.ta.lt
  have hk9 : k.length < 9223372036854775808 := by have := hk.2; omega
  have hrows : ∀ z ∈ M.rows, z < h.next := fun z hz => (row_of hB.ta hz).1
  obtain ⟨h0, hh0⟩ : ∃ h0, h0 = (((h.new (.cells [P0 sp] 1)).new (.cells [U64 ts] 1)).new (.cells [encS k, U64 0, .bool del, .string val] 1)).new (.cells [.bool false, I64 0, .bool false, .string ⟨#[]⟩, U64 0, U64 0, U64 0] 1) := ⟨_, rfl⟩
  have n0 : h0.next = h.next + 4 := by rw [hh0]; rfl
  have o0 : ∀ z, z < h.next → h0.get z = h.get z := fun z hz => by rw [hh0]; simp (disch := first | assumption | omega | (simp only [nx] <;> omega) | fail) only [hpl]
  have zv : h0.get (h.next + 3) = some (.cells [.bool false, I64 0, .bool false, .string ⟨#[]⟩, U64 0, U64 0, U64 0] 1) := by rw [hh0]; simp (disch := first | assumption | omega | (simp only [nx] <;> omega) | fail) only [hpl]
  have zr : h0.get (h.next + 2) = some (.cells [encS k, U64 0, .bool del, .string val] 1) := by rw [hh0]; simp (disch := first | assumption | omega | (simp only [nx] <;> omega) | fail) only [hpl]
  have zt : h0.get (h.next + 1) = some (.cells [U64 ts] 1) := by rw [hh0]; simp (disch := first | assumption | omega | (simp only [nx] <;> omega) | fail) only [hpl]
  have zsq : h0.get h.next = some (.cells [P0 sp] 1) := by rw [hh0]; simp (disch := first | assumption | omega | (simp only [nx] <;> omega) | fail) only [hpl]
  have hB0 := hB.mono (h' := h0) (by omega) o0
  have e7 : ∀ a b c d e f g : Value, cellsOf [a, b, c, d, e, f, g] 0 7 = some [a, b, c, d, e, f, g] := fun _ _ _ _ _ _ _ => rfl
  have hxV := hA.v x (getR_key hg).1
  have hxk := (getR_key hg).2
  obtain ⟨rv, H2, r1, r2, r3, r4⟩ := row_some h0 r fl M _ hB0 k hk9 x hg (by omega)
  obtain ⟨ra, rc, rfl⟩ := avo_form r2
  have zv2 : H2.get (h.next + 3) = some (.cells [.bool false, I64 0, .bool false, .string ⟨#[]⟩, U64 0, U64 0, U64 0] 1) := by rw [r4 _ (by omega)]; exact zv
  have e4 : cellsOf [encS x.key, U64 x.rts, .bool true, .slice ra x.V.length rc] 0 4 = some [encS x.key, U64 x.rts, .bool true, .slice ra x.V.length rc] := rfl
  obtain ⟨H4, hH4⟩ : ∃ H4, H4 = ((H2.new (.cells [encS [], U64 0, .bool false, .slice none 0 0] 1)).set H2.next (.cells [encS x.key, U64 x.rts, .bool true, .slice ra x.V.length rc] 1)).new (.cells [.func (.func 21) #[] #[P0 (h.next + 1), P0 H2.next], .func (.func 22) #[] #[P0 (h.next + 1), P0 h.next, P0 (h.next + 2)], .func (.func 24) #[] #[P0 H2.next, P0 (h.next + 1)]] 1) := ⟨_, rfl⟩
  have n4 : H4.next = H2.next + 2 := by rw [hH4]; rfl
  have o4 : ∀ z, z < H2.next → H4.get z = H2.get z := fun z hz => by rw [hH4]; simp (disch := first | assumption | omega | (simp only [nx] <;> omega) | fail) only [hpl]
  have zr4 : H4.get (h.next + 2) = some (.cells [encS k, U64 0, .bool del, .string val] 1) := by rw [o4 _ (by omega), r4 _ (by omega)]; exact zr
  have zt4 : H4.get (h.next + 1) = some (.cells [U64 ts] 1) := by rw [o4 _ (by omega), r4 _ (by omega)]; exact zt
  have zs4 : H4.get h.next = some (.cells [P0 sp] 1) := by rw [o4 _ (by omega), r4 _ (by omega)]; exact zsq
  have zx4 : H4.get H2.next = some (.cells [encS x.key, U64 x.rts, .bool true, .slice ra x.V.length rc] 1) := by rw [hH4]; simp (disch := first | assumption | omega | (simp only [nx] <;> omega) | fail) only [hpl]
  have zv4 : H4.get (h.next + 3) = some (.cells [.bool false, I64 0, .bool false, .string ⟨#[]⟩, U64 0, U64 0, U64 0] 1) := by rw [o4 _ (by omega)]; exact zv2
  have zq4 : H4.get (H2.next + 1) = some (.cells [.func (.func 21) #[] #[P0 (h.next + 1), P0 H2.next], .func (.func 22) #[] #[P0 (h.next + 1), P0 h.next, P0 (h.next + 2)], .func (.func 24) #[] #[P0 H2.next, P0 (h.next + 1)]] 1) := by rw [hH4]; exact AHeap.get_new_same _ _
  have av4 : AVs H4 x.V (.slice ra x.V.length rc) := avo_avs (avo_mono r2 (by omega) fun y w hy _ => o4 y hy)
  have hm4 : MaxAt H4 sp k m := hm.mono (by omega) fun z hz => by rw [o4 _ (by omega), r4 _ (by omega), o0 _ hz]
  have hany := anyof_c H4 [(.func (.func 21) #[] #[P0 (h.next + 1), P0 H2.next], decide (ts < x.rts)), (.func (.func 22) #[] #[P0 (h.next + 1), P0 h.next, P0 (h.next + 2)], decide (ts < m)), (.func (.func 24) #[] #[P0 H2.next, P0 (h.next + 1)], newB ts x.V)] (H2.next + 1) 4 (by omega) zq4 (by simp) (by
    intro p hp
    simp only [List.mem_cons, List.not_mem_nil, or_false] at hp
    rcases hp with rfl | rfl | rfl
    · exact ⟨⟨_, _, _, rfl⟩, fun g g1 g2 => VWp.func en21 (w1_c g _ _ ts x.rts x.key true _ (by rw [g2 _ (by omega)]; exact zt4) (by rw [g2 _ (by omega)]; exact zx4))⟩
    · exact ⟨⟨_, _, _, rfl⟩, fun g g1 g2 => VWp.func en22 (w2_c g _ _ _ sp ts m k _ _ _ (by rw [g2 _ (by omega)]; exact zt4) (by rw [g2 _ (by omega)]; exact zs4) (by rw [g2 _ (by omega)]; exact zr4) (hm4.mono g1 g2))⟩
    · exact ⟨⟨_, _, _, rfl⟩, fun g g1 g2 => VWp.func en24 (w3_c g _ _ ts x.rts x.key true x.V _ (by rw [g2 _ (by omega)]; exact zt4) (by rw [g2 _ (by omega)]; exact zx4) (avs_mono av4 g1 g2) (by omega) hxV.2 (by omega) (by omega))⟩)
  have ec : List.any [(Value.func (.func 21) #[] #[P0 (h.next + 1), P0 H2.next], decide (ts < x.rts)), (.func (.func 22) #[] #[P0 (h.next + 1), P0 h.next, P0 (h.next + 2)], decide (ts < m)), (.func (.func 24) #[] #[P0 H2.next, P0 (h.next + 1)], newB ts x.V)] Prod.snd = conB x ts m := by simp [conB]
  rw [ec, hc] at hany
  have hnb : newB ts x.V = false := by
    rw [conB] at hc
    cases h9 : newB ts x.V with
    | false => rfl
    | true => rw [h9] at hc; simp at hc
  have hle := new_le hxV.2 hnb
  obtain ⟨b, n, c, H5, p1, p2, p3, p4, p5, p6⟩ := put_c H4 x.V _ ⟨ts, 0, del, val, false⟩ av4 (by omega) hxV.2 hle hd hsz
  have hris : Ris (putV ⟨ts, 0, del, val, false⟩ x.V) := put_ris hxV.2 hle
  have hpl9 : (putV ⟨ts, 0, del, val, false⟩ x.V).length ≤ 1001 := by
    rw [putV, List.length_append]
    have := List.length_filter_le (fun y : Vr => !(y.ts == ts)) x.V
    simp only [List.length_cons, List.length_nil]; omega
  obtain ⟨PV, hW⟩ : ∃ PV, PV = putV ⟨ts, 0, del, val, false⟩ x.V := ⟨_, rfl⟩
  rw [← hW] at p2 p3 hris hpl9 ⊢
  have zx5 : H5.get H2.next = some (.cells [encS x.key, U64 x.rts, .bool true, .slice ra x.V.length rc] 1) := by rw [p5 _ (by omega)]; exact zx4
  have zt5 : H5.get (h.next + 1) = some (.cells [U64 ts] 1) := by rw [p5 _ (by omega)]; exact zt4
  obtain ⟨H6, hH6⟩ : ∃ H6, H6 = H5.set H2.next (.cells [encS x.key, U64 x.rts, .bool true, .slice (some ⟨b, 0, none⟩) n c] 1) := ⟨_, rfl⟩
  have n6 : H6.next = H5.next := by rw [hH6]; rfl
  have o6 : ∀ z, ¬ z = H2.next → H6.get z = H5.get z := fun z hz => by rw [hH6, AHeap.get_set_ne (by omega)]
  have av6 : AVs H6 PV (.slice (some ⟨b, 0, none⟩) n c) := avs_at p2 (by omega) (o6 b (by omega))
  have zx6 : H6.get H2.next = some (.cells [encS x.key, U64 x.rts, .bool true, .slice (some ⟨b, 0, none⟩) n c] 1) := by rw [hH6]; exact AHeap.get_set_same _ _ _
  have k6 : ∀ z, z < h.next → H6.get z = h.get z := fun z hz => by rw [o6 _ (by omega), p5 _ (by omega), o4 _ (by omega), r4 _ (by omega), o0 _ hz]
  have hB6 : TB H6 r fl M A := hB.mono (by omega) k6
  obtain ⟨H7, M', t1, t2, t3⟩ := set_c H6 r fl M A hB6 k x.rts true PV _ av6 (by omega) hk hris hA.big
  have n7 := t3.next
  have nin : ∀ z, h.next ≤ z → z ∉ M.rows := fun z hz h9 => by have := hrows z h9; omega
  have av7 : AVs H7 PV (.slice (some ⟨b, 0, none⟩) n c) := by
    have hbl : PV ≠ [] := by rw [hW, putV]; simp
    have hb6 : b < H6.next := by
      cases av6 with
      | emp => exact absurd rfl hbl
      | some hne hy hg hc => exact hy
    exact avs_at av6 n7 (t3.old b hb6 (by omega) (nin b (by omega)))
  have zt7 : H7.get (h.next + 1) = some (.cells [U64 ts] 1) := by rw [t3.old _ (by omega) (by omega) (nin _ (by omega)), o6 _ (by omega)]; exact zt5
  have zv7 : H7.get (h.next + 3) = some (.cells [.bool false, I64 0, .bool false, .string ⟨#[]⟩, U64 0, U64 0, U64 0] 1) := by rw [t3.old _ (by omega) (by omega) (nin _ (by omega)), o6 _ (by omega), p5 _ (by omega)]; exact zv4
  obtain ⟨H8, hH8⟩ : ∃ H8, H8 = (H7.new (.cells [.bool false, I64 0, .bool false, .string ⟨#[]⟩, U64 0, U64 0, U64 0] 1)).set H7.next (.cells [.bool false, I64 0, .bool false, .string ⟨#[]⟩, U64 0, U64 0, U64 0] 1) := ⟨_, rfl⟩
  have n8 : H8.next = H7.next + 1 := by rw [hH8]; rfl
  have o8 : ∀ z, z < H7.next → H8.get z = H7.get z := fun z hz => by rw [hH8]; simp (disch := first | assumption | omega | (simp only [nx] <;> omega) | fail) only [hpl]
  have av8 : AVs H8 PV (.slice (some ⟨b, 0, none⟩) n c) := avs_mono av7 (by omega) o8
  have zn8 : H8.get H7.next = some (.cells [.bool false, I64 0, .bool false, .string ⟨#[]⟩, U64 0, U64 0, U64 0] 1) := by rw [hH8]; exact AHeap.get_set_same _ _ _
  have zt8 : H8.get (h.next + 1) = some (.cells [U64 ts] 1) := by rw [o8 _ (by omega)]; exact zt7
  have zv8 : H8.get (h.next + 3) = some (.cells [.bool false, I64 0, .bool false, .string ⟨#[]⟩, U64 0, U64 0, U64 0] 1) := by rw [o8 _ (by omega)]; exact zv7
  have hbel := below_c H8 PV _ ts av8 (by omega) hris
  have e4' : cellsOf [encS x.key, U64 x.rts, .bool true, .slice (some ⟨b, 0, none⟩) n c] 0 4 = some [encS x.key, U64 x.rts, .bool true, .slice (some ⟨b, 0, none⟩) n c] := rfl
  have fin : ∀ H : AHeap, H7.next ≤ H.next → (∀ z, z < H7.next → ¬ z = h.next + 3 → H.get z = H7.get z) → TB H r fl M' (setR ⟨k, x.rts, true, PV⟩ A) ∧ FrT h H r M M' := fun H g1 g2 => by
    have hmm : ∀ z ∈ M'.rows, z < H7.next ∧ ¬ z = h.next + 3 := fun z hz => by
      refine ⟨(row_of t2.ta hz).1, fun e => ?_⟩
      rcases t3.rows z hz with h9 | h9
      · have := hrows z h9; omega
      · omega
    refine ⟨⟨t2.ta.keep g1 (g2 r (by omega) (by omega)) (fun z hz => g2 z (hmm z hz).1 (hmm z hz).2) (fun y w hy hg => g2 y hy fun e => by (rw [e, zv7] at hg; simp at hg)), t2.perm⟩, by omega, fun z hz hzr hzm => ?_, fun z hz => ?_⟩
    · rw [g2 z (by omega) (by omega), t3.old z (by omega) hzr hzm, k6 z hz]
    · rcases t3.rows z hz with h9 | h9
      · exact .inl h9
      · exact .inr (by omega)
  have e5 : ∀ w : Vr, cellsOf [U64 w.ts, U64 w.lsn, .bool w.del, .string w.val, .bool w.acked] 0 5 = some [U64 w.ts, U64 w.lsn, .bool w.del, .string w.val, .bool w.acked] := fun _ => rfl
  subst hxk
  cases hv : lastV (fun y => decide (y.ts < ts)) PV with
  | none =>
    have ev : overV ts PV = 0 := by simp [overV, hv]
    rw [ev]
    rw [hv] at hbel
    refine ⟨((H8.new (.cells [U64 0, U64 0, .bool false, .string ⟨#[]⟩, .bool false] 1)).set H8.next (.cells [U64 0, U64 0, .bool false, .string ⟨#[]⟩, .bool false] 1)).set (h.next + 3) (.cells [.bool false, I64 0, .bool false, .string ⟨#[]⟩, U64 0, U64 0, U64 0] 1), M', ?_, fin _ (by simp only [nx]; omega) (fun z hz hzn => ?_)⟩
    · subst hh0 hH4 hH6 hH8
      refine W.enter tyOK Tryz.func7 rfl rfl ?_
      simp only [entry]
      refine W.seq <| W.reg <| OSuf.aop tyOK rfl (so_box (by simp only [lk] <;> rfl)) rfl <| OSuf.aop tyOK rfl (so_box (by simp only [lk] <;> rfl)) rfl <| OSuf.aop tyOK rfl (so_box (by simp only [lk] <;> rfl)) rfl <| OSuf.aop tyOK rfl (so_alloc (by simp only [aAlloc, ty29] <;> rfl)) rfl <| OSuf.nil <| SQ.normal ?_
      refine W.seq <| W.seq <| W.reg <| OSuf.aop tyOK rfl sm rfl <| OSuf.aopF tyOK rfl (zb (hv := bi_nil ⟨_, _, ty22, rfl⟩)) (fun _ => rfl) rfl <| OSuf.aopF tyOK rfl sm (fun _ => rfl) rfl <| OSuf.aop tyOK ag (zl (hv := by simp (disch := first | assumption | omega | (simp only [nx] <;> omega) | fail) only [aLoad, ty23, rowOf, hpl, Value.cells, rowV, zr, zr4, zt4, zt5, zt7, zt8, zx4, zx5, zx6, zv2, zv4, zv7, zv8, zn8, e4, e4', e7, Option.map_some, cond_true, hh, Option.getD_none, zeroV, Option.isSome_none] <;> rfl)) rfl <| OSuf.aopF tyOK ag (zb (hv := bi_nil ⟨_, _, ty23, rfl⟩)) (fun _ => rfl) rfl <| OSuf.aopF tyOK rfl (so_pick (by simp only [lk] <;> rfl) (by simp only [lk, cond_true, cond_false] <;> rfl)) (fun _ => rfl) rfl <| OSuf.nil <| SQ.normal ?_
      refine W.no (by simp only [lk] <;> rfl) <| CWp.skip <| SQ.normal ?_
      refine W.seq <| W.reg <| OSuf.aop tyOK rfl sm rfl <| OSuf.aop tyOK rfl (zf (hv := fa_ok (k := 0) ty33 rfl rfl ty9 rfl rfl)) rfl <| OSuf.aop tyOK rfl (zl (hv := by simp (disch := first | assumption | omega | (simp only [nx] <;> omega) | fail) only [aLoad, ty9, rowOf, hpl, Value.cells, rowV, zr, zr4, zt4, zt5, zt7, zt8, zx4, zx5, zx6, zv2, zv4, zv7, zv8, zn8, e4, e4', e7, Option.map_some, cond_true, hh, Option.getD_none, zeroV, Option.isSome_none] <;> rfl)) rfl <| OSuf.callD rfl (by simp only [aopnds, lk] <;> rfl) en8 (r1) rfl <| OSuf.aop tyOK rfl sm rfl <| OSuf.aop tyOK rfl (ze (hv := by simp (disch := first | assumption | omega | (simp only [nx] <;> omega) | fail) only [aExtract, hpl, Value.cells, places, tb7, rowV, zr, zr4, zt4, zt5, zt7, zt8, zx4, zx5, zx6, zv2, zv4, zv7, zv8, zn8, e4, e4', e7, cond_true, hh, Option.getD_none, zeroV, Option.isSome_none] <;> rfl)) rfl <| OSuf.aopT tyOK rfl (ze (hv := by simp (disch := first | assumption | omega | (simp only [nx] <;> omega) | fail) only [aExtract, hpl, Value.cells, places, tb7, rowV, zr, zr4, zt4, zt5, zt7, zt8, zx4, zx5, zx6, zv2, zv4, zv7, zv8, zn8, e4, e4', e7, cond_true, hh, Option.getD_none, zeroV, Option.isSome_none] <;> rfl)) (fun _ => rfl) (by first | rfl | assumption | ((simp only [bl, Value.cells, places, tb7, rowV, zr, zr4, zt4, zt5, zt7, zt8, zx4, zx5, zx6, zv2, zv4, zv7, zv8, zn8, e4, e4', e7, Option.map_some, cond_true, hh, Option.getD_none, zeroV, Option.isSome_none]) <;> first | done | assumption | omega) | (simp; done) | (simp; omega)) <| OSuf.aop tyOK rfl (so_alloc (by simp only [aAlloc, ty36] <;> rfl)) rfl <| OSuf.aop tyOK rfl (zs (hv := by simp (disch := first | assumption | omega | (simp only [nx] <;> omega) | fail) only [aStore, ty36, writeRow, hpl, Value.cells, rowV, zr, zr4, zt4, zt5, zt7, zt8, zx4, zx5, zx6, zv2, zv4, zv7, zv8, zn8, e4, e4', e7, Option.map_some, cond_true, hh, Option.getD_none, zeroV, Option.isSome_none] <;> rfl)) rfl <| OSuf.aopT tyOK rfl za (fun _ => rfl) rfl <| OSuf.nil <| SQ.normal ?_
      refine W.seq <| W.seq <| W.reg <| OSuf.aopT tyOK rfl sm (fun _ => rfl) rfl <| OSuf.aopF tyOK rfl (so_not (by simp only [lk] <;> rfl)) (fun _ => rfl) rfl <| OSuf.aopF tyOK rfl sm (fun _ => rfl) rfl <| OSuf.aop tyOK ag (zf (hv := fa_ok (k := 2) ty36 rfl rfl ty4 rfl rfl)) rfl <| OSuf.aopT tyOK ag (zl (hv := by simp (disch := first | assumption | omega | (simp only [nx] <;> omega) | fail) only [aLoad, ty4, rowOf, hpl, Value.cells, rowV, zr, zr4, zt4, zt5, zt7, zt8, zx4, zx5, zx6, zv2, zv4, zv7, zv8, zn8, e4, e4', e7, Option.map_some, cond_true, hh, Option.getD_none, zeroV, Option.isSome_none] <;> rfl)) (fun _ => rfl) (hh) <| OSuf.aopF tyOK ag (so_not (by simp only [lk] <;> rfl)) (fun _ => rfl) rfl <| OSuf.aopF tyOK rfl (so_pick (by simp only [lk] <;> rfl) (by simp only [lk, cond_true, cond_false] <;> rfl)) (fun _ => rfl) rfl <| OSuf.nil <| SQ.normal ?_
      refine W.no (by simp only [lk] <;> rfl) <| CWp.skip <| SQ.normal ?_
      refine W.seq <| W.reg <| OSuf.aop tyOK rfl (so_makeFunc rfl (by simp only [aopnds, lk] <;> rfl) (by simp only [aopnds, lk] <;> rfl)) rfl <| OSuf.aop tyOK rfl za rfl <| OSuf.nil <| SQ.normal ?_
      refine W.seq <| W.reg <| OSuf.aop tyOK rfl (so_makeFunc rfl (by simp only [aopnds, lk] <;> rfl) (by simp only [aopnds, lk] <;> rfl)) rfl <| OSuf.aop tyOK rfl za rfl <| OSuf.nil <| SQ.normal ?_
      refine W.seq <| W.reg <| OSuf.aop tyOK rfl (so_makeFunc rfl (by simp only [aopnds, lk] <;> rfl) (by simp only [aopnds, lk] <;> rfl)) rfl <| OSuf.aop tyOK rfl za rfl <| OSuf.nil <| SQ.normal ?_
      refine W.seq <| W.seq <| W.reg <| OSuf.aop tyOK rfl sm rfl <| OSuf.aop tyOK rfl sm rfl <| OSuf.aop tyOK rfl sm rfl <| OSuf.aop tyOK rfl (so_buildSlice (by simp only [aparts, lk] <;> rfl) (by simp only [aBuildSlice, ty123, ty50, Value.cells, places, tb7, rowV, zr, zr4, zt4, zt5, zt7, zt8, zx4, zx5, zx6, zv2, zv4, zv7, zv8, zn8, e4, e4', e7, cond_true, hh, Option.getD_none, zeroV, Option.isSome_none] <;> rfl)) rfl <| OSuf.callD rfl (by simp only [aopnds, lk] <;> rfl) en26 (hany) rfl <| OSuf.nil <| SQ.normal ?_
      refine W.no (by simp only [lk] <;> rfl) <| CWp.skip <| SQ.normal ?_
      refine W.seq <| W.reg <| OSuf.aop tyOK rfl (zf (hv := fa_ok (k := 3) ty36 rfl rfl ty34 rfl rfl)) rfl <| OSuf.aop tyOK rfl (zl (hv := by simp (disch := first | assumption | omega | (simp only [nx] <;> omega) | fail) only [aLoad, ty34, rowOf, hpl, Value.cells, rowV, zr, zr4, zt4, zt5, zt7, zt8, zx4, zx5, zx6, zv2, zv4, zv7, zv8, zn8, e4, e4', e7, Option.map_some, cond_true, hh, Option.getD_none, zeroV, Option.isSome_none] <;> rfl)) rfl <| OSuf.aop tyOK rfl (zl (hv := by simp (disch := first | assumption | omega | (simp only [nx] <;> omega) | fail) only [aLoad, ty27, rowOf, hpl, Value.cells, rowV, zr, zr4, zt4, zt5, zt7, zt8, zx4, zx5, zx6, zv2, zv4, zv7, zv8, zn8, e4, e4', e7, Option.map_some, cond_true, hh, Option.getD_none, zeroV, Option.isSome_none] <;> rfl)) rfl <| OSuf.aop tyOK rfl (zf (hv := fa_ok (k := 2) ty33 rfl rfl ty4 rfl rfl)) rfl <| OSuf.aop tyOK rfl (zl (hv := by simp (disch := first | assumption | omega | (simp only [nx] <;> omega) | fail) only [aLoad, ty4, rowOf, hpl, Value.cells, rowV, zr, zr4, zt4, zt5, zt7, zt8, zx4, zx5, zx6, zv2, zv4, zv7, zv8, zn8, e4, e4', e7, Option.map_some, cond_true, hh, Option.getD_none, zeroV, Option.isSome_none] <;> rfl)) rfl <| OSuf.aop tyOK rfl (zf (hv := fa_ok (k := 3) ty33 rfl rfl ty9 rfl rfl)) rfl <| OSuf.aop tyOK rfl (zl (hv := by simp (disch := first | assumption | omega | (simp only [nx] <;> omega) | fail) only [aLoad, ty9, rowOf, hpl, Value.cells, rowV, zr, zr4, zt4, zt5, zt7, zt8, zx4, zx5, zx6, zv2, zv4, zv7, zv8, zn8, e4, e4', e7, Option.map_some, cond_true, hh, Option.getD_none, zeroV, Option.isSome_none] <;> rfl)) rfl <| OSuf.aop tyOK rfl (so_build (by simp only [aparts, lk] <;> rfl) (by simp only [aBuild, ty49, Value.cells, places, tb7, rowV, zr, zr4, zt4, zt5, zt7, zt8, zx4, zx5, zx6, zv2, zv4, zv7, zv8, zn8, e4, e4', e7, cond_true, hh, Option.getD_none, zeroV, Option.isSome_none] <;> rfl)) rfl <| OSuf.callD rfl (by simp only [aopnds, lk] <;> rfl) en27 (p1) rfl <| OSuf.aop tyOK rfl sm rfl <| OSuf.aop tyOK rfl (ze (hv := by simp (disch := first | assumption | omega | (simp only [nx] <;> omega) | fail) only [aExtract, hpl, Value.cells, places, tb7, rowV, zr, zr4, zt4, zt5, zt7, zt8, zx4, zx5, zx6, zv2, zv4, zv7, zv8, zn8, e4, e4', e7, cond_true, hh, Option.getD_none, zeroV, Option.isSome_none] <;> rfl)) rfl <| OSuf.aop tyOK rfl (ze (hv := by simp (disch := first | assumption | omega | (simp only [nx] <;> omega) | fail) only [aExtract, hpl, Value.cells, places, tb7, rowV, zr, zr4, zt4, zt5, zt7, zt8, zx4, zx5, zx6, zv2, zv4, zv7, zv8, zn8, e4, e4', e7, cond_true, hh, Option.getD_none, zeroV, Option.isSome_none] <;> rfl)) rfl <| OSuf.aop tyOK rfl za rfl <| OSuf.aop tyOK rfl za rfl <| OSuf.nil <| SQ.normal ?_
      refine W.seq <| W.seq <| W.reg <| OSuf.aop tyOK rfl sm rfl <| OSuf.aopF tyOK rfl (zb (hv := bi_neq)) (fun _ => rfl) (by first | rfl | assumption | ((simp only [bl, Value.cells, places, tb7, rowV, zr, zr4, zt4, zt5, zt7, zt8, zx4, zx5, zx6, zv2, zv4, zv7, zv8, zn8, e4, e4', e7, Option.map_some, cond_true, hh, Option.getD_none, zeroV, Option.isSome_none]) <;> first | done | assumption | omega) | (simp; done) | (simp; omega)) <| OSuf.nil <| SQ.normal ?_
      refine W.no (by simp only [lk] <;> rfl) <| CWp.skip <| SQ.normal ?_
      refine W.seq <| W.reg <| OSuf.aop tyOK rfl sm rfl <| OSuf.aop tyOK rfl (zf (hv := fa_ok (k := 3) ty36 rfl rfl ty34 rfl rfl)) rfl <| OSuf.aop tyOK rfl (zs (hv := by simp (disch := first | assumption | omega | (simp only [nx] <;> omega) | fail) only [aStore, ty34, writeRow, hpl, Value.cells, rowV, zr, zr4, zt4, zt5, zt7, zt8, zx4, zx5, zx6, zv2, zv4, zv7, zv8, zn8, e4, e4', e7, Option.map_some, cond_true, hh, Option.getD_none, zeroV, Option.isSome_none] <;> rfl)) rfl <| OSuf.nil <| SQ.normal ?_
      refine W.seq <| W.reg <| OSuf.aop tyOK rfl sm rfl <| OSuf.aop tyOK rfl (zl (hv := by simp (disch := first | assumption | omega | (simp only [nx] <;> omega) | fail) only [aLoad, ty36, rowOf, hpl, Value.cells, rowV, zr, zr4, zt4, zt5, zt7, zt8, zx4, zx5, zx6, zv2, zv4, zv7, zv8, zn8, e4, e4', e7, Option.map_some, cond_true, hh, Option.getD_none, zeroV, Option.isSome_none] <;> rfl)) rfl <| OSuf.callD rfl (by simp only [aopnds, lk] <;> rfl) en11 (t1) rfl <| OSuf.nil <| SQ.normal ?_
      refine W.seq <| W.reg <| OSuf.aop tyOK rfl (so_build (by simp only [aparts, lk] <;> rfl) (by simp only [aBuild, ty29, Value.cells, places, tb7, rowV, zr, zr4, zt4, zt5, zt7, zt8, zx4, zx5, zx6, zv2, zv4, zv7, zv8, zn8, e4, e4', e7, cond_true, hh, Option.getD_none, zeroV, Option.isSome_none] <;> rfl)) rfl <| OSuf.aop tyOK rfl (so_alloc (by simp only [aAlloc, ty29] <;> rfl)) rfl <| OSuf.aop tyOK rfl (zs (hv := by simp (disch := first | assumption | omega | (simp only [nx] <;> omega) | fail) only [aStore, ty29, writeRow, hpl, Value.cells, rowV, zr, zr4, zt4, zt5, zt7, zt8, zx4, zx5, zx6, zv2, zv4, zv7, zv8, zn8, e4, e4', e7, Option.map_some, cond_true, hh, Option.getD_none, zeroV, Option.isSome_none] <;> rfl)) rfl <| OSuf.nil <| SQ.normal ?_
      refine W.seq <| W.seq <| W.reg <| OSuf.aop tyOK rfl sm rfl <| OSuf.aop tyOK rfl (zl (hv := by simp (disch := first | assumption | omega | (simp only [nx] <;> omega) | fail) only [aLoad, ty27, rowOf, hpl, Value.cells, rowV, zr, zr4, zt4, zt5, zt7, zt8, zx4, zx5, zx6, zv2, zv4, zv7, zv8, zn8, e4, e4', e7, Option.map_some, cond_true, hh, Option.getD_none, zeroV, Option.isSome_none] <;> rfl)) rfl <| OSuf.callD rfl (by simp only [aopnds, lk] <;> rfl) en28 (hbel) rfl <| OSuf.aop tyOK rfl sm rfl <| OSuf.aop tyOK rfl (ze (hv := by simp (disch := first | assumption | omega | (simp only [nx] <;> omega) | fail) only [aExtract, hpl, Value.cells, places, tb7, rowV, zr, zr4, zt4, zt5, zt7, zt8, zx4, zx5, zx6, zv2, zv4, zv7, zv8, zn8, e4, e4', e7, cond_true, hh, Option.getD_none, zeroV, Option.isSome_none] <;> rfl)) rfl <| OSuf.aopF tyOK rfl (ze (hv := by simp (disch := first | assumption | omega | (simp only [nx] <;> omega) | fail) only [aExtract, hpl, Value.cells, places, tb7, rowV, zr, zr4, zt4, zt5, zt7, zt8, zx4, zx5, zx6, zv2, zv4, zv7, zv8, zn8, e4, e4', e7, cond_true, hh, Option.getD_none, zeroV, Option.isSome_none] <;> rfl)) (fun _ => rfl) (by first | rfl | assumption | ((simp only [bl, Value.cells, places, tb7, rowV, zr, zr4, zt4, zt5, zt7, zt8, zx4, zx5, zx6, zv2, zv4, zv7, zv8, zn8, e4, e4', e7, Option.map_some, cond_true, hh, Option.getD_none, zeroV, Option.isSome_none]) <;> first | done | assumption | omega) | (simp; done) | (simp; omega)) <| OSuf.aop tyOK rfl (so_alloc (by simp only [aAlloc, ty49] <;> rfl)) rfl <| OSuf.aop tyOK rfl (zs (hv := by simp (disch := first | assumption | omega | (simp only [nx] <;> omega) | fail) only [aStore, ty49, writeRow, hpl, Value.cells, rowV, zr, zr4, zt4, zt5, zt7, zt8, zx4, zx5, zx6, zv2, zv4, zv7, zv8, zn8, e4, e4', e7, Option.map_some, cond_true, hh, Option.getD_none, zeroV, Option.isSome_none] <;> rfl)) rfl <| OSuf.aopF tyOK rfl za (fun _ => rfl) rfl <| OSuf.nil <| SQ.normal ?_
      refine W.seq <| W.reg <| OSuf.aopF tyOK rfl sm (fun _ => rfl) rfl <| OSuf.aopF tyOK rfl sm (fun _ => rfl) rfl <| OSuf.pass ag rfl <| OSuf.pass ag rfl <| OSuf.aopF tyOK rfl (so_pick (by simp only [lk] <;> rfl) (by simp only [lk, cond_true, cond_false] <;> rfl)) (fun _ => rfl) rfl <| OSuf.nil <| SQ.normal ?_
      refine W.no (by simp only [lk] <;> rfl) <| CWp.skip <| SQ.normal ?_
      refine W.seq <| W.reg <| OSuf.aop tyOK rfl (zl (hv := by simp (disch := first | assumption | omega | (simp only [nx] <;> omega) | fail) only [aLoad, ty29, rowOf, hpl, Value.cells, rowV, zr, zr4, zt4, zt5, zt7, zt8, zx4, zx5, zx6, zv2, zv4, zv7, zv8, zn8, e4, e4', e7, Option.map_some, cond_true, hh, Option.getD_none, zeroV, Option.isSome_none] <;> rfl)) rfl <| OSuf.aop tyOK rfl (zs (hv := by simp (disch := first | assumption | omega | (simp only [nx] <;> omega) | fail) only [aStore, ty29, writeRow, hpl, Value.cells, rowV, zr, zr4, zt4, zt5, zt7, zt8, zx4, zx5, zx6, zv2, zv4, zv7, zv8, zn8, e4, e4', e7, Option.map_some, cond_true, hh, Option.getD_none, zeroV, Option.isSome_none] <;> rfl)) rfl <| OSuf.nil <| SQ.normal ?_
      refine CWp.ret <| FQ.ret (by simp (disch := first | assumption | omega | (simp only [nx] <;> omega) | fail) only [aRet, Tryz.f7, aResults, aResult, lk, Nat.reduceEqDiff, reduceIte, aLoad, rowOf, hpl, Value.cells, places, tb7, rowV, zr, zr4, zt4, zt5, zt7, zt8, zx4, zx5, zx6, zv2, zv4, zv7, zv8, zn8, e4, e4', e7, Option.map_some, cond_true, hh, Option.getD_none, zeroV, Option.isSome_none] <;> rfl) ?_
      -- leaf: end
      exact ⟨rfl, rfl⟩
    · have q : ¬ h.next + 3 = z := fun e => hzn e.symm
      simp (disch := first | assumption | omega | (simp only [nx] <;> omega) | fail) only [hpl]; exact o8 z hz
  | some w =>
    rw [hv] at hbel
    rcases Bool.eq_false_or_eq_true (openB w) with ho | ho
    · have hop : ∀ g, FWp Tryz.prog 29 [aggV w] g (fun u h' => u = .bool true ∧ h' = g) := fun g => ho ▸ open_c g w
      have ev : overV ts PV = w.ts := by simp [overV, hv, ho]
      rw [ev]
      refine ⟨(((H8.new (.cells [U64 0, U64 0, .bool false, .string ⟨#[]⟩, .bool false] 1)).set H8.next (.cells [U64 w.ts, U64 w.lsn, .bool w.del, .string w.val, .bool w.acked] 1)).set H7.next (.cells [.bool false, I64 0, .bool false, .string ⟨#[]⟩, U64 0, U64 0, U64 w.ts] 1)).set (h.next + 3) (.cells [.bool false, I64 0, .bool false, .string ⟨#[]⟩, U64 0, U64 0, U64 w.ts] 1), M', ?_, fin _ (by simp only [nx]; omega) (fun z hz hzn => ?_)⟩
      · subst hh0 hH4 hH6 hH8
        refine W.enter tyOK Tryz.func7 rfl rfl ?_
        simp only [entry]
        refine W.seq <| W.reg <| OSuf.aop tyOK rfl (so_box (by simp only [lk] <;> rfl)) rfl <| OSuf.aop tyOK rfl (so_box (by simp only [lk] <;> rfl)) rfl <| OSuf.aop tyOK rfl (so_box (by simp only [lk] <;> rfl)) rfl <| OSuf.aop tyOK rfl (so_alloc (by simp only [aAlloc, ty29] <;> rfl)) rfl <| OSuf.nil <| SQ.normal ?_
        refine W.seq <| W.seq <| W.reg <| OSuf.aop tyOK rfl sm rfl <| OSuf.aopF tyOK rfl (zb (hv := bi_nil ⟨_, _, ty22, rfl⟩)) (fun _ => rfl) rfl <| OSuf.aopF tyOK rfl sm (fun _ => rfl) rfl <| OSuf.aop tyOK ag (zl (hv := by simp (disch := first | assumption | omega | (simp only [nx] <;> omega) | fail) only [aLoad, ty23, rowOf, hpl, Value.cells, rowV, zr, zr4, zt4, zt5, zt7, zt8, zx4, zx5, zx6, zv2, zv4, zv7, zv8, zn8, e4, e4', e5, e7, Option.map_some, cond_true, hh, Option.getD_some, Option.isSome_some] <;> rfl)) rfl <| OSuf.aopF tyOK ag (zb (hv := bi_nil ⟨_, _, ty23, rfl⟩)) (fun _ => rfl) rfl <| OSuf.aopF tyOK rfl (so_pick (by simp only [lk] <;> rfl) (by simp only [lk, cond_true, cond_false] <;> rfl)) (fun _ => rfl) rfl <| OSuf.nil <| SQ.normal ?_
        refine W.no (by simp only [lk] <;> rfl) <| CWp.skip <| SQ.normal ?_
        refine W.seq <| W.reg <| OSuf.aop tyOK rfl sm rfl <| OSuf.aop tyOK rfl (zf (hv := fa_ok (k := 0) ty33 rfl rfl ty9 rfl rfl)) rfl <| OSuf.aop tyOK rfl (zl (hv := by simp (disch := first | assumption | omega | (simp only [nx] <;> omega) | fail) only [aLoad, ty9, rowOf, hpl, Value.cells, rowV, zr, zr4, zt4, zt5, zt7, zt8, zx4, zx5, zx6, zv2, zv4, zv7, zv8, zn8, e4, e4', e5, e7, Option.map_some, cond_true, hh, Option.getD_some, Option.isSome_some] <;> rfl)) rfl <| OSuf.callD rfl (by simp only [aopnds, lk] <;> rfl) en8 (r1) rfl <| OSuf.aop tyOK rfl sm rfl <| OSuf.aop tyOK rfl (ze (hv := by simp (disch := first | assumption | omega | (simp only [nx] <;> omega) | fail) only [aExtract, hpl, Value.cells, places, tb7, rowV, zr, zr4, zt4, zt5, zt7, zt8, zx4, zx5, zx6, zv2, zv4, zv7, zv8, zn8, e4, e4', e5, e7, cond_true, hh, Option.getD_some, Option.isSome_some] <;> rfl)) rfl <| OSuf.aopT tyOK rfl (ze (hv := by simp (disch := first | assumption | omega | (simp only [nx] <;> omega) | fail) only [aExtract, hpl, Value.cells, places, tb7, rowV, zr, zr4, zt4, zt5, zt7, zt8, zx4, zx5, zx6, zv2, zv4, zv7, zv8, zn8, e4, e4', e5, e7, cond_true, hh, Option.getD_some, Option.isSome_some] <;> rfl)) (fun _ => rfl) (by first | rfl | assumption | ((simp only [bl, Value.cells, places, tb7, rowV, zr, zr4, zt4, zt5, zt7, zt8, zx4, zx5, zx6, zv2, zv4, zv7, zv8, zn8, e4, e4', e5, e7, Option.map_some, cond_true, hh, Option.getD_some, Option.isSome_some]) <;> first | done | assumption | omega) | (simp; done) | (simp; omega)) <| OSuf.aop tyOK rfl (so_alloc (by simp only [aAlloc, ty36] <;> rfl)) rfl <| OSuf.aop tyOK rfl (zs (hv := by simp (disch := first | assumption | omega | (simp only [nx] <;> omega) | fail) only [aStore, ty36, writeRow, hpl, Value.cells, rowV, zr, zr4, zt4, zt5, zt7, zt8, zx4, zx5, zx6, zv2, zv4, zv7, zv8, zn8, e4, e4', e5, e7, Option.map_some, cond_true, hh, Option.getD_some, Option.isSome_some] <;> rfl)) rfl <| OSuf.aopT tyOK rfl za (fun _ => rfl) rfl <| OSuf.nil <| SQ.normal ?_
        refine W.seq <| W.seq <| W.reg <| OSuf.aopT tyOK rfl sm (fun _ => rfl) rfl <| OSuf.aopF tyOK rfl (so_not (by simp only [lk] <;> rfl)) (fun _ => rfl) rfl <| OSuf.aopF tyOK rfl sm (fun _ => rfl) rfl <| OSuf.aop tyOK ag (zf (hv := fa_ok (k := 2) ty36 rfl rfl ty4 rfl rfl)) rfl <| OSuf.aopT tyOK ag (zl (hv := by simp (disch := first | assumption | omega | (simp only [nx] <;> omega) | fail) only [aLoad, ty4, rowOf, hpl, Value.cells, rowV, zr, zr4, zt4, zt5, zt7, zt8, zx4, zx5, zx6, zv2, zv4, zv7, zv8, zn8, e4, e4', e5, e7, Option.map_some, cond_true, hh, Option.getD_some, Option.isSome_some] <;> rfl)) (fun _ => rfl) (hh) <| OSuf.aopF tyOK ag (so_not (by simp only [lk] <;> rfl)) (fun _ => rfl) rfl <| OSuf.aopF tyOK rfl (so_pick (by simp only [lk] <;> rfl) (by simp only [lk, cond_true, cond_false] <;> rfl)) (fun _ => rfl) rfl <| OSuf.nil <| SQ.normal ?_
        refine W.no (by simp only [lk] <;> rfl) <| CWp.skip <| SQ.normal ?_
        refine W.seq <| W.reg <| OSuf.aop tyOK rfl (so_makeFunc rfl (by simp only [aopnds, lk] <;> rfl) (by simp only [aopnds, lk] <;> rfl)) rfl <| OSuf.aop tyOK rfl za rfl <| OSuf.nil <| SQ.normal ?_
        refine W.seq <| W.reg <| OSuf.aop tyOK rfl (so_makeFunc rfl (by simp only [aopnds, lk] <;> rfl) (by simp only [aopnds, lk] <;> rfl)) rfl <| OSuf.aop tyOK rfl za rfl <| OSuf.nil <| SQ.normal ?_
        refine W.seq <| W.reg <| OSuf.aop tyOK rfl (so_makeFunc rfl (by simp only [aopnds, lk] <;> rfl) (by simp only [aopnds, lk] <;> rfl)) rfl <| OSuf.aop tyOK rfl za rfl <| OSuf.nil <| SQ.normal ?_
        refine W.seq <| W.seq <| W.reg <| OSuf.aop tyOK rfl sm rfl <| OSuf.aop tyOK rfl sm rfl <| OSuf.aop tyOK rfl sm rfl <| OSuf.aop tyOK rfl (so_buildSlice (by simp only [aparts, lk] <;> rfl) (by simp only [aBuildSlice, ty123, ty50, Value.cells, places, tb7, rowV, zr, zr4, zt4, zt5, zt7, zt8, zx4, zx5, zx6, zv2, zv4, zv7, zv8, zn8, e4, e4', e5, e7, cond_true, hh, Option.getD_some, Option.isSome_some] <;> rfl)) rfl <| OSuf.callD rfl (by simp only [aopnds, lk] <;> rfl) en26 (hany) rfl <| OSuf.nil <| SQ.normal ?_
        refine W.no (by simp only [lk] <;> rfl) <| CWp.skip <| SQ.normal ?_
        refine W.seq <| W.reg <| OSuf.aop tyOK rfl (zf (hv := fa_ok (k := 3) ty36 rfl rfl ty34 rfl rfl)) rfl <| OSuf.aop tyOK rfl (zl (hv := by simp (disch := first | assumption | omega | (simp only [nx] <;> omega) | fail) only [aLoad, ty34, rowOf, hpl, Value.cells, rowV, zr, zr4, zt4, zt5, zt7, zt8, zx4, zx5, zx6, zv2, zv4, zv7, zv8, zn8, e4, e4', e5, e7, Option.map_some, cond_true, hh, Option.getD_some, Option.isSome_some] <;> rfl)) rfl <| OSuf.aop tyOK rfl (zl (hv := by simp (disch := first | assumption | omega | (simp only [nx] <;> omega) | fail) only [aLoad, ty27, rowOf, hpl, Value.cells, rowV, zr, zr4, zt4, zt5, zt7, zt8, zx4, zx5, zx6, zv2, zv4, zv7, zv8, zn8, e4, e4', e5, e7, Option.map_some, cond_true, hh, Option.getD_some, Option.isSome_some] <;> rfl)) rfl <| OSuf.aop tyOK rfl (zf (hv := fa_ok (k := 2) ty33 rfl rfl ty4 rfl rfl)) rfl <| OSuf.aop tyOK rfl (zl (hv := by simp (disch := first | assumption | omega | (simp only [nx] <;> omega) | fail) only [aLoad, ty4, rowOf, hpl, Value.cells, rowV, zr, zr4, zt4, zt5, zt7, zt8, zx4, zx5, zx6, zv2, zv4, zv7, zv8, zn8, e4, e4', e5, e7, Option.map_some, cond_true, hh, Option.getD_some, Option.isSome_some] <;> rfl)) rfl <| OSuf.aop tyOK rfl (zf (hv := fa_ok (k := 3) ty33 rfl rfl ty9 rfl rfl)) rfl <| OSuf.aop tyOK rfl (zl (hv := by simp (disch := first | assumption | omega | (simp only [nx] <;> omega) | fail) only [aLoad, ty9, rowOf, hpl, Value.cells, rowV, zr, zr4, zt4, zt5, zt7, zt8, zx4, zx5, zx6, zv2, zv4, zv7, zv8, zn8, e4, e4', e5, e7, Option.map_some, cond_true, hh, Option.getD_some, Option.isSome_some] <;> rfl)) rfl <| OSuf.aop tyOK rfl (so_build (by simp only [aparts, lk] <;> rfl) (by simp only [aBuild, ty49, Value.cells, places, tb7, rowV, zr, zr4, zt4, zt5, zt7, zt8, zx4, zx5, zx6, zv2, zv4, zv7, zv8, zn8, e4, e4', e5, e7, cond_true, hh, Option.getD_some, Option.isSome_some] <;> rfl)) rfl <| OSuf.callD rfl (by simp only [aopnds, lk] <;> rfl) en27 (p1) rfl <| OSuf.aop tyOK rfl sm rfl <| OSuf.aop tyOK rfl (ze (hv := by simp (disch := first | assumption | omega | (simp only [nx] <;> omega) | fail) only [aExtract, hpl, Value.cells, places, tb7, rowV, zr, zr4, zt4, zt5, zt7, zt8, zx4, zx5, zx6, zv2, zv4, zv7, zv8, zn8, e4, e4', e5, e7, cond_true, hh, Option.getD_some, Option.isSome_some] <;> rfl)) rfl <| OSuf.aop tyOK rfl (ze (hv := by simp (disch := first | assumption | omega | (simp only [nx] <;> omega) | fail) only [aExtract, hpl, Value.cells, places, tb7, rowV, zr, zr4, zt4, zt5, zt7, zt8, zx4, zx5, zx6, zv2, zv4, zv7, zv8, zn8, e4, e4', e5, e7, cond_true, hh, Option.getD_some, Option.isSome_some] <;> rfl)) rfl <| OSuf.aop tyOK rfl za rfl <| OSuf.aop tyOK rfl za rfl <| OSuf.nil <| SQ.normal ?_
        refine W.seq <| W.seq <| W.reg <| OSuf.aop tyOK rfl sm rfl <| OSuf.aopF tyOK rfl (zb (hv := bi_neq)) (fun _ => rfl) (by first | rfl | assumption | ((simp only [bl, Value.cells, places, tb7, rowV, zr, zr4, zt4, zt5, zt7, zt8, zx4, zx5, zx6, zv2, zv4, zv7, zv8, zn8, e4, e4', e5, e7, Option.map_some, cond_true, hh, Option.getD_some, Option.isSome_some]) <;> first | done | assumption | omega) | (simp; done) | (simp; omega)) <| OSuf.nil <| SQ.normal ?_
        refine W.no (by simp only [lk] <;> rfl) <| CWp.skip <| SQ.normal ?_
        refine W.seq <| W.reg <| OSuf.aop tyOK rfl sm rfl <| OSuf.aop tyOK rfl (zf (hv := fa_ok (k := 3) ty36 rfl rfl ty34 rfl rfl)) rfl <| OSuf.aop tyOK rfl (zs (hv := by simp (disch := first | assumption | omega | (simp only [nx] <;> omega) | fail) only [aStore, ty34, writeRow, hpl, Value.cells, rowV, zr, zr4, zt4, zt5, zt7, zt8, zx4, zx5, zx6, zv2, zv4, zv7, zv8, zn8, e4, e4', e5, e7, Option.map_some, cond_true, hh, Option.getD_some, Option.isSome_some] <;> rfl)) rfl <| OSuf.nil <| SQ.normal ?_
        refine W.seq <| W.reg <| OSuf.aop tyOK rfl sm rfl <| OSuf.aop tyOK rfl (zl (hv := by simp (disch := first | assumption | omega | (simp only [nx] <;> omega) | fail) only [aLoad, ty36, rowOf, hpl, Value.cells, rowV, zr, zr4, zt4, zt5, zt7, zt8, zx4, zx5, zx6, zv2, zv4, zv7, zv8, zn8, e4, e4', e5, e7, Option.map_some, cond_true, hh, Option.getD_some, Option.isSome_some] <;> rfl)) rfl <| OSuf.callD rfl (by simp only [aopnds, lk] <;> rfl) en11 (t1) rfl <| OSuf.nil <| SQ.normal ?_
        refine W.seq <| W.reg <| OSuf.aop tyOK rfl (so_build (by simp only [aparts, lk] <;> rfl) (by simp only [aBuild, ty29, Value.cells, places, tb7, rowV, zr, zr4, zt4, zt5, zt7, zt8, zx4, zx5, zx6, zv2, zv4, zv7, zv8, zn8, e4, e4', e5, e7, cond_true, hh, Option.getD_some, Option.isSome_some] <;> rfl)) rfl <| OSuf.aop tyOK rfl (so_alloc (by simp only [aAlloc, ty29] <;> rfl)) rfl <| OSuf.aop tyOK rfl (zs (hv := by simp (disch := first | assumption | omega | (simp only [nx] <;> omega) | fail) only [aStore, ty29, writeRow, hpl, Value.cells, rowV, zr, zr4, zt4, zt5, zt7, zt8, zx4, zx5, zx6, zv2, zv4, zv7, zv8, zn8, e4, e4', e5, e7, Option.map_some, cond_true, hh, Option.getD_some, Option.isSome_some] <;> rfl)) rfl <| OSuf.nil <| SQ.normal ?_
        refine W.seq <| W.seq <| W.reg <| OSuf.aop tyOK rfl sm rfl <| OSuf.aop tyOK rfl (zl (hv := by simp (disch := first | assumption | omega | (simp only [nx] <;> omega) | fail) only [aLoad, ty27, rowOf, hpl, Value.cells, rowV, zr, zr4, zt4, zt5, zt7, zt8, zx4, zx5, zx6, zv2, zv4, zv7, zv8, zn8, e4, e4', e5, e7, Option.map_some, cond_true, hh, Option.getD_some, Option.isSome_some] <;> rfl)) rfl <| OSuf.callD rfl (by simp only [aopnds, lk] <;> rfl) en28 (hbel) rfl <| OSuf.aop tyOK rfl sm rfl <| OSuf.aop tyOK rfl (ze (hv := by simp (disch := first | assumption | omega | (simp only [nx] <;> omega) | fail) only [aExtract, hpl, Value.cells, places, tb7, rowV, zr, zr4, zt4, zt5, zt7, zt8, zx4, zx5, zx6, zv2, zv4, zv7, zv8, zn8, e4, e4', e5, e7, cond_true, hh, Option.getD_some, Option.isSome_some] <;> rfl)) rfl <| OSuf.aopT tyOK rfl (ze (hv := by simp (disch := first | assumption | omega | (simp only [nx] <;> omega) | fail) only [aExtract, hpl, Value.cells, places, tb7, rowV, zr, zr4, zt4, zt5, zt7, zt8, zx4, zx5, zx6, zv2, zv4, zv7, zv8, zn8, e4, e4', e5, e7, cond_true, hh, Option.getD_some, Option.isSome_some] <;> rfl)) (fun _ => rfl) (by first | rfl | assumption | ((simp only [bl, Value.cells, places, tb7, rowV, zr, zr4, zt4, zt5, zt7, zt8, zx4, zx5, zx6, zv2, zv4, zv7, zv8, zn8, e4, e4', e5, e7, Option.map_some, cond_true, hh, Option.getD_some, Option.isSome_some]) <;> first | done | assumption | omega) | (simp; done) | (simp; omega)) <| OSuf.aop tyOK rfl (so_alloc (by simp only [aAlloc, ty49] <;> rfl)) rfl <| OSuf.aop tyOK rfl (zs (hv := by simp (disch := first | assumption | omega | (simp only [nx] <;> omega) | fail) only [aStore, ty49, writeRow, hpl, Value.cells, rowV, zr, zr4, zt4, zt5, zt7, zt8, zx4, zx5, zx6, zv2, zv4, zv7, zv8, zn8, e4, e4', e5, e7, Option.map_some, cond_true, hh, Option.getD_some, Option.isSome_some] <;> rfl)) rfl <| OSuf.aopT tyOK rfl za (fun _ => rfl) rfl <| OSuf.nil <| SQ.normal ?_
        refine W.seq <| W.reg <| OSuf.aopT tyOK rfl sm (fun _ => rfl) rfl <| OSuf.aopT tyOK rfl sm (fun _ => rfl) rfl <| OSuf.aop tyOK ag (zl (hv := by simp (disch := first | assumption | omega | (simp only [nx] <;> omega) | fail) only [aLoad, ty49, rowOf, hpl, Value.cells, rowV, zr, zr4, zt4, zt5, zt7, zt8, zx4, zx5, zx6, zv2, zv4, zv7, zv8, zn8, e4, e4', e5, e7, Option.map_some, cond_true, hh, Option.getD_some, Option.isSome_some] <;> rfl)) rfl <| OSuf.callD ag (by simp only [aopnds, lk] <;> rfl) en29 (hop _) rfl <| OSuf.aopT tyOK rfl (so_pick (by simp only [lk] <;> rfl) (by simp only [lk, cond_true, cond_false] <;> rfl)) (fun _ => rfl) rfl <| OSuf.nil <| SQ.normal ?_
        refine W.yes (by simp only [lk] <;> rfl) <| W.reg <| OSuf.aop tyOK rfl (zf (hv := fa_ok (k := 0) ty49 rfl rfl ty27 rfl rfl)) rfl <| OSuf.aop tyOK rfl (zl (hv := by simp (disch := first | assumption | omega | (simp only [nx] <;> omega) | fail) only [aLoad, ty27, rowOf, hpl, Value.cells, rowV, zr, zr4, zt4, zt5, zt7, zt8, zx4, zx5, zx6, zv2, zv4, zv7, zv8, zn8, e4, e4', e5, e7, Option.map_some, cond_true, hh, Option.getD_some, Option.isSome_some] <;> rfl)) rfl <| OSuf.aop tyOK rfl (zf (hv := fa_ok (k := 6) ty29 rfl rfl ty27 rfl rfl)) rfl <| OSuf.aop tyOK rfl (zs (hv := by simp (disch := first | assumption | omega | (simp only [nx] <;> omega) | fail) only [aStore, ty27, writeRow, hpl, Value.cells, rowV, zr, zr4, zt4, zt5, zt7, zt8, zx4, zx5, zx6, zv2, zv4, zv7, zv8, zn8, e4, e4', e5, e7, Option.map_some, cond_true, hh, Option.getD_some, Option.isSome_some] <;> rfl)) rfl <| OSuf.nil <| SQ.normal ?_
        refine W.seq <| W.reg <| OSuf.aop tyOK rfl (zl (hv := by simp (disch := first | assumption | omega | (simp only [nx] <;> omega) | fail) only [aLoad, ty29, rowOf, hpl, Value.cells, rowV, zr, zr4, zt4, zt5, zt7, zt8, zx4, zx5, zx6, zv2, zv4, zv7, zv8, zn8, e4, e4', e5, e7, Option.map_some, cond_true, hh, Option.getD_some, Option.isSome_some] <;> rfl)) rfl <| OSuf.aop tyOK rfl (zs (hv := by simp (disch := first | assumption | omega | (simp only [nx] <;> omega) | fail) only [aStore, ty29, writeRow, hpl, Value.cells, rowV, zr, zr4, zt4, zt5, zt7, zt8, zx4, zx5, zx6, zv2, zv4, zv7, zv8, zn8, e4, e4', e5, e7, Option.map_some, cond_true, hh, Option.getD_some, Option.isSome_some] <;> rfl)) rfl <| OSuf.nil <| SQ.normal ?_
        refine CWp.ret <| FQ.ret (by simp (disch := first | assumption | omega | (simp only [nx] <;> omega) | fail) only [aRet, Tryz.f7, aResults, aResult, lk, Nat.reduceEqDiff, reduceIte, aLoad, rowOf, hpl, Value.cells, places, tb7, rowV, zr, zr4, zt4, zt5, zt7, zt8, zx4, zx5, zx6, zv2, zv4, zv7, zv8, zn8, e4, e4', e5, e7, Option.map_some, cond_true, hh, Option.getD_some, Option.isSome_some] <;> rfl) ?_
        -- leaf: end
        exact ⟨rfl, rfl⟩
      · have q : ¬ h.next + 3 = z := fun e => hzn e.symm
        simp (disch := first | assumption | omega | (simp only [nx] <;> omega) | fail) only [hpl]; exact o8 z hz
    · have hop : ∀ g, FWp Tryz.prog 29 [aggV w] g (fun u h' => u = .bool false ∧ h' = g) := fun g => ho ▸ open_c g w
      have ev : overV ts PV = 0 := by simp [overV, hv, ho]
      rw [ev]
      refine ⟨((H8.new (.cells [U64 0, U64 0, .bool false, .string ⟨#[]⟩, .bool false] 1)).set H8.next (.cells [U64 w.ts, U64 w.lsn, .bool w.del, .string w.val, .bool w.acked] 1)).set (h.next + 3) (.cells [.bool false, I64 0, .bool false, .string ⟨#[]⟩, U64 0, U64 0, U64 0] 1), M', ?_, fin _ (by simp only [nx]; omega) (fun z hz hzn => ?_)⟩
      · subst hh0 hH4 hH6 hH8
        refine W.enter tyOK Tryz.func7 rfl rfl ?_
        simp only [entry]
        refine W.seq <| W.reg <| OSuf.aop tyOK rfl (so_box (by simp only [lk] <;> rfl)) rfl <| OSuf.aop tyOK rfl (so_box (by simp only [lk] <;> rfl)) rfl <| OSuf.aop tyOK rfl (so_box (by simp only [lk] <;> rfl)) rfl <| OSuf.aop tyOK rfl (so_alloc (by simp only [aAlloc, ty29] <;> rfl)) rfl <| OSuf.nil <| SQ.normal ?_
        refine W.seq <| W.seq <| W.reg <| OSuf.aop tyOK rfl sm rfl <| OSuf.aopF tyOK rfl (zb (hv := bi_nil ⟨_, _, ty22, rfl⟩)) (fun _ => rfl) rfl <| OSuf.aopF tyOK rfl sm (fun _ => rfl) rfl <| OSuf.aop tyOK ag (zl (hv := by simp (disch := first | assumption | omega | (simp only [nx] <;> omega) | fail) only [aLoad, ty23, rowOf, hpl, Value.cells, rowV, zr, zr4, zt4, zt5, zt7, zt8, zx4, zx5, zx6, zv2, zv4, zv7, zv8, zn8, e4, e4', e5, e7, Option.map_some, cond_true, hh, Option.getD_some, Option.isSome_some] <;> rfl)) rfl <| OSuf.aopF tyOK ag (zb (hv := bi_nil ⟨_, _, ty23, rfl⟩)) (fun _ => rfl) rfl <| OSuf.aopF tyOK rfl (so_pick (by simp only [lk] <;> rfl) (by simp only [lk, cond_true, cond_false] <;> rfl)) (fun _ => rfl) rfl <| OSuf.nil <| SQ.normal ?_
        refine W.no (by simp only [lk] <;> rfl) <| CWp.skip <| SQ.normal ?_
        refine W.seq <| W.reg <| OSuf.aop tyOK rfl sm rfl <| OSuf.aop tyOK rfl (zf (hv := fa_ok (k := 0) ty33 rfl rfl ty9 rfl rfl)) rfl <| OSuf.aop tyOK rfl (zl (hv := by simp (disch := first | assumption | omega | (simp only [nx] <;> omega) | fail) only [aLoad, ty9, rowOf, hpl, Value.cells, rowV, zr, zr4, zt4, zt5, zt7, zt8, zx4, zx5, zx6, zv2, zv4, zv7, zv8, zn8, e4, e4', e5, e7, Option.map_some, cond_true, hh, Option.getD_some, Option.isSome_some] <;> rfl)) rfl <| OSuf.callD rfl (by simp only [aopnds, lk] <;> rfl) en8 (r1) rfl <| OSuf.aop tyOK rfl sm rfl <| OSuf.aop tyOK rfl (ze (hv := by simp (disch := first | assumption | omega | (simp only [nx] <;> omega) | fail) only [aExtract, hpl, Value.cells, places, tb7, rowV, zr, zr4, zt4, zt5, zt7, zt8, zx4, zx5, zx6, zv2, zv4, zv7, zv8, zn8, e4, e4', e5, e7, cond_true, hh, Option.getD_some, Option.isSome_some] <;> rfl)) rfl <| OSuf.aopT tyOK rfl (ze (hv := by simp (disch := first | assumption | omega | (simp only [nx] <;> omega) | fail) only [aExtract, hpl, Value.cells, places, tb7, rowV, zr, zr4, zt4, zt5, zt7, zt8, zx4, zx5, zx6, zv2, zv4, zv7, zv8, zn8, e4, e4', e5, e7, cond_true, hh, Option.getD_some, Option.isSome_some] <;> rfl)) (fun _ => rfl) (by first | rfl | assumption | ((simp only [bl, Value.cells, places, tb7, rowV, zr, zr4, zt4, zt5, zt7, zt8, zx4, zx5, zx6, zv2, zv4, zv7, zv8, zn8, e4, e4', e5, e7, Option.map_some, cond_true, hh, Option.getD_some, Option.isSome_some]) <;> first | done | assumption | omega) | (simp; done) | (simp; omega)) <| OSuf.aop tyOK rfl (so_alloc (by simp only [aAlloc, ty36] <;> rfl)) rfl <| OSuf.aop tyOK rfl (zs (hv := by simp (disch := first | assumption | omega | (simp only [nx] <;> omega) | fail) only [aStore, ty36, writeRow, hpl, Value.cells, rowV, zr, zr4, zt4, zt5, zt7, zt8, zx4, zx5, zx6, zv2, zv4, zv7, zv8, zn8, e4, e4', e5, e7, Option.map_some, cond_true, hh, Option.getD_some, Option.isSome_some] <;> rfl)) rfl <| OSuf.aopT tyOK rfl za (fun _ => rfl) rfl <| OSuf.nil <| SQ.normal ?_
        refine W.seq <| W.seq <| W.reg <| OSuf.aopT tyOK rfl sm (fun _ => rfl) rfl <| OSuf.aopF tyOK rfl (so_not (by simp only [lk] <;> rfl)) (fun _ => rfl) rfl <| OSuf.aopF tyOK rfl sm (fun _ => rfl) rfl <| OSuf.aop tyOK ag (zf (hv := fa_ok (k := 2) ty36 rfl rfl ty4 rfl rfl)) rfl <| OSuf.aopT tyOK ag (zl (hv := by simp (disch := first | assumption | omega | (simp only [nx] <;> omega) | fail) only [aLoad, ty4, rowOf, hpl, Value.cells, rowV, zr, zr4, zt4, zt5, zt7, zt8, zx4, zx5, zx6, zv2, zv4, zv7, zv8, zn8, e4, e4', e5, e7, Option.map_some, cond_true, hh, Option.getD_some, Option.isSome_some] <;> rfl)) (fun _ => rfl) (hh) <| OSuf.aopF tyOK ag (so_not (by simp only [lk] <;> rfl)) (fun _ => rfl) rfl <| OSuf.aopF tyOK rfl (so_pick (by simp only [lk] <;> rfl) (by simp only [lk, cond_true, cond_false] <;> rfl)) (fun _ => rfl) rfl <| OSuf.nil <| SQ.normal ?_
        refine W.no (by simp only [lk] <;> rfl) <| CWp.skip <| SQ.normal ?_
        refine W.seq <| W.reg <| OSuf.aop tyOK rfl (so_makeFunc rfl (by simp only [aopnds, lk] <;> rfl) (by simp only [aopnds, lk] <;> rfl)) rfl <| OSuf.aop tyOK rfl za rfl <| OSuf.nil <| SQ.normal ?_
        refine W.seq <| W.reg <| OSuf.aop tyOK rfl (so_makeFunc rfl (by simp only [aopnds, lk] <;> rfl) (by simp only [aopnds, lk] <;> rfl)) rfl <| OSuf.aop tyOK rfl za rfl <| OSuf.nil <| SQ.normal ?_
        refine W.seq <| W.reg <| OSuf.aop tyOK rfl (so_makeFunc rfl (by simp only [aopnds, lk] <;> rfl) (by simp only [aopnds, lk] <;> rfl)) rfl <| OSuf.aop tyOK rfl za rfl <| OSuf.nil <| SQ.normal ?_
        refine W.seq <| W.seq <| W.reg <| OSuf.aop tyOK rfl sm rfl <| OSuf.aop tyOK rfl sm rfl <| OSuf.aop tyOK rfl sm rfl <| OSuf.aop tyOK rfl (so_buildSlice (by simp only [aparts, lk] <;> rfl) (by simp only [aBuildSlice, ty123, ty50, Value.cells, places, tb7, rowV, zr, zr4, zt4, zt5, zt7, zt8, zx4, zx5, zx6, zv2, zv4, zv7, zv8, zn8, e4, e4', e5, e7, cond_true, hh, Option.getD_some, Option.isSome_some] <;> rfl)) rfl <| OSuf.callD rfl (by simp only [aopnds, lk] <;> rfl) en26 (hany) rfl <| OSuf.nil <| SQ.normal ?_
        refine W.no (by simp only [lk] <;> rfl) <| CWp.skip <| SQ.normal ?_
        refine W.seq <| W.reg <| OSuf.aop tyOK rfl (zf (hv := fa_ok (k := 3) ty36 rfl rfl ty34 rfl rfl)) rfl <| OSuf.aop tyOK rfl (zl (hv := by simp (disch := first | assumption | omega | (simp only [nx] <;> omega) | fail) only [aLoad, ty34, rowOf, hpl, Value.cells, rowV, zr, zr4, zt4, zt5, zt7, zt8, zx4, zx5, zx6, zv2, zv4, zv7, zv8, zn8, e4, e4', e5, e7, Option.map_some, cond_true, hh, Option.getD_some, Option.isSome_some] <;> rfl)) rfl <| OSuf.aop tyOK rfl (zl (hv := by simp (disch := first | assumption | omega | (simp only [nx] <;> omega) | fail) only [aLoad, ty27, rowOf, hpl, Value.cells, rowV, zr, zr4, zt4, zt5, zt7, zt8, zx4, zx5, zx6, zv2, zv4, zv7, zv8, zn8, e4, e4', e5, e7, Option.map_some, cond_true, hh, Option.getD_some, Option.isSome_some] <;> rfl)) rfl <| OSuf.aop tyOK rfl (zf (hv := fa_ok (k := 2) ty33 rfl rfl ty4 rfl rfl)) rfl <| OSuf.aop tyOK rfl (zl (hv := by simp (disch := first | assumption | omega | (simp only [nx] <;> omega) | fail) only [aLoad, ty4, rowOf, hpl, Value.cells, rowV, zr, zr4, zt4, zt5, zt7, zt8, zx4, zx5, zx6, zv2, zv4, zv7, zv8, zn8, e4, e4', e5, e7, Option.map_some, cond_true, hh, Option.getD_some, Option.isSome_some] <;> rfl)) rfl <| OSuf.aop tyOK rfl (zf (hv := fa_ok (k := 3) ty33 rfl rfl ty9 rfl rfl)) rfl <| OSuf.aop tyOK rfl (zl (hv := by simp (disch := first | assumption | omega | (simp only [nx] <;> omega) | fail) only [aLoad, ty9, rowOf, hpl, Value.cells, rowV, zr, zr4, zt4, zt5, zt7, zt8, zx4, zx5, zx6, zv2, zv4, zv7, zv8, zn8, e4, e4', e5, e7, Option.map_some, cond_true, hh, Option.getD_some, Option.isSome_some] <;> rfl)) rfl <| OSuf.aop tyOK rfl (so_build (by simp only [aparts, lk] <;> rfl) (by simp only [aBuild, ty49, Value.cells, places, tb7, rowV, zr, zr4, zt4, zt5, zt7, zt8, zx4, zx5, zx6, zv2, zv4, zv7, zv8, zn8, e4, e4', e5, e7, cond_true, hh, Option.getD_some, Option.isSome_some] <;> rfl)) rfl <| OSuf.callD rfl (by simp only [aopnds, lk] <;> rfl) en27 (p1) rfl <| OSuf.aop tyOK rfl sm rfl <| OSuf.aop tyOK rfl (ze (hv := by simp (disch := first | assumption | omega | (simp only [nx] <;> omega) | fail) only [aExtract, hpl, Value.cells, places, tb7, rowV, zr, zr4, zt4, zt5, zt7, zt8, zx4, zx5, zx6, zv2, zv4, zv7, zv8, zn8, e4, e4', e5, e7, cond_true, hh, Option.getD_some, Option.isSome_some] <;> rfl)) rfl <| OSuf.aop tyOK rfl (ze (hv := by simp (disch := first | assumption | omega | (simp only [nx] <;> omega) | fail) only [aExtract, hpl, Value.cells, places, tb7, rowV, zr, zr4, zt4, zt5, zt7, zt8, zx4, zx5, zx6, zv2, zv4, zv7, zv8, zn8, e4, e4', e5, e7, cond_true, hh, Option.getD_some, Option.isSome_some] <;> rfl)) rfl <| OSuf.aop tyOK rfl za rfl <| OSuf.aop tyOK rfl za rfl <| OSuf.nil <| SQ.normal ?_
        refine W.seq <| W.seq <| W.reg <| OSuf.aop tyOK rfl sm rfl <| OSuf.aopF tyOK rfl (zb (hv := bi_neq)) (fun _ => rfl) (by first | rfl | assumption | ((simp only [bl, Value.cells, places, tb7, rowV, zr, zr4, zt4, zt5, zt7, zt8, zx4, zx5, zx6, zv2, zv4, zv7, zv8, zn8, e4, e4', e5, e7, Option.map_some, cond_true, hh, Option.getD_some, Option.isSome_some]) <;> first | done | assumption | omega) | (simp; done) | (simp; omega)) <| OSuf.nil <| SQ.normal ?_
        refine W.no (by simp only [lk] <;> rfl) <| CWp.skip <| SQ.normal ?_
        refine W.seq <| W.reg <| OSuf.aop tyOK rfl sm rfl <| OSuf.aop tyOK rfl (zf (hv := fa_ok (k := 3) ty36 rfl rfl ty34 rfl rfl)) rfl <| OSuf.aop tyOK rfl (zs (hv := by simp (disch := first | assumption | omega | (simp only [nx] <;> omega) | fail) only [aStore, ty34, writeRow, hpl, Value.cells, rowV, zr, zr4, zt4, zt5, zt7, zt8, zx4, zx5, zx6, zv2, zv4, zv7, zv8, zn8, e4, e4', e5, e7, Option.map_some, cond_true, hh, Option.getD_some, Option.isSome_some] <;> rfl)) rfl <| OSuf.nil <| SQ.normal ?_
        refine W.seq <| W.reg <| OSuf.aop tyOK rfl sm rfl <| OSuf.aop tyOK rfl (zl (hv := by simp (disch := first | assumption | omega | (simp only [nx] <;> omega) | fail) only [aLoad, ty36, rowOf, hpl, Value.cells, rowV, zr, zr4, zt4, zt5, zt7, zt8, zx4, zx5, zx6, zv2, zv4, zv7, zv8, zn8, e4, e4', e5, e7, Option.map_some, cond_true, hh, Option.getD_some, Option.isSome_some] <;> rfl)) rfl <| OSuf.callD rfl (by simp only [aopnds, lk] <;> rfl) en11 (t1) rfl <| OSuf.nil <| SQ.normal ?_
        refine W.seq <| W.reg <| OSuf.aop tyOK rfl (so_build (by simp only [aparts, lk] <;> rfl) (by simp only [aBuild, ty29, Value.cells, places, tb7, rowV, zr, zr4, zt4, zt5, zt7, zt8, zx4, zx5, zx6, zv2, zv4, zv7, zv8, zn8, e4, e4', e5, e7, cond_true, hh, Option.getD_some, Option.isSome_some] <;> rfl)) rfl <| OSuf.aop tyOK rfl (so_alloc (by simp only [aAlloc, ty29] <;> rfl)) rfl <| OSuf.aop tyOK rfl (zs (hv := by simp (disch := first | assumption | omega | (simp only [nx] <;> omega) | fail) only [aStore, ty29, writeRow, hpl, Value.cells, rowV, zr, zr4, zt4, zt5, zt7, zt8, zx4, zx5, zx6, zv2, zv4, zv7, zv8, zn8, e4, e4', e5, e7, Option.map_some, cond_true, hh, Option.getD_some, Option.isSome_some] <;> rfl)) rfl <| OSuf.nil <| SQ.normal ?_
        refine W.seq <| W.seq <| W.reg <| OSuf.aop tyOK rfl sm rfl <| OSuf.aop tyOK rfl (zl (hv := by simp (disch := first | assumption | omega | (simp only [nx] <;> omega) | fail) only [aLoad, ty27, rowOf, hpl, Value.cells, rowV, zr, zr4, zt4, zt5, zt7, zt8, zx4, zx5, zx6, zv2, zv4, zv7, zv8, zn8, e4, e4', e5, e7, Option.map_some, cond_true, hh, Option.getD_some, Option.isSome_some] <;> rfl)) rfl <| OSuf.callD rfl (by simp only [aopnds, lk] <;> rfl) en28 (hbel) rfl <| OSuf.aop tyOK rfl sm rfl <| OSuf.aop tyOK rfl (ze (hv := by simp (disch := first | assumption | omega | (simp only [nx] <;> omega) | fail) only [aExtract, hpl, Value.cells, places, tb7, rowV, zr, zr4, zt4, zt5, zt7, zt8, zx4, zx5, zx6, zv2, zv4, zv7, zv8, zn8, e4, e4', e5, e7, cond_true, hh, Option.getD_some, Option.isSome_some] <;> rfl)) rfl <| OSuf.aopT tyOK rfl (ze (hv := by simp (disch := first | assumption | omega | (simp only [nx] <;> omega) | fail) only [aExtract, hpl, Value.cells, places, tb7, rowV, zr, zr4, zt4, zt5, zt7, zt8, zx4, zx5, zx6, zv2, zv4, zv7, zv8, zn8, e4, e4', e5, e7, cond_true, hh, Option.getD_some, Option.isSome_some] <;> rfl)) (fun _ => rfl) (by first | rfl | assumption | ((simp only [bl, Value.cells, places, tb7, rowV, zr, zr4, zt4, zt5, zt7, zt8, zx4, zx5, zx6, zv2, zv4, zv7, zv8, zn8, e4, e4', e5, e7, Option.map_some, cond_true, hh, Option.getD_some, Option.isSome_some]) <;> first | done | assumption | omega) | (simp; done) | (simp; omega)) <| OSuf.aop tyOK rfl (so_alloc (by simp only [aAlloc, ty49] <;> rfl)) rfl <| OSuf.aop tyOK rfl (zs (hv := by simp (disch := first | assumption | omega | (simp only [nx] <;> omega) | fail) only [aStore, ty49, writeRow, hpl, Value.cells, rowV, zr, zr4, zt4, zt5, zt7, zt8, zx4, zx5, zx6, zv2, zv4, zv7, zv8, zn8, e4, e4', e5, e7, Option.map_some, cond_true, hh, Option.getD_some, Option.isSome_some] <;> rfl)) rfl <| OSuf.aopT tyOK rfl za (fun _ => rfl) rfl <| OSuf.nil <| SQ.normal ?_
        refine W.seq <| W.reg <| OSuf.aopT tyOK rfl sm (fun _ => rfl) rfl <| OSuf.aopT tyOK rfl sm (fun _ => rfl) rfl <| OSuf.aop tyOK ag (zl (hv := by simp (disch := first | assumption | omega | (simp only [nx] <;> omega) | fail) only [aLoad, ty49, rowOf, hpl, Value.cells, rowV, zr, zr4, zt4, zt5, zt7, zt8, zx4, zx5, zx6, zv2, zv4, zv7, zv8, zn8, e4, e4', e5, e7, Option.map_some, cond_true, hh, Option.getD_some, Option.isSome_some] <;> rfl)) rfl <| OSuf.callD ag (by simp only [aopnds, lk] <;> rfl) en29 (hop _) rfl <| OSuf.aopF tyOK rfl (so_pick (by simp only [lk] <;> rfl) (by simp only [lk, cond_true, cond_false] <;> rfl)) (fun _ => rfl) rfl <| OSuf.nil <| SQ.normal ?_
        refine W.no (by simp only [lk] <;> rfl) <| CWp.skip <| SQ.normal ?_
        refine W.seq <| W.reg <| OSuf.aop tyOK rfl (zl (hv := by simp (disch := first | assumption | omega | (simp only [nx] <;> omega) | fail) only [aLoad, ty29, rowOf, hpl, Value.cells, rowV, zr, zr4, zt4, zt5, zt7, zt8, zx4, zx5, zx6, zv2, zv4, zv7, zv8, zn8, e4, e4', e5, e7, Option.map_some, cond_true, hh, Option.getD_some, Option.isSome_some] <;> rfl)) rfl <| OSuf.aop tyOK rfl (zs (hv := by simp (disch := first | assumption | omega | (simp only [nx] <;> omega) | fail) only [aStore, ty29, writeRow, hpl, Value.cells, rowV, zr, zr4, zt4, zt5, zt7, zt8, zx4, zx5, zx6, zv2, zv4, zv7, zv8, zn8, e4, e4', e5, e7, Option.map_some, cond_true, hh, Option.getD_some, Option.isSome_some] <;> rfl)) rfl <| OSuf.nil <| SQ.normal ?_
        refine CWp.ret <| FQ.ret (by simp (disch := first | assumption | omega | (simp only [nx] <;> omega) | fail) only [aRet, Tryz.f7, aResults, aResult, lk, Nat.reduceEqDiff, reduceIte, aLoad, rowOf, hpl, Value.cells, places, tb7, rowV, zr, zr4, zt4, zt5, zt7, zt8, zx4, zx5, zx6, zv2, zv4, zv7, zv8, zn8, e4, e4', e5, e7, Option.map_some, cond_true, hh, Option.getD_some, Option.isSome_some] <;> rfl) ?_
        -- leaf: end
        exact ⟨rfl, rfl⟩
      · have q : ¬ h.next + 3 = z := fun e => hzn e.symm
        simp (disch := first | assumption | omega | (simp only [nx] <;> omega) | fail) only [hpl]; exact o8 z hz
end Go.Proofs.YtjenbiohcecfnaaGreat
