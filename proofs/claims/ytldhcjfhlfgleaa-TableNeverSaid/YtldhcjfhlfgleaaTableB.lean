/-
  Contracts of the package table: going through a chain; find.
-/
import Derived.Test.YtldhcjfhlfgleaaTableA
namespace Go.Proofs.Ytldhcjfhlfgleaa
open Go.Ab
set_option linter.unusedSimpArgs false
set_option linter.unusedVariables false
set_option maxRecDepth 10000
set_option maxHeartbeats 4000000

theorem str_eq (x y : List UInt8) : ((ByteArray.toList ⟨⟨x⟩⟩) == (ByteArray.toList ⟨⟨y⟩⟩)) = decide (x = y) := by
  rw [ByteArray.toList_eq, ByteArray.toList_eq, Bool.eq_iff_iff]; simp
theorem Chn.mono {h h' : AHeap} : ∀ {c : List Lk}, Chn h c → h.next ≤ h'.next → (∀ l ∈ c, h'.get l.row = h.get l.row) → Chn h' c
  | [], _, _, _ => trivial
  | l :: c, ⟨h1, h2, h3⟩, hn, hk => ⟨by omega, by rw [hk l List.mem_cons_self]; exact h2, h3.mono hn fun l hl => hk l (List.mem_cons_of_mem _ hl)⟩
theorem Chn.lt {h : AHeap} : ∀ {c : List Lk}, Chn h c → ∀ l ∈ c, l.row < h.next
  | l :: c, ⟨h1, h2, h3⟩, x, hx => by
    cases hx with
    | head => exact h1
    | tail _ hm => exact h3.lt x hm

theorem chn_get {h : AHeap} {l : Lk} {post : List Lk} : ∀ {pre : List Lk}, Chn h (pre ++ l :: post) → ∃ rest, h.get l.row = some (.cells [encS l.key, U64 l.rts, .bool l.here, l.vers, rest] 1)
  | [], ⟨_, h2, _⟩ => ⟨_, h2⟩
  | x :: pre, ⟨_, _, h3⟩ => chn_get h3
/-- A place behind some links of a chain. -/
def plc (p : Value) : List Lk → Value
  | [] => p
  | l :: c => plc (PA l.row 4) c
theorem plc_snoc (l : Lk) : ∀ (p : Value) (c : List Lk), plc p (c ++ [l]) = PA l.row 4
  | p, [] => rfl
  | p, x :: c => plc_snoc l _ c
theorem bv_plc {n : Nat} : ∀ {c : List Lk} {p : Value}, BV n p → (∀ l ∈ c, l.row < n) → BV n (plc p c)
  | [], p, h1, _ => h1
  | l :: c, p, _, h2 => bv_plc (c := c) (p := PA l.row 4) (bv_ptr (h2 l List.mem_cons_self)) fun x hx => h2 x (List.mem_cons_of_mem _ hx)
/-- What stands at a place. -/
def At (h : AHeap) (v : Value) (w : Value) : Prop := ∃ q o vs, v = PA q o ∧ q < h.next ∧ h.get q = some (.cells vs 1) ∧ vs[o]? = some w
theorem at_plc {h : AHeap} {post : List Lk} : ∀ {pre : List Lk} {p : Value}, At h p (headV (pre ++ post)) → Chn h (pre ++ post) → At h (plc p pre) (headV post)
  | [], p, h1, _ => h1
  | l :: pre, p, _, ⟨h2, h3, h4⟩ => at_plc (pre := pre) (p := PA l.row 4) ⟨l.row, 4, _, rfl, h2, h3, rfl⟩ h4
theorem at_mono {h h' : AHeap} {v w : Value} (ha : At h v w) (hn : h.next ≤ h'.next) (hk : ∀ z, z < h.next → h'.get z = h.get z) : At h' v w := by
  obtain ⟨q, o, vs, h1, h2, h3, h4⟩ := ha
  exact ⟨q, o, vs, h1, by omega, by rw [hk q h2]; exact h3, h4⟩

theorem places_c (h : AHeap) (s i : Nat) : FWp Try.prog 35 [PA s i] h fun u h' => u = .func (.func 39) #[] #[P0 h.next] ∧ h' = h.new (.cells [PA s i] 1) := by
  refine W.enter tyOK Try.func35 rfl rfl ?_
  simp only [entry]
  refine W.seq <| W.reg <| OSuf.aop tyOK rfl (so_box (by simp only [lk] <;> rfl)) rfl <| OSuf.aop tyOK rfl (so_assign (by simp only [lk] <;> rfl)) rfl <| OSuf.nil <| SQ.normal ?_
  refine W.seq <| W.reg <| OSuf.aop tyOK rfl (so_makeFunc rfl (by simp only [aopnds, lk] <;> rfl) (by simp only [aopnds, lk] <;> rfl)) rfl <| OSuf.aop tyOK rfl (so_assign (by simp only [lk] <;> rfl)) rfl <| OSuf.nil <| SQ.normal ?_
  refine CWp.ret <| FQ.ret (by simp only [aRet, Try.f35, aResults, aResult, lk, Nat.reduceEqDiff, reduceIte] <;> rfl) ?_
  -- leaf: end
  exact ⟨rfl, rfl⟩

/-- A chain is gone through; what is asked at each link, and what comes of it. -/
theorem each_c (h : AHeap) (s i q : Nat) (yv : Value) (J : List Lk → AHeap → Prop) (R : AHeap → Prop) (full : List Lk) (hq : h.get q = some (.cells [PA s i] 1))
    (hJ : J [] h) (hc : ∀ pre g, J pre g → ∀ p c, p ++ c = full → At g (plc (PA s i) p) (headV c))
    (yield : ∀ pre l post g, pre ++ l :: post = full → J pre g → VWp Try.prog yv [plc (PA s i) pre] g (fun u g' => u = .bool true ∧ J (pre ++ [l]) g') ∨ VWp Try.prog yv [plc (PA s i) pre] g (fun u g' => u = .bool false ∧ R g'))
    (hend : ∀ g, J full g → R g) : FWp Try.prog 39 [yv, P0 q] h fun u h' => u = .tuple #[] ∧ R h' := by
  refine W.enter tyOK Try.func39 rfl rfl ?_
  simp only [entry]
  refine W.seq <| W.reg <| OSuf.aop tyOK rfl (so_load (by simp only [lk] <;> rfl) (by simp (disch := first | assumption | omega | (simp only [nx] <;> omega) | fail) only [aLoad, ty68, rowOf, hpl, hq] <;> rfl)) rfl <| OSuf.aop tyOK rfl (so_assign (by simp only [lk] <;> rfl)) rfl <| OSuf.nil <| SQ.normal ?_
  -- leaf: loop
  refine W.cut (fun L h' => R h' ∧ L = []) (W.block (W.loop (fun m L h' => ∃ pre post, pre ++ post = full ∧ m = post.length ∧ J pre h' ∧ L = [(0, yv), (3, plc (PA s i) pre)]) (n := full.length) ⟨[], full, rfl, rfl, hJ, rfl⟩ ?_ ?_)) ?_
  · simp [HasA, Tr.get_put, plc]
  · rintro m L g ⟨pre, post, hfull, rfl, hj, rfl⟩
    simp only [mkA]
    obtain ⟨z, o, vs, e1, e2, e3, e4⟩ := hc pre g hj pre post hfull
    rw [e1]
    cases post with
    | nil =>
      have e4' : vs[o]? = some (.pointer none) := e4
      refine W.seq <| W.seq <| W.reg <| OSuf.aop tyOK rfl sm rfl <| OSuf.aop tyOK rfl (so_nilCheck (by simp only [lk] <;> rfl)) rfl <| OSuf.aop tyOK rfl (so_load (by simp only [lk] <;> rfl) (by simp (disch := first | assumption | omega | (simp only [nx] <;> omega) | fail) only [aLoad, ty70, rowOf, hpl, e3, e4'] <;> rfl)) rfl <| OSuf.aopF tyOK rfl (so_bin (by simp only [lk] <;> rfl) (by simp only [lk] <;> rfl) (bi_nnil0 tyOK ⟨_, _, ty70, rfl⟩)) (fun _ => rfl) rfl <| OSuf.nil <| SQ.normal ?_
      refine W.no (by simp only [lk] <;> rfl) <| CWp.exit <| SQ.exit <| LQ.exit <| BQ.exit <| ?_
      -- leaf: cut
      refine NQ.normal (L := []) trivial ⟨hend _ ?_, rfl⟩
      rw [← hfull, List.append_nil]; exact hj
    | cons l post =>
      have e4' : vs[o]? = some (P0 l.row) := e4
      have hy := yield pre l post g hfull hj
      rw [e1] at hy
      rcases hy with hy | hy
      · refine W.seq <| W.seq <| W.reg <| OSuf.aop tyOK rfl sm rfl <| OSuf.aop tyOK rfl (so_nilCheck (by simp only [lk] <;> rfl)) rfl <| OSuf.aop tyOK rfl (so_load (by simp only [lk] <;> rfl) (by simp (disch := first | assumption | omega | (simp only [nx] <;> omega) | fail) only [aLoad, ty70, rowOf, hpl, e3, e4'] <;> rfl)) rfl <| OSuf.aopT tyOK rfl (so_bin (by simp only [lk] <;> rfl) (by simp only [lk] <;> rfl) (bi_nnil ⟨_, _, ty70, rfl⟩)) (fun _ => rfl) rfl <| OSuf.nil <| SQ.normal ?_
        refine W.yes (by simp only [lk] <;> rfl) <| CWp.skip <| SQ.normal ?_
        refine W.seq <| W.block <| W.seq <| W.reg <| OSuf.aop tyOK rfl sm rfl <| OSuf.aop tyOK rfl sm rfl <| OSuf.vcall rfl (by simp only [lk] <;> rfl) (by simp only [aopnds, lk] <;> rfl) (hy) ?_
        rintro u g' ⟨rfl, hj'⟩
        obtain ⟨z', o', vs', f1, f2, f3, f4⟩ := hc _ g' hj' pre (l :: post) hfull
        obtain ⟨rfl, rfl⟩ : z' = z ∧ o' = o := by (rw [e1] at f1; cases f1; exact ⟨rfl, rfl⟩)
        have f4' : vs'[o']? = some (P0 l.row) := f4
        refine ⟨_, rfl, ?_⟩
        refine OSuf.aopF tyOK rfl (so_not (by simp only [lk] <;> rfl)) (fun _ => rfl) rfl <| OSuf.nil <| SQ.normal ?_
        refine W.no (by simp only [lk] <;> rfl) <| CWp.skip <| BQ.normal <| SQ.normal ?_
        refine W.reg <| OSuf.aop tyOK rfl sm rfl <| OSuf.aop tyOK rfl (so_nilCheck (by simp only [lk] <;> rfl)) rfl <| OSuf.aop tyOK rfl (so_load (by simp only [lk] <;> rfl) (by simp (disch := first | assumption | omega | (simp only [nx] <;> omega) | fail) only [aLoad, ty70, rowOf, hpl, e3, e4', f3, f4'] <;> rfl)) rfl <| OSuf.aop tyOK rfl (so_nilCheck (by simp only [lk] <;> rfl)) rfl <| OSuf.aop tyOK rfl (so_fieldAddr (by simp only [lk] <;> rfl) (fa_ok (k := 4) ty72 rfl rfl ty70 rfl rfl)) rfl <| OSuf.aop tyOK rfl (so_assign (by simp only [lk] <;> rfl)) rfl <| OSuf.nil <| ?_
        -- leaf: round
        refine LQ.normal (m := post.length) (L := [(0, yv), (3, plc (PA s i) (pre ++ [l]))]) (by simp) ?_ ⟨pre ++ [l], post, by simpa using hfull, rfl, hj', rfl⟩
        rw [plc_snoc]
        simp only [HasA, Tr.get_put, Nat.reduceEqDiff, reduceIte, and_self]
      · refine W.seq <| W.seq <| W.reg <| OSuf.aop tyOK rfl sm rfl <| OSuf.aop tyOK rfl (so_nilCheck (by simp only [lk] <;> rfl)) rfl <| OSuf.aop tyOK rfl (so_load (by simp only [lk] <;> rfl) (by simp (disch := first | assumption | omega | (simp only [nx] <;> omega) | fail) only [aLoad, ty70, rowOf, hpl, e3, e4'] <;> rfl)) rfl <| OSuf.aopT tyOK rfl (so_bin (by simp only [lk] <;> rfl) (by simp only [lk] <;> rfl) (bi_nnil ⟨_, _, ty70, rfl⟩)) (fun _ => rfl) rfl <| OSuf.nil <| SQ.normal ?_
        refine W.yes (by simp only [lk] <;> rfl) <| CWp.skip <| SQ.normal ?_
        refine W.seq <| W.block <| W.seq <| W.reg <| OSuf.aop tyOK rfl sm rfl <| OSuf.aop tyOK rfl sm rfl <| OSuf.vcall rfl (by simp only [lk] <;> rfl) (by simp only [aopnds, lk] <;> rfl) (hy) ?_
        rintro u g' ⟨rfl, hr⟩
        refine ⟨_, rfl, ?_⟩
        refine OSuf.aopT tyOK rfl (so_not (by simp only [lk] <;> rfl)) (fun _ => rfl) rfl <| OSuf.nil <| SQ.normal ?_
        refine W.yes (by simp only [lk] <;> rfl) <| CWp.ret <| BQ.ret <| SQ.ret <| LQ.ret <| BQ.ret <| NQ.ret <| FQ.ret (by simp only [aRet, Try.f39, aResults, aResult, lk, Nat.reduceEqDiff, reduceIte] <;> rfl) ?_
        -- leaf: end
        exact ⟨rfl, hr⟩
  rintro L a' h' ha ⟨hr, rfl⟩
  exact FQ.normal (by simp only [aRet, Try.f39, aResults] <;> rfl) ⟨rfl, hr⟩

/-! Find. -/
structure FG (h0 g : AHeap) (s i : Nat) (k : List UInt8) (LP : ALoop) : Prop where
  next : g.next = h0.next + 4
  kk : g.get h0.next = some (.cells [encS k] 1)
  out : g.get (h0.next + 1) = some (.cells [.pointer none] 1)
  loop : g.get (h0.next + 3) = some (.loop LP)
  old : ∀ z, z < h0.next → g.get z = h0.get z
structure FE (h0 g : AHeap) (u : Value) (LP : ALoop) : Prop where
  next : g.next = h0.next + 4
  out : g.get (h0.next + 1) = some (.cells [u] 1)
  loop : g.get (h0.next + 3) = some (.loop (LP.with .done (some .ret)))
  old : ∀ z, z < h0.next → g.get z = h0.get z
theorem split_eq {k : List UInt8} : ∀ {p q : List Lk} {l m : Lk} {a b : List Lk}, p ++ l :: a = q ++ m :: b → (∀ x ∈ p, ¬ x.key = k) → (∀ x ∈ q, ¬ x.key = k) → l.key = k → m.key = k → p = q
  | [], [], _, _, _, _, _, _, _, _, _ => rfl
  | [], y :: q, l, m, a, b, e, h1, h2, h3, h4 => by simp at e; exact absurd (by rw [← e.1]; exact h3) (h2 y List.mem_cons_self)
  | x :: p, [], l, m, a, b, e, h1, h2, h3, h4 => by simp at e; exact absurd (by rw [e.1]; exact h4) (h1 x List.mem_cons_self)
  | x :: p, y :: q, l, m, a, b, e, h1, h2, h3, h4 => by
    simp at e
    rw [e.1, split_eq e.2 (fun z hz => h1 z (List.mem_cons_of_mem _ hz)) (fun z hz => h2 z (List.mem_cons_of_mem _ hz)) h3 h4]
theorem find_g (h : AHeap) (r : Nat) (fl : Int) (M : TM) (hA : TA h r fl M) (k : List UInt8) (hk : k.length < 9223372036854775807) (c : List Lk) (hc : M.ch[ix k M.n]? = some c) (u : Value) (hu : BV h.next u)
    (hu' : (u = .pointer none ∧ ∀ l ∈ c, ¬ l.key = k) ∨ ∃ pre l post, c = pre ++ l :: post ∧ (∀ x ∈ pre, ¬ x.key = k) ∧ l.key = k ∧ u = plc (PA M.s (ix k M.n)) pre) :
    FWp Try.prog 24 [P0 r, encS k] h fun v h' => v = u ∧ h' = h := by
  have hrow := hA.row
  have hl := hA.lt
  have hsl := hA.slt
  have hcc : Chn h c := hA.chn c (List.mem_of_getElem? hc)
  have at0 : At h (PA M.s (ix k M.n)) (headV c) := ⟨_, _, _, rfl, hsl, hA.srow, by simp [hc]⟩
  have hAll : ∀ p q, p ++ q = c → At h (plc (PA M.s (ix k M.n)) p) (headV q) := fun p q e => at_plc (by rw [e]; exact at0) (by rw [e]; exact hcc)
  refine FWp.gcs hu (W.enter tyOK Try.func24 rfl rfl ?_)
  simp only [entry]
  have hsc := slice_c ((h.new (.cells [encS k] 1)).new (.cells [.pointer none] 1)) r M.s M.n (U64 fl) (I64 M.all.length) k (by simp; omega) (by simp; omega) hA.pos hA.small hk (by simp (disch := first | assumption | omega | (simp only [nx] <;> omega) | fail) only [hpl]; exact hrow)
  refine W.seq <| W.reg <| OSuf.aop tyOK rfl (so_box (by simp only [lk] <;> rfl)) rfl <| OSuf.aop tyOK rfl (so_alloc (by simp only [aAlloc, ty68] <;> rfl)) rfl <| OSuf.nil <| SQ.normal ?_
  refine W.seq <| W.seq <| W.reg <| OSuf.aop tyOK rfl sm rfl <| OSuf.aop tyOK rfl (so_load (by simp only [lk] <;> rfl) (by simp (disch := first | assumption | omega | (simp only [nx] <;> omega) | fail) only [aLoad, ty9, rowOf, hpl, Value.cells] <;> rfl)) rfl <| OSuf.callD rfl (by simp only [aopnds, lk] <;> rfl) en30 (hsc) rfl <| OSuf.callD rfl (by simp only [aopnds, lk] <;> rfl) en35 (places_c _ _ _) rfl <| OSuf.nil <| SQ.normal ?_
  -- leaf: loop
  refine W.block (CWp.rangeFunc (by simp only [aopnd, Tr.get_put, Nat.reduceEqDiff, reduceIte] <;> rfl) (fun l hl => by cases hl) (VWp.func en39 ?_))
  show FWp _ _ [_, _] _ _
  generalize hLP : (ALoop.mk _ _ _ _ _ _ _ _) = LP
  have nxt : (((h.new (.cells [encS k] 1)).new (.cells [.pointer none] 1)).new (.cells [PA M.s (ix k M.n)] 1)).next = h.next + 3 := rfl
  have hG : FG h ((((h.new (.cells [encS k] 1)).new (.cells [.pointer none] 1)).new (.cells [PA M.s (ix k M.n)] 1)).new (.loop LP)) M.s (ix k M.n) k LP := by
    refine ⟨rfl, ?_, ?_, ?_, fun z hz => ?_⟩ <;> simp (disch := first | assumption | omega | (simp only [nx] <;> omega) | fail) only [hpl]
  have bEq : ∀ pre l post (g : AHeap), pre ++ l :: post = c → FG h g M.s (ix k M.n) k LP → l.key = k → VWp Try.prog (.func (.yield (h.next + 3)) #[] #[]) [plc (PA M.s (ix k M.n)) pre] g fun v g' =>
      v = .bool false ∧ FE h g' (plc (PA M.s (ix k M.n)) pre) LP := by
    intro pre l post g hp hg hkk
    obtain ⟨g1, g2, g3, g4, g5⟩ := hg
    have hl := g4
    rw [← hLP] at hl
    obtain ⟨z, o, vs, e1, e2, e3, e4⟩ := hAll pre (l :: post) hp
    have e3' : g.get z = some (.cells vs 1) := by rw [g5 z e2]; exact e3
    have e4' : vs[o]? = some (P0 l.row) := e4
    have hlr : l.row < h.next := hcc.lt l (by rw [← hp]; simp)
    have hlk : ∃ rest, g.get l.row = some (.cells [encS l.key, U64 l.rts, .bool l.here, l.vers, rest] 1) := by
      rw [g5 _ hlr]
      exact chn_get (by rw [hp]; exact hcc)
    obtain ⟨rest, hlk⟩ := hlk
    rw [e1]
    refine VWp.yield hl rfl ?_
    refine W.reg <| OSuf.aop tyOK rfl (so_assign (by simp only [lk] <;> rfl)) rfl <| OSuf.nil <| ?_
    -- leaf: stop
    refine ⟨rfl, _, hl, rfl, ?_⟩
    have hb : ((ByteArray.toList ⟨⟨l.key⟩⟩) == (ByteArray.toList ⟨⟨k⟩⟩)) = true := by rw [str_eq, hkk]; simp
    refine W.block <| W.seq <| W.regD tyOK mixed (by kernel_rfl) <| SqW.aop rfl sm rfl <| SqW.aop rfl (so_nilCheck (by simp only [lk] <;> rfl)) rfl <| SqW.aop rfl (so_load (by simp only [lk] <;> rfl) (by simp (disch := first | assumption | omega | (simp only [nx] <;> omega) | fail) only [aLoad, ty70, rowOf, hpl, e3', e4', hlk, g2, g3, Value.cells] <;> rfl)) rfl <| SqW.aop rfl (so_nilCheck (by simp only [lk] <;> rfl)) rfl <| SqW.aop rfl (so_fieldAddr (by simp only [lk] <;> rfl) (fa_ok (k := 0) ty72 rfl rfl ty39 rfl rfl)) rfl <| SqW.aop rfl (so_fieldAddr (by simp only [lk] <;> rfl) (fa_ok (k := 0) ty39 rfl rfl ty9 rfl rfl)) rfl <| SqW.aop rfl (so_load (by simp only [lk] <;> rfl) (by simp (disch := first | assumption | omega | (simp only [nx] <;> omega) | fail) only [aLoad, ty9, rowOf, hpl, e3', e4', hlk, g2, g3, Value.cells] <;> rfl)) rfl <| SqW.aop rfl (so_load (by simp only [lk] <;> rfl) (by simp (disch := first | assumption | omega | (simp only [nx] <;> omega) | fail) only [aLoad, ty9, rowOf, hpl, e3', e4', hlk, g2, g3, Value.cells] <;> rfl)) rfl <| SqW.aopT rfl (so_bin (by simp only [lk] <;> rfl) (by simp only [lk] <;> rfl) bs_eql) (fun _ => rfl) (hb) <| SqW.nil <| SQ.normal ?_
    refine W.yes (by simp only [lk] <;> rfl) <| W.seq <| W.reg <| OSuf.aop tyOK rfl sm rfl <| OSuf.aop tyOK rfl (so_store (by simp only [lk] <;> rfl) (by simp only [lk] <;> rfl) (by simp (disch := first | assumption | omega | (simp only [nx] <;> omega) | fail) only [aStore, ty68, writeRow, hpl, e3', e4', hlk, g2, g3, Value.cells] <;> rfl)) rfl <| OSuf.nil <| SQ.normal ?_
    refine CWp.ret <| BQ.ret <| ?_
    -- leaf: stop
    refine ⟨_, by (simp (disch := first | assumption | omega | (simp only [nx] <;> omega) | fail) only [hpl]; rfl), rfl, ?_, ?_, ?_, fun z hz => ?_⟩
    · simp only [nx]; exact g1
    · simp (disch := first | assumption | omega | (simp only [nx] <;> omega) | fail) only [hpl]; rfl
    · rw [AHeap.get_set_same, ← hLP]; rfl
    · simp (disch := first | assumption | omega | (simp only [nx] <;> omega) | fail) only [hpl]; exact g5 z hz
  have bNe : ∀ pre l post (g : AHeap), pre ++ l :: post = c → FG h g M.s (ix k M.n) k LP → ¬ l.key = k → VWp Try.prog (.func (.yield (h.next + 3)) #[] #[]) [plc (PA M.s (ix k M.n)) pre] g fun v g' =>
      v = .bool true ∧ FG h g' M.s (ix k M.n) k LP := by
    intro pre l post g hp hg hkk
    obtain ⟨g1, g2, g3, g4, g5⟩ := hg
    have hl := g4
    rw [← hLP] at hl
    obtain ⟨z, o, vs, e1, e2, e3, e4⟩ := hAll pre (l :: post) hp
    have e3' : g.get z = some (.cells vs 1) := by rw [g5 z e2]; exact e3
    have e4' : vs[o]? = some (P0 l.row) := e4
    have hlr : l.row < h.next := hcc.lt l (by rw [← hp]; simp)
    have hlk : ∃ rest, g.get l.row = some (.cells [encS l.key, U64 l.rts, .bool l.here, l.vers, rest] 1) := by
      rw [g5 _ hlr]
      exact chn_get (by rw [hp]; exact hcc)
    obtain ⟨rest, hlk⟩ := hlk
    rw [e1]
    refine VWp.yield hl rfl ?_
    refine W.reg <| OSuf.aop tyOK rfl (so_assign (by simp only [lk] <;> rfl)) rfl <| OSuf.nil <| ?_
    -- leaf: stop
    refine ⟨rfl, _, hl, rfl, ?_⟩
    have hb : ((ByteArray.toList ⟨⟨l.key⟩⟩) == (ByteArray.toList ⟨⟨k⟩⟩)) = false := by rw [str_eq]; simp [hkk]
    refine W.block <| W.seq <| W.regD tyOK mixed (by kernel_rfl) <| SqW.aop rfl sm rfl <| SqW.aop rfl (so_nilCheck (by simp only [lk] <;> rfl)) rfl <| SqW.aop rfl (so_load (by simp only [lk] <;> rfl) (by simp (disch := first | assumption | omega | (simp only [nx] <;> omega) | fail) only [aLoad, ty70, rowOf, hpl, e3', e4', hlk, g2, g3, Value.cells] <;> rfl)) rfl <| SqW.aop rfl (so_nilCheck (by simp only [lk] <;> rfl)) rfl <| SqW.aop rfl (so_fieldAddr (by simp only [lk] <;> rfl) (fa_ok (k := 0) ty72 rfl rfl ty39 rfl rfl)) rfl <| SqW.aop rfl (so_fieldAddr (by simp only [lk] <;> rfl) (fa_ok (k := 0) ty39 rfl rfl ty9 rfl rfl)) rfl <| SqW.aop rfl (so_load (by simp only [lk] <;> rfl) (by simp (disch := first | assumption | omega | (simp only [nx] <;> omega) | fail) only [aLoad, ty9, rowOf, hpl, e3', e4', hlk, g2, g3, Value.cells] <;> rfl)) rfl <| SqW.aop rfl (so_load (by simp only [lk] <;> rfl) (by simp (disch := first | assumption | omega | (simp only [nx] <;> omega) | fail) only [aLoad, ty9, rowOf, hpl, e3', e4', hlk, g2, g3, Value.cells] <;> rfl)) rfl <| SqW.aopF rfl (so_bin (by simp only [lk] <;> rfl) (by simp only [lk] <;> rfl) bs_eql) (fun _ => rfl) (hb) <| SqW.nil <| SQ.normal ?_
    refine W.no (by simp only [lk] <;> rfl) <| CWp.skip <| BQ.normal <| ?_
    -- leaf: stop
    refine ⟨_, by (simp (disch := first | assumption | omega | (simp only [nx] <;> omega) | fail) only [hpl]; rfl), rfl, ?_, ?_, ?_, ?_, fun z hz => ?_⟩
    · simp only [nx]; exact g1
    · simp (disch := first | assumption | omega | (simp only [nx] <;> omega) | fail) only [hpl]; exact g2
    · simp (disch := first | assumption | omega | (simp only [nx] <;> omega) | fail) only [hpl]; exact g3
    · rw [AHeap.get_set_same, ← hLP]; rfl
    · simp (disch := first | assumption | omega | (simp only [nx] <;> omega) | fail) only [hpl]; exact g5 z hz
  have hbusy : (LP.state == .busy) = false := by rw [← hLP]; rfl
  have hjn : jumpExit LP.pending = some .normal := by rw [← hLP]; rfl
  clear hLP
  have hfin : ∀ g, FG h g M.s (ix k M.n) k LP → u = .pointer none ∨ ¬ u = .pointer none := fun _ _ => Classical.em _
  refine FWp.mono (K := fun v h2 => v = .tuple #[] ∧ ((u = .pointer none ∧ FG h h2 M.s (ix k M.n) k LP) ∨ FE h h2 u LP)) ?_ (fun v h2 hK => ?_)
  · have hq0 : ((((h.new (.cells [encS k] 1)).new (.cells [.pointer none] 1)).new (.cells [PA M.s (ix k M.n)] 1)).new (.loop LP)).get (h.next + 2) = some (.cells [PA M.s (ix k M.n)] 1) := by simp (disch := first | assumption | omega | (simp only [nx] <;> omega) | fail) only [hpl]
    refine each_c _ M.s (ix k M.n) (h.next + 2) _ (fun p g => FG h g M.s (ix k M.n) k LP ∧ ∀ l ∈ p, ¬ l.key = k) _ c hq0 ⟨hG, fun l hl => (List.not_mem_nil hl).elim⟩ (fun pre g hg p q e => at_mono (hAll p q e) (by have := hg.1.next; omega) (fun z hz => hg.1.old z hz)) ?_ ?_
    · rintro pre l post g hp ⟨hg, hpre⟩
      by_cases hkk : l.key = k
      · refine .inr ((bEq pre l post g hp hg hkk).mono ?_)
        rintro v g' ⟨rfl, hE⟩
        refine ⟨rfl, .inr ?_⟩
        rcases hu' with ⟨_, h0⟩ | ⟨pre', l', post', h1, h2, h3, h4⟩
        · exact absurd hkk (h0 l (by rw [← hp]; simp))
        · have : pre = pre' := split_eq (k := k) (by rw [hp, h1]) hpre h2 hkk h3
          rw [h4, ← this]; exact hE
      · refine .inl ((bNe pre l post g hp hg hkk).mono ?_)
        rintro v g' ⟨rfl, hE⟩
        refine ⟨rfl, hE, fun x hx => ?_⟩
        rcases List.mem_append.1 hx with h9 | h9
        · exact hpre x h9
        · simp at h9; subst h9; exact hkk
    · rintro g ⟨hg, hn⟩
      rcases hu' with ⟨h0, _⟩ | ⟨pre', l', post', h1, h2, h3, h4⟩
      · exact .inl ⟨h0, hg⟩
      · exact absurd h3 (hn l' (by rw [h1]; simp))
  · obtain ⟨rfl, ⟨rfl, hg⟩ | hE⟩ := hK
    · obtain ⟨g1, g2, g3, g4, g5⟩ := hg
      refine ⟨LP, .normal, g4, hbusy, hjn, ?_⟩
      refine BQ.normal <| SQ.normal ?_
      refine W.seq <| W.reg <| OSuf.aop tyOK rfl (so_store (by simp only [lk] <;> rfl) (by simp only [lk] <;> rfl) (by simp (disch := first | assumption | omega | (simp only [nx] <;> omega) | fail) only [aStore, ty68, writeRow, hpl, g3, Value.cells] <;> rfl)) rfl <| OSuf.nil <| SQ.normal ?_
      refine CWp.ret <| FQ.ret (by simp (disch := first | assumption | omega | (simp only [nx] <;> omega) | fail) only [aRet, Try.f24, aResults, aResult, lk, Nat.reduceEqDiff, reduceIte, aLoad, rowOf, hpl, g3, Value.cells] <;> rfl) ?_
      -- leaf: end
      refine ⟨rfl, fun z x hz hx => ?_⟩
      simp (disch := first | assumption | omega | (simp only [nx] <;> omega) | fail) only [hpl]; rw [g5 z hz]; exact hx
    · obtain ⟨g1, g3, g4, g5⟩ := hE
      refine ⟨_, .ret, g4, rfl, rfl, ?_⟩
      refine BQ.ret <| SQ.ret <| FQ.ret (by simp (disch := first | assumption | omega | (simp only [nx] <;> omega) | fail) only [aRet, Try.f24, aResults, aResult, lk, Nat.reduceEqDiff, reduceIte, aLoad, rowOf, hpl, g3] <;> rfl) ?_
      refine ⟨rfl, fun z x hz hx => ?_⟩
      simp (disch := first | assumption | omega | (simp only [nx] <;> omega) | fail) only [hpl]; rw [g5 z hz]; exact hx
theorem find_none (h : AHeap) (r : Nat) (fl : Int) (M : TM) (hA : TA h r fl M) (k : List UInt8) (hk : k.length < 9223372036854775807) (hn : ∀ l ∈ M.all, ¬ l.key = k) :
    FWp Try.prog 24 [P0 r, encS k] h fun v h' => v = .pointer none ∧ h' = h := by
  have hi : ix k M.n < M.ch.length := by rw [hA.len]; exact ix_lt k hA.pos
  obtain ⟨c, hc⟩ : ∃ c, M.ch[ix k M.n]? = some c := ⟨M.ch[ix k M.n], by simp [hi]⟩
  exact find_g h r fl M hA k hk c hc _ bv_ptr0 (.inl ⟨rfl, fun l hl => hn l (List.mem_flatten.2 ⟨c, List.mem_of_getElem? hc, hl⟩)⟩)
theorem find_some (h : AHeap) (r : Nat) (fl : Int) (M : TM) (hA : TA h r fl M) (k : List UInt8) (hk : k.length < 9223372036854775807) (c pre post : List Lk) (l : Lk) (hc : M.ch[ix k M.n]? = some c) (hp : c = pre ++ l :: post) (hpre : ∀ x ∈ pre, ¬ x.key = k) (hl : l.key = k) :
    FWp Try.prog 24 [P0 r, encS k] h fun v h' => v = plc (PA M.s (ix k M.n)) pre ∧ h' = h :=
  find_g h r fl M hA k hk c hc _ (bv_plc (bv_ptr hA.slt) fun x hx => (hA.chn c (List.mem_of_getElem? hc)).lt x (by rw [hp]; exact List.mem_append_left _ hx)) (.inr ⟨pre, l, post, hp, hpre, hl, rfl⟩)
end Go.Proofs.Ytldhcjfhlfgleaa
