/-
  Merged: OrdKeys, OrdS, OrdX.
-/
import Derived.Test.YtjenbiohcecfnaaGreatOrdR
import Derived.Test.YtjenbiohcecfnaaGreatSortN
import Derived.Test.YtjenbiohcecfnaaGreatOrdW
namespace Go.Proofs.YtjenbiohcecfnaaGreat
open Go.Ab Go.Sort
set_option linter.unusedSimpArgs false
set_option linter.unusedVariables false
set_option maxRecDepth 10000
set_option maxHeartbeats 8000000
def inR (lo hi k : List UInt8) : Bool := !ltStr k lo && (decide (hi = []) || ltStr k hi)
def keyF (lo hi : List UInt8) (l : List Lk) : List (List UInt8) := (l.map Lk.key).filter (inR lo hi)
def encL (l : List (List UInt8)) : List Value := l.map fun s => Value.string ⟨⟨s⟩⟩
structure KO (h g : AHeap) (lo hi : List UInt8) (ks : List (List UInt8)) : Prop where
  next : h.next + 3 ≤ g.next
  lo : g.get h.next = some (.cells [encS lo] 1)
  hi : g.get (h.next + 1) = some (.cells [encS hi] 1)
  out : ∃ v, g.get (h.next + 2) = some (.cells [v] 1) ∧ SV g 1 (h.next + 3) (encL ks) v
  old : ∀ z, z < h.next → g.get z = h.get z
theorem KO.mono {h g g' : AHeap} {lo hi : List UInt8} {ks : List (List UInt8)} (K : KO h g lo hi ks) (hn : g.next ≤ g'.next) (hk : ∀ z w, z < g.next → g.get z = some (.cells w 1) → g'.get z = g.get z) (ho : ∀ z, z < h.next → g'.get z = g.get z) : KO h g' lo hi ks := by
  obtain ⟨v, o1, o2⟩ := K.out
  have hnx := K.next
  refine ⟨by omega, by rw [hk _ _ (by omega) K.lo]; exact K.lo, by rw [hk _ _ (by omega) K.hi]; exact K.hi, ⟨v, by rw [hk _ _ (by omega) o1]; exact o1, o2.mono hn fun z hz hv => ?_⟩, fun z hz => by rw [ho z hz]; exact K.old z hz⟩
  obtain ⟨_, _, hg, _, _⟩ := o2.row hv
  exact hk z _ hz hg
theorem str_nil (x : List UInt8) : ((ByteArray.toList ⟨⟨x⟩⟩) == (ByteArray.toList ⟨#[]⟩)) = decide (x = []) := str_eq x []
structure KJ (h : AHeap) (lo hi : List UInt8) (ks : List (List UInt8)) (lr : Nat) (LP : ALoop) (pre : List Lk) (g : AHeap) : Prop where
  ko : KO h g lo hi (ks ++ keyF lo hi pre)
  lt : lr < g.next
  le : h.next + 3 ≤ lr
  loop : g.get lr = some (.loop LP)
theorem keyF_snoc (lo hi : List UInt8) (p : List Lk) (l : Lk) : keyF lo hi (p ++ [l]) = keyF lo hi p ++ (if inR lo hi l.key then [l.key] else []) := by
  simp only [keyF, List.map_append, List.filter_append, List.map_cons, List.map_nil, List.filter_cons, List.filter_nil]
theorem encL_append (a b : List (List UInt8)) : encL (a ++ b) = encL a ++ encL b := List.map_append
theorem keys_chain (h g : AHeap) (r : Nat) (fl : Int) (M : TM) (hA : TA h r fl M) (lo hi : List UInt8) (ks : List (List UInt8)) (K : KO h g lo hi ks) (i : Nat) (c : List Lk) (hc : M.ch[i]? = some c) (hsz : ks.length + c.length ≤ 1000000) (yv : Value) (q lr : Nat) (LP : ALoop)
    (hlr : lr < g.next) (hle : h.next + 3 ≤ lr) (hloop : g.get lr = some (.loop LP)) (hq : g.get q = some (.cells [PA M.s i] 1))
    (yield : ∀ pre l rest g (v : Value), KJ h lo hi ks lr LP pre g → At g (plc (PA M.s i) pre) (P0 l.row) → g.get l.row = some (.cells [encS l.key, U64 l.rts, .bool l.here, l.vers, rest] 1) → (ks ++ keyF lo hi pre).length ≤ 1000000 →
      VWp Tryz.prog yv [plc (PA M.s i) pre] g fun u g' => u = .bool true ∧ KJ h lo hi ks lr LP (pre ++ [l]) g') :
    FWp Tryz.prog 73 [yv, P0 q] g fun u h' => u = .tuple #[] ∧ KJ h lo hi ks lr LP c h' := by
  have hcm := List.mem_of_getElem? hc
  have hcc : Chn h c := hA.chn c hcm
  have at0 : At h (PA M.s i) (headV c) := ⟨_, _, _, rfl, hA.slt, hA.srow, by simp [hc]⟩
  have hAll : ∀ p q, p ++ q = c → At h (plc (PA M.s i) p) (headV q) := fun p q e => at_plc (by rw [e]; exact at0) (by rw [e]; exact hcc)
  have hpl : ∀ p q, p ++ q = c → p.length ≤ c.length := fun p q e => by rw [← e]; simp
  have hflt : ∀ p, (keyF lo hi p).length ≤ p.length := fun p => by
    have := List.length_filter_le (inR lo hi) (p.map Lk.key)
    simpa [keyF] using this
  refine each_c g M.s i q yv (fun pre g' => KJ h lo hi ks lr LP pre g') _ c hq ⟨by simpa [keyF] using K, hlr, hle, hloop⟩ (fun pre g' hg p c' e => at_mono (hAll p c' e) (by have := hg.ko.next; omega) hg.ko.old) ?_ (fun g' hg => hg)
  intro pre l post g' hp hg
  obtain ⟨rest, hr⟩ := chn_get (h := h) (l := l) (post := post) (pre := pre) (by rw [hp]; exact hcc)
  have hlt : l.row < h.next := hcc.lt l (by rw [← hp]; simp)
  refine .inl (yield pre l rest g' (.bool true) hg (at_mono (hAll pre (l :: post) hp) (by have := hg.ko.next; omega) hg.ko.old) (by rw [hg.ko.old _ hlt]; exact hr) ?_)
  have := hflt pre
  have := hpl pre (l :: post) hp
  simp; omega
theorem keys_all (h : AHeap) (r : Nat) (fl : Int) (M : TM) (hA : TA h r fl M) (lo hi : List UInt8) (hsz : M.all.length ≤ 12) :
    FWp Tryz.prog 33 [P0 r, encS lo, encS hi] h fun u h' => (∀ z, z < h.next → h'.get z = h.get z) ∧ ((keyF lo hi M.all = [] ∧ u = .slice none 0 0) ∨ (keyF lo hi M.all ≠ [] ∧ ∃ y, u = .slice (some ⟨y, 0, none⟩) (keyF lo hi M.all).length 0 ∧ h.next ≤ y ∧ h'.get y = some (.cells (encL (SortS.sortL (keyF lo hi M.all))) 1))) := by
  have tb33 := And.intro ty105 (And.intro ty107 (And.intro ty22 (And.intro ty36 (And.intro ty77 (And.intro ty79 (And.intro ty85 (ty9)))))))
  have hrow := hA.row
  have hl := hA.lt
  have hsl := hA.slt
  have hpos := hA.pos
  have hsm := hA.small
  have hlen := hA.len
  refine W.enter tyOK Tryz.func33 rfl rfl ?_
  simp only [entry]
  refine W.seq <| W.reg <| OSuf.aop tyOK rfl (so_box (by simp only [lk] <;> rfl)) rfl <| OSuf.aop tyOK rfl (so_box (by simp only [lk] <;> rfl)) rfl <| OSuf.aop tyOK rfl za rfl <| OSuf.nil <| SQ.normal ?_
  refine W.seq <| W.seq <| W.reg <| OSuf.aop tyOK rfl sm rfl <| OSuf.aopF tyOK rfl (zb (hv := bi_nil ⟨_, _, ty22, rfl⟩)) (fun _ => rfl) rfl <| OSuf.nil <| SQ.normal ?_
  refine W.no (by simp only [lk] <;> rfl) <| CWp.skip <| SQ.normal ?_
  refine W.seq <| W.reg <| OSuf.aop tyOK rfl (so_alloc (by simp only [aAlloc, ty85] <;> rfl)) rfl <| OSuf.nil <| SQ.normal ?_
  refine W.seq <| W.seq <| W.reg <| OSuf.aop tyOK rfl sm rfl <| OSuf.aop tyOK rfl (so_nilCheck (by simp only [lk] <;> rfl)) rfl <| OSuf.aop tyOK rfl (zf (hv := fa_ok (k := 0) ty107 rfl rfl ty105 rfl rfl)) rfl <| OSuf.aop tyOK rfl (zl (hv := by simp (disch := first | assumption | omega | (simp only [nx] <;> omega) | fail) only [aLoad, ty105, rowOf, hpl, Value.cells, hrow] <;> rfl)) rfl <| OSuf.aop tyOK rfl (so_len (by simp only [aopnds, lk] <;> rfl) (by simp (disch := first | assumption | omega | (simp only [nx] <;> omega) | fail) only [aLenOf, ty105, hpl, Value.cells, hrow] <;> rfl)) rfl <| OSuf.aop tyOK rfl sm rfl <| OSuf.nil <| SQ.normal ?_
  -- leaf: loop
  have hK0 : KO h (((h.new (.cells [encS lo] 1)).new (.cells [encS hi] 1)).new (.cells [.slice none 0 0] 1)) lo hi [] := by
    refine ⟨by simp, ?_, ?_, ⟨.slice none 0 0, ?_, .nil⟩, fun z hz => ?_⟩ <;> simp (disch := first | assumption | omega | (simp only [nx] <;> omega) | fail) only [hpl]
  refine W.cut (fun L h' => KO h h' lo hi (keyF lo hi M.all) ∧ L = [(7, P0 (h.next + 2))]) (W.block (W.loop (fun m L h' => ∃ i : Nat, m + i = M.n ∧ KO h h' lo hi (keyF lo hi (M.ch.take i).flatten) ∧ L = [(0, P0 r), (4, P0 h.next), (5, P0 (h.next + 1)), (7, P0 (h.next + 2)), (17, I64 M.n), (18, I64 i)]) (n := M.n) ⟨0, by omega, hK0, rfl⟩ ?_ ?_)) ?_
  · simp [HasA, Tr.get_put]
  · rintro m L g ⟨i, hi2, K, rfl⟩
    simp only [mkA]
    have w2 : IntKind.i64.wrap ((i : Int) + 1) = ((i + 1 : Nat) : Int) := by rw [wrap_i64 (by omega) (by omega)]; omega
    by_cases hlt : (i : Int) < (M.n : Int)
    · obtain ⟨c, hc⟩ : ∃ c, M.ch[i]? = some c := ⟨M.ch[i]'(by omega), by simp⟩
      have hcm := List.mem_of_getElem? hc
      have hcc : Chn h c := hA.chn c hcm
      have hrow2 : g.get r = _ := (K.old r hl).trans hrow
      have hb : (0 ≤ (i : Int) ∧ (i : Int) < (M.n : Int)) := by omega
      have hgn := K.next
      have htk : (M.ch.take (i + 1)).flatten = (M.ch.take i).flatten ++ c := by rw [List.take_add_one, hc]; simp
      have hflt : ∀ p, (keyF lo hi p).length ≤ p.length := fun p => by
        have := List.length_filter_le (inR lo hi) (p.map Lk.key)
        simpa [keyF] using this
      have hall : (M.ch.take i).flatten.length + c.length ≤ M.all.length := by
        have e1 : M.all = (M.ch.take (i + 1)).flatten ++ (M.ch.drop (i + 1)).flatten := by rw [TM.all, ← List.flatten_append, List.take_append_drop]
        rw [e1, htk]; simp <;> omega
      have hks : (keyF lo hi (M.ch.take i).flatten).length + c.length ≤ 1000000 := by have := hflt (M.ch.take i).flatten; omega
      refine W.seq <| W.reg <| OSuf.aopT tyOK rfl (zb (hv := bi_lss)) (fun _ => rfl) (by first | rfl | assumption | ((simp only [bl, hrow2, hb, sb]) <;> first | done | assumption | omega) | (simp; done) | (simp; omega)) <| OSuf.nil <| SQ.normal ?_
      refine W.seq <| W.yes (by simp only [lk] <;> rfl) <| CWp.skip <| SQ.normal ?_
      refine W.seq <| W.block <| W.seq <| W.reg <| OSuf.aop tyOK rfl sm rfl <| OSuf.aop tyOK rfl za rfl <| OSuf.nil <| SQ.normal ?_
      refine W.seq <| W.reg <| OSuf.aop tyOK rfl sm rfl <| OSuf.aop tyOK rfl (so_nilCheck (by simp only [lk] <;> rfl)) rfl <| OSuf.aop tyOK rfl (zf (hv := fa_ok (k := 0) ty107 rfl rfl ty105 rfl rfl)) rfl <| OSuf.aop tyOK rfl (zl (hv := by simp (disch := first | assumption | omega | (simp only [nx] <;> omega) | fail) only [aLoad, ty105, rowOf, hpl, hrow2, hb, sb] <;> rfl)) rfl <| OSuf.aop tyOK rfl sm rfl <| OSuf.aop tyOK rfl (zi (hv := by simp (disch := first | assumption | omega | (simp only [nx] <;> omega) | fail) only [aIndexAddr, ty105, ty77, hpl, hrow2, hb, sb] <;> rfl)) rfl <| OSuf.callD rfl (by simp only [aopnds, lk] <;> rfl) en58 (places_c _ _ _) rfl <| OSuf.nil <| SQ.normal ?_
      -- leaf: loop
      refine W.block (CWp.rangeFunc (by simp only [aopnd, Tr.get_put, Nat.reduceEqDiff, reduceIte] <;> rfl) (fun l hl => by cases hl) (VWp.func en73 ?_))
      show FWp _ _ [_, _] _ _
      generalize hLP : (ALoop.mk _ _ _ _ _ _ _ _) = LP
      have hbusy : (LP.state == .busy) = false := by rw [← hLP]; rfl
      have hjn : jumpExit LP.pending = some .normal := by rw [← hLP]; rfl
      have K2 : KO h ((g.new (.cells [PA M.s i] 1)).new (.loop LP)) lo hi (keyF lo hi (M.ch.take i).flatten) := K.mono (by simp; omega) (fun z w hz hg => by simp (disch := first | assumption | omega | (simp only [nx] <;> omega) | fail) only [hpl]) (fun z hz => by simp (disch := first | assumption | omega | (simp only [nx] <;> omega) | fail) only [hpl])
      refine FWp.mono (keys_chain h _ r fl M hA lo hi _ K2 i c hc hks _ g.next (g.next + 1) LP (by simp) (by omega) (by simp (disch := first | assumption | omega | (simp only [nx] <;> omega) | fail) only [hpl]) (by simp (disch := first | assumption | omega | (simp only [nx] <;> omega) | fail) only [hpl]) ?_) ?_
      · intro pre l rest g2 _ hJ hat hlk hlen2
        have hl := hJ.loop
        rw [← hLP] at hl
        obtain ⟨z, o, vs, e1, e2, e3, e4⟩ := hat
        have k1 := hJ.ko.lo
        have k2 := hJ.ko.hi
        obtain ⟨v, k3, k4⟩ := hJ.ko.out
        have kn := hJ.ko.next
        have klt := hJ.lt
        have kle := hJ.le
        rw [e1]
        refine VWp.yield hl rfl ?_
        refine W.reg <| OSuf.aop tyOK rfl za rfl <| OSuf.nil <| ?_
        -- leaf: stop
        refine ⟨rfl, _, hl, rfl, ?_⟩
        generalize hgb : AHeap.set g2 _ _ = gb
        have gbn : gb.next = g2.next := by rw [← hgb]; rfl
        have gbo : ∀ x, ¬ g.next + 1 = x → gb.get x = g2.get x := fun x hx => by rw [← hgb]; exact AHeap.get_set_ne hx
        have gbl0 := (congrArg (fun x => AHeap.get x (g.next + 1)) hgb).symm.trans (AHeap.get_set_same _ _ _)
        have gbl : gb.get (g.next + 1) = some (.loop (LP.with .busy none)) := by rw [← hLP]; exact gbl0
        clear gbl0 hgb
        have hLPr : (LP.with .busy none).with .ready none = LP := by rw [← hLP]; rfl
        clear hl
        have f1 : gb.get h.next = some (.cells [encS lo] 1) := by rw [gbo _ (by omega)]; exact k1
        have f2 : gb.get (h.next + 1) = some (.cells [encS hi] 1) := by rw [gbo _ (by omega)]; exact k2
        have f3 : gb.get (h.next + 2) = some (.cells [v] 1) := by rw [gbo _ (by omega)]; exact k3
        have nz : ¬ g.next + 1 = z := fun e => by (rw [← e, hJ.loop] at e3; cases e3)
        have nl : ¬ g.next + 1 = l.row := fun e => by (rw [← e, hJ.loop] at hlk; cases hlk)
        have f4 : gb.get z = some (.cells vs 1) := by rw [gbo _ nz]; exact e3
        have f5 : gb.get l.row = some (.cells [encS l.key, U64 l.rts, .bool l.here, l.vers, rest] 1) := by rw [gbo _ nl]; exact hlk
        have ldef : ∀ a b : List UInt8, Op.bytesLess (ByteArray.toList ⟨⟨a⟩⟩) (ByteArray.toList ⟨⟨b⟩⟩) = ltStr a b := str_lt
        have hout : inR lo hi l.key = false → ∃ lp2, gb.get (g.next + 1) = some (.loop lp2) ∧ Value.bool (roundEnd lp2 .normal).2 = .bool true ∧ KJ h lo hi (keyF lo hi (M.ch.take i).flatten) (g.next + 1) LP (pre ++ [l]) (gb.set (g.next + 1) (.loop (roundEnd lp2 .normal).1)) := fun hin => by
          refine ⟨_, gbl, rfl, ?_, by simp only [nx]; omega, kle, ?_⟩
          · rw [keyF_snoc, hin]
            simp only [Bool.false_eq_true, if_false, List.append_nil]
            refine hJ.ko.mono (by simp only [nx]; omega) (fun z w hz hg => ?_) (fun z hz => ?_)
            · have : ¬ g.next + 1 = z := fun e => by (rw [← e, hJ.loop] at hg; cases hg)
              rw [AHeap.get_set_ne this, gbo _ this]
            · rw [AHeap.get_set_ne (by omega), gbo _ (by omega)]
          · rw [AHeap.get_set_same]; exact congrArg (fun x => some (AObj.loop x)) hLPr
        have hvl : (encL (keyF lo hi (M.ch.take i).flatten ++ keyF lo hi pre)).length = vLen v * 1 := by obtain ⟨_, _, h9, _⟩ := k4.form; exact h9
        simp only [encL, List.length_map] at hvl
        have hsv : SV (gb.new (.cells [encS l.key] 1)) 1 (h.next + 3) (encL (keyF lo hi (M.ch.take i).flatten ++ keyF lo hi pre)) v := k4.mono (by simp only [nx]; omega) (fun z hz hv => by
          obtain ⟨_, _, hg9, _, _⟩ := k4.row hv
          have : ¬ g.next + 1 = z := fun e => by (rw [← e, hJ.loop] at hg9; cases hg9)
          rw [AHeap.get_new_ne (by omega), gbo _ this])
        obtain ⟨v2, h1, ap1, ap2, ap3, ap4, ap5, ap6, ap7⟩ := ap_any (k := 1) (x := .slice (some ⟨gb.next, 0, none⟩) 1 2) hsv rfl (B := [encS l.key]) (aCells_of (vs := [encS l.key]) (by simp only [rowOf, AHeap.get_new_same]) (Nat.le_refl _) rfl) rfl rfl (by omega) (by simp only [nx]; omega)
        simp only [nx] at ap3 ap4
        obtain ⟨b2, hv2, _, _⟩ := ap2.form
        obtain ⟨n2, hn2⟩ : ∃ n, n = vLen v2 := ⟨_, rfl⟩
        rw [← hn2] at hv2
        subst hv2
        have hvlo : ∀ z, svRow v = some z → h.next + 3 ≤ z ∧ ¬ g.next + 1 = z := fun z hv => by
          obtain ⟨h7, _, hg9, _, _⟩ := k4.row hv
          exact ⟨h7, fun e => by (rw [← e, hJ.loop] at hg9; cases hg9)⟩
        have q3 : h1.get (h.next + 2) = some (.cells [v] 1) := by
          rw [ap5 _ (by simp only [nx]; omega) (fun hv => by have := (hvlo _ hv).1; omega), AHeap.get_new_ne (by omega)]; exact f3
        have hin2 : inR lo hi l.key = true → ∃ lp2, (h1.set (h.next + 2) (.cells [.slice b2 n2 0] 1)).get (g.next + 1) = some (.loop lp2) ∧ Value.bool (roundEnd lp2 .normal).2 = .bool true ∧ KJ h lo hi (keyF lo hi (M.ch.take i).flatten) (g.next + 1) LP (pre ++ [l]) ((h1.set (h.next + 2) (.cells [.slice b2 n2 0] 1)).set (g.next + 1) (.loop (roundEnd lp2 .normal).1)) := fun hin => by
          have hl1 : h1.get (g.next + 1) = some (.loop (LP.with .busy none)) := by
            rw [ap5 _ (by simp only [nx]; omega) (fun hv => (hvlo _ hv).2 rfl), AHeap.get_new_ne (by omega)]; exact gbl
          have h1old : ∀ z, z < g2.next → ¬ g.next + 1 = z → ¬ svRow v = some z → h1.get z = g2.get z := fun z hz h2 h3 => by
            rw [ap5 _ (by simp only [nx]; omega) h3, AHeap.get_new_ne (by omega), gbo _ h2]
          refine ⟨_, by rw [AHeap.get_set_ne (by omega)]; exact hl1, rfl, ⟨by simp only [nx]; omega, ?_, ?_, ⟨.slice b2 n2 0, ?_, ?_⟩, fun z hz => ?_⟩, by simp only [nx]; omega, kle, ?_⟩
          · rw [AHeap.get_set_ne (by omega), AHeap.get_set_ne (by omega), h1old _ (by omega) (by omega) (fun hv => by have := (hvlo _ hv).1; omega)]; exact k1
          · rw [AHeap.get_set_ne (by omega), AHeap.get_set_ne (by omega), h1old _ (by omega) (by omega) (fun hv => by have := (hvlo _ hv).1; omega)]; exact k2
          · rw [AHeap.get_set_ne (by omega), AHeap.get_set_same]
          · rw [keyF_snoc, hin]
            simp only [if_true, ← List.append_assoc]
            rw [encL_append]
            refine ap2.mono (by simp only [nx]; omega) (fun z hz hv => ?_)
            have hz2 : z = gb.next + 1 := by
              rcases ap6 with ⟨_, h9⟩ | h9
              · cases h9
              · rw [h9] at hv; simp only [nx] at hv; exact (Option.some.inj hv).symm
            rw [AHeap.get_set_ne (by omega), AHeap.get_set_ne (by omega)]
          · rw [AHeap.get_set_ne (by omega), AHeap.get_set_ne (by omega), h1old _ (by omega) (by omega) (fun hv => by have := (hvlo _ hv).1; omega)]; exact hJ.ko.old z hz
          · rw [AHeap.get_set_same]; exact congrArg (fun x => some (AObj.loop x)) hLPr
        cases hA1 : ltStr l.key lo with
        | true =>
          have b1 : (!Op.bytesLess (ByteArray.toList ⟨⟨l.key⟩⟩) (ByteArray.toList ⟨⟨lo⟩⟩)) = false := by rw [ldef, hA1]; rfl
          refine W.block <| W.seq <| W.reg <| OSuf.aop tyOK rfl sm rfl <| OSuf.aop tyOK rfl (so_nilCheck (by simp only [lk] <;> rfl)) rfl <| OSuf.aop tyOK rfl (zl (hv := by simp (disch := first | assumption | omega | (simp only [nx] <;> omega) | fail) only [aLoad, ty77, rowOf, hpl, f1, f2, f3, f4, f5, e4, Value.cells] <;> rfl)) rfl <| OSuf.aop tyOK rfl (so_nilCheck (by simp only [lk] <;> rfl)) rfl <| OSuf.aop tyOK rfl (zf (hv := fa_ok (k := 0) ty79 rfl rfl ty36 rfl rfl)) rfl <| OSuf.aop tyOK rfl (zf (hv := fa_ok (k := 0) ty36 rfl rfl ty9 rfl rfl)) rfl <| OSuf.aop tyOK rfl (zl (hv := by simp (disch := first | assumption | omega | (simp only [nx] <;> omega) | fail) only [aLoad, ty9, rowOf, hpl, f1, f2, f3, f4, f5, e4, Value.cells] <;> rfl)) rfl <| OSuf.aop tyOK rfl za rfl <| OSuf.nil <| SQ.normal ?_
          refine W.seq <| W.reg <| OSuf.aop tyOK rfl sm rfl <| OSuf.aop tyOK rfl (zl (hv := by simp (disch := first | assumption | omega | (simp only [nx] <;> omega) | fail) only [aLoad, ty9, rowOf, hpl, f1, f2, f3, f4, f5, e4, Value.cells] <;> rfl)) rfl <| OSuf.aopF tyOK rfl (zb (hv := bs_geq)) (fun _ => rfl) (b1) <| OSuf.aopF tyOK rfl sm (fun _ => rfl) rfl <| OSuf.pass ag rfl <| OSuf.pass ag rfl <| OSuf.pass ag rfl <| OSuf.pass (aguard_un rfl rfl (by simp only [lk] <;> rfl)) rfl <| OSuf.pass (aguard_un rfl rfl (by simp only [lk] <;> rfl)) rfl <| OSuf.pass (aguard_un rfl rfl (by simp only [lk] <;> rfl)) rfl <| OSuf.pass ag rfl <| OSuf.aopF tyOK rfl (so_pick (by simp only [lk] <;> rfl) (by simp only [lk, cond_true, cond_false] <;> rfl)) (fun _ => rfl) rfl <| OSuf.nil <| SQ.normal ?_
          refine W.no (by simp only [lk] <;> rfl) <| CWp.skip <| BQ.normal <| ?_
          -- leaf: stop
          exact hout (by simp [inR, hA1])
        | false =>
          have b1 : (!Op.bytesLess (ByteArray.toList ⟨⟨l.key⟩⟩) (ByteArray.toList ⟨⟨lo⟩⟩)) = true := by rw [ldef, hA1]; rfl
          by_cases hh : hi = []
          · have b2 : ((ByteArray.toList ⟨⟨hi⟩⟩) == (ByteArray.toList ⟨#[]⟩)) = true := by rw [str_nil]; simp [hh]
            refine W.block <| W.seq <| W.reg <| OSuf.aop tyOK rfl sm rfl <| OSuf.aop tyOK rfl (so_nilCheck (by simp only [lk] <;> rfl)) rfl <| OSuf.aop tyOK rfl (zl (hv := by simp (disch := first | assumption | omega | (simp only [nx] <;> omega) | fail) only [aLoad, ty77, rowOf, hpl, f1, f2, f3, f4, f5, e4, Value.cells, q3] <;> rfl)) rfl <| OSuf.aop tyOK rfl (so_nilCheck (by simp only [lk] <;> rfl)) rfl <| OSuf.aop tyOK rfl (zf (hv := fa_ok (k := 0) ty79 rfl rfl ty36 rfl rfl)) rfl <| OSuf.aop tyOK rfl (zf (hv := fa_ok (k := 0) ty36 rfl rfl ty9 rfl rfl)) rfl <| OSuf.aop tyOK rfl (zl (hv := by simp (disch := first | assumption | omega | (simp only [nx] <;> omega) | fail) only [aLoad, ty9, rowOf, hpl, f1, f2, f3, f4, f5, e4, Value.cells, q3] <;> rfl)) rfl <| OSuf.aop tyOK rfl za rfl <| OSuf.nil <| SQ.normal ?_
            refine W.seq <| W.reg <| OSuf.aop tyOK rfl sm rfl <| OSuf.aop tyOK rfl (zl (hv := by simp (disch := first | assumption | omega | (simp only [nx] <;> omega) | fail) only [aLoad, ty9, rowOf, hpl, f1, f2, f3, f4, f5, e4, Value.cells, q3] <;> rfl)) rfl <| OSuf.aopT tyOK rfl (zb (hv := bs_geq)) (fun _ => rfl) (b1) <| OSuf.aopT tyOK rfl sm (fun _ => rfl) rfl <| OSuf.aop tyOK ag (zl (hv := by simp (disch := first | assumption | omega | (simp only [nx] <;> omega) | fail) only [aLoad, ty9, rowOf, hpl, f1, f2, f3, f4, f5, e4, Value.cells, q3] <;> rfl)) rfl <| OSuf.aopT tyOK ag (zb (hv := bs_eql)) (fun _ => rfl) (b2) <| OSuf.aopT tyOK ag sm (fun _ => rfl) rfl <| OSuf.pass ag rfl <| OSuf.pass ag rfl <| OSuf.pass ag rfl <| OSuf.aopT tyOK ag (so_pick (by simp only [lk] <;> rfl) (by simp only [lk, cond_true, cond_false] <;> rfl)) (fun _ => rfl) rfl <| OSuf.aopT tyOK rfl (so_pick (by simp only [lk] <;> rfl) (by simp only [lk, cond_true, cond_false] <;> rfl)) (fun _ => rfl) rfl <| OSuf.nil <| SQ.normal ?_
            refine W.yes (by simp only [lk] <;> rfl) <| W.reg <| OSuf.aop tyOK rfl (zl (hv := by simp (disch := first | assumption | omega | (simp only [nx] <;> omega) | fail) only [aLoad, ty85, rowOf, hpl, f1, f2, f3, f4, f5, e4, Value.cells, q3] <;> rfl)) rfl <| OSuf.aop tyOK rfl sm rfl <| OSuf.aop tyOK rfl (so_buildSlice (by simp only [aparts, lk] <;> rfl) (by simp only [aBuildSlice, ty85, ty9, f1, f2, f3, f4, f5, e4, Value.cells, q3, places, tb33] <;> rfl)) rfl <| OSuf.aop tyOK rfl (so_append (by simp only [aopnds, lk] <;> rfl) (ap1 _ _ (by simp only [appT, ty85, ty9] <;> rfl) rfl (by decide))) rfl <| OSuf.aop tyOK rfl (zs (hv := by simp (disch := first | assumption | omega | (simp only [nx] <;> omega) | fail) only [aStore, ty85, writeRow, hpl, f1, f2, f3, f4, f5, e4, Value.cells, q3] <;> rfl)) rfl <| OSuf.nil <| BQ.normal <| ?_
            -- leaf: stop
            exact hin2 (by simp [inR, hA1, hh])
          · have b2 : ((ByteArray.toList ⟨⟨hi⟩⟩) == (ByteArray.toList ⟨#[]⟩)) = false := by rw [str_nil]; simp [hh]
            cases hB1 : ltStr l.key hi with
            | true =>
              have b3 : Op.bytesLess (ByteArray.toList ⟨⟨l.key⟩⟩) (ByteArray.toList ⟨⟨hi⟩⟩) = true := by rw [ldef, hB1]
              refine W.block <| W.seq <| W.reg <| OSuf.aop tyOK rfl sm rfl <| OSuf.aop tyOK rfl (so_nilCheck (by simp only [lk] <;> rfl)) rfl <| OSuf.aop tyOK rfl (zl (hv := by simp (disch := first | assumption | omega | (simp only [nx] <;> omega) | fail) only [aLoad, ty77, rowOf, hpl, f1, f2, f3, f4, f5, e4, Value.cells, q3] <;> rfl)) rfl <| OSuf.aop tyOK rfl (so_nilCheck (by simp only [lk] <;> rfl)) rfl <| OSuf.aop tyOK rfl (zf (hv := fa_ok (k := 0) ty79 rfl rfl ty36 rfl rfl)) rfl <| OSuf.aop tyOK rfl (zf (hv := fa_ok (k := 0) ty36 rfl rfl ty9 rfl rfl)) rfl <| OSuf.aop tyOK rfl (zl (hv := by simp (disch := first | assumption | omega | (simp only [nx] <;> omega) | fail) only [aLoad, ty9, rowOf, hpl, f1, f2, f3, f4, f5, e4, Value.cells, q3] <;> rfl)) rfl <| OSuf.aop tyOK rfl za rfl <| OSuf.nil <| SQ.normal ?_
              refine W.seq <| W.reg <| OSuf.aop tyOK rfl sm rfl <| OSuf.aop tyOK rfl (zl (hv := by simp (disch := first | assumption | omega | (simp only [nx] <;> omega) | fail) only [aLoad, ty9, rowOf, hpl, f1, f2, f3, f4, f5, e4, Value.cells, q3] <;> rfl)) rfl <| OSuf.aopT tyOK rfl (zb (hv := bs_geq)) (fun _ => rfl) (b1) <| OSuf.aopT tyOK rfl sm (fun _ => rfl) rfl <| OSuf.aop tyOK ag (zl (hv := by simp (disch := first | assumption | omega | (simp only [nx] <;> omega) | fail) only [aLoad, ty9, rowOf, hpl, f1, f2, f3, f4, f5, e4, Value.cells, q3] <;> rfl)) rfl <| OSuf.aopF tyOK ag (zb (hv := bs_eql)) (fun _ => rfl) (b2) <| OSuf.aopF tyOK ag sm (fun _ => rfl) rfl <| OSuf.aop tyOK ag sm rfl <| OSuf.aop tyOK ag (zl (hv := by simp (disch := first | assumption | omega | (simp only [nx] <;> omega) | fail) only [aLoad, ty9, rowOf, hpl, f1, f2, f3, f4, f5, e4, Value.cells, q3] <;> rfl)) rfl <| OSuf.aopT tyOK ag (zb (hv := bs_lss)) (fun _ => rfl) (b3) <| OSuf.aopT tyOK ag (so_pick (by simp only [lk] <;> rfl) (by simp only [lk, cond_true, cond_false] <;> rfl)) (fun _ => rfl) rfl <| OSuf.aopT tyOK rfl (so_pick (by simp only [lk] <;> rfl) (by simp only [lk, cond_true, cond_false] <;> rfl)) (fun _ => rfl) rfl <| OSuf.nil <| SQ.normal ?_
              refine W.yes (by simp only [lk] <;> rfl) <| W.reg <| OSuf.aop tyOK rfl (zl (hv := by simp (disch := first | assumption | omega | (simp only [nx] <;> omega) | fail) only [aLoad, ty85, rowOf, hpl, f1, f2, f3, f4, f5, e4, Value.cells, q3] <;> rfl)) rfl <| OSuf.aop tyOK rfl sm rfl <| OSuf.aop tyOK rfl (so_buildSlice (by simp only [aparts, lk] <;> rfl) (by simp only [aBuildSlice, ty85, ty9, f1, f2, f3, f4, f5, e4, Value.cells, q3, places, tb33] <;> rfl)) rfl <| OSuf.aop tyOK rfl (so_append (by simp only [aopnds, lk] <;> rfl) (ap1 _ _ (by simp only [appT, ty85, ty9] <;> rfl) rfl (by decide))) rfl <| OSuf.aop tyOK rfl (zs (hv := by simp (disch := first | assumption | omega | (simp only [nx] <;> omega) | fail) only [aStore, ty85, writeRow, hpl, f1, f2, f3, f4, f5, e4, Value.cells, q3] <;> rfl)) rfl <| OSuf.nil <| BQ.normal <| ?_
              -- leaf: stop
              exact hin2 (by simp [inR, hA1, hB1])
            | false =>
              have b3 : Op.bytesLess (ByteArray.toList ⟨⟨l.key⟩⟩) (ByteArray.toList ⟨⟨hi⟩⟩) = false := by rw [ldef, hB1]
              refine W.block <| W.seq <| W.reg <| OSuf.aop tyOK rfl sm rfl <| OSuf.aop tyOK rfl (so_nilCheck (by simp only [lk] <;> rfl)) rfl <| OSuf.aop tyOK rfl (zl (hv := by simp (disch := first | assumption | omega | (simp only [nx] <;> omega) | fail) only [aLoad, ty77, rowOf, hpl, f1, f2, f3, f4, f5, e4, Value.cells] <;> rfl)) rfl <| OSuf.aop tyOK rfl (so_nilCheck (by simp only [lk] <;> rfl)) rfl <| OSuf.aop tyOK rfl (zf (hv := fa_ok (k := 0) ty79 rfl rfl ty36 rfl rfl)) rfl <| OSuf.aop tyOK rfl (zf (hv := fa_ok (k := 0) ty36 rfl rfl ty9 rfl rfl)) rfl <| OSuf.aop tyOK rfl (zl (hv := by simp (disch := first | assumption | omega | (simp only [nx] <;> omega) | fail) only [aLoad, ty9, rowOf, hpl, f1, f2, f3, f4, f5, e4, Value.cells] <;> rfl)) rfl <| OSuf.aop tyOK rfl za rfl <| OSuf.nil <| SQ.normal ?_
              refine W.seq <| W.reg <| OSuf.aop tyOK rfl sm rfl <| OSuf.aop tyOK rfl (zl (hv := by simp (disch := first | assumption | omega | (simp only [nx] <;> omega) | fail) only [aLoad, ty9, rowOf, hpl, f1, f2, f3, f4, f5, e4, Value.cells] <;> rfl)) rfl <| OSuf.aopT tyOK rfl (zb (hv := bs_geq)) (fun _ => rfl) (b1) <| OSuf.aopT tyOK rfl sm (fun _ => rfl) rfl <| OSuf.aop tyOK ag (zl (hv := by simp (disch := first | assumption | omega | (simp only [nx] <;> omega) | fail) only [aLoad, ty9, rowOf, hpl, f1, f2, f3, f4, f5, e4, Value.cells] <;> rfl)) rfl <| OSuf.aopF tyOK ag (zb (hv := bs_eql)) (fun _ => rfl) (b2) <| OSuf.aopF tyOK ag sm (fun _ => rfl) rfl <| OSuf.aop tyOK ag sm rfl <| OSuf.aop tyOK ag (zl (hv := by simp (disch := first | assumption | omega | (simp only [nx] <;> omega) | fail) only [aLoad, ty9, rowOf, hpl, f1, f2, f3, f4, f5, e4, Value.cells] <;> rfl)) rfl <| OSuf.aopF tyOK ag (zb (hv := bs_lss)) (fun _ => rfl) (b3) <| OSuf.aopF tyOK ag (so_pick (by simp only [lk] <;> rfl) (by simp only [lk, cond_true, cond_false] <;> rfl)) (fun _ => rfl) rfl <| OSuf.aopF tyOK rfl (so_pick (by simp only [lk] <;> rfl) (by simp only [lk, cond_true, cond_false] <;> rfl)) (fun _ => rfl) rfl <| OSuf.nil <| SQ.normal ?_
              refine W.no (by simp only [lk] <;> rfl) <| CWp.skip <| BQ.normal <| ?_
              -- leaf: stop
              exact hout (by simp [inR, hA1, hB1, hh])
      · rintro u g3 ⟨rfl, hJ⟩
        refine ⟨LP, .normal, hJ.loop, hbusy, hjn, ?_⟩
        have hjl := hJ.lt
        have hje := hJ.le
        have hK3 : KO h (g3.kill (g.next + 1)) lo hi (keyF lo hi (M.ch.take (i + 1)).flatten) := by
          have := hJ.ko.mono (g' := g3.kill (g.next + 1)) (Nat.le_refl _) (fun z w hz hg => ?_) (fun z hz => AHeap.get_kill_ne (by omega))
          · rw [htk]
            simpa only [keyF, List.map_append, List.filter_append] using this
          · refine AHeap.get_kill_ne fun e => ?_
            rw [← e, hJ.loop] at hg; cases hg
        refine BQ.normal <| BQ.normal <| SQ.normal ?_
        refine W.reg <| OSuf.aop tyOK rfl (zb (hv := bi_w bi_add (by first | (simp only [w2] <;> rfl) | rfl))) rfl <| OSuf.aop tyOK rfl sm rfl <| OSuf.nil <| ?_
        -- leaf: round
        refine LQ.normal (m := m - 1) (L := [(0, P0 r), (4, P0 h.next), (5, P0 (h.next + 1)), (7, P0 (h.next + 2)), (17, I64 M.n), (18, I64 ((i + 1 : Nat) : Int))]) (by omega) ?_ ⟨i + 1, by omega, hK3, rfl⟩
        simp only [HasA, Tr.get_put, Nat.reduceEqDiff, reduceIte, w2, and_self]
    · refine W.seq <| W.reg <| OSuf.aopF tyOK rfl (zb (hv := bi_lss)) (fun _ => rfl) (by first | rfl | assumption | ((simp only [bl]) <;> first | done | assumption | omega) | (simp; done) | (simp; omega)) <| OSuf.nil <| SQ.normal ?_
      refine W.seq <| W.no (by simp only [lk] <;> rfl) <| CWp.exit <| SQ.exit <| LQ.exit <| BQ.exit <| ?_
      -- leaf: cut
      refine NQ.normal (L := [(7, P0 (h.next + 2))]) ?_ ⟨?_, rfl⟩
      · simp only [HasA, Tr.get_put, Nat.reduceEqDiff, reduceIte, and_self]
      · rw [List.take_of_length_le (by omega)] at K; exact K
  rintro L a' g ha ⟨K, rfl⟩
  obtain ⟨v, o1, o2⟩ := K.out
  have hgn := K.next
  have hold := K.old
  have hfl : (keyF lo hi M.all).length ≤ 12 := by
    have := List.length_filter_le (inR lo hi) (M.all.map Lk.key)
    simp only [List.length_map] at this
    simp only [keyF]; omega
  clear K
  by_cases hnil : keyF lo hi M.all = []
  · have hv := o2.empty (by rw [hnil]; rfl)
    subst hv
    refine SQ.normal <| CWp.known ha ?_
    simp only [mkA]
    refine W.seq <| W.reg <| OSuf.aop tyOK rfl (zl (hv := by simp (disch := first | assumption | omega | (simp only [nx] <;> omega) | fail) only [aLoad, ty85, rowOf, hpl, o1] <;> rfl)) rfl <| OSuf.callD rfl (by simp only [aopnds, lk] <;> rfl) en60 (SortS.sort_nil _) rfl <| OSuf.nil <| SQ.normal ?_
    refine W.seq <| W.reg <| OSuf.aop tyOK rfl (zl (hv := by simp (disch := first | assumption | omega | (simp only [nx] <;> omega) | fail) only [aLoad, ty85, rowOf, hpl, o1] <;> rfl)) rfl <| OSuf.aop tyOK rfl za rfl <| OSuf.nil <| SQ.normal ?_
    refine CWp.ret <| FQ.ret (by simp only [aRet, Tryz.f33, aResults, aResult, lk, Nat.reduceEqDiff, reduceIte] <;> rfl) ?_
    -- leaf: end
    exact ⟨hold, .inl ⟨hnil, rfl⟩⟩
  · have hne : encL (keyF lo hi M.all) ≠ [] := fun e => hnil (List.map_eq_nil_iff.1 e)
    obtain ⟨b, e1, e2, e3⟩ := o2.form
    obtain ⟨y, rfl, e4, e5, e6, e7⟩ := e3 hne
    have e8 : vLen v = (keyF lo hi M.all).length := by simp [encL] at e2; exact e2.symm
    rw [e8] at e1
    subst e1
    have hcall := SortS.sort_c g y (keyF lo hi M.all).length (by omega) (keyF lo hi M.all).toArray (by simp)
    have e9 : g.get y = some (SortS.row (keyF lo hi M.all).toArray) := e7
    rw [AHeap.set_self e9] at hcall
    have hyo : ¬ y = h.next + 2 := by omega
    refine SQ.normal <| CWp.known ha ?_
    simp only [mkA]
    refine W.seq <| W.reg <| OSuf.aop tyOK rfl (zl (hv := by simp (disch := first | assumption | omega | (simp only [nx] <;> omega) | fail) only [aLoad, ty85, rowOf, hpl, o1] <;> rfl)) rfl <| OSuf.call rfl (by simp only [aopnds, lk] <;> rfl) en60 (hcall) ?_
    rintro _ _ ⟨rfl, d', rfl, hpi, hsi⟩
    refine ⟨_, rfl, ?_⟩
    refine OSuf.nil <| SQ.normal ?_
    refine W.seq <| W.reg <| OSuf.aop tyOK rfl (zl (hv := by simp (disch := first | assumption | omega | (simp only [nx] <;> omega) | fail) only [aLoad, ty85, rowOf, hpl, o1] <;> rfl)) rfl <| OSuf.aop tyOK rfl za rfl <| OSuf.nil <| SQ.normal ?_
    refine CWp.ret <| FQ.ret (by simp only [aRet, Tryz.f33, aResults, aResult, lk, Nat.reduceEqDiff, reduceIte] <;> rfl) ?_
    -- leaf: end
    have hd : d'.toList = SortS.sortL (keyF lo hi M.all) := by
      refine SortS.sorted_eq (d := (keyF lo hi M.all).toArray) (by simpa using hpi) (by simpa using hsi) (SortS.sortL_perm _) (SortS.sortL_sorted _)
    refine ⟨fun z hz => ?_, .inr ⟨hnil, y, rfl, by omega, ?_⟩⟩
    · rw [AHeap.get_set_ne (by omega)]; exact hold z hz
    · rw [AHeap.get_set_same]
      show some (AObj.cells (d'.toList.map _) 1) = _
      rw [hd]; rfl
def keysR (lo hi : List UInt8) (A : List Rec) : List (List UInt8) := SortS.sortL ((A.map Rec.key).filter (inR lo hi))
theorem keys_c (h : AHeap) (r : Nat) (fl : Int) (M : TM) (A : List Rec) (hB : TB h r fl M A) (lo hi : List UInt8) (hsz : A.length ≤ 12) :
    (keysR lo hi A = [] → FWp Tryz.prog 33 [P0 r, encS lo, encS hi] h fun u h' => u = .slice none 0 0 ∧ h' = h) ∧
    (keysR lo hi A ≠ [] → FWp Tryz.prog 33 [P0 r, encS lo, encS hi] h fun u h' => u = .slice (some ⟨h.next, 0, none⟩) (keysR lo hi A).length 0 ∧ h' = h.new (.cells (encL (keysR lo hi A)) 1)) := by
  have hlen : M.all.length = A.length := by rw [← List.length_map (f := Lk.rc)]; exact hB.perm.length_eq
  have hp : (keyF lo hi M.all).Perm ((A.map Rec.key).filter (inR lo hi)) := by
    have := (hB.perm.map Rec.key).filter (inR lo hi)
    rw [List.map_map] at this; exact this
  have he : SortS.sortL (keyF lo hi M.all) = keysR lo hi A := SortS.sorted_one ((SortS.sortL_perm _).trans (hp.trans (SortS.sortL_perm _).symm)) (SortS.sortL_sorted _) (SortS.sortL_sorted _)
  have hl : (keyF lo hi M.all).length = (keysR lo hi A).length := by rw [← he]; exact (SortS.sortL_perm _).length_eq.symm
  have hall := keys_all h r fl M hB.ta lo hi (by omega)
  refine ⟨fun hn => FWp.gcs (.flat rfl) (hall.mono ?_), fun hn => FWp.gcNew (fun v hv => ?_) (hall.mono ?_)⟩
  · rintro u h' ⟨h1, ⟨h2, h3⟩ | ⟨h2, _⟩⟩
    · exact ⟨h3, fun z o hz ho => by rw [h1 z hz]; exact ho⟩
    · exact absurd (List.length_eq_zero_iff.1 (by rw [hl, hn]; rfl)) h2
  · obtain ⟨y, _, rfl⟩ := List.mem_map.1 hv
    exact .flat rfl
  · rintro u h' ⟨h1, ⟨h2, h3⟩ | ⟨h2, y, h3, h4, h5⟩⟩
    · exact absurd (List.length_eq_zero_iff.1 (by rw [← hl, h2]; rfl)) hn
    · exact ⟨y, by rw [h3, hl], h4, by rw [h5, he], fun z o hz ho => by rw [h1 z hz]; exact ho⟩
theorem lastV_snoc (is : Vr → Bool) (K : List Vr) (w : Vr) : lastV is (K ++ [w]) = if is w then some w else lastV is K := by
  rw [lastV, lastV, List.reverse_append, List.reverse_cons, List.reverse_nil, List.nil_append, List.cons_append, List.nil_append, List.find?_cons]
  split <;> rename_i e <;> simp [e]
theorem lastV_filter {is p : Vr → Bool} (hp : ∀ y, is y = true → p y = true) (V : List Vr) : lastV is (V.filter p) = lastV is V := by
  rw [lastV, lastV, ← List.filter_reverse]
  generalize V.reverse = L
  induction L with
  | nil => rfl
  | cons w K ih =>
    cases hw : p w with
    | true =>
      rw [List.filter_cons_of_pos hw, List.find?_cons, List.find?_cons, ih]
    | false =>
      have h9 : is w = false := by
        cases h8 : is w with
        | false => rfl
        | true => rw [hp w h8] at hw; cases hw
      rw [List.filter_cons_of_neg (by simp [hw]), List.find?_cons, h9, ih]
theorem lastV_low {w : Vr} {V : List Vr} {lo : Int} (h : lo < w.ts) : lastV (fun y => decide (y.ts ≤ lo)) (putV w V) = lastV (fun y => decide (y.ts ≤ lo)) V := by
  rw [putV, lastV_snoc, if_neg (by simp; omega)]
  refine lastV_filter (fun y hy => ?_) V
  simp at hy ⊢; omega
def hitF (lo : List UInt8) (ts : Int) (x : Rec) : Option (List UInt8 × Vr) :=
  if inR lo [] x.key && x.here then (lastV (fun y => decide (y.ts ≤ ts)) x.V).map fun v => (x.key, v) else none
def hits (lo : List UInt8) (ts : Int) (A : List Rec) : List (List UInt8 × Vr) := A.filterMap (hitF lo ts)
def hitK (lo : List UInt8) (ts : Int) (A : List Rec) (k : List UInt8) : Option (List UInt8 × Vr) := (getR k A).bind (hitF lo ts)
def scanL (lo : List UInt8) (ts : Int) (A : List Rec) : List (List UInt8 × Vr) := (keysR lo [] A).filterMap (hitK lo ts A)
theorem hitF_key {lo : List UInt8} {ts : Int} {x : Rec} {p : List UInt8 × Vr} (h : hitF lo ts x = some p) : p.1 = x.key := by
  rw [hitF] at h
  split at h
  · rw [Option.map_eq_some_iff] at h
    obtain ⟨v, _, rfl⟩ := h; rfl
  · cases h
theorem hitK_key {lo : List UInt8} {ts : Int} {A : List Rec} {k : List UInt8} {p : List UInt8 × Vr} (h : hitK lo ts A k = some p) : p.1 = k := by
  rw [hitK, Option.bind_eq_some_iff] at h
  obtain ⟨x, h1, h2⟩ := h
  rw [hitF_key h2]; exact (getR_key h1).2
theorem pairs_eq {α β : Type} : ∀ {P Q : List (α × β)}, P.map Prod.fst = Q.map Prod.fst → (P.map Prod.fst).Nodup → P.Perm Q → P = Q
  | [], [], _, _, _ => rfl
  | [], q :: Q, h, _, _ => by cases h
  | p :: P, [], h, _, _ => by cases h
  | p :: P, q :: Q, h, hn, hp => by
    simp only [List.map_cons, List.cons.injEq] at h
    simp only [List.map_cons, List.nodup_cons] at hn
    have hq : q ∈ p :: P := hp.mem_iff.2 List.mem_cons_self
    have e : q = p := by
      rcases List.mem_cons.1 hq with h9 | h9
      · exact h9
      · exact absurd (by rw [h.1]; exact List.mem_map.2 ⟨q, h9, rfl⟩) hn.1
    subst e
    rw [pairs_eq h.2 hn.2 ((List.perm_cons q).1 hp)]
theorem hits_sub {lo : List UInt8} {ts : Int} : ∀ A : List Rec, List.Sublist ((hits lo ts A).map Prod.fst) (A.map Rec.key)
  | [] => .slnil
  | x :: A => by
    rw [hits, List.filterMap_cons]
    split
    · exact .cons _ (hits_sub A)
    · rename_i p hp
      rw [List.map_cons, List.map_cons, hitF_key hp]
      exact .cons_cons _ (hits_sub A)
theorem hits_in {lo : List UInt8} {ts : Int} {A : List Rec} (hn : (A.map Rec.key).Nodup) : ∀ B : List Rec, (∀ x ∈ B, x ∈ A) → ((B.map Rec.key).filter (inR lo [])).filterMap (hitK lo ts A) = B.filterMap (hitF lo ts)
  | [], _ => rfl
  | x :: B, h => by
    have hx : hitK lo ts A x.key = hitF lo ts x := by rw [hitK, find_nodup hn (h x List.mem_cons_self) rfl]; rfl
    have ih := hits_in (lo := lo) (ts := ts) hn B fun y hy => h y (List.mem_cons_of_mem _ hy)
    rw [List.map_cons, List.filter_cons]
    cases hi : inR lo [] x.key with
    | true => rw [if_pos rfl, List.filterMap_cons, List.filterMap_cons, hx, ih]
    | false =>
      have h0 : hitF lo ts x = none := by rw [hitF, hi]; rfl
      rw [if_neg (by simp), List.filterMap_cons, h0, ih]
theorem scanL_perm {lo : List UInt8} {ts : Int} {A : List Rec} (hn : (A.map Rec.key).Nodup) : (scanL lo ts A).Perm (hits lo ts A) := by
  have h1 : (keysR lo [] A).Perm ((A.map Rec.key).filter (inR lo [])) := SortS.sortL_perm _
  have h2 := h1.filterMap (hitK lo ts A)
  rw [hits_in hn A fun x hx => hx] at h2
  exact h2
theorem scanL_sorted (lo : List UInt8) (ts : Int) (A : List Rec) : ((scanL lo ts A).map Prod.fst).Pairwise fun x y => Go.Sort.ltStr y x = false := by
  refine List.pairwise_map.2 (List.Pairwise.filterMap (R := fun x y => Go.Sort.ltStr y x = false) _ (fun a b hab p hp q hq => ?_) (SortS.sortL_sorted _))
  rw [hitK_key hp, hitK_key hq]; exact hab
theorem scanL_eq {lo : List UInt8} {ts : Int} {A B : List Rec} (h : hits lo ts A = hits lo ts B) (nA : (A.map Rec.key).Nodup) (nB : (B.map Rec.key).Nodup) : scanL lo ts A = scanL lo ts B := by
  have p1 := scanL_perm (lo := lo) (ts := ts) nA
  have p2 := scanL_perm (lo := lo) (ts := ts) nB
  rw [← h] at p2
  have p3 := p1.trans p2.symm
  refine pairs_eq (SortS.sorted_one (p3.map _) (scanL_sorted _ _ _) (scanL_sorted _ _ _)) ?_ p3
  exact (p1.map Prod.fst).nodup_iff.2 ((hits_sub A).nodup nA)
theorem hits_set {lo : List UInt8} {ts : Int} {A : List Rec} {x y : Rec} (hn : (A.map Rec.key).Nodup) (hg : getR y.key A = some x) (he : hitF lo ts y = hitF lo ts x) : hits lo ts (setR y A) = hits lo ts A := by
  rw [setR, hg]; simp only
  rw [hits, hits, List.filterMap_map]
  have key : ∀ B : List Rec, (∀ z ∈ B, z ∈ A) → B.filterMap (hitF lo ts ∘ fun z => if z.key = y.key then y else z) = B.filterMap (hitF lo ts) := by
    intro B
    induction B with
    | nil => intro _; rfl
    | cons z B ih =>
      intro h
      have hz : (hitF lo ts ∘ fun z => if z.key = y.key then y else z) z = hitF lo ts z := by
        show hitF lo ts (if z.key = y.key then y else z) = _
        split
        · rename_i e
          have := find_nodup hn (h z List.mem_cons_self) e
          rw [hg] at this
          cases this; exact he
        · rfl
      rw [List.filterMap_cons, List.filterMap_cons, hz, ih fun w hw => h w (List.mem_cons_of_mem _ hw)]
  exact key A fun z hz => hz
theorem hits_touch {lo : List UInt8} {ts : Int} {A : List Rec} (hn : (A.map Rec.key).Nodup) (k : List UInt8) (t fl : Int) : hits lo ts (touchR k t fl A) = hits lo ts A := by
  rw [touchR]
  cases hg : getR k A with
  | some x =>
    simp only
    exact hits_set hn (x := x) (by show getR x.key A = _; rw [(getR_key hg).2]; exact hg) rfl
  | none =>
    simp only
    split
    · rw [setR]
      simp only [hg]
      rw [hits, List.filterMap_cons]
      have : hitF lo ts ⟨k, mx fl t, false, []⟩ = none := by rw [hitF]; simp
      rw [this]; rfl
    · rfl
theorem hits_put {lo : List UInt8} {ts : Int} {A : List Rec} {x : Rec} {k : List UInt8} {w : Vr} (hn : (A.map Rec.key).Nodup) (hg : getR k A = some x) (hh : x.here = true) (hw : ts < w.ts ∨ inR lo [] k = false) : hits lo ts (setR ⟨k, x.rts, true, putV w x.V⟩ A) = hits lo ts A := by
  refine hits_set hn hg ?_
  have hk := (getR_key hg).2
  rw [hitF, hitF, hh, hk]
  simp only
  rcases hw with hw | hw
  · rw [lastV_low hw]
  · rw [hw]; rfl
end Go.Proofs.YtjenbiohcecfnaaGreat
