/-
  Merged: TableK, TableS.
-/
import Derived.Test.YtldhcjfhlfgleaaTableL
import Derived.Test.YtldhcjfhlfgleaaSortN

import Derived.Test.YtldhcjfhlfgleaaAb38
namespace Go.Proofs.Ytldhcjfhlfgleaa
open Go.Ab Go.Sort
set_option linter.unusedSimpArgs false
set_option linter.unusedVariables false
set_option maxRecDepth 10000
set_option maxHeartbeats 8000000

/-! Slices that grow. -/
def svRow : Value → Option Nat
  | .slice (some a) _ _ => some a.block
  | _ => none
inductive SV (h : AHeap) (sz lo : Nat) : List Value → Value → Prop
  | nil : SV h sz lo [] (.slice none 0 0)
  | some {y n : Nat} {vs : List Value} (hn : vs.length = n * sz) (hlo : lo ≤ y) (hy : y < h.next) (hg : h.get y = .some (.cells vs sz)) (hne : vs ≠ []) : SV h sz lo vs (.slice (.some ⟨y, 0, .none⟩) n 0)
theorem SV.mono {h h' : AHeap} {sz lo : Nat} {vs : List Value} {v : Value} (s : SV h sz lo vs v) (hn : h.next ≤ h'.next) (hk : ∀ z, z < h.next → svRow v = Option.some z → h'.get z = h.get z) : SV h' sz lo vs v := by
  cases s with
  | nil => exact .nil
  | some h1 h2 h3 h4 h5 => exact .some h1 h2 (by omega) (by rw [hk _ h3 rfl]; exact h4) h5
/-- Something is appended, whatever there is. -/
theorem ap_any {h : AHeap} {sz lo k : Nat} {A B : List Value} {v x : Value} (s : SV h sz lo A v) (hl : aLen x = some k) (hx : aCells h sz k x = some B) (hB : B.length = k * sz) (hone : oneCells B = true) (hlen : vLen v + k ≤ 3000000) (hlo : lo ≤ h.next) (hsz : 0 < sz := by decide) :
    ∃ v' h', (∀ ats A', appT T ats = some A' → A'.size = sz → A'.bytes ≤ 100 → aAppend T ats v x h = some (v', h')) ∧ SV h' sz lo (A ++ B) v' ∧ h.next ≤ h'.next ∧ h'.next ≤ h.next + 1 ∧ (∀ z, z < h.next → ¬ svRow v = some z → h'.get z = h.get z) ∧ ((svRow v' = svRow v ∧ k = 0) ∨ svRow v' = some h.next) ∧ vLen v' = vLen v + k := by
  cases hk : Nat.beq k 0 with
  | true =>
    have e := Nat.eq_of_beq_eq_true hk
    subst e
    have e2 : B = [] := List.length_eq_zero_iff.1 (by rw [hB]; omega)
    subst e2
    refine ⟨v, h, fun ats A' h1 h2 h3 => ?_, by rw [List.append_nil]; exact s, Nat.le_refl _, by omega, fun _ _ _ => rfl, .inl ⟨rfl, rfl⟩, rfl⟩
    have hb : Nat.ble ((2 * (vLen v + 0) + 256) * A'.bytes) 281474976710656 = true := Nat.ble_eq_true_of_le (by
      have : (2 * (vLen v + 0) + 256) * A'.bytes ≤ 7000000 * 100 := Nat.mul_le_mul (by omega) h3
      omega)
    subst h2
    cases s <;> simp only [aAppend, h1, hl, hx, hb, cond_true, hk]
  | false =>
    have hk0 : 0 < k := by
      cases k with
      | zero => cases hk
      | succ k => omega
    have hBne : B ≠ [] := fun e => by
      rw [e] at hB
      have := Nat.mul_pos hk0 hsz
      simp at hB; omega
    cases s with
    | nil =>
      refine ⟨.slice (some ⟨h.next, 0, none⟩) k 0, h.new (.cells B sz), fun ats A' h1 h2 h3 => ?_, .some (by simpa using hB) hlo (by simp) (AHeap.get_new_same _ _) (by simpa using hBne), by simp, by simp, fun z hz _ => AHeap.get_new_ne (by omega), .inr rfl, by simp [vLen]⟩
      subst h2
      exact ap_0 h1 hl hx (by have : (2 * (0 + k) + 256) * A'.bytes ≤ 7000000 * 100 := Nat.mul_le_mul (by simp only [vLen] at hlen; omega) h3
                              omega) hk
    | @some y n _ h1 h2 h3 h4 =>
      have hc : cellsOf A 0 (n * sz) = .some A := cellsOf_all h1
      refine ⟨.slice (.some ⟨h.next, 0, .none⟩) (n + k) 0, (h.kill y).new (.cells (A ++ B) sz), fun ats A' g1 g2 g3 => ?_, .some (by rw [List.length_append, h1, hB, Nat.add_mul]) hlo (by simp only [nx]; omega) (AHeap.get_new_at (by simp only [nx]; omega)) (fun e => hBne (List.append_eq_nil_iff.1 e).2), by simp only [nx]; omega, by simp only [nx]; omega, fun z hz hne => ?_, .inr rfl, rfl⟩
      · subst g2
        exact ap_u g1 hl hx (by have : (2 * (n + k) + 256) * A'.bytes ≤ 7000000 * 100 := Nat.mul_le_mul (by simp only [vLen] at hlen; omega) g3
                                omega) hk h4 hone hc
      · have hzy : ¬ y = z := fun e => hne (by rw [← e]; rfl)
        simp (disch := first | assumption | omega | (simp only [nx] <;> omega) | fail) only [hpl]

theorem SV.row {h : AHeap} {sz lo : Nat} {vs : List Value} {v : Value} {y : Nat} (s : SV h sz lo vs v) (hy : svRow v = Option.some y) : lo ≤ y ∧ y < h.next ∧ h.get y = Option.some (.cells vs sz) ∧ v = .slice (Option.some ⟨y, 0, Option.none⟩) (vLen v) 0 ∧ vs.length = vLen v * sz := by
  cases s with
  | nil => cases hy
  | some h1 h2 h3 h4 => cases hy; exact ⟨h2, h3, h4, rfl, h1⟩
theorem SV.form {h : AHeap} {sz lo : Nat} {vs : List Value} {v : Value} (s : SV h sz lo vs v) : ∃ b, v = .slice b (vLen v) 0 ∧ vs.length = vLen v * sz ∧ (vs ≠ [] → ∃ y, b = Option.some ⟨y, 0, Option.none⟩ ∧ svRow v = Option.some y ∧ lo ≤ y ∧ y < h.next ∧ h.get y = Option.some (.cells vs sz)) := by
  cases s with
  | nil => exact ⟨Option.none, rfl, by simp [vLen], fun h => (h rfl).elim⟩
  | some h1 h2 h3 h4 => exact ⟨_, rfl, h1, fun _ => ⟨_, rfl, rfl, h2, h3, h4⟩⟩
theorem SV.empty {h : AHeap} {sz lo : Nat} {vs : List Value} {v : Value} (s : SV h sz lo vs v) (e : vs = []) : v = .slice Option.none 0 0 := by
  cases s with
  | nil => rfl
  | some _ _ _ _ h5 => exact (h5 e).elim

/-! Keys. -/
def inR (lo hi k : List UInt8) : Bool := !ltStr k lo && (decide (hi = []) || ltStr k hi)
def keyF (lo hi : List UInt8) (l : List Lk) : List (List UInt8) := (l.map Lk.key).filter (inR lo hi)
def encL (l : List (List UInt8)) : List Value := l.map fun s => Value.string ⟨⟨s⟩⟩
structure KO (h g : AHeap) (lo hi : List UInt8) (ks : List (List UInt8)) : Prop where
  next : h.next + 3 ≤ g.next
  lo : g.get h.next = some (.cells [encS lo] 1)
  hi : g.get (h.next + 1) = some (.cells [encS hi] 1)
  out : ∃ v, g.get (h.next + 2) = some (.cells [v] 1) ∧ SV g 1 (h.next + 3) (encL ks) v
  old : ∀ z, z < h.next → g.get z = h.get z
theorem KO.mono {h g g' : AHeap} {lo hi : List UInt8} {ks : List (List UInt8)} (K : KO h g lo hi ks) (hn : g.next ≤ g'.next) (hk : ∀ z w, z < g.next → g.get z = some (.cells w 1) → g'.get z = g.get z) (ho : ∀ z, z < h.next → g'.get z = g.get z) : KO h g' lo hi ks := by
  obtain ⟨v, o1, o2⟩ := K.out
  have hnx := K.next
  refine ⟨by omega, by rw [hk _ _ (by omega) K.lo]; exact K.lo, by rw [hk _ _ (by omega) K.hi]; exact K.hi, ⟨v, by rw [hk _ _ (by omega) o1]; exact o1, o2.mono hn fun z hz hv => ?_⟩, fun z hz => by rw [ho z hz]; exact K.old z hz⟩
  obtain ⟨_, _, hg, _, _⟩ := o2.row hv
  exact hk z _ hz hg
theorem str_nil (x : List UInt8) : ((ByteArray.toList ⟨⟨x⟩⟩) == (ByteArray.toList ⟨#[]⟩)) = decide (x = []) := str_eq x []

structure KJ (h : AHeap) (lo hi : List UInt8) (ks : List (List UInt8)) (lr : Nat) (LP : ALoop) (pre : List Lk) (g : AHeap) : Prop where
  ko : KO h g lo hi (ks ++ keyF lo hi pre)
  lt : lr < g.next
  le : h.next + 3 ≤ lr
  loop : g.get lr = some (.loop LP)
theorem keyF_snoc (lo hi : List UInt8) (p : List Lk) (l : Lk) : keyF lo hi (p ++ [l]) = keyF lo hi p ++ (if inR lo hi l.key then [l.key] else []) := by
  simp only [keyF, List.map_append, List.filter_append, List.map_cons, List.map_nil, List.filter_cons, List.filter_nil]
theorem encL_append (a b : List (List UInt8)) : encL (a ++ b) = encL a ++ encL b := List.map_append
theorem keys_chain (h g : AHeap) (r : Nat) (fl : Int) (M : TM) (hA : TA h r fl M) (lo hi : List UInt8) (ks : List (List UInt8)) (K : KO h g lo hi ks) (i : Nat) (c : List Lk) (hc : M.ch[i]? = some c) (hsz : ks.length + c.length ≤ 1000000) (yv : Value) (q lr : Nat) (LP : ALoop)
    (hlr : lr < g.next) (hle : h.next + 3 ≤ lr) (hloop : g.get lr = some (.loop LP)) (hq : g.get q = some (.cells [PA M.s i] 1))
    (yield : ∀ pre l rest g (v : Value), KJ h lo hi ks lr LP pre g → At g (plc (PA M.s i) pre) (P0 l.row) → g.get l.row = some (.cells [encS l.key, U64 l.rts, .bool l.here, l.vers, rest] 1) → (ks ++ keyF lo hi pre).length ≤ 1000000 →
      VWp Try.prog yv [plc (PA M.s i) pre] g fun u g' => u = .bool true ∧ KJ h lo hi ks lr LP (pre ++ [l]) g') :
    FWp Try.prog 39 [yv, P0 q] g fun u h' => u = .tuple #[] ∧ KJ h lo hi ks lr LP c h' := by
  have hcm := List.mem_of_getElem? hc
  have hcc : Chn h c := hA.chn c hcm
  have at0 : At h (PA M.s i) (headV c) := ⟨_, _, _, rfl, hA.slt, hA.srow, by simp [hc]⟩
  have hAll : ∀ p q, p ++ q = c → At h (plc (PA M.s i) p) (headV q) := fun p q e => at_plc (by rw [e]; exact at0) (by rw [e]; exact hcc)
  have hpl : ∀ p q, p ++ q = c → p.length ≤ c.length := fun p q e => by rw [← e]; simp
  have hflt : ∀ p, (keyF lo hi p).length ≤ p.length := fun p => by
    have := List.length_filter_le (inR lo hi) (p.map Lk.key)
    simpa [keyF] using this
  refine each_c g M.s i q yv (fun pre g' => KJ h lo hi ks lr LP pre g') _ c hq ⟨by simpa [keyF] using K, hlr, hle, hloop⟩ (fun pre g' hg p c' e => at_mono (hAll p c' e) (by have := hg.ko.next; omega) hg.ko.old) ?_ (fun g' hg => hg)
  intro pre l post g' hp hg
  obtain ⟨rest, hr⟩ := chn_get (h := h) (l := l) (post := post) (pre := pre) (by rw [hp]; exact hcc)
  have hlt : l.row < h.next := hcc.lt l (by rw [← hp]; simp)
  refine .inl (yield pre l rest g' (.bool true) hg (at_mono (hAll pre (l :: post) hp) (by have := hg.ko.next; omega) hg.ko.old) (by rw [hg.ko.old _ hlt]; exact hr) ?_)
  have := hflt pre
  have := hpl pre (l :: post) hp
  simp; omega
theorem keys_all (h : AHeap) (r : Nat) (fl : Int) (M : TM) (hA : TA h r fl M) (lo hi : List UInt8) (hsz : M.all.length ≤ 1000000) :
    FWp Try.prog 23 [P0 r, encS lo, encS hi] h fun u h' => (∀ z, z < h.next → h'.get z = h.get z) ∧ ((keyF lo hi M.all = [] ∧ u = .slice none 0 0) ∨ (keyF lo hi M.all ≠ [] ∧ ∃ y, u = .slice (some ⟨y, 0, none⟩) (keyF lo hi M.all).length 0 ∧ h.next ≤ y ∧ h'.get y = some (.cells (encL (SortS.sortL (keyF lo hi M.all))) 1))) := by
  have hrow := hA.row
  have hl := hA.lt
  have hsl := hA.slt
  have hpos := hA.pos
  have hsm := hA.small
  have hlen := hA.len
  refine W.enter tyOK Try.func23 rfl rfl ?_
  simp only [entry]
  refine W.seq <| W.reg <| OSuf.aop tyOK rfl (so_box (by simp only [lk] <;> rfl)) rfl <| OSuf.aop tyOK rfl (so_box (by simp only [lk] <;> rfl)) rfl <| OSuf.aop tyOK rfl (so_assign (by simp only [lk] <;> rfl)) rfl <| OSuf.nil <| SQ.normal ?_
  refine W.seq <| W.seq <| W.reg <| OSuf.aop tyOK rfl sm rfl <| OSuf.aopF tyOK rfl (so_bin (by simp only [lk] <;> rfl) (by simp only [lk] <;> rfl) (bi_nil ⟨_, _, ty23, rfl⟩)) (fun _ => rfl) rfl <| OSuf.nil <| SQ.normal ?_
  refine W.no (by simp only [lk] <;> rfl) <| CWp.skip <| SQ.normal ?_
  refine W.seq <| W.reg <| OSuf.aop tyOK rfl (so_alloc (by simp only [aAlloc, ty60] <;> rfl)) rfl <| OSuf.nil <| SQ.normal ?_
  refine W.seq <| W.seq <| W.reg <| OSuf.aop tyOK rfl sm rfl <| OSuf.aop tyOK rfl (so_nilCheck (by simp only [lk] <;> rfl)) rfl <| OSuf.aop tyOK rfl (so_fieldAddr (by simp only [lk] <;> rfl) (fa_ok (k := 0) ty67 rfl rfl ty65 rfl rfl)) rfl <| OSuf.aop tyOK rfl (so_load (by simp only [lk] <;> rfl) (by simp (disch := first | assumption | omega | (simp only [nx] <;> omega) | fail) only [aLoad, ty65, rowOf, hpl, Value.cells, hrow] <;> rfl)) rfl <| OSuf.aop tyOK rfl (so_len (by simp only [aopnds, lk] <;> rfl) (by simp (disch := first | assumption | omega | (simp only [nx] <;> omega) | fail) only [aLenOf, ty65, hpl, Value.cells, hrow] <;> rfl)) rfl <| OSuf.aop tyOK rfl sm rfl <| OSuf.nil <| SQ.normal ?_
  -- leaf: loop
  have hK0 : KO h (((h.new (.cells [encS lo] 1)).new (.cells [encS hi] 1)).new (.cells [.slice none 0 0] 1)) lo hi [] := by
    refine ⟨by simp, ?_, ?_, ⟨.slice none 0 0, ?_, .nil⟩, fun z hz => ?_⟩ <;> simp (disch := first | assumption | omega | (simp only [nx] <;> omega) | fail) only [hpl]
  refine W.cut (fun L h' => KO h h' lo hi (keyF lo hi M.all) ∧ L = [(7, P0 (h.next + 2))]) (W.block (W.loop (fun m L h' => ∃ i : Nat, m + i = M.n ∧ KO h h' lo hi (keyF lo hi (M.ch.take i).flatten) ∧ L = [(0, P0 r), (4, P0 h.next), (5, P0 (h.next + 1)), (7, P0 (h.next + 2)), (17, I64 M.n), (18, I64 i)]) (n := M.n) ⟨0, by omega, hK0, rfl⟩ ?_ ?_)) ?_
  · simp [HasA, Tr.get_put]
  · rintro m L g ⟨i, hi2, K, rfl⟩
    simp only [mkA]
    have w2 : IntKind.i64.wrap ((i : Int) + 1) = ((i + 1 : Nat) : Int) := by rw [wrap_i64 (by omega) (by omega)]; omega
    by_cases hlt : (i : Int) < (M.n : Int)
    · obtain ⟨c, hc⟩ : ∃ c, M.ch[i]? = some c := ⟨M.ch[i]'(by omega), by simp⟩
      have hcm := List.mem_of_getElem? hc
      have hcc : Chn h c := hA.chn c hcm
      have hrow2 : g.get r = _ := (K.old r hl).trans hrow
      have hb : (0 ≤ (i : Int) ∧ (i : Int) < (M.n : Int)) := by omega
      have hgn := K.next
      have htk : (M.ch.take (i + 1)).flatten = (M.ch.take i).flatten ++ c := by rw [List.take_add_one, hc]; simp
      have hflt : ∀ p, (keyF lo hi p).length ≤ p.length := fun p => by
        have := List.length_filter_le (inR lo hi) (p.map Lk.key)
        simpa [keyF] using this
      have hall : (M.ch.take i).flatten.length + c.length ≤ M.all.length := by
        have e1 : M.all = (M.ch.take (i + 1)).flatten ++ (M.ch.drop (i + 1)).flatten := by rw [TM.all, ← List.flatten_append, List.take_append_drop]
        rw [e1, htk]; simp <;> omega
      have hks : (keyF lo hi (M.ch.take i).flatten).length + c.length ≤ 1000000 := by have := hflt (M.ch.take i).flatten; omega
      refine W.seq <| W.reg <| OSuf.aopT tyOK rfl (so_bin (by simp only [lk] <;> rfl) (by simp only [lk] <;> rfl) bi_lss) (fun _ => rfl) (by first | rfl | assumption | ((simp only [bl, hrow2, hb, sb]) <;> first | done | assumption | omega) | (simp; done) | (simp; omega)) <| OSuf.nil <| SQ.normal ?_
      refine W.seq <| W.yes (by simp only [lk] <;> rfl) <| CWp.skip <| SQ.normal ?_
      refine W.seq <| W.block <| W.seq <| W.reg <| OSuf.aop tyOK rfl sm rfl <| OSuf.aop tyOK rfl (so_assign (by simp only [lk] <;> rfl)) rfl <| OSuf.nil <| SQ.normal ?_
      refine W.seq <| W.reg <| OSuf.aop tyOK rfl sm rfl <| OSuf.aop tyOK rfl (so_nilCheck (by simp only [lk] <;> rfl)) rfl <| OSuf.aop tyOK rfl (so_fieldAddr (by simp only [lk] <;> rfl) (fa_ok (k := 0) ty67 rfl rfl ty65 rfl rfl)) rfl <| OSuf.aop tyOK rfl (so_load (by simp only [lk] <;> rfl) (by simp (disch := first | assumption | omega | (simp only [nx] <;> omega) | fail) only [aLoad, ty65, rowOf, hpl, hrow2, hb, sb] <;> rfl)) rfl <| OSuf.aop tyOK rfl sm rfl <| OSuf.aop tyOK rfl (so_indexAddr (by simp only [lk] <;> rfl) (by simp only [lk] <;> rfl) (by simp (disch := first | assumption | omega | (simp only [nx] <;> omega) | fail) only [aIndexAddr, ty65, ty70, hpl, hrow2, hb, sb] <;> rfl)) rfl <| OSuf.callD rfl (by simp only [aopnds, lk] <;> rfl) en35 (places_c _ _ _) rfl <| OSuf.nil <| SQ.normal ?_
      -- leaf: loop
      refine W.block (CWp.rangeFunc (by simp only [aopnd, Tr.get_put, Nat.reduceEqDiff, reduceIte] <;> rfl) (fun l hl => by cases hl) (VWp.func en39 ?_))
      show FWp _ _ [_, _] _ _
      generalize hLP : (ALoop.mk _ _ _ _ _ _ _ _) = LP
      have hbusy : (LP.state == .busy) = false := by rw [← hLP]; rfl
      have hjn : jumpExit LP.pending = some .normal := by rw [← hLP]; rfl
      have K2 : KO h ((g.new (.cells [PA M.s i] 1)).new (.loop LP)) lo hi (keyF lo hi (M.ch.take i).flatten) := K.mono (by simp; omega) (fun z w hz hg => by simp (disch := first | assumption | omega | (simp only [nx] <;> omega) | fail) only [hpl]) (fun z hz => by simp (disch := first | assumption | omega | (simp only [nx] <;> omega) | fail) only [hpl])
      refine FWp.mono (keys_chain h _ r fl M hA lo hi _ K2 i c hc hks _ g.next (g.next + 1) LP (by simp) (by omega) (by simp (disch := first | assumption | omega | (simp only [nx] <;> omega) | fail) only [hpl]) (by simp (disch := first | assumption | omega | (simp only [nx] <;> omega) | fail) only [hpl]) ?_) ?_
      · intro pre l rest g2 _ hJ hat hlk hlen2
        have hl := hJ.loop
        rw [← hLP] at hl
        obtain ⟨z, o, vs, e1, e2, e3, e4⟩ := hat
        have k1 := hJ.ko.lo
        have k2 := hJ.ko.hi
        obtain ⟨v, k3, k4⟩ := hJ.ko.out
        have kn := hJ.ko.next
        have klt := hJ.lt
        have kle := hJ.le
        rw [e1]
        refine VWp.yield hl rfl ?_
        refine W.reg <| OSuf.aop tyOK rfl (so_assign (by simp only [lk] <;> rfl)) rfl <| OSuf.nil <| ?_
        -- leaf: stop
        refine ⟨rfl, _, hl, rfl, ?_⟩
        generalize hgb : AHeap.set g2 _ _ = gb
        have gbn : gb.next = g2.next := by rw [← hgb]; rfl
        have gbo : ∀ x, ¬ g.next + 1 = x → gb.get x = g2.get x := fun x hx => by rw [← hgb]; exact AHeap.get_set_ne hx
        have gbl0 := (congrArg (fun x => AHeap.get x (g.next + 1)) hgb).symm.trans (AHeap.get_set_same _ _ _)
        have gbl : gb.get (g.next + 1) = some (.loop (LP.with .busy none)) := by rw [← hLP]; exact gbl0
        clear gbl0 hgb
        have hLPr : (LP.with .busy none).with .ready none = LP := by rw [← hLP]; rfl
        clear hl
        have f1 : gb.get h.next = some (.cells [encS lo] 1) := by rw [gbo _ (by omega)]; exact k1
        have f2 : gb.get (h.next + 1) = some (.cells [encS hi] 1) := by rw [gbo _ (by omega)]; exact k2
        have f3 : gb.get (h.next + 2) = some (.cells [v] 1) := by rw [gbo _ (by omega)]; exact k3
        have nz : ¬ g.next + 1 = z := fun e => by (rw [← e, hJ.loop] at e3; cases e3)
        have nl : ¬ g.next + 1 = l.row := fun e => by (rw [← e, hJ.loop] at hlk; cases hlk)
        have f4 : gb.get z = some (.cells vs 1) := by rw [gbo _ nz]; exact e3
        have f5 : gb.get l.row = some (.cells [encS l.key, U64 l.rts, .bool l.here, l.vers, rest] 1) := by rw [gbo _ nl]; exact hlk
        have ldef : ∀ a b : List UInt8, Op.bytesLess (ByteArray.toList ⟨⟨a⟩⟩) (ByteArray.toList ⟨⟨b⟩⟩) = ltStr a b := str_lt
        have hout : inR lo hi l.key = false → ∃ lp2, gb.get (g.next + 1) = some (.loop lp2) ∧ Value.bool (roundEnd lp2 .normal).2 = .bool true ∧ KJ h lo hi (keyF lo hi (M.ch.take i).flatten) (g.next + 1) LP (pre ++ [l]) (gb.set (g.next + 1) (.loop (roundEnd lp2 .normal).1)) := fun hin => by
          refine ⟨_, gbl, rfl, ?_, by simp only [nx]; omega, kle, ?_⟩
          · rw [keyF_snoc, hin]
            simp only [Bool.false_eq_true, if_false, List.append_nil]
            refine hJ.ko.mono (by simp only [nx]; omega) (fun z w hz hg => ?_) (fun z hz => ?_)
            · have : ¬ g.next + 1 = z := fun e => by (rw [← e, hJ.loop] at hg; cases hg)
              rw [AHeap.get_set_ne this, gbo _ this]
            · rw [AHeap.get_set_ne (by omega), gbo _ (by omega)]
          · rw [AHeap.get_set_same]; exact congrArg (fun x => some (AObj.loop x)) hLPr
        have hvl : (encL (keyF lo hi (M.ch.take i).flatten ++ keyF lo hi pre)).length = vLen v * 1 := by obtain ⟨_, _, h9, _⟩ := k4.form; exact h9
        simp only [encL, List.length_map] at hvl
        have hsv : SV (gb.new (.cells [encS l.key] 1)) 1 (h.next + 3) (encL (keyF lo hi (M.ch.take i).flatten ++ keyF lo hi pre)) v := k4.mono (by simp only [nx]; omega) (fun z hz hv => by
          obtain ⟨_, _, hg9, _, _⟩ := k4.row hv
          have : ¬ g.next + 1 = z := fun e => by (rw [← e, hJ.loop] at hg9; cases hg9)
          rw [AHeap.get_new_ne (by omega), gbo _ this])
        obtain ⟨v2, h1, ap1, ap2, ap3, ap4, ap5, ap6, ap7⟩ := ap_any (k := 1) (x := .slice (some ⟨gb.next, 0, none⟩) 1 2) hsv rfl (B := [encS l.key]) (aCells_of (vs := [encS l.key]) (by simp only [rowOf, AHeap.get_new_same]) (Nat.le_refl _) rfl) rfl rfl (by omega) (by simp only [nx]; omega)
        simp only [nx] at ap3 ap4
        obtain ⟨b2, hv2, _, _⟩ := ap2.form
        obtain ⟨n2, hn2⟩ : ∃ n, n = vLen v2 := ⟨_, rfl⟩
        rw [← hn2] at hv2
        subst hv2
        have hvlo : ∀ z, svRow v = some z → h.next + 3 ≤ z ∧ ¬ g.next + 1 = z := fun z hv => by
          obtain ⟨h7, _, hg9, _, _⟩ := k4.row hv
          exact ⟨h7, fun e => by (rw [← e, hJ.loop] at hg9; cases hg9)⟩
        have q3 : h1.get (h.next + 2) = some (.cells [v] 1) := by
          rw [ap5 _ (by simp only [nx]; omega) (fun hv => by have := (hvlo _ hv).1; omega), AHeap.get_new_ne (by omega)]; exact f3
        have hin2 : inR lo hi l.key = true → ∃ lp2, (h1.set (h.next + 2) (.cells [.slice b2 n2 0] 1)).get (g.next + 1) = some (.loop lp2) ∧ Value.bool (roundEnd lp2 .normal).2 = .bool true ∧ KJ h lo hi (keyF lo hi (M.ch.take i).flatten) (g.next + 1) LP (pre ++ [l]) ((h1.set (h.next + 2) (.cells [.slice b2 n2 0] 1)).set (g.next + 1) (.loop (roundEnd lp2 .normal).1)) := fun hin => by
          have hl1 : h1.get (g.next + 1) = some (.loop (LP.with .busy none)) := by
            rw [ap5 _ (by simp only [nx]; omega) (fun hv => (hvlo _ hv).2 rfl), AHeap.get_new_ne (by omega)]; exact gbl
          have h1old : ∀ z, z < g2.next → ¬ g.next + 1 = z → ¬ svRow v = some z → h1.get z = g2.get z := fun z hz h2 h3 => by
            rw [ap5 _ (by simp only [nx]; omega) h3, AHeap.get_new_ne (by omega), gbo _ h2]
          refine ⟨_, by rw [AHeap.get_set_ne (by omega)]; exact hl1, rfl, ⟨by simp only [nx]; omega, ?_, ?_, ⟨.slice b2 n2 0, ?_, ?_⟩, fun z hz => ?_⟩, by simp only [nx]; omega, kle, ?_⟩
          · rw [AHeap.get_set_ne (by omega), AHeap.get_set_ne (by omega), h1old _ (by omega) (by omega) (fun hv => by have := (hvlo _ hv).1; omega)]; exact k1
          · rw [AHeap.get_set_ne (by omega), AHeap.get_set_ne (by omega), h1old _ (by omega) (by omega) (fun hv => by have := (hvlo _ hv).1; omega)]; exact k2
          · rw [AHeap.get_set_ne (by omega), AHeap.get_set_same]
          · rw [keyF_snoc, hin]
            simp only [if_true, ← List.append_assoc]
            rw [encL_append]
            refine ap2.mono (by simp only [nx]; omega) (fun z hz hv => ?_)
            have hz2 : z = gb.next + 1 := by
              rcases ap6 with ⟨_, h9⟩ | h9
              · cases h9
              · rw [h9] at hv; simp only [nx] at hv; exact (Option.some.inj hv).symm
            rw [AHeap.get_set_ne (by omega), AHeap.get_set_ne (by omega)]
          · rw [AHeap.get_set_ne (by omega), AHeap.get_set_ne (by omega), h1old _ (by omega) (by omega) (fun hv => by have := (hvlo _ hv).1; omega)]; exact hJ.ko.old z hz
          · rw [AHeap.get_set_same]; exact congrArg (fun x => some (AObj.loop x)) hLPr
        cases hA1 : ltStr l.key lo with
        | true =>
          have b1 : (!Op.bytesLess (ByteArray.toList ⟨⟨l.key⟩⟩) (ByteArray.toList ⟨⟨lo⟩⟩)) = false := by rw [ldef, hA1]; rfl
          refine W.block <| W.seq <| W.reg <| OSuf.aop tyOK rfl sm rfl <| OSuf.aop tyOK rfl (so_nilCheck (by simp only [lk] <;> rfl)) rfl <| OSuf.aop tyOK rfl (so_load (by simp only [lk] <;> rfl) (by simp (disch := first | assumption | omega | (simp only [nx] <;> omega) | fail) only [aLoad, ty70, rowOf, hpl, f1, f2, f3, f4, f5, e4, Value.cells] <;> rfl)) rfl <| OSuf.aop tyOK rfl (so_nilCheck (by simp only [lk] <;> rfl)) rfl <| OSuf.aop tyOK rfl (so_fieldAddr (by simp only [lk] <;> rfl) (fa_ok (k := 0) ty72 rfl rfl ty39 rfl rfl)) rfl <| OSuf.aop tyOK rfl (so_fieldAddr (by simp only [lk] <;> rfl) (fa_ok (k := 0) ty39 rfl rfl ty9 rfl rfl)) rfl <| OSuf.aop tyOK rfl (so_load (by simp only [lk] <;> rfl) (by simp (disch := first | assumption | omega | (simp only [nx] <;> omega) | fail) only [aLoad, ty9, rowOf, hpl, f1, f2, f3, f4, f5, e4, Value.cells] <;> rfl)) rfl <| OSuf.aop tyOK rfl (so_assign (by simp only [lk] <;> rfl)) rfl <| OSuf.nil <| SQ.normal ?_
          refine W.seq <| W.reg <| OSuf.aop tyOK rfl sm rfl <| OSuf.aop tyOK rfl (so_load (by simp only [lk] <;> rfl) (by simp (disch := first | assumption | omega | (simp only [nx] <;> omega) | fail) only [aLoad, ty9, rowOf, hpl, f1, f2, f3, f4, f5, e4, Value.cells] <;> rfl)) rfl <| OSuf.aopF tyOK rfl (so_bin (by simp only [lk] <;> rfl) (by simp only [lk] <;> rfl) bs_geq) (fun _ => rfl) (b1) <| OSuf.aopF tyOK rfl sm (fun _ => rfl) rfl <| OSuf.pass ag rfl <| OSuf.pass ag rfl <| OSuf.pass ag rfl <| OSuf.pass (aguard_un rfl rfl (by simp only [lk] <;> rfl)) rfl <| OSuf.pass (aguard_un rfl rfl (by simp only [lk] <;> rfl)) rfl <| OSuf.pass (aguard_un rfl rfl (by simp only [lk] <;> rfl)) rfl <| OSuf.pass ag rfl <| OSuf.aopF tyOK rfl (so_pick (by simp only [lk] <;> rfl) (by simp only [lk, cond_true, cond_false] <;> rfl)) (fun _ => rfl) rfl <| OSuf.nil <| SQ.normal ?_
          refine W.no (by simp only [lk] <;> rfl) <| CWp.skip <| BQ.normal <| ?_
          -- leaf: stop
          exact hout (by simp [inR, hA1])
        | false =>
          have b1 : (!Op.bytesLess (ByteArray.toList ⟨⟨l.key⟩⟩) (ByteArray.toList ⟨⟨lo⟩⟩)) = true := by rw [ldef, hA1]; rfl
          by_cases hh : hi = []
          · have b2 : ((ByteArray.toList ⟨⟨hi⟩⟩) == (ByteArray.toList ⟨#[]⟩)) = true := by rw [str_nil]; simp [hh]
            refine W.block <| W.seq <| W.reg <| OSuf.aop tyOK rfl sm rfl <| OSuf.aop tyOK rfl (so_nilCheck (by simp only [lk] <;> rfl)) rfl <| OSuf.aop tyOK rfl (so_load (by simp only [lk] <;> rfl) (by simp (disch := first | assumption | omega | (simp only [nx] <;> omega) | fail) only [aLoad, ty70, rowOf, hpl, f1, f2, f3, f4, f5, e4, Value.cells, q3, places, ty23, ty39, ty60, ty65, ty67, ty70, ty72, ty9] <;> rfl)) rfl <| OSuf.aop tyOK rfl (so_nilCheck (by simp only [lk] <;> rfl)) rfl <| OSuf.aop tyOK rfl (so_fieldAddr (by simp only [lk] <;> rfl) (fa_ok (k := 0) ty72 rfl rfl ty39 rfl rfl)) rfl <| OSuf.aop tyOK rfl (so_fieldAddr (by simp only [lk] <;> rfl) (fa_ok (k := 0) ty39 rfl rfl ty9 rfl rfl)) rfl <| OSuf.aop tyOK rfl (so_load (by simp only [lk] <;> rfl) (by simp (disch := first | assumption | omega | (simp only [nx] <;> omega) | fail) only [aLoad, ty9, rowOf, hpl, f1, f2, f3, f4, f5, e4, Value.cells, q3, places, ty23, ty39, ty60, ty65, ty67, ty70, ty72, ty9] <;> rfl)) rfl <| OSuf.aop tyOK rfl (so_assign (by simp only [lk] <;> rfl)) rfl <| OSuf.nil <| SQ.normal ?_
            refine W.seq <| W.reg <| OSuf.aop tyOK rfl sm rfl <| OSuf.aop tyOK rfl (so_load (by simp only [lk] <;> rfl) (by simp (disch := first | assumption | omega | (simp only [nx] <;> omega) | fail) only [aLoad, ty9, rowOf, hpl, f1, f2, f3, f4, f5, e4, Value.cells, q3, places, ty23, ty39, ty60, ty65, ty67, ty70, ty72, ty9] <;> rfl)) rfl <| OSuf.aopT tyOK rfl (so_bin (by simp only [lk] <;> rfl) (by simp only [lk] <;> rfl) bs_geq) (fun _ => rfl) (b1) <| OSuf.aopT tyOK rfl sm (fun _ => rfl) rfl <| OSuf.aop tyOK ag (so_load (by simp only [lk] <;> rfl) (by simp (disch := first | assumption | omega | (simp only [nx] <;> omega) | fail) only [aLoad, ty9, rowOf, hpl, f1, f2, f3, f4, f5, e4, Value.cells, q3, places, ty23, ty39, ty60, ty65, ty67, ty70, ty72, ty9] <;> rfl)) rfl <| OSuf.aopT tyOK ag (so_bin (by simp only [lk] <;> rfl) (by simp only [lk] <;> rfl) bs_eql) (fun _ => rfl) (b2) <| OSuf.aopT tyOK ag sm (fun _ => rfl) rfl <| OSuf.pass ag rfl <| OSuf.pass ag rfl <| OSuf.pass ag rfl <| OSuf.aopT tyOK ag (so_pick (by simp only [lk] <;> rfl) (by simp only [lk, cond_true, cond_false] <;> rfl)) (fun _ => rfl) rfl <| OSuf.aopT tyOK rfl (so_pick (by simp only [lk] <;> rfl) (by simp only [lk, cond_true, cond_false] <;> rfl)) (fun _ => rfl) rfl <| OSuf.nil <| SQ.normal ?_
            refine W.yes (by simp only [lk] <;> rfl) <| W.reg <| OSuf.aop tyOK rfl (so_load (by simp only [lk] <;> rfl) (by simp (disch := first | assumption | omega | (simp only [nx] <;> omega) | fail) only [aLoad, ty60, rowOf, hpl, f1, f2, f3, f4, f5, e4, Value.cells, q3, places, ty23, ty39, ty60, ty65, ty67, ty70, ty72, ty9] <;> rfl)) rfl <| OSuf.aop tyOK rfl sm rfl <| OSuf.aop tyOK rfl (so_buildSlice (by simp only [aparts, lk] <;> rfl) (by simp (disch := first | assumption | omega | (simp only [nx] <;> omega) | fail) only [aBuildSlice, ty60, ty9, hpl, f1, f2, f3, f4, f5, e4, Value.cells, q3, places, ty23, ty39, ty60, ty65, ty67, ty70, ty72, ty9] <;> rfl)) rfl <| OSuf.aop tyOK rfl (so_append (by simp only [aopnds, lk] <;> rfl) (ap1 _ _ (by simp only [appT, ty60, ty9] <;> rfl) rfl (by decide))) rfl <| OSuf.aop tyOK rfl (so_store (by simp only [lk] <;> rfl) (by simp only [lk] <;> rfl) (by simp (disch := first | assumption | omega | (simp only [nx] <;> omega) | fail) only [aStore, ty60, writeRow, hpl, f1, f2, f3, f4, f5, e4, Value.cells, q3, places, ty23, ty39, ty60, ty65, ty67, ty70, ty72, ty9] <;> rfl)) rfl <| OSuf.nil <| BQ.normal <| ?_
            -- leaf: stop
            exact hin2 (by simp [inR, hA1, hh])
          · have b2 : ((ByteArray.toList ⟨⟨hi⟩⟩) == (ByteArray.toList ⟨#[]⟩)) = false := by rw [str_nil]; simp [hh]
            cases hB1 : ltStr l.key hi with
            | true =>
              have b3 : Op.bytesLess (ByteArray.toList ⟨⟨l.key⟩⟩) (ByteArray.toList ⟨⟨hi⟩⟩) = true := by rw [ldef, hB1]
              refine W.block <| W.seq <| W.reg <| OSuf.aop tyOK rfl sm rfl <| OSuf.aop tyOK rfl (so_nilCheck (by simp only [lk] <;> rfl)) rfl <| OSuf.aop tyOK rfl (so_load (by simp only [lk] <;> rfl) (by simp (disch := first | assumption | omega | (simp only [nx] <;> omega) | fail) only [aLoad, ty70, rowOf, hpl, f1, f2, f3, f4, f5, e4, Value.cells, q3, places, ty23, ty39, ty60, ty65, ty67, ty70, ty72, ty9] <;> rfl)) rfl <| OSuf.aop tyOK rfl (so_nilCheck (by simp only [lk] <;> rfl)) rfl <| OSuf.aop tyOK rfl (so_fieldAddr (by simp only [lk] <;> rfl) (fa_ok (k := 0) ty72 rfl rfl ty39 rfl rfl)) rfl <| OSuf.aop tyOK rfl (so_fieldAddr (by simp only [lk] <;> rfl) (fa_ok (k := 0) ty39 rfl rfl ty9 rfl rfl)) rfl <| OSuf.aop tyOK rfl (so_load (by simp only [lk] <;> rfl) (by simp (disch := first | assumption | omega | (simp only [nx] <;> omega) | fail) only [aLoad, ty9, rowOf, hpl, f1, f2, f3, f4, f5, e4, Value.cells, q3, places, ty23, ty39, ty60, ty65, ty67, ty70, ty72, ty9] <;> rfl)) rfl <| OSuf.aop tyOK rfl (so_assign (by simp only [lk] <;> rfl)) rfl <| OSuf.nil <| SQ.normal ?_
              refine W.seq <| W.reg <| OSuf.aop tyOK rfl sm rfl <| OSuf.aop tyOK rfl (so_load (by simp only [lk] <;> rfl) (by simp (disch := first | assumption | omega | (simp only [nx] <;> omega) | fail) only [aLoad, ty9, rowOf, hpl, f1, f2, f3, f4, f5, e4, Value.cells, q3, places, ty23, ty39, ty60, ty65, ty67, ty70, ty72, ty9] <;> rfl)) rfl <| OSuf.aopT tyOK rfl (so_bin (by simp only [lk] <;> rfl) (by simp only [lk] <;> rfl) bs_geq) (fun _ => rfl) (b1) <| OSuf.aopT tyOK rfl sm (fun _ => rfl) rfl <| OSuf.aop tyOK ag (so_load (by simp only [lk] <;> rfl) (by simp (disch := first | assumption | omega | (simp only [nx] <;> omega) | fail) only [aLoad, ty9, rowOf, hpl, f1, f2, f3, f4, f5, e4, Value.cells, q3, places, ty23, ty39, ty60, ty65, ty67, ty70, ty72, ty9] <;> rfl)) rfl <| OSuf.aopF tyOK ag (so_bin (by simp only [lk] <;> rfl) (by simp only [lk] <;> rfl) bs_eql) (fun _ => rfl) (b2) <| OSuf.aopF tyOK ag sm (fun _ => rfl) rfl <| OSuf.aop tyOK ag sm rfl <| OSuf.aop tyOK ag (so_load (by simp only [lk] <;> rfl) (by simp (disch := first | assumption | omega | (simp only [nx] <;> omega) | fail) only [aLoad, ty9, rowOf, hpl, f1, f2, f3, f4, f5, e4, Value.cells, q3, places, ty23, ty39, ty60, ty65, ty67, ty70, ty72, ty9] <;> rfl)) rfl <| OSuf.aopT tyOK ag (so_bin (by simp only [lk] <;> rfl) (by simp only [lk] <;> rfl) bs_lss) (fun _ => rfl) (b3) <| OSuf.aopT tyOK ag (so_pick (by simp only [lk] <;> rfl) (by simp only [lk, cond_true, cond_false] <;> rfl)) (fun _ => rfl) rfl <| OSuf.aopT tyOK rfl (so_pick (by simp only [lk] <;> rfl) (by simp only [lk, cond_true, cond_false] <;> rfl)) (fun _ => rfl) rfl <| OSuf.nil <| SQ.normal ?_
              refine W.yes (by simp only [lk] <;> rfl) <| W.reg <| OSuf.aop tyOK rfl (so_load (by simp only [lk] <;> rfl) (by simp (disch := first | assumption | omega | (simp only [nx] <;> omega) | fail) only [aLoad, ty60, rowOf, hpl, f1, f2, f3, f4, f5, e4, Value.cells, q3, places, ty23, ty39, ty60, ty65, ty67, ty70, ty72, ty9] <;> rfl)) rfl <| OSuf.aop tyOK rfl sm rfl <| OSuf.aop tyOK rfl (so_buildSlice (by simp only [aparts, lk] <;> rfl) (by simp (disch := first | assumption | omega | (simp only [nx] <;> omega) | fail) only [aBuildSlice, ty60, ty9, hpl, f1, f2, f3, f4, f5, e4, Value.cells, q3, places, ty23, ty39, ty60, ty65, ty67, ty70, ty72, ty9] <;> rfl)) rfl <| OSuf.aop tyOK rfl (so_append (by simp only [aopnds, lk] <;> rfl) (ap1 _ _ (by simp only [appT, ty60, ty9] <;> rfl) rfl (by decide))) rfl <| OSuf.aop tyOK rfl (so_store (by simp only [lk] <;> rfl) (by simp only [lk] <;> rfl) (by simp (disch := first | assumption | omega | (simp only [nx] <;> omega) | fail) only [aStore, ty60, writeRow, hpl, f1, f2, f3, f4, f5, e4, Value.cells, q3, places, ty23, ty39, ty60, ty65, ty67, ty70, ty72, ty9] <;> rfl)) rfl <| OSuf.nil <| BQ.normal <| ?_
              -- leaf: stop
              exact hin2 (by simp [inR, hA1, hB1])
            | false =>
              have b3 : Op.bytesLess (ByteArray.toList ⟨⟨l.key⟩⟩) (ByteArray.toList ⟨⟨hi⟩⟩) = false := by rw [ldef, hB1]
              refine W.block <| W.seq <| W.reg <| OSuf.aop tyOK rfl sm rfl <| OSuf.aop tyOK rfl (so_nilCheck (by simp only [lk] <;> rfl)) rfl <| OSuf.aop tyOK rfl (so_load (by simp only [lk] <;> rfl) (by simp (disch := first | assumption | omega | (simp only [nx] <;> omega) | fail) only [aLoad, ty70, rowOf, hpl, f1, f2, f3, f4, f5, e4, Value.cells] <;> rfl)) rfl <| OSuf.aop tyOK rfl (so_nilCheck (by simp only [lk] <;> rfl)) rfl <| OSuf.aop tyOK rfl (so_fieldAddr (by simp only [lk] <;> rfl) (fa_ok (k := 0) ty72 rfl rfl ty39 rfl rfl)) rfl <| OSuf.aop tyOK rfl (so_fieldAddr (by simp only [lk] <;> rfl) (fa_ok (k := 0) ty39 rfl rfl ty9 rfl rfl)) rfl <| OSuf.aop tyOK rfl (so_load (by simp only [lk] <;> rfl) (by simp (disch := first | assumption | omega | (simp only [nx] <;> omega) | fail) only [aLoad, ty9, rowOf, hpl, f1, f2, f3, f4, f5, e4, Value.cells] <;> rfl)) rfl <| OSuf.aop tyOK rfl (so_assign (by simp only [lk] <;> rfl)) rfl <| OSuf.nil <| SQ.normal ?_
              refine W.seq <| W.reg <| OSuf.aop tyOK rfl sm rfl <| OSuf.aop tyOK rfl (so_load (by simp only [lk] <;> rfl) (by simp (disch := first | assumption | omega | (simp only [nx] <;> omega) | fail) only [aLoad, ty9, rowOf, hpl, f1, f2, f3, f4, f5, e4, Value.cells] <;> rfl)) rfl <| OSuf.aopT tyOK rfl (so_bin (by simp only [lk] <;> rfl) (by simp only [lk] <;> rfl) bs_geq) (fun _ => rfl) (b1) <| OSuf.aopT tyOK rfl sm (fun _ => rfl) rfl <| OSuf.aop tyOK ag (so_load (by simp only [lk] <;> rfl) (by simp (disch := first | assumption | omega | (simp only [nx] <;> omega) | fail) only [aLoad, ty9, rowOf, hpl, f1, f2, f3, f4, f5, e4, Value.cells] <;> rfl)) rfl <| OSuf.aopF tyOK ag (so_bin (by simp only [lk] <;> rfl) (by simp only [lk] <;> rfl) bs_eql) (fun _ => rfl) (b2) <| OSuf.aopF tyOK ag sm (fun _ => rfl) rfl <| OSuf.aop tyOK ag sm rfl <| OSuf.aop tyOK ag (so_load (by simp only [lk] <;> rfl) (by simp (disch := first | assumption | omega | (simp only [nx] <;> omega) | fail) only [aLoad, ty9, rowOf, hpl, f1, f2, f3, f4, f5, e4, Value.cells] <;> rfl)) rfl <| OSuf.aopF tyOK ag (so_bin (by simp only [lk] <;> rfl) (by simp only [lk] <;> rfl) bs_lss) (fun _ => rfl) (b3) <| OSuf.aopF tyOK ag (so_pick (by simp only [lk] <;> rfl) (by simp only [lk, cond_true, cond_false] <;> rfl)) (fun _ => rfl) rfl <| OSuf.aopF tyOK rfl (so_pick (by simp only [lk] <;> rfl) (by simp only [lk, cond_true, cond_false] <;> rfl)) (fun _ => rfl) rfl <| OSuf.nil <| SQ.normal ?_
              refine W.no (by simp only [lk] <;> rfl) <| CWp.skip <| BQ.normal <| ?_
              -- leaf: stop
              exact hout (by simp [inR, hA1, hB1, hh])
      · rintro u g3 ⟨rfl, hJ⟩
        refine ⟨LP, .normal, hJ.loop, hbusy, hjn, ?_⟩
        have hjl := hJ.lt
        have hje := hJ.le
        have hK3 : KO h (g3.kill (g.next + 1)) lo hi (keyF lo hi (M.ch.take (i + 1)).flatten) := by
          have := hJ.ko.mono (g' := g3.kill (g.next + 1)) (Nat.le_refl _) (fun z w hz hg => ?_) (fun z hz => AHeap.get_kill_ne (by omega))
          · rw [htk]
            simpa only [keyF, List.map_append, List.filter_append] using this
          · refine AHeap.get_kill_ne fun e => ?_
            rw [← e, hJ.loop] at hg; cases hg
        refine BQ.normal <| BQ.normal <| SQ.normal ?_
        refine W.reg <| OSuf.aop tyOK rfl (so_bin (by simp only [lk] <;> rfl) (by simp only [lk] <;> rfl) (bi_w bi_add (by first | (simp only [w2] <;> rfl) | rfl))) rfl <| OSuf.aop tyOK rfl sm rfl <| OSuf.nil <| ?_
        -- leaf: round
        refine LQ.normal (m := m - 1) (L := [(0, P0 r), (4, P0 h.next), (5, P0 (h.next + 1)), (7, P0 (h.next + 2)), (17, I64 M.n), (18, I64 ((i + 1 : Nat) : Int))]) (by omega) ?_ ⟨i + 1, by omega, hK3, rfl⟩
        simp only [HasA, Tr.get_put, Nat.reduceEqDiff, reduceIte, w2, and_self]
    · refine W.seq <| W.reg <| OSuf.aopF tyOK rfl (so_bin (by simp only [lk] <;> rfl) (by simp only [lk] <;> rfl) bi_lss) (fun _ => rfl) (by first | rfl | assumption | ((simp only [bl]) <;> first | done | assumption | omega) | (simp; done) | (simp; omega)) <| OSuf.nil <| SQ.normal ?_
      refine W.seq <| W.no (by simp only [lk] <;> rfl) <| CWp.exit <| SQ.exit <| LQ.exit <| BQ.exit <| ?_
      -- leaf: cut
      refine NQ.normal (L := [(7, P0 (h.next + 2))]) ?_ ⟨?_, rfl⟩
      · simp only [HasA, Tr.get_put, Nat.reduceEqDiff, reduceIte, and_self]
      · rw [List.take_of_length_le (by omega)] at K; exact K
  rintro L a' g ha ⟨K, rfl⟩
  obtain ⟨v, o1, o2⟩ := K.out
  have hgn := K.next
  have hold := K.old
  have hfl : (keyF lo hi M.all).length ≤ 1000000 := by
    have := List.length_filter_le (inR lo hi) (M.all.map Lk.key)
    simp only [List.length_map] at this
    simp only [keyF]; omega
  clear K
  by_cases hnil : keyF lo hi M.all = []
  · have hv := o2.empty (by rw [hnil]; rfl)
    subst hv
    refine SQ.normal <| CWp.known ha ?_
    simp only [mkA]
    refine W.seq <| W.reg <| OSuf.aop tyOK rfl (so_load (by simp only [lk] <;> rfl) (by simp (disch := first | assumption | omega | (simp only [nx] <;> omega) | fail) only [aLoad, ty60, rowOf, hpl, o1] <;> rfl)) rfl <| OSuf.callD rfl (by simp only [aopnds, lk] <;> rfl) en36 (SortS.sort_nil _) rfl <| OSuf.nil <| SQ.normal ?_
    refine W.seq <| W.reg <| OSuf.aop tyOK rfl (so_load (by simp only [lk] <;> rfl) (by simp (disch := first | assumption | omega | (simp only [nx] <;> omega) | fail) only [aLoad, ty60, rowOf, hpl, o1] <;> rfl)) rfl <| OSuf.aop tyOK rfl (so_assign (by simp only [lk] <;> rfl)) rfl <| OSuf.nil <| SQ.normal ?_
    refine CWp.ret <| FQ.ret (by simp only [aRet, Try.f23, aResults, aResult, lk, Nat.reduceEqDiff, reduceIte] <;> rfl) ?_
    -- leaf: end
    exact ⟨hold, .inl ⟨hnil, rfl⟩⟩
  · have hne : encL (keyF lo hi M.all) ≠ [] := fun e => hnil (List.map_eq_nil_iff.1 e)
    obtain ⟨b, e1, e2, e3⟩ := o2.form
    obtain ⟨y, rfl, e4, e5, e6, e7⟩ := e3 hne
    have e8 : vLen v = (keyF lo hi M.all).length := by simp [encL] at e2; exact e2.symm
    rw [e8] at e1
    subst e1
    have hcall := SortS.sort_c g y (keyF lo hi M.all).length e6 (by omega) (keyF lo hi M.all).toArray (by simp)
    have e9 : g.get y = some (SortS.row (keyF lo hi M.all).toArray) := e7
    rw [AHeap.set_self e9] at hcall
    have hyo : ¬ y = h.next + 2 := by omega
    refine SQ.normal <| CWp.known ha ?_
    simp only [mkA]
    refine W.seq <| W.reg <| OSuf.aop tyOK rfl (so_load (by simp only [lk] <;> rfl) (by simp (disch := first | assumption | omega | (simp only [nx] <;> omega) | fail) only [aLoad, ty60, rowOf, hpl, o1] <;> rfl)) rfl <| OSuf.call rfl (by simp only [aopnds, lk] <;> rfl) en36 (hcall) ?_
    rintro _ _ ⟨rfl, d', rfl, hpi, hsi⟩
    refine ⟨_, rfl, ?_⟩
    refine OSuf.nil <| SQ.normal ?_
    refine W.seq <| W.reg <| OSuf.aop tyOK rfl (so_load (by simp only [lk] <;> rfl) (by simp (disch := first | assumption | omega | (simp only [nx] <;> omega) | fail) only [aLoad, ty60, rowOf, hpl, o1] <;> rfl)) rfl <| OSuf.aop tyOK rfl (so_assign (by simp only [lk] <;> rfl)) rfl <| OSuf.nil <| SQ.normal ?_
    refine CWp.ret <| FQ.ret (by simp only [aRet, Try.f23, aResults, aResult, lk, Nat.reduceEqDiff, reduceIte] <;> rfl) ?_
    -- leaf: end
    have hd : d'.toList = SortS.sortL (keyF lo hi M.all) := by
      refine SortS.sorted_eq (d := (keyF lo hi M.all).toArray) (by simpa using hpi) (by simpa using hsi) (SortS.sortL_perm _) (SortS.sortL_sorted _)
    refine ⟨fun z hz => ?_, .inr ⟨hnil, y, rfl, by omega, ?_⟩⟩
    · rw [AHeap.get_set_ne (by omega)]; exact hold z hz
    · rw [AHeap.get_set_same]
      show some (AObj.cells (d'.toList.map _) 1) = _
      rw [hd]; rfl
/-- The keys of a range, in order. -/
def keysR (lo hi : List UInt8) (A : List Rec) : List (List UInt8) := SortS.sortL ((A.map Rec.key).filter (inR lo hi))
theorem keys_c (h : AHeap) (r : Nat) (fl : Int) (M : TM) (A : List Rec) (hB : TB h r fl M A) (lo hi : List UInt8) (hsz : A.length ≤ 1000000) :
    (keysR lo hi A = [] → FWp Try.prog 23 [P0 r, encS lo, encS hi] h fun u h' => u = .slice none 0 0 ∧ h' = h) ∧
    (keysR lo hi A ≠ [] → FWp Try.prog 23 [P0 r, encS lo, encS hi] h fun u h' => u = .slice (some ⟨h.next, 0, none⟩) (keysR lo hi A).length 0 ∧ h' = h.new (.cells (encL (keysR lo hi A)) 1)) := by
  have hlen : M.all.length = A.length := by rw [← List.length_map (f := Lk.rc)]; exact hB.perm.length_eq
  have hp : (keyF lo hi M.all).Perm ((A.map Rec.key).filter (inR lo hi)) := by
    have := (hB.perm.map Rec.key).filter (inR lo hi)
    rw [List.map_map] at this; exact this
  have he : SortS.sortL (keyF lo hi M.all) = keysR lo hi A := SortS.sorted_one ((SortS.sortL_perm _).trans (hp.trans (SortS.sortL_perm _).symm)) (SortS.sortL_sorted _) (SortS.sortL_sorted _)
  have hl : (keyF lo hi M.all).length = (keysR lo hi A).length := by rw [← he]; exact (SortS.sortL_perm _).length_eq.symm
  have hall := keys_all h r fl M hB.ta lo hi (by omega)
  refine ⟨fun hn => FWp.gcs (.flat rfl) (hall.mono ?_), fun hn => FWp.gcNew (fun v hv => ?_) (hall.mono ?_)⟩
  · rintro u h' ⟨h1, ⟨h2, h3⟩ | ⟨h2, _⟩⟩
    · exact ⟨h3, fun z o hz ho => by rw [h1 z hz]; exact ho⟩
    · exact absurd (List.length_eq_zero_iff.1 (by rw [hl, hn]; rfl)) h2
  · obtain ⟨y, _, rfl⟩ := List.mem_map.1 hv
    exact .flat rfl
  · rintro u h' ⟨h1, ⟨h2, h3⟩ | ⟨h2, y, h3, h4, h5⟩⟩
    · exact absurd (List.length_eq_zero_iff.1 (by rw [← hl, h2]; rfl)) hn
    · exact ⟨y, by rw [h3, hl], h4, by rw [h5, he], fun z o hz ho => by rw [h1 z hz]; exact ho⟩

theorem row_of {h : AHeap} {r : Nat} {fl : Int} {M : TM} (hA : TA h r fl M) {z : Nat} (hz : z ∈ M.rows) : z < h.next ∧ ∃ w, h.get z = some (.cells w 1) := by
  rcases List.mem_cons.1 hz with rfl | hz
  · exact ⟨hA.slt, _, hA.srow⟩
  · obtain ⟨l, hl, rfl⟩ := List.mem_map.1 hz
    obtain ⟨c, hc, hm⟩ := List.mem_flatten.1 hl
    obtain ⟨pre, post, rfl⟩ := List.append_of_mem hm
    exact ⟨(hA.chn _ hc).lt l hm, _, chn_full (hA.chn _ hc)⟩
structure SS (h0 h : AHeap) (r1 r2 : Nat) (fl1 fl2 : Int) (M1 M2 : TM) (A1 A2 : List Rec) : Prop where
  t1 : TB h r1 fl1 M1 A1
  t2 : TB h r2 fl2 M2 A2
  ne : ¬ r1 = r2
  d1 : r1 ∉ M2.rows
  d2 : r2 ∉ M1.rows
  dd : ∀ z ∈ M1.rows, z ∉ M2.rows
  n1 : h0.next ≤ r1 ∧ ∀ z ∈ M1.rows, h0.next ≤ z
  n2 : h0.next ≤ r2 ∧ ∀ z ∈ M2.rows, h0.next ≤ z
  old : ∀ z, z < h0.next → h.get z = h0.get z
  next : h0.next ≤ h.next
theorem SS.symm {h0 h : AHeap} {r1 r2 : Nat} {fl1 fl2 : Int} {M1 M2 : TM} {A1 A2 : List Rec} (S : SS h0 h r1 r2 fl1 fl2 M1 M2 A1 A2) : SS h0 h r2 r1 fl2 fl1 M2 M1 A2 A1 :=
  ⟨S.t2, S.t1, fun e => S.ne e.symm, S.d2, S.d1, fun z hz h9 => S.dd z h9 hz, S.n2, S.n1, S.old, S.next⟩
theorem SS.garb {h0 h h' : AHeap} {r1 r2 : Nat} {fl1 fl2 : Int} {M1 M2 : TM} {A1 A2 : List Rec} (S : SS h0 h r1 r2 fl1 fl2 M1 M2 A1 A2) (hn : h.next ≤ h'.next) (hk : ∀ z, z < h.next → h'.get z = h.get z) : SS h0 h' r1 r2 fl1 fl2 M1 M2 A1 A2 :=
  ⟨S.t1.mono hn hk, S.t2.mono hn hk, S.ne, S.d1, S.d2, S.dd, S.n1, S.n2, fun z hz => by rw [hk z (Nat.lt_of_lt_of_le hz S.next)]; exact S.old z hz, Nat.le_trans S.next hn⟩
/-! Lists of strings. -/
structure StrB (h : AHeap) (G : List (List UInt8)) (b : Option Addr) : Prop where
  at_ : ∀ i, i < G.length → ∃ y, b = some ⟨y, 0, none⟩ ∧ y < h.next ∧ h.get y = some (.cells (encL G) 1)
theorem texts_c (h : AHeap) (G G' : List (List UInt8)) (b b' : Option Addr) (c c' : Nat) (hb : StrB h G b) (hb' : StrB h G' b') (hl : G.length ≤ 1000000) (hl' : G'.length ≤ 1000000) : FWp Try.prog 22 [.slice b G.length c, .slice b' G'.length c'] h fun u h' => u = .bool (decide (G = G')) ∧ h' = h := by
  refine W.enter tyOK Try.func22 rfl rfl ?_
  simp only [entry]
  by_cases hlen : G.length = G'.length
  · have b1 : ((G.length : Int) != (G'.length : Int)) = false := by simp [hlen]
    refine W.seq <| W.reg <| OSuf.aopF tyOK rfl (so_assign (by simp only [lk] <;> rfl)) (fun _ => rfl) rfl <| OSuf.nil <| SQ.normal ?_
    refine W.seq <| W.seq <| W.reg <| OSuf.aop tyOK rfl sm rfl <| OSuf.aop tyOK rfl (so_len (by simp only [aopnds, lk] <;> rfl) (by simp (disch := first | assumption | omega | (simp only [nx] <;> omega) | fail) only [aLenOf, ty60, hpl] <;> rfl)) rfl <| OSuf.aop tyOK rfl sm rfl <| OSuf.aop tyOK rfl (so_len (by simp only [aopnds, lk] <;> rfl) (by simp (disch := first | assumption | omega | (simp only [nx] <;> omega) | fail) only [aLenOf, ty60, hpl] <;> rfl)) rfl <| OSuf.aopF tyOK rfl (so_bin (by simp only [lk] <;> rfl) (by simp only [lk] <;> rfl) bi_neq) (fun _ => rfl) (b1) <| OSuf.nil <| SQ.normal ?_
    refine W.no (by simp only [lk] <;> rfl) <| CWp.skip <| SQ.normal ?_
    refine W.seq <| W.seq <| W.reg <| OSuf.aop tyOK rfl (so_assign (by simp only [lk] <;> rfl)) rfl <| OSuf.nil <| SQ.normal ?_
    -- leaf: loop
    refine W.cut (fun L h' => h' = h ∧ G = G' ∧ L = []) (W.block (W.loop (fun n L h' => ∃ i : Nat, n + i = G.length ∧ h' = h ∧ G.take i = G'.take i ∧ L = [(0, .slice b G.length c), (1, .slice b' G'.length c'), (5, I64 i)]) (n := G.length) ⟨0, by omega, rfl, rfl, rfl⟩ ?_ ?_)) ?_
    · simp [HasA, Tr.get_put]
    · rintro n L h' ⟨i, hn, rfl, ht, rfl⟩
      simp only [mkA]
      have w2 : IntKind.i64.wrap ((i : Int) + 1) = ((i + 1 : Nat) : Int) := by rw [wrap_i64 (by omega) (by omega)]; omega
      by_cases hi : (i : Int) < (G.length : Int)
      · obtain ⟨g, hg⟩ : ∃ g, G[i]? = some g := ⟨G[i]'(by omega), by simp⟩
        obtain ⟨g', hg'⟩ : ∃ g', G'[i]? = some g' := ⟨G'[i]'(by omega), by simp⟩
        obtain ⟨y, rfl, y1, y2⟩ := hb.at_ i (by omega)
        obtain ⟨y', rfl, y1', y2'⟩ := hb'.at_ i (by omega)
        have hc : (0 ≤ (i : Int) ∧ (i : Int) < (G.length : Int)) := by omega
        have hc' : (0 ≤ (i : Int) ∧ (i : Int) < (G'.length : Int)) := by omega
        have hgg : (encL G)[i]? = some (encS g) := by simp [encL, hg]
        have hgg' : (encL G')[i]? = some (encS g') := by simp [encL, hg']
        by_cases he : g = g'
        · have b2 : (!((ByteArray.toList ⟨⟨g⟩⟩) == (ByteArray.toList ⟨⟨g'⟩⟩))) = false := by rw [str_eq]; simp [he]
          refine W.seq <| W.seq <| W.reg <| OSuf.aop tyOK rfl sm rfl <| OSuf.aop tyOK rfl sm rfl <| OSuf.aop tyOK rfl (so_len (by simp only [aopnds, lk] <;> rfl) (by simp (disch := first | assumption | omega | (simp only [nx] <;> omega) | fail) only [aLenOf, ty60, hpl, hc, hc', sb, y2, y2', hgg, hgg'] <;> rfl)) rfl <| OSuf.aopT tyOK rfl (so_bin (by simp only [lk] <;> rfl) (by simp only [lk] <;> rfl) bi_lss) (fun _ => rfl) (by first | rfl | assumption | ((simp only [bl, hc, hc', sb, y2, y2', hgg, hgg']) <;> first | done | assumption | omega) | (simp; done) | (simp; omega)) <| OSuf.nil <| SQ.normal ?_
          refine W.yes (by simp only [lk] <;> rfl) <| CWp.skip <| SQ.normal ?_
          refine W.seq <| W.block <| W.seq <| W.regD tyOK mixed (by kernel_rfl) <| SqW.aop rfl sm rfl <| SqW.aop rfl sm rfl <| SqW.aop rfl (so_indexAddr (by simp only [lk] <;> rfl) (by simp only [lk] <;> rfl) (by simp (disch := first | assumption | omega | (simp only [nx] <;> omega) | fail) only [aIndexAddr, ty60, ty9, hpl, hc, hc', sb, y2, y2', hgg, hgg'] <;> rfl)) rfl <| SqW.aop rfl (so_load (by simp only [lk] <;> rfl) (by simp (disch := first | assumption | omega | (simp only [nx] <;> omega) | fail) only [aLoad, ty9, rowOf, hpl, hc, hc', sb, y2, y2', hgg, hgg'] <;> rfl)) rfl <| SqW.aop rfl sm rfl <| SqW.aop rfl sm rfl <| SqW.aop rfl (so_indexAddr (by simp only [lk] <;> rfl) (by simp only [lk] <;> rfl) (by simp (disch := first | assumption | omega | (simp only [nx] <;> omega) | fail) only [aIndexAddr, ty60, ty9, hpl, hc, hc', sb, y2, y2', hgg, hgg'] <;> rfl)) rfl <| SqW.aop rfl (so_load (by simp only [lk] <;> rfl) (by simp (disch := first | assumption | omega | (simp only [nx] <;> omega) | fail) only [aLoad, ty9, rowOf, hpl, hc, hc', sb, y2, y2', hgg, hgg'] <;> rfl)) rfl <| SqW.aopF rfl (so_bin (by simp only [lk] <;> rfl) (by simp only [lk] <;> rfl) bs_neq) (fun _ => rfl) (b2) <| SqW.nil <| SQ.normal ?_
          refine W.no (by simp only [lk] <;> rfl) <| CWp.skip <| BQ.normal <| SQ.normal ?_
          refine W.reg <| OSuf.aop tyOK rfl sm rfl <| OSuf.aop tyOK rfl (so_bin (by simp only [lk] <;> rfl) (by simp only [lk] <;> rfl) (bi_w bi_add (by first | (simp only [w2] <;> rfl) | rfl))) rfl <| OSuf.aop tyOK rfl (so_assign (by simp only [lk] <;> rfl)) rfl <| OSuf.nil <| ?_
          -- leaf: round
          refine LQ.normal (m := n - 1) (L := [(0, .slice (some ⟨y, 0, none⟩) G.length c), (1, .slice (some ⟨y', 0, none⟩) G'.length c'), (5, I64 ((i + 1 : Nat) : Int))]) (by omega) ?_ ⟨i + 1, by omega, rfl, ?_, rfl⟩
          · simp only [HasA, Tr.get_put, Nat.reduceEqDiff, reduceIte, w2, and_self]
          · rw [List.take_add_one, List.take_add_one, ht, hg, hg', he]
        · have b2 : (!((ByteArray.toList ⟨⟨g⟩⟩) == (ByteArray.toList ⟨⟨g'⟩⟩))) = true := by rw [str_eq]; simp [he]
          refine W.seq <| W.seq <| W.reg <| OSuf.aop tyOK rfl sm rfl <| OSuf.aop tyOK rfl sm rfl <| OSuf.aop tyOK rfl (so_len (by simp only [aopnds, lk] <;> rfl) (by simp (disch := first | assumption | omega | (simp only [nx] <;> omega) | fail) only [aLenOf, ty60, hpl, hc, hc', sb, y2, y2', hgg, hgg'] <;> rfl)) rfl <| OSuf.aopT tyOK rfl (so_bin (by simp only [lk] <;> rfl) (by simp only [lk] <;> rfl) bi_lss) (fun _ => rfl) (by first | rfl | assumption | ((simp only [bl, hc, hc', sb, y2, y2', hgg, hgg']) <;> first | done | assumption | omega) | (simp; done) | (simp; omega)) <| OSuf.nil <| SQ.normal ?_
          refine W.yes (by simp only [lk] <;> rfl) <| CWp.skip <| SQ.normal ?_
          refine W.seq <| W.block <| W.seq <| W.regD tyOK mixed (by kernel_rfl) <| SqW.aop rfl sm rfl <| SqW.aop rfl sm rfl <| SqW.aop rfl (so_indexAddr (by simp only [lk] <;> rfl) (by simp only [lk] <;> rfl) (by simp (disch := first | assumption | omega | (simp only [nx] <;> omega) | fail) only [aIndexAddr, ty60, ty9, hpl, hc, hc', sb, y2, y2', hgg, hgg'] <;> rfl)) rfl <| SqW.aop rfl (so_load (by simp only [lk] <;> rfl) (by simp (disch := first | assumption | omega | (simp only [nx] <;> omega) | fail) only [aLoad, ty9, rowOf, hpl, hc, hc', sb, y2, y2', hgg, hgg'] <;> rfl)) rfl <| SqW.aop rfl sm rfl <| SqW.aop rfl sm rfl <| SqW.aop rfl (so_indexAddr (by simp only [lk] <;> rfl) (by simp only [lk] <;> rfl) (by simp (disch := first | assumption | omega | (simp only [nx] <;> omega) | fail) only [aIndexAddr, ty60, ty9, hpl, hc, hc', sb, y2, y2', hgg, hgg'] <;> rfl)) rfl <| SqW.aop rfl (so_load (by simp only [lk] <;> rfl) (by simp (disch := first | assumption | omega | (simp only [nx] <;> omega) | fail) only [aLoad, ty9, rowOf, hpl, hc, hc', sb, y2, y2', hgg, hgg'] <;> rfl)) rfl <| SqW.aopT rfl (so_bin (by simp only [lk] <;> rfl) (by simp only [lk] <;> rfl) bs_neq) (fun _ => rfl) (b2) <| SqW.nil <| SQ.normal ?_
          refine W.yes (by simp only [lk] <;> rfl) <| W.seq <| W.reg <| OSuf.aopF tyOK rfl (so_assign (by simp only [lk] <;> rfl)) (fun _ => rfl) rfl <| OSuf.nil <| SQ.normal ?_
          refine CWp.ret <| BQ.ret <| SQ.ret <| LQ.ret <| BQ.ret <| NQ.ret <| SQ.ret <| FQ.ret (by simp only [aRet, Try.f22, aResults, aResult, lk, Nat.reduceEqDiff, reduceIte] <;> rfl) ?_
          -- leaf: end
          refine ⟨?_, rfl⟩
          rw [decide_eq_false]
          intro e
          rw [e, hg'] at hg
          exact he (Option.some.inj hg).symm
      · refine W.seq <| W.seq <| W.reg <| OSuf.aop tyOK rfl sm rfl <| OSuf.aop tyOK rfl sm rfl <| OSuf.aop tyOK rfl (so_len (by simp only [aopnds, lk] <;> rfl) (by simp (disch := first | assumption | omega | (simp only [nx] <;> omega) | fail) only [aLenOf, ty60, hpl] <;> rfl)) rfl <| OSuf.aopF tyOK rfl (so_bin (by simp only [lk] <;> rfl) (by simp only [lk] <;> rfl) bi_lss) (fun _ => rfl) (by first | rfl | assumption | ((simp only [bl]) <;> first | done | assumption | omega) | (simp; done) | (simp; omega)) <| OSuf.nil <| SQ.normal ?_
        refine W.no (by simp only [lk] <;> rfl) <| CWp.exit <| SQ.exit <| LQ.exit <| BQ.exit <| ?_
        -- leaf: cut
        exact NQ.normal (L := []) trivial ⟨rfl, by rw [List.take_of_length_le (by omega), List.take_of_length_le (by omega)] at ht; exact ht, rfl⟩
    rintro L a' h' ha ⟨rfl, hgg, rfl⟩
    refine SQ.normal <| CWp.known ha ?_
    simp only [mkA]
    refine W.seq <| W.reg <| OSuf.aopT tyOK rfl (so_assign (by simp only [lk] <;> rfl)) (fun _ => rfl) rfl <| OSuf.nil <| SQ.normal ?_
    refine CWp.ret <| FQ.ret (by simp only [aRet, Try.f22, aResults, aResult, lk, Nat.reduceEqDiff, reduceIte] <;> rfl) ?_
    -- leaf: end
    exact ⟨by rw [decide_eq_true hgg], rfl⟩
  · have b1 : ((G.length : Int) != (G'.length : Int)) = true := by simp; omega
    refine W.seq <| W.reg <| OSuf.aopF tyOK rfl (so_assign (by simp only [lk] <;> rfl)) (fun _ => rfl) rfl <| OSuf.nil <| SQ.normal ?_
    refine W.seq <| W.seq <| W.reg <| OSuf.aop tyOK rfl sm rfl <| OSuf.aop tyOK rfl (so_len (by simp only [aopnds, lk] <;> rfl) (by simp (disch := first | assumption | omega | (simp only [nx] <;> omega) | fail) only [aLenOf, ty60, hpl] <;> rfl)) rfl <| OSuf.aop tyOK rfl sm rfl <| OSuf.aop tyOK rfl (so_len (by simp only [aopnds, lk] <;> rfl) (by simp (disch := first | assumption | omega | (simp only [nx] <;> omega) | fail) only [aLenOf, ty60, hpl] <;> rfl)) rfl <| OSuf.aopT tyOK rfl (so_bin (by simp only [lk] <;> rfl) (by simp only [lk] <;> rfl) bi_neq) (fun _ => rfl) (b1) <| OSuf.nil <| SQ.normal ?_
    refine W.yes (by simp only [lk] <;> rfl) <| W.seq <| W.reg <| OSuf.aopF tyOK rfl (so_assign (by simp only [lk] <;> rfl)) (fun _ => rfl) rfl <| OSuf.nil <| SQ.normal ?_
    refine CWp.ret <| SQ.ret <| FQ.ret (by simp only [aRet, Try.f22, aResults, aResult, lk, Nat.reduceEqDiff, reduceIte] <;> rfl) ?_
    -- leaf: end
    refine ⟨?_, rfl⟩
    rw [decide_eq_false]
    intro e
    exact hlen (by rw [e])
/-- Keys, and where they lie. -/
theorem keys_x (h : AHeap) (r : Nat) (fl : Int) (M : TM) (A : List Rec) (hB : TB h r fl M A) (lo hi : List UInt8) (hsz : A.length ≤ 1000000) :
    ∃ b H, FWp Try.prog 23 [P0 r, encS lo, encS hi] h (fun u h' => u = .slice b (keysR lo hi A).length 0 ∧ h' = H) ∧ StrB H (keysR lo hi A) b ∧ h.next ≤ H.next ∧ (∀ z, z < h.next → H.get z = h.get z) ∧ (keysR lo hi A = [] → b = none) ∧ (keysR lo hi A ≠ [] → b = some ⟨h.next, 0, none⟩) := by
  obtain ⟨k1, k2⟩ := keys_c h r fl M A hB lo hi hsz
  by_cases hn : keysR lo hi A = []
  · have hl : (keysR lo hi A).length = 0 := by rw [hn]; rfl
    exact ⟨none, h, by rw [hl]; exact k1 hn, ⟨fun i hi => by omega⟩, Nat.le_refl _, fun _ _ => rfl, fun _ => rfl, fun h9 => absurd hn h9⟩
  · exact ⟨_, _, k2 hn, ⟨fun i hi => ⟨_, rfl, by simp, AHeap.get_new_same _ _⟩⟩, by simp, fun z hz => AHeap.get_new_ne (by omega), fun h9 => absurd h9 hn, fun _ => rfl⟩
theorem keysR_len (lo hi : List UInt8) (A : List Rec) : (keysR lo hi A).length ≤ A.length := by
  rw [keysR, (SortS.sortL_perm _).length_eq]
  have := List.length_filter_le (inR lo hi) (A.map Rec.key)
  simpa using this
theorem StrB.mono {h h' : AHeap} {G : List (List UInt8)} {b : Option Addr} (s : StrB h G b) (hn : h.next ≤ h'.next) (hk : ∀ z, z < h.next → h'.get z = h.get z) : StrB h' G b :=
  ⟨fun i hi => by obtain ⟨y, h1, h2, h3⟩ := s.at_ i hi; exact ⟨y, h1, by omega, by rw [hk y h2]; exact h3⟩⟩
/-- A key's row, any. -/
theorem row_x (h : AHeap) (r : Nat) (fl : Int) (M : TM) (A : List Rec) (hB : TB h r fl M A) (k : List UInt8) (hk : k.length < 9223372036854775808) (hv : ∀ x ∈ A, x.V.length ≤ 1000000) :
    ∃ (y : Rec) (b : Option Addr) (c : Nat) (H : AHeap), FWp Try.prog 20 [P0 r, encS k] h (fun u h' => u = .tuple #[.agg #[encS y.key, U64 y.rts, .bool y.here, .slice b y.V.length c], .bool (getR k A).isSome] ∧ h' = H) ∧ AVo H y.V (.slice b y.V.length c) ∧ h.next ≤ H.next ∧ (∀ z, z < h.next → H.get z = h.get z) ∧ y = (getR k A).getD ⟨[], 0, false, []⟩ := by
  cases hg : getR k A with
  | none => exact ⟨⟨[], 0, false, []⟩, none, 0, h, row_none h r fl M A hB k hk hg, .nil, Nat.le_refl _, fun _ _ => rfl, rfl⟩
  | some x =>
    obtain ⟨v, H, h1, h2, h3, h4⟩ := row_some h r fl M A hB k hk x hg (hv x (getR_key hg).1)
    obtain ⟨b, c, rfl⟩ := avo_form h2
    exact ⟨x, b, c, H, h1, h2, h3, h4, rfl⟩
/-- Evict, any. -/
theorem evict_x (h : AHeap) (r : Nat) (fl : Int) (M : TM) (A : List Rec) (hB : TB h r fl M A) (k : List UInt8) (hk : k.length < 9223372036854775808) (hsz : A.length ≤ 1000000) :
    ∃ H M', FWp Try.prog 12 [P0 r, encS k] h (fun u h' => u = I64 (evCode k A) ∧ h' = H) ∧ TB H r (evFl fl k A) M' (delR k A) ∧ FrT h H r M M' := by
  cases hg : getR k A with
  | none =>
    have e1 : evCode k A = 5 := by rw [evCode, hg]
    have e2 : evFl fl k A = fl := by rw [evFl, hg]
    have e3 : delR k A = A := del_ne fun y hy e => by
      have := List.find?_eq_none.1 hg y hy
      simp [e] at this
    rw [e1, e2, e3]
    exact ⟨h, M, evict_none h r fl M A hB k hk hg, hB, FrT.refl _ _ _⟩
  | some x =>
    have e1 : evCode k A = 0 := by rw [evCode, hg]
    have e2 : evFl fl k A = mx fl x.rts := by rw [evFl, hg]
    rw [e1, e2]
    exact evict_some h r fl M A hB k hk x hg hsz
end Go.Proofs.Ytldhcjfhlfgleaa
