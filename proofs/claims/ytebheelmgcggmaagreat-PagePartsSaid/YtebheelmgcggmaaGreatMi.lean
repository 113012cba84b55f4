/-
  Merged: PgT, PgU, PgV.
-/
import Derived.Test.YtebheelmgcggmaaGreatMb
set_option linter.unusedSimpArgs false
set_option linter.unusedVariables false
set_option maxRecDepth 10000
set_option maxHeartbeats 8000000
namespace Go.Proofs.YtebheelmgcggmaaGreat.SortJ
open Go.Ab Go.Sort
abbrev El : Type := Rec
def mn (x : Rec) : Int := if 1099511627776 < x.lsn then 1099511627776 else x.lsn
def cj (x y : Rec) : Int := IntKind.i64.wrap (IntKind.i64.wrap (mn x) - IntKind.i64.wrap (mn y))
theorem mn_le (x : Rec) : mn x ≤ 1099511627776 := by simp only [mn]; split <;> omega
theorem mn_ge {x : Rec} (h : 0 ≤ x.lsn) : 0 ≤ mn x := by simp only [mn]; split <;> omega
abbrev lt : El → El → Bool := fun x y => decide (cj x y < 0)
def ltJ (x y : Rec) : Bool := decide (mn x < mn y)
theorem swo : SWO ltJ := ⟨fun x => by simp [ltJ], fun x y z h1 h2 => by simp only [ltJ, decide_eq_true_eq] at *; omega, fun x y z h1 h2 => by simp only [ltJ, decide_eq_false_iff_not] at *; omega⟩
theorem lt_eq {x y : Rec} (hx : 0 ≤ x.lsn) (hy : 0 ≤ y.lsn) : lt x y = ltJ x y := by
  have a1 := mn_le x
  have a2 := mn_le y
  have a3 := mn_ge hx
  have a4 := mn_ge hy
  have e : cj x y = mn x - mn y := by
    simp only [cj]
    rw [wrap_i64 (n := mn x) (by omega) (by omega), wrap_i64 (n := mn y) (by omega) (by omega), wrap_i64 (by omega) (by omega)]
  simp only [lt, ltJ, e, decide_eq_decide]
  omega
abbrev CF : Value := .func (.func 74) #[] #[]
abbrev row (d : Array El) : AObj := .cells (fl d.toList) 4
abbrev sl (r n : Nat) : Value := .slice (some ⟨r, 0, none⟩) n 0
theorem get_at {d : Array El} {i : Nat} (hi : i < d.size) : d.toList[i]? = some d[i]! := by simp [hi]
theorem rg {d : Array El} {i : Nat} (hi : i < d.size) : cellsOf (fl d.toList) (i * 4) 4 = some (d[i]!).cs := fl_get (get_at hi)
theorem rs {d : Array El} {i : Nat} {x : El} (hi : i < d.size) : splice (fl d.toList) (i * 4) x.cs = fl (d.setIfInBounds i x).toList := by rw [fl_set x (by simpa using hi)]; simp
theorem rb {d : Array El} {i : Nat} (hi : i < d.size) : Nat.ble (i * 4 + 4) (fl d.toList).length = true := fl_ble (by simpa using hi)
theorem sq : (∀ {c : Prop} {i : Decidable c} {α : Type} {t e : α}, c → @ite α c i t e = t) ∧ (∀ n : Nat, (n : Int).toNat = n) ∧ (∀ n : Nat, 0 + n = n) ∧ (∀ {α β : Type} (f : α → β) (x : α), Option.map f (some x) = some (f x)) ∧ (∀ {d : Array El} {i : Nat}, i < d.size → cellsOf (fl d.toList) (i * 4) 4 = some (d[i]!).cs) ∧ (∀ {d : Array El} {i : Nat} {x : El}, i < d.size → splice (fl d.toList) (i * 4) x.cs = fl (d.setIfInBounds i x).toList) ∧ (∀ {d : Array El} {i : Nat}, i < d.size → Nat.ble (i * 4 + 4) (fl d.toList).length = true) ∧
    (∀ x : Rec, (Value.agg x.cs.toArray).cells.size = 4) ∧ (∀ x : Rec, (Value.agg x.cs.toArray).cells.toList = x.cs) ∧ (∀ x : Rec, oneCells x.cs = true) ∧ (∀ x : Rec, x.cs.length = 4) ∧ (∀ {α : Type} (a b : α), cond true a b = a) ∧ (∀ (h : AHeap) (r : Nat) (o o' : AObj), (h.set r o).set r o' = h.set r o') ∧ (∀ {α : Type} (d : Array α) (i : Nat) (x : α), (d.setIfInBounds i x).size = d.size) :=
  ⟨fun hc => if_pos hc, Int.toNat_natCast, Nat.zero_add, fun _ _ => rfl, rg, rs, rb, csz, csl, cso, csn, fun _ _ => rfl, AHeap.set_set, fun _ _ _ => by simp⟩
theorem cmp_c (x y : El) (h : AHeap) : FWp Tryz.prog 74 [x.V, y.V] h fun u h' => u = I64 (cj x y) ∧ h' = h := by
  have tb74 := And.intro ty22 (And.intro ty27 (ty3))
  refine FWp.gcs (.flat rfl) ?_
  refine W.enter tyOK Tryz.func74 rfl rfl ?_
  simp only [entry]
  refine Wr <| Oa rfl Zx rfl <| Oa rfl Zx rfl <| Oa rfl za rfl <| On ?_
  refine Wr <| Oa rfl (zf (hv := fa_ok (k := 1) ty27 rfl rfl ty22 rfl rfl)) rfl <| Oa rfl (zl (hv := by simp (disch := first | omega | simp only [nx]; omega) only [aLoad, ty22, rowOf, hpl, Value.cells] <;> rfl)) rfl <| Oa rfl (so_min (by simp only [aopnds, lk] <;> rfl)) rfl <| Oa rfl (so_conw (so_conv tyOK (by simp only [lk] <;> rfl) ty22 ⟨_, rfl⟩ ty3 rfl) rfl) rfl <| Oa rfl (zf (hv := fa_ok (k := 1) ty27 rfl rfl ty22 rfl rfl)) rfl <| Oa rfl (zl (hv := by simp (disch := first | omega | simp only [nx]; omega) only [aLoad, ty22, rowOf, hpl, Value.cells] <;> rfl)) rfl <| Oa rfl (so_min (by simp only [aopnds, lk] <;> rfl)) rfl <| Oa rfl (so_conw (so_conv tyOK (by simp only [lk] <;> rfl) ty22 ⟨_, rfl⟩ ty3 rfl) rfl) rfl <| Oa rfl (zb (hv := bi_w bi_sub rfl)) rfl <| Oa rfl za rfl <| On ?_
  refine CWp.ret <| FQ.ret (by simp only [aRet, Tryz.f74, aResults, aResult, lk, Nat.reduceEqDiff, reduceIte] <;> rfl) ?_
  exact ⟨rfl, fun r o hr ho => by simp (disch := first | omega | simp only [nx]; omega) only [hpl]; exact ho⟩
theorem less_v (x y : El) (h : AHeap) : VWp Tryz.prog CF [x.V, y.V] h fun u h' => u = I64 (cj x y) ∧ h' = h := VWp.func en74 (cmp_c x y h)
theorem insertion_c (h : AHeap) (r N : Nat) (d : Array El) (hN : d.size = N) (a b : Nat) (hab : a ≤ b) (hb : b ≤ N) (hsz : N < 1000000000) :
    FWp Tryz.prog 105 [sl r N, I64 a, I64 b, CF] (h.set r (row d)) fun u h' => u = .tuple #[] ∧ h' = h.set r (row (insertionSort lt d a b)) := by
  refine W.enter tyOK Tryz.func105 rfl rfl ?_
  simp only [entry]
  have w0 : IntKind.i64.wrap ((a : Int) + 1) = ((a + 1 : Nat) : Int) := by rw [wrap_i64 (by omega) (by omega)]; omega
  refine Wr <| Oa rfl sm rfl <| Oa rfl (zb (hv := bi_w bi_add (by first | (simp only [w0] <;> rfl) | rfl))) rfl <| Oa rfl za rfl <| On ?_
  refine W.block (W.loop (fun n L h' => ∃ (i : Nat) (dk : Array El), n = b - i ∧ a + 1 ≤ i ∧ (i ≤ b ∨ i = a + 1) ∧ dk.size = N ∧ insOuter lt a b i dk = insertionSort lt d a b ∧ h' = h.set r (row dk) ∧
      L = [(0, sl r N), (1, I64 a), (2, I64 b), (3, CF), (8, I64 i)]) (n := b - (a + 1)) ⟨a + 1, d, rfl, by omega, by omega, hN, rfl, rfl, rfl⟩ ?_ ?_)
  · simp [HasA, Tr.get_put]
  · rintro n L h1 ⟨i, dk, rfl, hi1, hi2, hds, heq, rfl, rfl⟩
    simp only [mkA]
    by_cases hib : (i : Int) < (b : Int)
    · refine W.seq <| Wr <| Oa rfl sm rfl <| Oa rfl sm rfl <| Otb rfl (zb (hv := bi_lss)) rfl <| On ?_
      refine Wy <| CWp.skip <| SQ.normal ?_
      refine W.seq <| W.block <| Wr <| Oa rfl sm rfl <| Oa rfl za rfl <| On ?_
      refine W.cut (fun L h' => ∃ (dj : Array El), dj.size = N ∧ dj = insInner lt a i dk ∧ h' = h.set r (row dj) ∧ L = [(0, sl r N), (1, I64 a), (2, I64 b), (3, CF), (8, I64 i)]) (W.block (W.loop (fun n L h' => ∃ (j : Nat) (dj : Array El), n = j ∧ j ≤ i ∧ dj.size = N ∧ insInner lt a j dj = insInner lt a i dk ∧ h' = h.set r (row dj) ∧
          L = [(0, sl r N), (1, I64 a), (2, I64 b), (3, CF), (8, I64 i), (9, I64 j)]) (n := i) ⟨i, dk, rfl, by omega, hds, rfl, rfl, rfl⟩ ?_ ?_)) ?_
      · simp [HasA, Tr.get_put]
      · rintro j L h1 ⟨_, dj, rfl, hji, hdj, hq, rfl, rfl⟩
        simp only [mkA]
        by_cases hja : (j : Int) > (a : Int)
        · obtain ⟨m, rfl⟩ : ∃ m, j = m + 1 := ⟨j - 1, by omega⟩
          have w1 : IntKind.i64.wrap (((m + 1 : Nat) : Int) - 1) = (m : Int) := by rw [wrap_i64 (by omega) (by omega)]; omega
          cases hl : lt dj[m + 1]! dj[m]!
          · refine W.seq <| Wd <| Sa rfl sm rfl <| Sa rfl sm rfl <| St rfl (zb (hv := bi_gtr)) rfl (by first | rfl | assumption | ((simp only [bl, sq]) <;> first | done | assumption | omega) | (simp; done) | (simp; omega)) <| St rfl sm rfl rfl <| Sa ag sm rfl <| Sa ag sm rfl <| Sa ag sm rfl <| Sa ag (zi (hv := by simp (disch := first | omega | simp only [nx]; omega) only [aIndexAddr, ty23, ty27, hpl, sq] <;> rfl)) rfl <| Sa ag (zl (hv := by simp (disch := first | omega | simp only [nx]; omega) only [aLoad, ty27, rowOf, hpl, sq] <;> rfl)) rfl <| Sa ag sm rfl <| Sa ag sm rfl <| Sa ag (zb (hv := bi_w bi_sub (by first | (simp only [w1] <;> rfl) | rfl))) rfl <| Sa ag (zi (hv := by simp (disch := first | omega | simp only [nx]; omega) only [aIndexAddr, ty23, ty27, hpl, sq] <;> rfl)) rfl <| Sa ag (zl (hv := by simp (disch := first | omega | simp only [nx]; omega) only [aLoad, ty27, rowOf, hpl, sq] <;> rfl)) rfl <| SqW.vcallD ag (by simp only [lk] <;> rfl) (by simp only [aopnds, lk] <;> rfl) (less_v _ _ _) rfl <| Sf ag (zb (hv := bi_lss)) rfl (hl) <| Sf rfl Zp rfl rfl <| Sn ?_
            refine Wn <| CWp.exit <| SQ.exit <| LQ.exit <| BQ.exit <| ?_
            refine NQ.normal (L := [(0, sl r N), (1, I64 a), (2, I64 b), (3, CF), (8, I64 i)]) ?_ ⟨dj, hdj, ?_, rfl, rfl⟩
            · simp only [HasA, Tr.get_put, Nat.reduceEqDiff, reduceIte, and_self]
            · rw [← hq, insInner]; simp [hl]
          · refine W.seq <| Wd <| Sa rfl sm rfl <| Sa rfl sm rfl <| St rfl (zb (hv := bi_gtr)) rfl (by first | rfl | assumption | ((simp only [bl, sq]) <;> first | done | assumption | omega) | (simp; done) | (simp; omega)) <| St rfl sm rfl rfl <| Sa ag sm rfl <| Sa ag sm rfl <| Sa ag sm rfl <| Sa ag (zi (hv := by simp (disch := first | omega | simp only [nx]; omega) only [aIndexAddr, ty23, ty27, hpl, sq] <;> rfl)) rfl <| Sa ag (zl (hv := by simp (disch := first | omega | simp only [nx]; omega) only [aLoad, ty27, rowOf, hpl, sq] <;> rfl)) rfl <| Sa ag sm rfl <| Sa ag sm rfl <| Sa ag (zb (hv := bi_w bi_sub (by first | (simp only [w1] <;> rfl) | rfl))) rfl <| Sa ag (zi (hv := by simp (disch := first | omega | simp only [nx]; omega) only [aIndexAddr, ty23, ty27, hpl, sq] <;> rfl)) rfl <| Sa ag (zl (hv := by simp (disch := first | omega | simp only [nx]; omega) only [aLoad, ty27, rowOf, hpl, sq] <;> rfl)) rfl <| SqW.vcallD ag (by simp only [lk] <;> rfl) (by simp only [aopnds, lk] <;> rfl) (less_v _ _ _) rfl <| St ag (zb (hv := bi_lss)) rfl (hl) <| St rfl Zp rfl rfl <| Sn ?_
            refine Wy <| CWp.skip <| SQ.normal ?_
            refine W.seq <| W.block <| W.regD tyOK mixed (by kernel_rfl) <| Sa rfl sm rfl <| Sa rfl sm rfl <| Sa rfl sm rfl <| Sa rfl sm rfl <| Sa rfl (zb (hv := bi_w bi_sub (by first | (simp only [w1] <;> rfl) | rfl))) rfl <| Sa rfl sm rfl <| Sa rfl sm rfl <| Sa rfl (zb (hv := bi_w bi_sub (by first | (simp only [w1] <;> rfl) | rfl))) rfl <| Sa rfl (zi (hv := by simp (disch := first | omega | simp only [nx]; omega) only [aIndexAddr, ty23, ty27, hpl, sq] <;> rfl)) rfl <| Sa rfl (zl (hv := by simp (disch := first | omega | simp only [nx]; omega) only [aLoad, ty27, rowOf, hpl, sq] <;> rfl)) rfl <| Sa rfl sm rfl <| Sa rfl sm rfl <| Sa rfl (zi (hv := by simp (disch := first | omega | simp only [nx]; omega) only [aIndexAddr, ty23, ty27, hpl, sq] <;> rfl)) rfl <| Sa rfl (zl (hv := by simp (disch := first | omega | simp only [nx]; omega) only [aLoad, ty27, rowOf, hpl, sq] <;> rfl)) rfl <| Sa rfl (zi (hv := by simp (disch := first | omega | simp only [nx]; omega) only [aIndexAddr, ty23, ty27, hpl, sq] <;> rfl)) rfl <| Sa rfl (zs (hv := by simp (disch := first | omega | simp only [nx]; omega) only [aStore, ty27, writeRow, hpl, sq] <;> rfl)) rfl <| Sa rfl (zi (hv := by simp (disch := first | omega | simp only [nx]; omega) only [aIndexAddr, ty23, ty27, hpl, sq] <;> rfl)) rfl <| Sa rfl (zs (hv := by simp (disch := first | omega | simp only [nx]; omega) only [aStore, ty27, writeRow, hpl, sq] <;> rfl)) rfl <| SqW.nil <| BQ.normal <| SQ.normal ?_
            refine W.reg <| Oa rfl sm rfl <| Oa rfl (zb (hv := bi_w bi_sub (by first | (simp only [w1] <;> rfl) | rfl))) rfl <| Oa rfl za rfl <| OSuf.nil <| ?_
            refine LQ.normal (m := m) (L := [(0, sl r N), (1, I64 a), (2, I64 b), (3, CF), (8, I64 i), (9, I64 m)]) (by omega) ?_ ⟨m, swp dj (m + 1) m, rfl, by omega, by rw [size_swp]; exact hdj, ?_, rfl, rfl⟩
            · simp only [HasA, Tr.get_put, Nat.reduceEqDiff, reduceIte, w1, and_self]
            · rw [← hq, insInner]; simp [hl]; omega
        · refine W.seq <| Wd <| Sa rfl sm rfl <| Sa rfl sm rfl <| Sf rfl (zb (hv := bi_gtr)) rfl (by first | rfl | assumption | ((simp only [bl]) <;> first | done | assumption | omega) | (simp; done) | (simp; omega)) <| Sf rfl sm rfl rfl <| Pb ag rfl <| Pb ag rfl <| Pb ag rfl <| Pb ag rfl <| Pb ag rfl <| Pb ag rfl <| Pb ag rfl <| Pb ag rfl <| Pb ag rfl <| Pb ag rfl <| Pb ag rfl <| Pb ag rfl <| Sf rfl Zp rfl rfl <| Sn ?_
          refine Wn <| CWp.exit <| SQ.exit <| LQ.exit <| BQ.exit <| ?_
          refine NQ.normal (L := [(0, sl r N), (1, I64 a), (2, I64 b), (3, CF), (8, I64 i)]) ?_ ⟨dj, hdj, ?_, rfl, rfl⟩
          · simp only [HasA, Tr.get_put, Nat.reduceEqDiff, reduceIte, and_self]
          · rw [← hq]
            cases j with
            | zero => rfl
            | succ m => rw [insInner]; simp; omega
      · rintro L a' h1 ha ⟨dj, hdj, rfl, rfl, rfl⟩
        have w1 : IntKind.i64.wrap ((i : Int) + 1) = ((i + 1 : Nat) : Int) := by rw [wrap_i64 (by omega) (by omega)]; omega
        refine BQ.normal <| SQ.normal <| CWp.known ha ?_
        simp only [mkA]
        refine W.reg <| Oa rfl sm rfl <| Oa rfl (zb (hv := bi_w bi_add (by first | (simp only [w1] <;> rfl) | rfl))) rfl <| Oa rfl za rfl <| OSuf.nil <| ?_
        refine LQ.normal (m := b - (i + 1)) (L := [(0, sl r N), (1, I64 a), (2, I64 b), (3, CF), (8, I64 (i + 1 : Nat))]) (by omega) ?_ ⟨i + 1, insInner lt a i dk, rfl, by omega, by omega, hdj, ?_, rfl, rfl⟩
        · simp only [HasA, Tr.get_put, Nat.reduceEqDiff, reduceIte, w1, and_self]
        · rw [← heq]
          conv => rhs; rw [insOuter]
          rw [if_pos (by omega)]
    · refine W.seq <| Wr <| Oa rfl sm rfl <| Oa rfl sm rfl <| Ofb rfl (zb (hv := bi_lss)) rfl <| On ?_
      refine Wn <| CWp.exit <| SQ.exit <| LQ.exit <| BQ.exit <| FQ.normal (by simp only [aRet, Tryz.f105, aResults, aResult, lk, Nat.reduceEqDiff, reduceIte] <;> rfl) ?_
      refine ⟨rfl, ?_⟩
      rw [← heq, insOuter, if_neg (by omega)]
def Good (d : Array Rec) : Prop := ∀ k : Nat, 0 ≤ (d[k]! : Rec).lsn
theorem Good.lt {d : Array Rec} (g : Good d) (i j : Nat) : lt d[i]! d[j]! = ltJ d[i]! d[j]! := lt_eq (g i) (g j)
theorem Good.swp {d : Array Rec} (g : Good d) {i j : Nat} (hi : i < d.size) (hj : j < d.size) : Good (swp d i j) := fun k => by
  rw [swp_get d hi hj k]
  split
  · exact g _
  · split
    · exact g _
    · exact g _
theorem Good.perm {d d' : Array Rec} (g : Good d) {a b : Nat} (hb : b ≤ d.size) (p : PermIn a b d d') : Good d' := fun k => by
  by_cases hk : a ≤ k ∧ k < b
  · exact permIn_all d d' a b (fun x => 0 ≤ x.lsn) hb p (fun i _ _ => g i) k hk.1 hk.2
  · rw [p.2.1 k (by omega)]; exact g k
theorem inner_eq (a : Nat) : ∀ (j : Nat) (d : Array Rec), Good d → j < d.size → insInner lt a j d = insInner ltJ a j d ∧ Good (insInner ltJ a j d) ∧ (insInner ltJ a j d).size = d.size
  | 0, d, g, _ => ⟨rfl, g, rfl⟩
  | j + 1, d, g, hj => by
    simp only [insInner]
    rw [g.lt (j + 1) j]
    split
    · have ih := inner_eq a j (swp d (j + 1) j) (g.swp hj (by omega)) (by rw [size_swp]; omega)
      rw [size_swp] at ih; exact ih
    · exact ⟨rfl, g, rfl⟩
theorem outer_eq (a b : Nat) : ∀ (n i : Nat) (d : Array Rec), b - i ≤ n → Good d → b ≤ d.size → insOuter lt a b i d = insOuter ltJ a b i d := by
  intro n
  induction n with
  | zero => intro i d hn g hb; conv => lhs; rw [insOuter, if_neg (by omega)]
            conv => rhs; rw [insOuter, if_neg (by omega)]
  | succ n ih =>
    intro i d hn g hb
    by_cases hi : i < b
    · obtain ⟨e, g', hs⟩ := inner_eq a i d g (by omega)
      conv => lhs; rw [insOuter, if_pos hi, e, ih _ _ (by omega) g' (by omega)]
      conv => rhs; rw [insOuter, if_pos hi]
    · conv => lhs; rw [insOuter, if_neg hi]
      conv => rhs; rw [insOuter, if_neg hi]
theorem ins_eq {d : Array Rec} (g : Good d) {a b : Nat} (hb : b ≤ d.size) : insertionSort lt d a b = insertionSort ltJ d a b := outer_eq a b _ _ d (Nat.le_refl _) g hb
theorem gx {d : Array Rec} {x y : Nat} (h : x = y) : d[x]! = d[y]! := by rw [h]
theorem swapRange_c (h : AHeap) (r N : Nat) (d : Array El) (hN : d.size = N) (a b n : Nat) (hab : a + n ≤ b) (hb : b + n ≤ N) (hsz : N < 1000000000) :
    FWp Tryz.prog 141 [sl r N, I64 a, I64 b, I64 n, CF] (h.set r (row d)) fun u h' => u = .tuple #[] ∧ ∃ d' : Array El, d'.size = N ∧ (∀ lo hi, lo ≤ a → b + n ≤ hi → hi ≤ N → PermIn lo hi d d') ∧
      (∀ k, d'[k]! = if a ≤ k ∧ k < a + n then d[k + (b - a)]! else if b ≤ k ∧ k < b + n then d[k - (b - a)]! else d[k]!) ∧ h' = h.set r (row d') := by
  refine W.enter tyOK Tryz.func141 rfl rfl ?_
  simp only [entry]
  refine Wr <| Oa rfl za rfl <| On ?_
  refine W.block (W.loop (fun m L h' => ∃ (i : Nat) (dk : Array El), m + i = n ∧ dk.size = N ∧ (∀ lo hi, lo ≤ a → b + n ≤ hi → hi ≤ N → PermIn lo hi d dk) ∧
      (∀ k, dk[k]! = if a ≤ k ∧ k < a + i then d[k + (b - a)]! else if b ≤ k ∧ k < b + i then d[k - (b - a)]! else d[k]!) ∧ h' = h.set r (row dk) ∧ L = [(0, sl r N), (1, I64 a), (2, I64 b), (3, I64 n), (10, I64 i)]) (n := n) ⟨0, d, rfl, hN, fun lo hi _ _ _ => permIn_refl _ _ _, fun k => by rw [if_neg (by omega), if_neg (by omega)], rfl, rfl⟩ ?_ ?_)
  · simp [HasA, Tr.get_put]
  rintro m L h1 ⟨i, dk, hm, hds, hp, hg, rfl, rfl⟩
  simp only [mkA]
  by_cases hi : (i : Int) < (n : Int)
  · have w1 : IntKind.i64.wrap ((a : Int) + (i : Int)) = ((a + i : Nat) : Int) := by rw [wrap_i64 (by omega) (by omega)]; omega
    have w2 : IntKind.i64.wrap ((b : Int) + (i : Int)) = ((b + i : Nat) : Int) := by rw [wrap_i64 (by omega) (by omega)]; omega
    have w3 : IntKind.i64.wrap ((i : Int) + 1) = ((i + 1 : Nat) : Int) := by rw [wrap_i64 (by omega) (by omega)]; omega
    refine W.seq <| Wr <| Oa rfl sm rfl <| Oa rfl sm rfl <| Ot rfl (zb (hv := bi_lss)) rfl (by first | rfl | assumption | ((simp only [bl, sq]) <;> first | done | assumption | omega) | (simp; done) | (simp; omega)) <| On ?_
    refine Wy <| CWp.skip <| SQ.normal ?_
    refine W.seq <| W.block <| W.regD tyOK mixed (by kernel_rfl) <| Sa rfl sm rfl <| Sa rfl sm rfl <| Sa rfl sm rfl <| Sa rfl (zb (hv := bi_w bi_add (by first | (simp only [w1, w2, w3] <;> rfl) | rfl))) rfl <| Sa rfl sm rfl <| Sa rfl sm rfl <| Sa rfl sm rfl <| Sa rfl (zb (hv := bi_w bi_add (by first | (simp only [w1, w2, w3] <;> rfl) | rfl))) rfl <| Sa rfl sm rfl <| Sa rfl sm rfl <| Sa rfl sm rfl <| Sa rfl (zb (hv := bi_w bi_add (by first | (simp only [w1, w2, w3] <;> rfl) | rfl))) rfl <| Sa rfl (zi (hv := by simp (disch := first | omega | simp only [nx]; omega) only [aIndexAddr, ty23, ty27, hpl, sq] <;> rfl)) rfl <| Sa rfl (zl (hv := by simp (disch := first | omega | simp only [nx]; omega) only [aLoad, ty27, rowOf, hpl, sq] <;> rfl)) rfl <| Sa rfl sm rfl <| Sa rfl sm rfl <| Sa rfl sm rfl <| Sa rfl (zb (hv := bi_w bi_add (by first | (simp only [w1, w2, w3] <;> rfl) | rfl))) rfl <| Sa rfl (zi (hv := by simp (disch := first | omega | simp only [nx]; omega) only [aIndexAddr, ty23, ty27, hpl, sq] <;> rfl)) rfl <| Sa rfl (zl (hv := by simp (disch := first | omega | simp only [nx]; omega) only [aLoad, ty27, rowOf, hpl, sq] <;> rfl)) rfl <| Sa rfl (zi (hv := by simp (disch := first | omega | simp only [nx]; omega) only [aIndexAddr, ty23, ty27, hpl, sq] <;> rfl)) rfl <| Sa rfl (zs (hv := by simp (disch := first | omega | simp only [nx]; omega) only [aStore, ty27, writeRow, hpl, sq] <;> rfl)) rfl <| Sa rfl (zi (hv := by simp (disch := first | omega | simp only [nx]; omega) only [aIndexAddr, ty23, ty27, hpl, sq] <;> rfl)) rfl <| Sa rfl (zs (hv := by simp (disch := first | omega | simp only [nx]; omega) only [aStore, ty27, writeRow, hpl, sq] <;> rfl)) rfl <| SqW.nil <| BQ.normal <| SQ.normal ?_
    refine W.reg <| Oa rfl sm rfl <| Oa rfl (zb (hv := bi_w bi_add (by first | (simp only [w1, w2, w3] <;> rfl) | rfl))) rfl <| Oa rfl za rfl <| OSuf.nil <| ?_
    refine LQ.normal (m := m - 1) (L := [(0, sl r N), (1, I64 a), (2, I64 b), (3, I64 n), (10, I64 (i + 1 : Nat))]) (by omega) ?_ ⟨i + 1, swp dk (a + i) (b + i), by omega, by rw [size_swp]; exact hds, fun lo hi h1 h2 h3 => permIn_trans _ _ _ _ _ (hp lo hi h1 h2 h3) (swp_permIn _ _ _ _ _ (by omega) (by omega) (by omega) (by omega) (by omega)), fun k => ?_, rfl, rfl⟩
    · simp only [HasA, Tr.get_put, Nat.reduceEqDiff, reduceIte, w3, and_self]
    · rw [swp_get dk (by omega) (by omega) k, hg (a + i), hg (b + i), hg k]
      repeat' split
      all_goals first | omega | exact gx (by omega)
  · refine W.seq <| Wr <| Oa rfl sm rfl <| Oa rfl sm rfl <| Ofb rfl (zb (hv := bi_lss)) rfl <| On ?_
    refine Wn <| CWp.exit <| SQ.exit <| LQ.exit <| BQ.exit <| FQ.normal (by simp only [aRet, Tryz.f141, aResults, aResult, lk, Nat.reduceEqDiff, reduceIte] <;> rfl) ?_
    have hi2 : i = n := by omega
    subst hi2
    exact ⟨rfl, dk, hds, hp, hg, rfl⟩
def rot (m i j : Nat) (d : Array Rec) (k : Nat) : Rec := if m - i ≤ k ∧ k < m - i + j then d[k + i]! else if m - i + j ≤ k ∧ k < m + j then d[k - j]! else d[k]!
theorem rotate_c (h : AHeap) (r N : Nat) (d : Array El) (hN : d.size = N) (a m b : Nat) (ham : a < m) (hmb : m < b) (hb : b ≤ N) (hsz : N < 1000000000) :
    FWp Tryz.prog 135 [sl r N, I64 a, I64 m, I64 b, CF] (h.set r (row d)) fun u h' => u = .tuple #[] ∧ ∃ d' : Array El, PermIn a b d d' ∧ (∀ k, d'[k]! = rot m (m - a) (b - m) d k) ∧ h' = h.set r (row d') := by
  refine W.enter tyOK Tryz.func135 rfl rfl ?_
  simp only [entry]
  have w1 : IntKind.i64.wrap ((m : Int) - (a : Int)) = ((m - a : Nat) : Int) := by rw [wrap_i64 (by omega) (by omega)]; omega
  have w2 : IntKind.i64.wrap ((b : Int) - (m : Int)) = ((b - m : Nat) : Int) := by rw [wrap_i64 (by omega) (by omega)]; omega
  refine Wr <| Oa rfl sm rfl <| Oa rfl sm rfl <| Oa rfl (zb (hv := bi_w bi_sub (by first | (simp only [w1, w2] <;> rfl) | rfl))) rfl <| Oa rfl za rfl <| On ?_
  refine Wr <| Oa rfl sm rfl <| Oa rfl sm rfl <| Oa rfl (zb (hv := bi_w bi_sub (by first | (simp only [w1, w2] <;> rfl) | rfl))) rfl <| Oa rfl za rfl <| On ?_
  refine W.seq <| ?_
  refine W.cut (fun L h' => ∃ (i : Nat) (dk : Array El), 1 ≤ i ∧ i ≤ m - a ∧ i ≤ b - m ∧ dk.size = N ∧ PermIn a b d dk ∧ (∀ k, rot m i i dk k = rot m (m - a) (b - m) d k) ∧ h' = h.set r (row dk) ∧ L = [(0, sl r N), (2, I64 m), (4, CF), (10, I64 i)])
    (W.block (W.loop (fun c L h' => ∃ (i j : Nat) (dk : Array El), c = i + j ∧ 1 ≤ i ∧ 1 ≤ j ∧ i ≤ m - a ∧ j ≤ b - m ∧ dk.size = N ∧ PermIn a b d dk ∧ (∀ k, rot m i j dk k = rot m (m - a) (b - m) d k) ∧ h' = h.set r (row dk) ∧ L = [(0, sl r N), (2, I64 m), (4, CF), (10, I64 i), (11, I64 j)]) (n := (m - a) + (b - m)) ⟨m - a, b - m, d, rfl, by omega, by omega, Nat.le_refl _, Nat.le_refl _, hN, permIn_refl _ _ _, fun k => rfl, rfl, rfl⟩ ?_ ?_)) ?_
  · simp [HasA, Tr.get_put]
  · rintro c L h1 ⟨i, j, dk, rfl, hi1, hj1, hi2, hj2, hds, hp, hg, rfl, rfl⟩
    simp only [mkA]
    by_cases hij : i = j
    · subst hij
      refine W.seq <| Wr <| Oa rfl sm rfl <| Oa rfl sm rfl <| Of rfl (zb (hv := bi_neq)) rfl (by simp) <| On ?_
      refine Wn <| CWp.exit <| SQ.exit <| LQ.exit <| BQ.exit <| ?_
      refine NQ.normal (L := [(0, sl r N), (2, I64 m), (4, CF), (10, I64 i)]) ?_ ⟨i, dk, hi1, hi2, hj2, hds, hp, hg, rfl, rfl⟩
      simp only [HasA, Tr.get_put, Nat.reduceEqDiff, reduceIte, and_self]
    · have b1 : (!((i : Int) == (j : Int))) = true := by simp; omega
      have w3 : IntKind.i64.wrap ((m : Int) - (i : Int)) = ((m - i : Nat) : Int) := by rw [wrap_i64 (by omega) (by omega)]; omega
      have w4 : IntKind.i64.wrap ((m : Int) + (j : Int)) = ((m + j : Nat) : Int) := by rw [wrap_i64 (by omega) (by omega)]; omega
      by_cases hgt : (i : Int) > (j : Int)
      · have w5 : IntKind.i64.wrap ((i : Int) - (j : Int)) = ((i - j : Nat) : Int) := by rw [wrap_i64 (by omega) (by omega)]; omega
        refine W.seq <| Wr <| Oa rfl sm rfl <| Oa rfl sm rfl <| Ot rfl (zb (hv := bi_neq)) rfl (b1) <| On ?_
        refine Wy <| CWp.skip <| SQ.normal ?_
        refine W.block <| Wr <| Oa rfl sm rfl <| Oa rfl sm rfl <| Otb rfl (zb (hv := bi_gtr)) rfl <| On ?_
        refine Wy <| Wr <| Oa rfl sm rfl <| Oa rfl sm rfl <| Oa rfl sm rfl <| Oa rfl (zb (hv := bi_w bi_sub (by first | (simp only [w3, w5] <;> rfl) | rfl))) rfl <| Oa rfl sm rfl <| Oa rfl sm rfl <| Oa rfl sm rfl <| OSuf.call rfl (by simp only [aopnds, lk] <;> rfl) en141 (swapRange_c h r N dk hds (m - i) m j (by omega) (by omega) hsz) ?_
        rintro _ _ ⟨rfl, d2, hs2, hp2, hg2, rfl⟩
        refine ⟨_, rfl, ?_⟩
        refine On ?_
        refine W.reg <| Oa rfl sm rfl <| Oa rfl sm rfl <| Oa rfl (zb (hv := bi_w bi_sub (by first | (simp only [w3, w5, w5] <;> rfl) | rfl))) rfl <| Oa rfl za rfl <| OSuf.nil <| BQ.normal <| ?_
        refine LQ.normal (m := (i - j) + j) (L := [(0, sl r N), (2, I64 m), (4, CF), (10, I64 (i - j : Nat)), (11, I64 j)]) (by omega) ?_ ⟨i - j, j, d2, rfl, by omega, hj1, by omega, hj2, hs2, permIn_trans _ _ _ _ _ hp (hp2 a b (by omega) (by omega) hb), fun k => ?_, rfl, rfl⟩
        · simp only [HasA, Tr.get_put, Nat.reduceEqDiff, reduceIte, w5, and_self]
        · rw [← hg k]
          simp only [rot, hg2]
          repeat' split
          all_goals first | omega | exact gx (by omega)
      · have w6 : IntKind.i64.wrap (((m + j : Nat) : Int) - (i : Int)) = ((m + j - i : Nat) : Int) := by rw [wrap_i64 (by omega) (by omega)]; omega
        have w7 : IntKind.i64.wrap ((j : Int) - (i : Int)) = ((j - i : Nat) : Int) := by rw [wrap_i64 (by omega) (by omega)]; omega
        refine W.seq <| Wr <| Oa rfl sm rfl <| Oa rfl sm rfl <| Ot rfl (zb (hv := bi_neq)) rfl (b1) <| On ?_
        refine Wy <| CWp.skip <| SQ.normal ?_
        refine W.block <| Wr <| Oa rfl sm rfl <| Oa rfl sm rfl <| Ofb rfl (zb (hv := bi_gtr)) rfl <| On ?_
        refine Wn <| Wr <| Oa rfl sm rfl <| Oa rfl sm rfl <| Oa rfl sm rfl <| Oa rfl (zb (hv := bi_w bi_sub (by first | (simp only [w3, w4, w6] <;> rfl) | rfl))) rfl <| Oa rfl sm rfl <| Oa rfl sm rfl <| Oa rfl (zb (hv := bi_w bi_add (by first | (simp only [w3, w4, w6] <;> rfl) | rfl))) rfl <| Oa rfl sm rfl <| Oa rfl (zb (hv := bi_w bi_sub (by first | (simp only [w3, w4, w6] <;> rfl) | rfl))) rfl <| Oa rfl sm rfl <| Oa rfl sm rfl <| OSuf.call rfl (by simp only [aopnds, lk] <;> rfl) en141 (swapRange_c h r N dk hds (m - i) (m + j - i) i (by omega) (by omega) hsz) ?_
        rintro _ _ ⟨rfl, d2, hs2, hp2, hg2, rfl⟩
        refine ⟨_, rfl, ?_⟩
        refine On ?_
        refine W.reg <| Oa rfl sm rfl <| Oa rfl sm rfl <| Oa rfl (zb (hv := bi_w bi_sub (by first | (simp only [w3, w4, w6, w7] <;> rfl) | rfl))) rfl <| Oa rfl za rfl <| OSuf.nil <| BQ.normal <| ?_
        refine LQ.normal (m := i + (j - i)) (L := [(0, sl r N), (2, I64 m), (4, CF), (10, I64 i), (11, I64 (j - i : Nat))]) (by omega) ?_ ⟨i, j - i, d2, rfl, hi1, by omega, hi2, by omega, hs2, permIn_trans _ _ _ _ _ hp (hp2 a b (by omega) (by omega) hb), fun k => ?_, rfl, rfl⟩
        · simp only [HasA, Tr.get_put, Nat.reduceEqDiff, reduceIte, w7, and_self]
        · rw [← hg k]
          simp only [rot, hg2]
          repeat' split
          all_goals first | omega | exact gx (by omega)
  · rintro L a' h1 ha ⟨i, dk, hi1, hi2, hi3, hds, hp, hg, rfl, rfl⟩
    have w3 : IntKind.i64.wrap ((m : Int) - (i : Int)) = ((m - i : Nat) : Int) := by rw [wrap_i64 (by omega) (by omega)]; omega
    refine SQ.normal <| CWp.known ha ?_
    simp only [mkA]
    refine W.reg <| Oa rfl sm rfl <| Oa rfl sm rfl <| Oa rfl sm rfl <| Oa rfl (zb (hv := bi_w bi_sub (by first | (simp only [w3] <;> rfl) | rfl))) rfl <| Oa rfl sm rfl <| Oa rfl sm rfl <| Oa rfl sm rfl <| OSuf.call rfl (by simp only [aopnds, lk] <;> rfl) en141 (swapRange_c h r N dk hds (m - i) m i (by omega) (by omega) hsz) ?_
    rintro _ _ ⟨rfl, d2, hs2, hp2, hg2, rfl⟩
    refine ⟨_, rfl, ?_⟩
    refine OSuf.nil <| FQ.normal (by simp only [aRet, Tryz.f135, aResults, aResult, lk, Nat.reduceEqDiff, reduceIte] <;> rfl) ?_
    refine ⟨rfl, d2, permIn_trans _ _ _ _ _ hp (hp2 a b (by omega) (by omega) hb), fun k => ?_, rfl⟩
    rw [← hg k]
    simp only [rot, hg2]
    repeat' split
    all_goals first | omega | exact gx (by omega)
end Go.Proofs.YtebheelmgcggmaaGreat.SortJ
namespace Go.Proofs.YtebheelmgcggmaaGreat.SortJ
open Go.Ab Go.Sort
theorem si_le {d : Array Rec} {a b i j : Nat} (s : SortedIn ltJ a b d) (h1 : a ≤ i) (h2 : i ≤ j) (h3 : j < b) : ltJ d[j]! d[i]! = false := by
  rcases Nat.lt_or_ge i j with h | h
  · exact s i j h1 h h3
  · rw [show i = j by omega]; exact swo.irrefl _
theorem si_eq {d d' : Array Rec} {a b : Nat} (s : SortedIn ltJ a b d) (e : ∀ k, a ≤ k → k < b → d'[k]! = d[k]!) : SortedIn ltJ a b d' := fun i j h1 h2 h3 => by
  rw [e i h1 (by omega), e j (by omega) h3]; exact s i j h1 h2 h3
theorem si_sub {d : Array Rec} {a b a' b' : Nat} (s : SortedIn ltJ a b d) (h1 : a ≤ a') (h2 : b' ≤ b) : SortedIn ltJ a' b' d := fun i j h3 h4 h5 => s i j (by omega) h4 (by omega)
theorem si_join {d : Array Rec} {a m b : Nat} (s1 : SortedIn ltJ a m d) (s2 : SortedIn ltJ m b d) (x : ∀ p q, a ≤ p → p < m → m ≤ q → q < b → ltJ d[q]! d[p]! = false) : SortedIn ltJ a b d := fun i j h1 h2 h3 => by
  by_cases hi : i < m
  · by_cases hj : j < m
    · exact s1 i j h1 h2 hj
    · exact x i j h1 hi (by omega) h3
  · exact s2 i j (by omega) h2 h3
theorem ins1 {d d' : Array Rec} {a b i : Nat} (s : SortedIn ltJ (a + 1) b d) (h1 : a + 1 ≤ i) (h2 : i ≤ b) (hlo : i = a + 1 ∨ ltJ d[i - 1]! d[a]! = true) (hhi : i = b ∨ ltJ d[i]! d[a]! = false)
    (hd : ∀ x, d'[x]! = if a ≤ x ∧ x < i - 1 then d[x + 1]! else if x = i - 1 then d[a]! else d[x]!) : SortedIn ltJ a b d' := by
  intro p q hp hpq hq
  rw [hd p, hd q]
  by_cases c1 : q < i - 1
  · rw [if_pos (by omega), if_pos (by omega)]; exact s _ _ (by omega) (by omega) (by omega)
  · rw [if_neg (by omega : ¬ (a ≤ q ∧ q < i - 1))]
    by_cases c2 : q = i - 1
    · rw [if_pos c2, if_pos (by omega)]
      have := hlo.resolve_left (by omega)
      exact swo.ntrans _ _ _ (swo.asymmA this) (si_le s (by omega) (by omega) (by omega))
    · rw [if_neg c2]
      by_cases c3 : p < i - 1
      · rw [if_pos (by omega)]; exact s _ _ (by omega) (by omega) hq
      · rw [if_neg (by omega)]
        by_cases c4 : p = i - 1
        · rw [if_pos c4]
          exact swo.ntrans _ _ _ (si_le s (by omega) (by omega : i ≤ q) hq) (hhi.resolve_left (by omega))
        · rw [if_neg c4]; exact s _ _ (by omega) hpq hq
theorem ins2 {d d' : Array Rec} {a m i : Nat} (s : SortedIn ltJ a m d) (h1 : a ≤ i) (h2 : i ≤ m) (hlo : i = a ∨ ltJ d[m]! d[i - 1]! = false) (hhi : i = m ∨ ltJ d[m]! d[i]! = true)
    (hd : ∀ x, d'[x]! = if i < x ∧ x ≤ m then d[x - 1]! else if x = i then d[m]! else d[x]!) : SortedIn ltJ a (m + 1) d' := by
  intro p q hp hpq hq
  rw [hd p, hd q]
  by_cases c1 : q < i
  · rw [if_neg (by omega), if_neg (by omega), if_neg (by omega), if_neg (by omega)]; exact s _ _ hp hpq (by omega)
  · by_cases c2 : q = i
    · rw [if_neg (by omega : ¬ (i < q ∧ q ≤ m)), if_pos c2, if_neg (by omega), if_neg (by omega)]
      exact swo.ntrans _ _ _ (hlo.resolve_left (by omega)) (si_le s hp (by omega) (by omega))
    · rw [if_pos (by omega : (i < q ∧ q ≤ m))]
      by_cases c3 : p < i
      · rw [if_neg (by omega), if_neg (by omega)]; exact si_le s hp (by omega) (by omega)
      · by_cases c4 : p = i
        · rw [if_neg (by omega), if_pos c4]
          exact swo.ntrans _ _ _ (si_le s (by omega) (by omega : i ≤ q - 1) (by omega)) (swo.asymmA (hhi.resolve_left (by omega)))
        · rw [if_pos (by omega)]; exact s _ _ (by omega) (by omega) (by omega)
theorem rot_0j (m j : Nat) (d : Array Rec) (k : Nat) : rot m 0 j d k = d[k]! := by
  simp only [rot]
  repeat' split
  all_goals first | rfl | omega
theorem rot_i0 (m i : Nat) (d : Array Rec) (k : Nat) : rot m i 0 d k = d[k]! := by
  simp only [rot]
  repeat' split
  all_goals first | rfl | omega
theorem mid_c {d d1 : Array Rec} {a m b s e c : Nat} (h1 : a ≤ s) (h2 : s ≤ m) (h3 : m ≤ e) (h4 : e ≤ b) (hc : s + (e - m) = c) (s1 : SortedIn ltJ a m d) (s2 : SortedIn ltJ m b d)
    (hlo : s = a ∨ e = b ∨ ltJ d[e]! d[s - 1]! = false) (hhi : e = m ∨ s = m ∨ ltJ d[e - 1]! d[s]! = true) (hd : ∀ k, d1[k]! = rot m (m - s) (e - m) d k) :
    SortedIn ltJ a s d1 ∧ SortedIn ltJ s c d1 ∧ SortedIn ltJ c e d1 ∧ SortedIn ltJ e b d1 ∧ ∀ p q, a ≤ p → p < c → c ≤ q → q < b → ltJ d1[q]! d1[p]! = false := by
  have e1 : ∀ k, k < s → d1[k]! = d[k]! := fun k hk => by rw [hd, rot, if_neg (by omega), if_neg (by omega)]
  have e2 : ∀ k, s ≤ k → k < c → d1[k]! = d[k + (m - s)]! := fun k h5 h6 => by rw [hd, rot, if_pos (by omega)]
  have e3 : ∀ k, c ≤ k → k < e → d1[k]! = d[k - (e - m)]! := fun k h5 h6 => by rw [hd, rot, if_neg (by omega), if_pos (by omega)]
  have e4 : ∀ k, e ≤ k → d1[k]! = d[k]! := fun k hk => by rw [hd, rot, if_neg (by omega), if_neg (by omega)]
  refine ⟨si_eq (si_sub s1 (Nat.le_refl _) h2) fun k _ hk => e1 k hk, fun i j h5 h6 h7 => ?_, fun i j h5 h6 h7 => ?_, si_eq (si_sub s2 h3 (Nat.le_refl _)) fun k hk _ => e4 k hk, fun p q h5 h6 h7 h8 => ?_⟩
  · rw [e2 i h5 (by omega), e2 j (by omega) h7]; exact s2 _ _ (by omega) (by omega) (by omega)
  · rw [e3 i h5 (by omega), e3 j (by omega) h7]; exact s1 _ _ (by omega) (by omega) (by omega)
  · by_cases c1 : p < s
    · rw [e1 p c1]
      by_cases c2 : q < e
      · rw [e3 q h7 c2]; exact si_le s1 h5 (by omega) (by omega)
      · rw [e4 q (by omega)]
        have := (hlo.resolve_left (by omega)).resolve_left (by omega)
        exact swo.ntrans _ _ _ (si_le s2 (by omega) (by omega : e ≤ q) h8) (swo.ntrans _ _ _ this (si_le s1 h5 (by omega) (by omega)))
    · rw [e2 p (by omega) h6]
      by_cases c2 : q < e
      · rw [e3 q h7 c2]
        have := (hhi.resolve_left (by omega)).resolve_left (by omega)
        exact swo.ntrans _ _ _ (si_le s1 (by omega) (by omega : s ≤ q - (e - m)) (by omega)) (swo.ntrans _ _ _ (swo.asymmA this) (si_le s2 (by omega) (by omega) (by omega)))
      · rw [e4 q (by omega)]; exact si_le s2 (by omega) (by omega) h8
theorem fin_c {d1 d2 d3 : Array Rec} {a c b : Nat} (hac : a ≤ c) (hcb : c ≤ b) (hb : b ≤ d1.size) (x : ∀ p q, a ≤ p → p < c → c ≤ q → q < b → ltJ d1[q]! d1[p]! = false)
    (p2 : PermIn a c d1 d2) (s2 : SortedIn ltJ a c d2) (p3 : PermIn c b d2 d3) (s3 : SortedIn ltJ c b d3) : PermIn a b d1 d3 ∧ SortedIn ltJ a b d3 := by
  have q2 := permIn_mono _ _ _ _ a b (Nat.le_refl _) hcb hb p2
  have q3 := permIn_mono _ _ _ _ a b hac (Nat.le_refl _) (by rw [p2.1]; exact hb) p3
  refine ⟨permIn_trans _ _ _ _ _ q2 q3, si_join (si_eq s2 fun k _ hk => p3.2.1 k (.inl hk)) s3 fun p q h1 h2 h3 h4 => ?_⟩
  have x2 : ∀ q, c ≤ q → q < b → ∀ p, a ≤ p → p < c → ltJ d1[q]! d2[p]! = false := fun q h5 h6 => permIn_all d1 d2 a c (fun z => ltJ d1[q]! z = false) (by omega) p2 fun i h7 h8 => x i q h7 h8 h5 h6
  rw [p3.2.1 p (.inl h2)]
  refine permIn_all d2 d3 c b (fun z => ltJ z d2[p]! = false) (by rw [p2.1]; exact hb) p3 (fun i h7 h8 => ?_) q h3 h4
  rw [p2.2.1 i (.inr h7)]
  exact x2 i h7 h8 p h1 h2
theorem shr_h (n : Nat) : ((n : Nat) : Int).fdiv (2 ^ (min (1 : Int).toNat IntKind.u64.bits)) = ((n / 2 : Nat) : Int) := by
  rw [show ((2 : Int) ^ (min (1 : Int).toNat IntKind.u64.bits)) = 2 from rfl, Int.fdiv_eq_ediv_of_nonneg _ (by omega)]; omega
theorem sym_c (h : AHeap) (r N : Nat) (hsz : N < 1000000000) : ∀ (n : Nat) (d : Array El) (a m b : Nat), b - a ≤ n → d.size = N → a < m → m < b → b ≤ N → Good d → SortedIn ltJ a m d → SortedIn ltJ m b d →
    FWp Tryz.prog 120 [sl r N, I64 a, I64 m, I64 b, CF] (h.set r (row d)) fun u h' => u = .tuple #[] ∧ ∃ d' : Array El, PermIn a b d d' ∧ SortedIn ltJ a b d' ∧ h' = h.set r (row d') := by
  intro n
  induction n using Nat.strongRecOn with
  | _ n ih =>
  intro d a m b hn hN ham hmb hb hG s1 s2
  refine W.enter tyOK Tryz.func120 rfl rfl ?_
  simp only [entry]
  have w1 : IntKind.i64.wrap ((m : Int) - (a : Int)) = ((m - a : Nat) : Int) := by rw [wrap_i64 (by omega) (by omega)]; omega
  have w2 : IntKind.i64.wrap ((b : Int) - (m : Int)) = ((b - m : Nat) : Int) := by rw [wrap_i64 (by omega) (by omega)]; omega
  by_cases c1 : m - a = 1
  · have b1 : (((m - a : Nat) : Int) == 1) = true := by simp; omega
    obtain rfl : m = a + 1 := by omega
    refine W.seq <| Wr <| Oa rfl sm rfl <| Oa rfl sm rfl <| Oa rfl (zb (hv := bi_w bi_sub (by first | (simp only [w1] <;> rfl) | rfl))) rfl <| Ot rfl (zb (hv := bi_eql)) rfl (b1) <| On ?_
    refine Wy <| Wr <| Oa rfl sm rfl <| Oa rfl za rfl <| On ?_
    refine Wr <| Oa rfl sm rfl <| Oa rfl za rfl <| On ?_
    refine W.seq <| ?_
    refine W.cut (fun L h' => ∃ i : Nat, a + 1 ≤ i ∧ i ≤ b ∧ (i = a + 1 ∨ ltJ d[i - 1]! d[a]! = true) ∧ (i = b ∨ ltJ d[i]! d[a]! = false) ∧ h' = h.set r (row d) ∧ L = [(0, sl r N), (1, I64 a), (4, CF), (10, I64 i)])
      (W.block (W.loop (fun c L h' => ∃ i j : Nat, c = j - i ∧ a + 1 ≤ i ∧ i ≤ j ∧ j ≤ b ∧ (i = a + 1 ∨ ltJ d[i - 1]! d[a]! = true) ∧ (j = b ∨ ltJ d[j]! d[a]! = false) ∧ h' = h.set r (row d) ∧ L = [(0, sl r N), (1, I64 a), (4, CF), (10, I64 i), (11, I64 j)]) (n := b - (a + 1)) ⟨a + 1, b, rfl, Nat.le_refl _, by omega, Nat.le_refl _, .inl rfl, .inl rfl, rfl, rfl⟩ ?_ ?_)) ?_
    · simp [HasA, Tr.get_put]
    · rintro c L h1 ⟨i, j, rfl, hi1, hij, hj1, hlo, hhi, rfl, rfl⟩
      simp only [mkA]
      by_cases hlt : (i : Int) < (j : Int)
      · have w3 : IntKind.i64.wrap ((i : Int) + (j : Int)) = ((i + j : Nat) : Int) := by rw [wrap_i64 (by omega) (by omega)]; omega
        have w4 : IntKind.u64.wrap ((i + j : Nat) : Int) = ((i + j : Nat) : Int) := by rw [wrap_u64 (by omega) (by omega)]
        have w5 := shr_h (i + j)
        have w6 : IntKind.i64.wrap (((i + j) / 2 : Nat) : Int) = (((i + j) / 2 : Nat) : Int) := by rw [wrap_i64 (by omega) (by omega)]
        obtain ⟨c, hc⟩ : ∃ c, c = (i + j) / 2 := ⟨_, rfl⟩
        rw [← hc] at w5 w6
        have w7 : IntKind.i64.wrap ((c : Int) + 1) = ((c + 1 : Nat) : Int) := by rw [wrap_i64 (by omega) (by omega)]; omega
        have el := hG.lt c a
        cases hl : ltJ d[c]! d[a]! with
        | true =>
          rw [hl] at el
          refine W.seq <| Wr <| Oa rfl sm rfl <| Oa rfl sm rfl <| Ot rfl (zb (hv := bi_lss)) rfl (by first | rfl | assumption | ((simp only [bl, sq]) <;> first | done | assumption | omega) | (simp; done) | (simp; omega)) <| On ?_
          refine Wy <| CWp.skip <| SQ.normal ?_
          refine W.block <| Wr <| Oa rfl sm rfl <| Oa rfl sm rfl <| Oa rfl (zb (hv := bi_w bi_add (by first | (simp only [w3, w4, w5, w6, w7] <;> rfl) | rfl))) rfl <| Oa rfl (so_conw (so_conv tyOK (by simp only [lk] <;> rfl) ty3 ⟨_, rfl⟩ ty94 rfl) (by first | (simp only [w3, w4, w5, w6, w7] <;> rfl) | rfl)) rfl <| Oa rfl (zb (hv := bi_w (bi_shr (by decide)) (by first | (simp only [w3, w4, w5, w6, w7] <;> rfl) | rfl))) rfl <| Oa rfl (so_conw (so_conv tyOK (by simp only [lk] <;> rfl) ty94 ⟨_, rfl⟩ ty3 rfl) (by first | (simp only [w3, w4, w5, w6, w7] <;> rfl) | rfl)) rfl <| Oa rfl za rfl <| On ?_
          refine Wd <| Sa rfl sm rfl <| Sa rfl sm rfl <| Sa rfl sm rfl <| Sa rfl (zi (hv := by simp (disch := first | omega | simp only [nx]; omega) only [aIndexAddr, ty23, ty27, hpl, sq] <;> rfl)) rfl <| Sa rfl (zl (hv := by simp (disch := first | omega | simp only [nx]; omega) only [aLoad, ty27, rowOf, hpl, sq] <;> rfl)) rfl <| Sa rfl sm rfl <| Sa rfl sm rfl <| Sa rfl (zi (hv := by simp (disch := first | omega | simp only [nx]; omega) only [aIndexAddr, ty23, ty27, hpl, sq] <;> rfl)) rfl <| Sa rfl (zl (hv := by simp (disch := first | omega | simp only [nx]; omega) only [aLoad, ty27, rowOf, hpl, sq] <;> rfl)) rfl <| SqW.vcallD rfl (by simp only [lk] <;> rfl) (by simp only [aopnds, lk] <;> rfl) (less_v _ _ _) rfl <| St rfl (zb (hv := bi_lss)) rfl (el) <| Sn ?_
          refine Wy <| W.reg <| Oa rfl sm rfl <| Oa rfl (zb (hv := bi_w bi_add (by first | (simp only [w3, w4, w5, w6, w7] <;> rfl) | rfl))) rfl <| Oa rfl za rfl <| OSuf.nil <| BQ.normal <| ?_
          refine LQ.normal (m := j - (c + 1)) (L := [(0, sl r N), (1, I64 a), (4, CF), (10, I64 (c + 1 : Nat)), (11, I64 j)]) (by omega) ?_ ⟨c + 1, j, rfl, by omega, by omega, hj1, .inr hl, hhi, rfl, rfl⟩
          simp only [HasA, Tr.get_put, Nat.reduceEqDiff, reduceIte, w7, and_self]
        | false =>
          rw [hl] at el
          refine W.seq <| Wr <| Oa rfl sm rfl <| Oa rfl sm rfl <| Ot rfl (zb (hv := bi_lss)) rfl (by first | rfl | assumption | ((simp only [bl, sq]) <;> first | done | assumption | omega) | (simp; done) | (simp; omega)) <| On ?_
          refine Wy <| CWp.skip <| SQ.normal ?_
          refine W.block <| Wr <| Oa rfl sm rfl <| Oa rfl sm rfl <| Oa rfl (zb (hv := bi_w bi_add (by first | (simp only [w3, w4, w5, w6] <;> rfl) | rfl))) rfl <| Oa rfl (so_conw (so_conv tyOK (by simp only [lk] <;> rfl) ty3 ⟨_, rfl⟩ ty94 rfl) (by first | (simp only [w3, w4, w5, w6] <;> rfl) | rfl)) rfl <| Oa rfl (zb (hv := bi_w (bi_shr (by decide)) (by first | (simp only [w3, w4, w5, w6] <;> rfl) | rfl))) rfl <| Oa rfl (so_conw (so_conv tyOK (by simp only [lk] <;> rfl) ty94 ⟨_, rfl⟩ ty3 rfl) (by first | (simp only [w3, w4, w5, w6] <;> rfl) | rfl)) rfl <| Oa rfl za rfl <| On ?_
          refine Wd <| Sa rfl sm rfl <| Sa rfl sm rfl <| Sa rfl sm rfl <| Sa rfl (zi (hv := by simp (disch := first | omega | simp only [nx]; omega) only [aIndexAddr, ty23, ty27, hpl, sq] <;> rfl)) rfl <| Sa rfl (zl (hv := by simp (disch := first | omega | simp only [nx]; omega) only [aLoad, ty27, rowOf, hpl, sq] <;> rfl)) rfl <| Sa rfl sm rfl <| Sa rfl sm rfl <| Sa rfl (zi (hv := by simp (disch := first | omega | simp only [nx]; omega) only [aIndexAddr, ty23, ty27, hpl, sq] <;> rfl)) rfl <| Sa rfl (zl (hv := by simp (disch := first | omega | simp only [nx]; omega) only [aLoad, ty27, rowOf, hpl, sq] <;> rfl)) rfl <| SqW.vcallD rfl (by simp only [lk] <;> rfl) (by simp only [aopnds, lk] <;> rfl) (less_v _ _ _) rfl <| Sf rfl (zb (hv := bi_lss)) rfl (el) <| Sn ?_
          refine Wn <| W.reg <| Oa rfl sm rfl <| Oa rfl za rfl <| OSuf.nil <| BQ.normal <| ?_
          refine LQ.normal (m := c - i) (L := [(0, sl r N), (1, I64 a), (4, CF), (10, I64 i), (11, I64 c)]) (by omega) ?_ ⟨i, c, rfl, hi1, by omega, by omega, hlo, .inr hl, rfl, rfl⟩
          simp only [HasA, Tr.get_put, Nat.reduceEqDiff, reduceIte, and_self]
      · refine W.seq <| Wr <| Oa rfl sm rfl <| Oa rfl sm rfl <| Ofb rfl (zb (hv := bi_lss)) rfl <| On ?_
        refine Wn <| CWp.exit <| SQ.exit <| LQ.exit <| BQ.exit <| ?_
        have hij2 : j = i := by omega
        refine NQ.normal (L := [(0, sl r N), (1, I64 a), (4, CF), (10, I64 i)]) ?_ ⟨i, hi1, by omega, hlo, hij2 ▸ hhi, rfl, rfl⟩
        simp only [HasA, Tr.get_put, Nat.reduceEqDiff, reduceIte, and_self]
    · rintro L a' h1 ha ⟨i, hi1, hi2, hlo, hhi, rfl, rfl⟩
      have w3 : IntKind.i64.wrap ((i : Int) - 1) = ((i - 1 : Nat) : Int) := by rw [wrap_i64 (by omega) (by omega)]; omega
      refine SQ.normal <| CWp.known ha ?_
      simp only [mkA]
      refine W.seq <| Wr <| Oa rfl sm rfl <| Oa rfl za rfl <| On ?_
      refine W.block (W.loop (fun c L h' => ∃ (k : Nat) (dk : Array El), c = i - 1 - k ∧ a ≤ k ∧ k ≤ i - 1 ∧ dk.size = N ∧ PermIn a b d dk ∧ (∀ x, dk[x]! = if a ≤ x ∧ x < k then d[x + 1]! else if x = k then d[a]! else d[x]!) ∧ h' = h.set r (row dk) ∧ L = [(0, sl r N), (10, I64 i), (13, I64 k)]) (n := i - 1 - a) ⟨a, d, rfl, Nat.le_refl _, by omega, hN, permIn_refl _ _ _, fun x => ?_, rfl, rfl⟩ ?_ ?_)
      · rw [if_neg (by omega)]
        split
        · exact gx (by omega)
        · rfl
      · simp [HasA, Tr.get_put]
      rintro c L h1 ⟨k, dk, rfl, hk1, hk2, hds, hp, hg, rfl, rfl⟩
      simp only [mkA]
      by_cases hlt : (k : Int) < ((i - 1 : Nat) : Int)
      · have w4 : IntKind.i64.wrap ((k : Int) + 1) = ((k + 1 : Nat) : Int) := by rw [wrap_i64 (by omega) (by omega)]; omega
        refine W.seq <| Wr <| Oa rfl sm rfl <| Oa rfl sm rfl <| Oa rfl (zb (hv := bi_w bi_sub (by first | (simp only [w3, w4] <;> rfl) | rfl))) rfl <| Ot rfl (zb (hv := bi_lss)) rfl (by first | rfl | assumption | ((simp only [bl, sq]) <;> first | done | assumption | omega) | (simp; done) | (simp; omega)) <| On ?_
        refine Wy <| CWp.skip <| SQ.normal ?_
        refine W.seq <| W.block <| W.regD tyOK mixed (by kernel_rfl) <| Sa rfl sm rfl <| Sa rfl sm rfl <| Sa rfl sm rfl <| Sa rfl sm rfl <| Sa rfl (zb (hv := bi_w bi_add (by first | (simp only [w3, w4] <;> rfl) | rfl))) rfl <| Sa rfl sm rfl <| Sa rfl sm rfl <| Sa rfl (zb (hv := bi_w bi_add (by first | (simp only [w3, w4] <;> rfl) | rfl))) rfl <| Sa rfl (zi (hv := by simp (disch := first | omega | simp only [nx]; omega) only [aIndexAddr, ty23, ty27, hpl, sq] <;> rfl)) rfl <| Sa rfl (zl (hv := by simp (disch := first | omega | simp only [nx]; omega) only [aLoad, ty27, rowOf, hpl, sq] <;> rfl)) rfl <| Sa rfl sm rfl <| Sa rfl sm rfl <| Sa rfl (zi (hv := by simp (disch := first | omega | simp only [nx]; omega) only [aIndexAddr, ty23, ty27, hpl, sq] <;> rfl)) rfl <| Sa rfl (zl (hv := by simp (disch := first | omega | simp only [nx]; omega) only [aLoad, ty27, rowOf, hpl, sq] <;> rfl)) rfl <| Sa rfl (zi (hv := by simp (disch := first | omega | simp only [nx]; omega) only [aIndexAddr, ty23, ty27, hpl, sq] <;> rfl)) rfl <| Sa rfl (zs (hv := by simp (disch := first | omega | simp only [nx]; omega) only [aStore, ty27, writeRow, hpl, sq] <;> rfl)) rfl <| Sa rfl (zi (hv := by simp (disch := first | omega | simp only [nx]; omega) only [aIndexAddr, ty23, ty27, hpl, sq] <;> rfl)) rfl <| Sa rfl (zs (hv := by simp (disch := first | omega | simp only [nx]; omega) only [aStore, ty27, writeRow, hpl, sq] <;> rfl)) rfl <| SqW.nil <| BQ.normal <| SQ.normal ?_
        refine W.reg <| Oa rfl sm rfl <| Oa rfl (zb (hv := bi_w bi_add (by first | (simp only [w3, w4] <;> rfl) | rfl))) rfl <| Oa rfl za rfl <| OSuf.nil <| ?_
        refine LQ.normal (m := i - 1 - (k + 1)) (L := [(0, sl r N), (10, I64 i), (13, I64 (k + 1 : Nat))]) (by omega) ?_ ⟨k + 1, swp dk k (k + 1), rfl, by omega, by omega, by rw [size_swp]; exact hds, permIn_trans _ _ _ _ _ hp (swp_permIn _ _ _ _ _ (by omega) (by omega) (by omega) (by omega) (by omega)), fun x => ?_, rfl, rfl⟩
        · simp only [HasA, Tr.get_put, Nat.reduceEqDiff, reduceIte, w4, and_self]
        · rw [swp_get dk (by omega) (by omega) x, hg k, hg (k + 1), hg x]
          repeat' split
          all_goals first | omega | rfl | exact gx (by omega)
      · refine W.seq <| Wr <| Oa rfl sm rfl <| Oa rfl sm rfl <| Oa rfl (zb (hv := bi_w bi_sub (by first | (simp only [w3] <;> rfl) | rfl))) rfl <| Ofb rfl (zb (hv := bi_lss)) rfl <| On ?_
        refine Wn <| CWp.exit <| SQ.exit <| LQ.exit <| BQ.exit <| SQ.normal ?_
        refine CWp.ret <| SQ.ret <| FQ.ret (by simp only [aRet, Tryz.f120, aResults, aResult, lk, Nat.reduceEqDiff, reduceIte] <;> rfl) ?_
        obtain rfl : k = i - 1 := by omega
        exact ⟨rfl, dk, hp, ins1 s2 hi1 hi2 hlo hhi hg, rfl⟩
  have b1 : (((m - a : Nat) : Int) == 1) = false := by simp; omega
  by_cases c2 : b - m = 1
  · have b2 : (((b - m : Nat) : Int) == 1) = true := by simp; omega
    obtain rfl : b = m + 1 := by omega
    refine W.seq <| Wr <| Oa rfl sm rfl <| Oa rfl sm rfl <| Oa rfl (zb (hv := bi_w bi_sub (by first | (simp only [w1, w2] <;> rfl) | rfl))) rfl <| Of rfl (zb (hv := bi_eql)) rfl (b1) <| On ?_
    refine Wn <| CWp.skip <| SQ.normal ?_
    refine W.seq <| Wr <| Oa rfl sm rfl <| Oa rfl sm rfl <| Oa rfl (zb (hv := bi_w bi_sub (by first | (simp only [w1, w2] <;> rfl) | rfl))) rfl <| Ot rfl (zb (hv := bi_eql)) rfl (b2) <| On ?_
    refine Wy <| Wr <| Oa rfl sm rfl <| Oa rfl za rfl <| On ?_
    refine Wr <| Oa rfl sm rfl <| Oa rfl za rfl <| On ?_
    refine W.seq <| ?_
    refine W.cut (fun L h' => ∃ i : Nat, a ≤ i ∧ i ≤ m ∧ (i = a ∨ ltJ d[m]! d[i - 1]! = false) ∧ (i = m ∨ ltJ d[m]! d[i]! = true) ∧ h' = h.set r (row d) ∧ L = [(0, sl r N), (2, I64 m), (4, CF), (14, I64 i)])
      (W.block (W.loop (fun c L h' => ∃ i j : Nat, c = j - i ∧ a ≤ i ∧ i ≤ j ∧ j ≤ m ∧ (i = a ∨ ltJ d[m]! d[i - 1]! = false) ∧ (j = m ∨ ltJ d[m]! d[j]! = true) ∧ h' = h.set r (row d) ∧ L = [(0, sl r N), (2, I64 m), (4, CF), (14, I64 i), (15, I64 j)]) (n := m - a) ⟨a, m, rfl, Nat.le_refl _, by omega, Nat.le_refl _, .inl rfl, .inl rfl, rfl, rfl⟩ ?_ ?_)) ?_
    · simp [HasA, Tr.get_put]
    · rintro c L h1 ⟨i, j, rfl, hi1, hij, hj1, hlo, hhi, rfl, rfl⟩
      simp only [mkA]
      by_cases hlt : (i : Int) < (j : Int)
      · have w3 : IntKind.i64.wrap ((i : Int) + (j : Int)) = ((i + j : Nat) : Int) := by rw [wrap_i64 (by omega) (by omega)]; omega
        have w4 : IntKind.u64.wrap ((i + j : Nat) : Int) = ((i + j : Nat) : Int) := by rw [wrap_u64 (by omega) (by omega)]
        have w5 := shr_h (i + j)
        have w6 : IntKind.i64.wrap (((i + j) / 2 : Nat) : Int) = (((i + j) / 2 : Nat) : Int) := by rw [wrap_i64 (by omega) (by omega)]
        obtain ⟨c, hc⟩ : ∃ c, c = (i + j) / 2 := ⟨_, rfl⟩
        rw [← hc] at w5 w6
        have w7 : IntKind.i64.wrap ((c : Int) + 1) = ((c + 1 : Nat) : Int) := by rw [wrap_i64 (by omega) (by omega)]; omega
        have el := hG.lt m c
        cases hl : ltJ d[m]! d[c]! with
        | false =>
          rw [hl] at el
          refine W.seq <| Wr <| Oa rfl sm rfl <| Oa rfl sm rfl <| Ot rfl (zb (hv := bi_lss)) rfl (by first | rfl | assumption | ((simp only [bl, sq]) <;> first | done | assumption | omega) | (simp; done) | (simp; omega)) <| On ?_
          refine Wy <| CWp.skip <| SQ.normal ?_
          refine W.block <| Wr <| Oa rfl sm rfl <| Oa rfl sm rfl <| Oa rfl (zb (hv := bi_w bi_add (by first | (simp only [w3, w4, w5, w6, w7] <;> rfl) | rfl))) rfl <| Oa rfl (so_conw (so_conv tyOK (by simp only [lk] <;> rfl) ty3 ⟨_, rfl⟩ ty94 rfl) (by first | (simp only [w3, w4, w5, w6, w7] <;> rfl) | rfl)) rfl <| Oa rfl (zb (hv := bi_w (bi_shr (by decide)) (by first | (simp only [w3, w4, w5, w6, w7] <;> rfl) | rfl))) rfl <| Oa rfl (so_conw (so_conv tyOK (by simp only [lk] <;> rfl) ty94 ⟨_, rfl⟩ ty3 rfl) (by first | (simp only [w3, w4, w5, w6, w7] <;> rfl) | rfl)) rfl <| Oa rfl za rfl <| On ?_
          refine Wd <| Sa rfl sm rfl <| Sa rfl sm rfl <| Sa rfl sm rfl <| Sa rfl (zi (hv := by simp (disch := first | omega | simp only [nx]; omega) only [aIndexAddr, ty23, ty27, hpl, sq] <;> rfl)) rfl <| Sa rfl (zl (hv := by simp (disch := first | omega | simp only [nx]; omega) only [aLoad, ty27, rowOf, hpl, sq] <;> rfl)) rfl <| Sa rfl sm rfl <| Sa rfl sm rfl <| Sa rfl (zi (hv := by simp (disch := first | omega | simp only [nx]; omega) only [aIndexAddr, ty23, ty27, hpl, sq] <;> rfl)) rfl <| Sa rfl (zl (hv := by simp (disch := first | omega | simp only [nx]; omega) only [aLoad, ty27, rowOf, hpl, sq] <;> rfl)) rfl <| SqW.vcallD rfl (by simp only [lk] <;> rfl) (by simp only [aopnds, lk] <;> rfl) (less_v _ _ _) rfl <| Sf rfl (zb (hv := bi_lss)) rfl (el) <| St rfl Zt rfl rfl <| Sn ?_
          refine Wy <| W.reg <| Oa rfl sm rfl <| Oa rfl (zb (hv := bi_w bi_add (by first | (simp only [w3, w4, w5, w6, w7] <;> rfl) | rfl))) rfl <| Oa rfl za rfl <| OSuf.nil <| BQ.normal <| ?_
          refine LQ.normal (m := j - (c + 1)) (L := [(0, sl r N), (2, I64 m), (4, CF), (14, I64 (c + 1 : Nat)), (15, I64 j)]) (by omega) ?_ ⟨c + 1, j, rfl, by omega, by omega, hj1, .inr hl, hhi, rfl, rfl⟩
          simp only [HasA, Tr.get_put, Nat.reduceEqDiff, reduceIte, w7, and_self]
        | true =>
          rw [hl] at el
          refine W.seq <| Wr <| Oa rfl sm rfl <| Oa rfl sm rfl <| Ot rfl (zb (hv := bi_lss)) rfl (by first | rfl | assumption | ((simp only [bl, sq]) <;> first | done | assumption | omega) | (simp; done) | (simp; omega)) <| On ?_
          refine Wy <| CWp.skip <| SQ.normal ?_
          refine W.block <| Wr <| Oa rfl sm rfl <| Oa rfl sm rfl <| Oa rfl (zb (hv := bi_w bi_add (by first | (simp only [w3, w4, w5, w6] <;> rfl) | rfl))) rfl <| Oa rfl (so_conw (so_conv tyOK (by simp only [lk] <;> rfl) ty3 ⟨_, rfl⟩ ty94 rfl) (by first | (simp only [w3, w4, w5, w6] <;> rfl) | rfl)) rfl <| Oa rfl (zb (hv := bi_w (bi_shr (by decide)) (by first | (simp only [w3, w4, w5, w6] <;> rfl) | rfl))) rfl <| Oa rfl (so_conw (so_conv tyOK (by simp only [lk] <;> rfl) ty94 ⟨_, rfl⟩ ty3 rfl) (by first | (simp only [w3, w4, w5, w6] <;> rfl) | rfl)) rfl <| Oa rfl za rfl <| On ?_
          refine Wd <| Sa rfl sm rfl <| Sa rfl sm rfl <| Sa rfl sm rfl <| Sa rfl (zi (hv := by simp (disch := first | omega | simp only [nx]; omega) only [aIndexAddr, ty23, ty27, hpl, sq] <;> rfl)) rfl <| Sa rfl (zl (hv := by simp (disch := first | omega | simp only [nx]; omega) only [aLoad, ty27, rowOf, hpl, sq] <;> rfl)) rfl <| Sa rfl sm rfl <| Sa rfl sm rfl <| Sa rfl (zi (hv := by simp (disch := first | omega | simp only [nx]; omega) only [aIndexAddr, ty23, ty27, hpl, sq] <;> rfl)) rfl <| Sa rfl (zl (hv := by simp (disch := first | omega | simp only [nx]; omega) only [aLoad, ty27, rowOf, hpl, sq] <;> rfl)) rfl <| SqW.vcallD rfl (by simp only [lk] <;> rfl) (by simp only [aopnds, lk] <;> rfl) (less_v _ _ _) rfl <| St rfl (zb (hv := bi_lss)) rfl (el) <| Sf rfl Zt rfl rfl <| Sn ?_
          refine Wn <| W.reg <| Oa rfl sm rfl <| Oa rfl za rfl <| OSuf.nil <| BQ.normal <| ?_
          refine LQ.normal (m := c - i) (L := [(0, sl r N), (2, I64 m), (4, CF), (14, I64 i), (15, I64 c)]) (by omega) ?_ ⟨i, c, rfl, hi1, by omega, by omega, hlo, .inr hl, rfl, rfl⟩
          simp only [HasA, Tr.get_put, Nat.reduceEqDiff, reduceIte, and_self]
      · refine W.seq <| Wr <| Oa rfl sm rfl <| Oa rfl sm rfl <| Ofb rfl (zb (hv := bi_lss)) rfl <| On ?_
        refine Wn <| CWp.exit <| SQ.exit <| LQ.exit <| BQ.exit <| ?_
        have hij2 : j = i := by omega
        refine NQ.normal (L := [(0, sl r N), (2, I64 m), (4, CF), (14, I64 i)]) ?_ ⟨i, hi1, by omega, hlo, hij2 ▸ hhi, rfl, rfl⟩
        simp only [HasA, Tr.get_put, Nat.reduceEqDiff, reduceIte, and_self]
    · rintro L a' h1 ha ⟨i, hi1, hi2, hlo, hhi, rfl, rfl⟩
      refine SQ.normal <| CWp.known ha ?_
      simp only [mkA]
      refine W.seq <| Wr <| Oa rfl sm rfl <| Oa rfl za rfl <| On ?_
      refine W.block (W.loop (fun c L h' => ∃ (k : Nat) (dk : Array El), c = k - i ∧ i ≤ k ∧ k ≤ m ∧ dk.size = N ∧ PermIn a (m + 1) d dk ∧ (∀ x, dk[x]! = if k < x ∧ x ≤ m then d[x - 1]! else if x = k then d[m]! else d[x]!) ∧ h' = h.set r (row dk) ∧ L = [(0, sl r N), (14, I64 i), (17, I64 k)]) (n := m - i) ⟨m, d, rfl, hi2, Nat.le_refl _, hN, permIn_refl _ _ _, fun x => ?_, rfl, rfl⟩ ?_ ?_)
      · rw [if_neg (by omega)]
        split
        · exact gx (by omega)
        · rfl
      · simp [HasA, Tr.get_put]
      rintro c L h1 ⟨k, dk, rfl, hk1, hk2, hds, hp, hg, rfl, rfl⟩
      simp only [mkA]
      by_cases hlt : (k : Int) > (i : Int)
      · have w4 : IntKind.i64.wrap ((k : Int) - 1) = ((k - 1 : Nat) : Int) := by rw [wrap_i64 (by omega) (by omega)]; omega
        refine W.seq <| Wr <| Oa rfl sm rfl <| Oa rfl sm rfl <| Ot rfl (zb (hv := bi_gtr)) rfl (by first | rfl | assumption | ((simp only [bl, sq]) <;> first | done | assumption | omega) | (simp; done) | (simp; omega)) <| On ?_
        refine Wy <| CWp.skip <| SQ.normal ?_
        refine W.seq <| W.block <| W.regD tyOK mixed (by kernel_rfl) <| Sa rfl sm rfl <| Sa rfl sm rfl <| Sa rfl sm rfl <| Sa rfl sm rfl <| Sa rfl (zb (hv := bi_w bi_sub (by first | (simp only [w4] <;> rfl) | rfl))) rfl <| Sa rfl sm rfl <| Sa rfl sm rfl <| Sa rfl (zb (hv := bi_w bi_sub (by first | (simp only [w4] <;> rfl) | rfl))) rfl <| Sa rfl (zi (hv := by simp (disch := first | omega | simp only [nx]; omega) only [aIndexAddr, ty23, ty27, hpl, sq] <;> rfl)) rfl <| Sa rfl (zl (hv := by simp (disch := first | omega | simp only [nx]; omega) only [aLoad, ty27, rowOf, hpl, sq] <;> rfl)) rfl <| Sa rfl sm rfl <| Sa rfl sm rfl <| Sa rfl (zi (hv := by simp (disch := first | omega | simp only [nx]; omega) only [aIndexAddr, ty23, ty27, hpl, sq] <;> rfl)) rfl <| Sa rfl (zl (hv := by simp (disch := first | omega | simp only [nx]; omega) only [aLoad, ty27, rowOf, hpl, sq] <;> rfl)) rfl <| Sa rfl (zi (hv := by simp (disch := first | omega | simp only [nx]; omega) only [aIndexAddr, ty23, ty27, hpl, sq] <;> rfl)) rfl <| Sa rfl (zs (hv := by simp (disch := first | omega | simp only [nx]; omega) only [aStore, ty27, writeRow, hpl, sq] <;> rfl)) rfl <| Sa rfl (zi (hv := by simp (disch := first | omega | simp only [nx]; omega) only [aIndexAddr, ty23, ty27, hpl, sq] <;> rfl)) rfl <| Sa rfl (zs (hv := by simp (disch := first | omega | simp only [nx]; omega) only [aStore, ty27, writeRow, hpl, sq] <;> rfl)) rfl <| SqW.nil <| BQ.normal <| SQ.normal ?_
        refine W.reg <| Oa rfl sm rfl <| Oa rfl (zb (hv := bi_w bi_sub (by first | (simp only [w4] <;> rfl) | rfl))) rfl <| Oa rfl za rfl <| OSuf.nil <| ?_
        refine LQ.normal (m := k - 1 - i) (L := [(0, sl r N), (14, I64 i), (17, I64 (k - 1 : Nat))]) (by omega) ?_ ⟨k - 1, swp dk k (k - 1), rfl, by omega, by omega, by rw [size_swp]; exact hds, permIn_trans _ _ _ _ _ hp (swp_permIn _ _ _ _ _ (by omega) (by omega) (by omega) (by omega) (by omega)), fun x => ?_, rfl, rfl⟩
        · simp only [HasA, Tr.get_put, Nat.reduceEqDiff, reduceIte, w4, and_self]
        · rw [swp_get dk (by omega) (by omega) x, hg k, hg (k - 1), hg x]
          repeat' split
          all_goals first | omega | rfl | exact gx (by omega)
      · refine W.seq <| Wr <| Oa rfl sm rfl <| Oa rfl sm rfl <| Ofb rfl (zb (hv := bi_gtr)) rfl <| On ?_
        refine Wn <| CWp.exit <| SQ.exit <| LQ.exit <| BQ.exit <| SQ.normal ?_
        refine CWp.ret <| SQ.ret <| FQ.ret (by simp only [aRet, Tryz.f120, aResults, aResult, lk, Nat.reduceEqDiff, reduceIte] <;> rfl) ?_
        obtain rfl : k = i := by omega
        exact ⟨rfl, dk, hp, ins2 s1 hi1 hi2 hlo hhi hg, rfl⟩
  have b2 : (((b - m : Nat) : Int) == 1) = false := by simp; omega
  obtain ⟨c, hc⟩ : ∃ c, c = (a + b) / 2 := ⟨_, rfl⟩
  have hc1 : a < c := by omega
  have hc2 : c < b := by omega
  have w3 : IntKind.i64.wrap ((a : Int) + (b : Int)) = ((a + b : Nat) : Int) := by rw [wrap_i64 (by omega) (by omega)]; omega
  have w4 : IntKind.u64.wrap ((a + b : Nat) : Int) = ((a + b : Nat) : Int) := by rw [wrap_u64 (by omega) (by omega)]
  have w5 := shr_h (a + b)
  rw [← hc] at w5
  have w6 : IntKind.i64.wrap ((c : Nat) : Int) = ((c : Nat) : Int) := by rw [wrap_i64 (by omega) (by omega)]
  have w7 : IntKind.i64.wrap ((c : Int) + (m : Int)) = ((c + m : Nat) : Int) := by rw [wrap_i64 (by omega) (by omega)]; omega
  refine W.seq <| Wr <| Oa rfl sm rfl <| Oa rfl sm rfl <| Oa rfl (zb (hv := bi_w bi_sub (by first | (simp only [w1, w2, w3, w4, w5, w6, w7] <;> rfl) | rfl))) rfl <| Of rfl (zb (hv := bi_eql)) rfl (b1) <| On ?_
  refine Wn <| CWp.skip <| SQ.normal ?_
  refine W.seq <| Wr <| Oa rfl sm rfl <| Oa rfl sm rfl <| Oa rfl (zb (hv := bi_w bi_sub (by first | (simp only [w1, w2, w3, w4, w5, w6, w7] <;> rfl) | rfl))) rfl <| Of rfl (zb (hv := bi_eql)) rfl (b2) <| On ?_
  refine Wn <| CWp.skip <| SQ.normal ?_
  refine Wr <| Oa rfl sm rfl <| Oa rfl sm rfl <| Oa rfl (zb (hv := bi_w bi_add (by first | (simp only [w1, w2, w3, w4, w5, w6, w7] <;> rfl) | rfl))) rfl <| Oa rfl (so_conw (so_conv tyOK (by simp only [lk] <;> rfl) ty3 ⟨_, rfl⟩ ty94 rfl) (by first | (simp only [w1, w2, w3, w4, w5, w6, w7] <;> rfl) | rfl)) rfl <| Oa rfl (zb (hv := bi_w (bi_shr (by decide)) (by first | (simp only [w1, w2, w3, w4, w5, w6, w7] <;> rfl) | rfl))) rfl <| Oa rfl (so_conw (so_conv tyOK (by simp only [lk] <;> rfl) ty94 ⟨_, rfl⟩ ty3 rfl) (by first | (simp only [w1, w2, w3, w4, w5, w6, w7] <;> rfl) | rfl)) rfl <| Oa rfl za rfl <| On ?_
  refine Wr <| Oa rfl sm rfl <| Oa rfl sm rfl <| Oa rfl (zb (hv := bi_w bi_add (by first | (simp only [w1, w2, w3, w4, w5, w6, w7] <;> rfl) | rfl))) rfl <| Oa rfl za rfl <| On ?_
  refine Wr <| Oa rfl za rfl <| Oa rfl za rfl <| On ?_
  refine W.seq <| ?_
  refine W.cut (fun L h' => ∃ s0 r0 : Nat, ((c < m ∧ s0 = c + m - b ∧ r0 = c) ∨ (m ≤ c ∧ s0 = a ∧ r0 = m)) ∧ h' = h.set r (row d) ∧ L = [(0, sl r N), (1, I64 a), (2, I64 m), (3, I64 b), (4, CF), (18, I64 c), (19, I64 (c + m : Nat)), (20, I64 s0), (21, I64 r0)]) ?_ ?_
  · by_cases hm : (m : Int) > (c : Int)
    · have w8 : IntKind.i64.wrap (((c + m : Nat) : Int) - (b : Int)) = ((c + m - b : Nat) : Int) := by rw [wrap_i64 (by omega) (by omega)]; omega
      refine Wr <| Oa rfl sm rfl <| Oa rfl sm rfl <| Otb rfl (zb (hv := bi_gtr)) rfl <| On ?_
      refine Wy <| Wr <| Oa rfl sm rfl <| Oa rfl sm rfl <| Oa rfl (zb (hv := bi_w bi_sub (by first | (simp only [w8] <;> rfl) | rfl))) rfl <| Oa rfl za rfl <| On ?_
      refine W.reg <| Oa rfl sm rfl <| Oa rfl za rfl <| OSuf.nil <| ?_
      refine NQ.normal (L := [(0, sl r N), (1, I64 a), (2, I64 m), (3, I64 b), (4, CF), (18, I64 c), (19, I64 (c + m : Nat)), (20, I64 (c + m - b : Nat)), (21, I64 c)]) ?_ ⟨_, _, .inl ⟨by omega, rfl, rfl⟩, rfl, rfl⟩
      simp only [HasA, Tr.get_put, Nat.reduceEqDiff, reduceIte, w8, and_self]
    · refine Wr <| Oa rfl sm rfl <| Oa rfl sm rfl <| Ofb rfl (zb (hv := bi_gtr)) rfl <| On ?_
      refine Wn <| Wr <| Oa rfl sm rfl <| Oa rfl za rfl <| On ?_
      refine W.reg <| Oa rfl sm rfl <| Oa rfl za rfl <| OSuf.nil <| ?_
      refine NQ.normal (L := [(0, sl r N), (1, I64 a), (2, I64 m), (3, I64 b), (4, CF), (18, I64 c), (19, I64 (c + m : Nat)), (20, I64 a), (21, I64 m)]) ?_ ⟨_, _, .inr ⟨by omega, rfl, rfl⟩, rfl, rfl⟩
      simp only [HasA, Tr.get_put, Nat.reduceEqDiff, reduceIte, and_self]
  rintro L a' h1 ha ⟨s0, r0, h0, rfl, rfl⟩
  have w9 : IntKind.i64.wrap (((c + m : Nat) : Int) - 1) = ((c + m - 1 : Nat) : Int) := by rw [wrap_i64 (by omega) (by omega)]; omega
  refine SQ.normal <| CWp.known ha ?_
  simp only [mkA]
  refine Wr <| Oa rfl sm rfl <| Oa rfl (zb (hv := bi_w bi_sub (by first | (simp only [w9] <;> rfl) | rfl))) rfl <| Oa rfl za rfl <| On ?_
  refine W.seq <| ?_
  refine W.cut (fun L h' => ∃ s : Nat, s0 ≤ s ∧ s ≤ r0 ∧ (s = s0 ∨ ltJ d[c + m - s]! d[s - 1]! = false) ∧ (s = r0 ∨ ltJ d[c + m - 1 - s]! d[s]! = true) ∧ h' = h.set r (row d) ∧ L = [(0, sl r N), (1, I64 a), (2, I64 m), (3, I64 b), (4, CF), (18, I64 c), (19, I64 (c + m : Nat)), (20, I64 s)])
    (W.block (W.loop (fun q L h' => ∃ i j : Nat, q = j - i ∧ s0 ≤ i ∧ i ≤ j ∧ j ≤ r0 ∧ (i = s0 ∨ ltJ d[c + m - i]! d[i - 1]! = false) ∧ (j = r0 ∨ ltJ d[c + m - 1 - j]! d[j]! = true) ∧ h' = h.set r (row d) ∧ L = [(0, sl r N), (1, I64 a), (2, I64 m), (3, I64 b), (4, CF), (18, I64 c), (19, I64 (c + m : Nat)), (20, I64 i), (21, I64 j), (22, I64 (c + m - 1 : Nat))]) (n := r0 - s0) ⟨s0, r0, rfl, Nat.le_refl _, by omega, Nat.le_refl _, .inl rfl, .inl rfl, rfl, rfl⟩ ?_ ?_)) ?_
  · simp [HasA, Tr.get_put, w9]
  · rintro q L h1 ⟨i, j, rfl, hi1, hij, hj1, hlo, hhi, rfl, rfl⟩
    simp only [mkA]
    by_cases hlt : (i : Int) < (j : Int)
    · have w3 : IntKind.i64.wrap ((i : Int) + (j : Int)) = ((i + j : Nat) : Int) := by rw [wrap_i64 (by omega) (by omega)]; omega
      have w4 : IntKind.u64.wrap ((i + j : Nat) : Int) = ((i + j : Nat) : Int) := by rw [wrap_u64 (by omega) (by omega)]
      have w5 := shr_h (i + j)
      have w6 : IntKind.i64.wrap (((i + j) / 2 : Nat) : Int) = (((i + j) / 2 : Nat) : Int) := by rw [wrap_i64 (by omega) (by omega)]
      obtain ⟨x, hx⟩ : ∃ x, x = (i + j) / 2 := ⟨_, rfl⟩
      rw [← hx] at w5 w6
      have w7 : IntKind.i64.wrap ((x : Int) + 1) = ((x + 1 : Nat) : Int) := by rw [wrap_i64 (by omega) (by omega)]; omega
      have w8 : IntKind.i64.wrap (((c + m - 1 : Nat) : Int) - (x : Int)) = ((c + m - 1 - x : Nat) : Int) := by rw [wrap_i64 (by omega) (by omega)]; omega
      have el := hG.lt (c + m - 1 - x) x
      cases hl : ltJ d[c + m - 1 - x]! d[x]! with
      | false =>
        rw [hl] at el
        refine W.seq <| Wr <| Oa rfl sm rfl <| Oa rfl sm rfl <| Ot rfl (zb (hv := bi_lss)) rfl (by first | rfl | assumption | ((simp only [bl, sq]) <;> first | done | assumption | omega) | (simp; done) | (simp; omega)) <| On ?_
        refine Wy <| CWp.skip <| SQ.normal ?_
        refine W.block <| Wr <| Oa rfl sm rfl <| Oa rfl sm rfl <| Oa rfl (zb (hv := bi_w bi_add (by first | (simp only [w3, w4, w5, w6, w7, w8] <;> rfl) | rfl))) rfl <| Oa rfl (so_conw (so_conv tyOK (by simp only [lk] <;> rfl) ty3 ⟨_, rfl⟩ ty94 rfl) (by first | (simp only [w3, w4, w5, w6, w7, w8] <;> rfl) | rfl)) rfl <| Oa rfl (zb (hv := bi_w (bi_shr (by decide)) (by first | (simp only [w3, w4, w5, w6, w7, w8] <;> rfl) | rfl))) rfl <| Oa rfl (so_conw (so_conv tyOK (by simp only [lk] <;> rfl) ty94 ⟨_, rfl⟩ ty3 rfl) (by first | (simp only [w3, w4, w5, w6, w7, w8] <;> rfl) | rfl)) rfl <| Oa rfl za rfl <| On ?_
        refine Wd <| Sa rfl sm rfl <| Sa rfl sm rfl <| Sa rfl sm rfl <| Sa rfl sm rfl <| Sa rfl (zb (hv := bi_w bi_sub (by first | (simp only [w3, w4, w5, w6, w7, w8] <;> rfl) | rfl))) rfl <| Sa rfl (zi (hv := by simp (disch := first | omega | simp only [nx]; omega) only [aIndexAddr, ty23, ty27, hpl, sq] <;> rfl)) rfl <| Sa rfl (zl (hv := by simp (disch := first | omega | simp only [nx]; omega) only [aLoad, ty27, rowOf, hpl, sq] <;> rfl)) rfl <| Sa rfl sm rfl <| Sa rfl sm rfl <| Sa rfl (zi (hv := by simp (disch := first | omega | simp only [nx]; omega) only [aIndexAddr, ty23, ty27, hpl, sq] <;> rfl)) rfl <| Sa rfl (zl (hv := by simp (disch := first | omega | simp only [nx]; omega) only [aLoad, ty27, rowOf, hpl, sq] <;> rfl)) rfl <| SqW.vcallD rfl (by simp only [lk] <;> rfl) (by simp only [aopnds, lk] <;> rfl) (less_v _ _ _) rfl <| Sf rfl (zb (hv := bi_lss)) rfl (el) <| St rfl Zt rfl rfl <| Sn ?_
        refine Wy <| W.reg <| Oa rfl sm rfl <| Oa rfl (zb (hv := bi_w bi_add (by first | (simp only [w3, w4, w5, w6, w7, w8] <;> rfl) | rfl))) rfl <| Oa rfl za rfl <| OSuf.nil <| BQ.normal <| ?_
        refine LQ.normal (m := j - (x + 1)) (L := [(0, sl r N), (1, I64 a), (2, I64 m), (3, I64 b), (4, CF), (18, I64 c), (19, I64 (c + m : Nat)), (20, I64 (x + 1 : Nat)), (21, I64 j), (22, I64 (c + m - 1 : Nat))]) (by omega) ?_ ⟨x + 1, j, rfl, by omega, by omega, hj1, .inr (by rw [← hl]; exact congrArg (fun k : Nat => ltJ d[k]! d[x]!) (by omega)), hhi, rfl, rfl⟩
        simp only [HasA, Tr.get_put, Nat.reduceEqDiff, reduceIte, w7, and_self]
      | true =>
        rw [hl] at el
        refine W.seq <| Wr <| Oa rfl sm rfl <| Oa rfl sm rfl <| Ot rfl (zb (hv := bi_lss)) rfl (by first | rfl | assumption | ((simp only [bl, sq]) <;> first | done | assumption | omega) | (simp; done) | (simp; omega)) <| On ?_
        refine Wy <| CWp.skip <| SQ.normal ?_
        refine W.block <| Wr <| Oa rfl sm rfl <| Oa rfl sm rfl <| Oa rfl (zb (hv := bi_w bi_add (by first | (simp only [w3, w4, w5, w6, w8] <;> rfl) | rfl))) rfl <| Oa rfl (so_conw (so_conv tyOK (by simp only [lk] <;> rfl) ty3 ⟨_, rfl⟩ ty94 rfl) (by first | (simp only [w3, w4, w5, w6, w8] <;> rfl) | rfl)) rfl <| Oa rfl (zb (hv := bi_w (bi_shr (by decide)) (by first | (simp only [w3, w4, w5, w6, w8] <;> rfl) | rfl))) rfl <| Oa rfl (so_conw (so_conv tyOK (by simp only [lk] <;> rfl) ty94 ⟨_, rfl⟩ ty3 rfl) (by first | (simp only [w3, w4, w5, w6, w8] <;> rfl) | rfl)) rfl <| Oa rfl za rfl <| On ?_
        refine Wd <| Sa rfl sm rfl <| Sa rfl sm rfl <| Sa rfl sm rfl <| Sa rfl sm rfl <| Sa rfl (zb (hv := bi_w bi_sub (by first | (simp only [w3, w4, w5, w6, w8] <;> rfl) | rfl))) rfl <| Sa rfl (zi (hv := by simp (disch := first | omega | simp only [nx]; omega) only [aIndexAddr, ty23, ty27, hpl, sq] <;> rfl)) rfl <| Sa rfl (zl (hv := by simp (disch := first | omega | simp only [nx]; omega) only [aLoad, ty27, rowOf, hpl, sq] <;> rfl)) rfl <| Sa rfl sm rfl <| Sa rfl sm rfl <| Sa rfl (zi (hv := by simp (disch := first | omega | simp only [nx]; omega) only [aIndexAddr, ty23, ty27, hpl, sq] <;> rfl)) rfl <| Sa rfl (zl (hv := by simp (disch := first | omega | simp only [nx]; omega) only [aLoad, ty27, rowOf, hpl, sq] <;> rfl)) rfl <| SqW.vcallD rfl (by simp only [lk] <;> rfl) (by simp only [aopnds, lk] <;> rfl) (less_v _ _ _) rfl <| St rfl (zb (hv := bi_lss)) rfl (el) <| Sf rfl Zt rfl rfl <| Sn ?_
        refine Wn <| W.reg <| Oa rfl sm rfl <| Oa rfl za rfl <| OSuf.nil <| BQ.normal <| ?_
        refine LQ.normal (m := x - i) (L := [(0, sl r N), (1, I64 a), (2, I64 m), (3, I64 b), (4, CF), (18, I64 c), (19, I64 (c + m : Nat)), (20, I64 i), (21, I64 x), (22, I64 (c + m - 1 : Nat))]) (by omega) ?_ ⟨i, x, rfl, hi1, by omega, by omega, hlo, .inr hl, rfl, rfl⟩
        simp only [HasA, Tr.get_put, Nat.reduceEqDiff, reduceIte, and_self]
    · refine W.seq <| Wr <| Oa rfl sm rfl <| Oa rfl sm rfl <| Ofb rfl (zb (hv := bi_lss)) rfl <| On ?_
      refine Wn <| CWp.exit <| SQ.exit <| LQ.exit <| BQ.exit <| ?_
      have hij2 : j = i := by omega
      refine NQ.normal (L := [(0, sl r N), (1, I64 a), (2, I64 m), (3, I64 b), (4, CF), (18, I64 c), (19, I64 (c + m : Nat)), (20, I64 i)]) ?_ ⟨i, hi1, by omega, hlo, hij2 ▸ hhi, rfl, rfl⟩
      simp only [HasA, Tr.get_put, Nat.reduceEqDiff, reduceIte, and_self]
  clear ha
  rintro L a' h1 ha ⟨s, hs1, hs2, hlo, hhi, rfl, rfl⟩
  obtain ⟨e, he⟩ : ∃ e, e = c + m - s := ⟨_, rfl⟩
  have w10 : IntKind.i64.wrap (((c + m : Nat) : Int) - (s : Int)) = (e : Int) := by rw [wrap_i64 (by omega) (by omega)]; omega
  have f1 : a ≤ s := by omega
  have f2 : s ≤ m := by omega
  have f3 : m ≤ e := by omega
  have f4 : e ≤ b := by omega
  have f5 : s + (e - m) = c := by omega
  have flo : s = a ∨ e = b ∨ ltJ d[e]! d[s - 1]! = false := by
    rcases hlo with hlo | hlo
    · rcases h0 with h0 | h0
      · exact .inr (.inl (by omega))
      · exact .inl (by omega)
    · rw [← he] at hlo; exact .inr (.inr hlo)
  have fhi : e = m ∨ s = m ∨ ltJ d[e - 1]! d[s]! = true := by
    rcases hhi with hhi | hhi
    · rcases h0 with h0 | h0
      · exact .inl (by omega)
      · exact .inr (.inl (by omega))
    · rw [show c + m - 1 - s = e - 1 by omega] at hhi; exact .inr (.inr hhi)
  refine SQ.normal <| CWp.known ha ?_
  simp only [mkA]
  refine Wr <| Oa rfl sm rfl <| Oa rfl sm rfl <| Oa rfl (zb (hv := bi_w bi_sub (by first | (simp only [w10] <;> rfl) | rfl))) rfl <| Oa rfl za rfl <| On ?_
  refine W.seq <| ?_
  refine W.cut (fun L h' => ∃ d1 : Array El, PermIn a b d d1 ∧ (∀ k, d1[k]! = rot m (m - s) (e - m) d k) ∧ h' = h.set r (row d1) ∧ L = [(0, sl r N), (1, I64 a), (3, I64 b), (4, CF), (18, I64 c), (20, I64 s), (24, I64 e)]) ?_ ?_
  · by_cases k1 : (s : Int) < (m : Int)
    · by_cases k2 : (m : Int) < (e : Int)
      · refine Wr <| Oa rfl sm rfl <| Oa rfl sm rfl <| Otb rfl (zb (hv := bi_lss)) rfl <| Ot rfl sm rfl rfl <| Oa ag sm rfl <| Oa ag sm rfl <| Otb ag (zb (hv := bi_lss)) rfl <| Ot rfl Zp rfl rfl <| On ?_
        refine Wy <| W.reg <| Oa rfl sm rfl <| Oa rfl sm rfl <| Oa rfl sm rfl <| Oa rfl sm rfl <| Oa rfl sm rfl <| OSuf.call rfl (by simp only [aopnds, lk] <;> rfl) en135 (rotate_c h r N d hN s m e (by omega) (by omega) (by omega) hsz) ?_
        rintro _ _ ⟨rfl, d1, hp1, hd1, rfl⟩
        refine ⟨_, rfl, ?_⟩
        refine OSuf.nil <| ?_
        refine NQ.normal (L := [(0, sl r N), (1, I64 a), (3, I64 b), (4, CF), (18, I64 c), (20, I64 s), (24, I64 e)]) ?_ ⟨d1, permIn_mono _ _ _ _ _ _ f1 f4 (by omega) hp1, hd1, rfl, rfl⟩
        simp only [HasA, Tr.get_put, Nat.reduceEqDiff, reduceIte, and_self]
      · refine Wr <| Oa rfl sm rfl <| Oa rfl sm rfl <| Otb rfl (zb (hv := bi_lss)) rfl <| Ot rfl sm rfl rfl <| Oa ag sm rfl <| Oa ag sm rfl <| Ofb ag (zb (hv := bi_lss)) rfl <| Of rfl Zp rfl rfl <| On ?_
        refine Wn <| CWp.skip <| ?_
        refine NQ.normal (L := [(0, sl r N), (1, I64 a), (3, I64 b), (4, CF), (18, I64 c), (20, I64 s), (24, I64 e)]) ?_ ⟨d, permIn_refl _ _ _, fun k => by rw [show e - m = 0 by omega, rot_i0], rfl, rfl⟩
        simp only [HasA, Tr.get_put, Nat.reduceEqDiff, reduceIte, and_self]
    · refine Wr <| Oa rfl sm rfl <| Oa rfl sm rfl <| Ofb rfl (zb (hv := bi_lss)) rfl <| Of rfl sm rfl rfl <| Pa ag rfl <| Pa ag rfl <| Pa ag rfl <| Of rfl Zp rfl rfl <| On ?_
      refine Wn <| CWp.skip <| ?_
      refine NQ.normal (L := [(0, sl r N), (1, I64 a), (3, I64 b), (4, CF), (18, I64 c), (20, I64 s), (24, I64 e)]) ?_ ⟨d, permIn_refl _ _ _, fun k => by rw [show m - s = 0 by omega, rot_0j], rfl, rfl⟩
      simp only [HasA, Tr.get_put, Nat.reduceEqDiff, reduceIte, and_self]
  clear ha
  rintro L a' h1 ha ⟨d1, hp1, hd1, rfl, rfl⟩
  obtain ⟨t1, t2, t3, t4, tx⟩ := mid_c f1 f2 f3 f4 f5 s1 s2 flo fhi hd1
  have hG1 := hG.perm (by omega) hp1
  have hN1 : d1.size = N := hp1.1.trans hN
  refine SQ.normal <| CWp.known ha ?_
  simp only [mkA]
  refine W.seq <| ?_
  refine W.cut (fun L h' => ∃ d2 : Array El, PermIn a c d1 d2 ∧ SortedIn ltJ a c d2 ∧ h' = h.set r (row d2) ∧ L = [(0, sl r N), (3, I64 b), (4, CF), (18, I64 c), (24, I64 e)]) ?_ ?_
  · by_cases k1 : (a : Int) < (s : Int)
    · by_cases k2 : (s : Int) < (c : Int)
      · refine Wr <| Oa rfl sm rfl <| Oa rfl sm rfl <| Otb rfl (zb (hv := bi_lss)) rfl <| Ot rfl sm rfl rfl <| Oa ag sm rfl <| Oa ag sm rfl <| Otb ag (zb (hv := bi_lss)) rfl <| Ot rfl Zp rfl rfl <| On ?_
        refine Wy <| W.reg <| Oa rfl sm rfl <| Oa rfl sm rfl <| Oa rfl sm rfl <| Oa rfl sm rfl <| Oa rfl sm rfl <| OSuf.call rfl (by simp only [aopnds, lk] <;> rfl) en120 (ih (c - a) (by omega) d1 a s c (Nat.le_refl _) hN1 (by omega) (by omega) (by omega) hG1 t1 t2) ?_
        rintro _ _ ⟨rfl, d2, hp2, hs2', rfl⟩
        refine ⟨_, rfl, ?_⟩
        refine OSuf.nil <| ?_
        refine NQ.normal (L := [(0, sl r N), (3, I64 b), (4, CF), (18, I64 c), (24, I64 e)]) ?_ ⟨d2, hp2, hs2', rfl, rfl⟩
        simp only [HasA, Tr.get_put, Nat.reduceEqDiff, reduceIte, and_self]
      · refine Wr <| Oa rfl sm rfl <| Oa rfl sm rfl <| Otb rfl (zb (hv := bi_lss)) rfl <| Ot rfl sm rfl rfl <| Oa ag sm rfl <| Oa ag sm rfl <| Ofb ag (zb (hv := bi_lss)) rfl <| Of rfl Zp rfl rfl <| On ?_
        refine Wn <| CWp.skip <| ?_
        refine NQ.normal (L := [(0, sl r N), (3, I64 b), (4, CF), (18, I64 c), (24, I64 e)]) ?_ ⟨d1, permIn_refl _ _ _, by rw [show c = s by omega]; exact t1, rfl, rfl⟩
        simp only [HasA, Tr.get_put, Nat.reduceEqDiff, reduceIte, and_self]
    · refine Wr <| Oa rfl sm rfl <| Oa rfl sm rfl <| Ofb rfl (zb (hv := bi_lss)) rfl <| Of rfl sm rfl rfl <| Pa ag rfl <| Pa ag rfl <| Pa ag rfl <| Of rfl Zp rfl rfl <| On ?_
      refine Wn <| CWp.skip <| ?_
      refine NQ.normal (L := [(0, sl r N), (3, I64 b), (4, CF), (18, I64 c), (24, I64 e)]) ?_ ⟨d1, permIn_refl _ _ _, by rw [show a = s by omega]; exact t2, rfl, rfl⟩
      simp only [HasA, Tr.get_put, Nat.reduceEqDiff, reduceIte, and_self]
  clear ha
  rintro L a' h1 ha ⟨d2, hp2, hs2', rfl, rfl⟩
  have hN2 : d2.size = N := hp2.1.trans hN1
  have hG2 := hG1.perm (by omega) hp2
  have t3' : SortedIn ltJ c e d2 := si_eq t3 fun k hk _ => hp2.2.1 k (.inr hk)
  have t4' : SortedIn ltJ e b d2 := si_eq t4 fun k hk _ => hp2.2.1 k (.inr (by omega))
  have fin : ∀ d3, PermIn c b d2 d3 → SortedIn ltJ c b d3 → PermIn a b d d3 ∧ SortedIn ltJ a b d3 := fun d3 hp3 hs3 => by
    obtain ⟨q1, q2⟩ := fin_c (Nat.le_of_lt hc1) (Nat.le_of_lt hc2) (by omega) tx hp2 hs2' hp3 hs3
    exact ⟨permIn_trans _ _ _ _ _ hp1 q1, q2⟩
  by_cases k1 : (c : Int) < (e : Int)
  · by_cases k2 : (e : Int) < (b : Int)
    · refine SQ.normal <| CWp.known ha ?_
      simp only [mkA]
      refine Wr <| Oa rfl sm rfl <| Oa rfl sm rfl <| Otb rfl (zb (hv := bi_lss)) rfl <| Ot rfl sm rfl rfl <| Oa ag sm rfl <| Oa ag sm rfl <| Otb ag (zb (hv := bi_lss)) rfl <| Ot rfl Zp rfl rfl <| On ?_
      refine Wy <| W.reg <| Oa rfl sm rfl <| Oa rfl sm rfl <| Oa rfl sm rfl <| Oa rfl sm rfl <| Oa rfl sm rfl <| OSuf.call rfl (by simp only [aopnds, lk] <;> rfl) en120 (ih (b - c) (by omega) d2 c e b (Nat.le_refl _) hN2 (by omega) (by omega) (by omega) hG2 t3' t4') ?_
      rintro _ _ ⟨rfl, d3, hp3, hs3, rfl⟩
      refine ⟨_, rfl, ?_⟩
      refine OSuf.nil <| FQ.normal (by simp only [aRet, Tryz.f120, aResults, aResult, lk, Nat.reduceEqDiff, reduceIte] <;> rfl) ?_
      exact ⟨rfl, d3, (fin d3 hp3 hs3).1, (fin d3 hp3 hs3).2, rfl⟩
    · refine SQ.normal <| CWp.known ha ?_
      simp only [mkA]
      refine Wr <| Oa rfl sm rfl <| Oa rfl sm rfl <| Otb rfl (zb (hv := bi_lss)) rfl <| Ot rfl sm rfl rfl <| Oa ag sm rfl <| Oa ag sm rfl <| Ofb ag (zb (hv := bi_lss)) rfl <| Of rfl Zp rfl rfl <| On ?_
      refine Wn <| CWp.skip <| FQ.normal (by simp only [aRet, Tryz.f120, aResults, aResult, lk, Nat.reduceEqDiff, reduceIte] <;> rfl) ?_
      have hs3 : SortedIn ltJ c b d2 := by rw [show b = e by omega]; exact t3'
      exact ⟨rfl, d2, (fin d2 (permIn_refl _ _ _) hs3).1, (fin d2 (permIn_refl _ _ _) hs3).2, rfl⟩
  · refine SQ.normal <| CWp.known ha ?_
    simp only [mkA]
    refine Wr <| Oa rfl sm rfl <| Oa rfl sm rfl <| Ofb rfl (zb (hv := bi_lss)) rfl <| Of rfl sm rfl rfl <| Pa ag rfl <| Pa ag rfl <| Pa ag rfl <| Of rfl Zp rfl rfl <| On ?_
    refine Wn <| CWp.skip <| FQ.normal (by simp only [aRet, Tryz.f120, aResults, aResult, lk, Nat.reduceEqDiff, reduceIte] <;> rfl) ?_
    have hs3 : SortedIn ltJ c b d2 := by rw [show c = e by omega]; exact t4'
    exact ⟨rfl, d2, (fin d2 (permIn_refl _ _ _) hs3).1, (fin d2 (permIn_refl _ _ _) hs3).2, rfl⟩
end Go.Proofs.YtebheelmgcggmaaGreat.SortJ
namespace Go.Proofs.YtebheelmgcggmaaGreat.SortJ
open Go.Ab Go.Sort
def Blk (w p q : Nat) (d : Array Rec) : Prop := ∀ i j, p ≤ i → i < j → j < q → i / w = j / w → ltJ d[j]! d[i]! = false
theorem blk_si {w p q k a b : Nat} {d : Array Rec} (hw : 0 < w) (s : Blk w p q d) (hp : p ≤ a) (hb : b ≤ q) (ha : k * w ≤ a) (hb2 : b ≤ (k + 1) * w) : SortedIn ltJ a b d := fun i j h1 h2 h3 => by
  refine s i j (by omega) h2 (by omega) ?_
  rw [Nat.div_eq_of_lt_le (k := k) (n := w) (m := i) (by omega) (by omega), Nat.div_eq_of_lt_le (k := k) (n := w) (m := j) (by omega) (by omega)]
theorem blk_ext {w k a q : Nat} {d d' : Array Rec} (hw : 0 < w) (ha : a = k * w) (s : Blk w 0 a d) (e : ∀ i, i < a → d'[i]! = d[i]!) (s2 : SortedIn ltJ a q d') : Blk w 0 q d' := fun i j h1 h2 h3 h4 => by
  by_cases c1 : j < a
  · rw [e i (by omega), e j c1]; exact s i j h1 h2 c1 h4
  · by_cases c2 : a ≤ i
    · exact s2 i j c2 h2 h3
    · exfalso
      have a1 : i / w < k := (Nat.div_lt_iff_lt_mul hw).2 (by omega)
      have a2 : k ≤ j / w := (Nat.le_div_iff_mul_le hw).2 (by omega)
      omega
theorem blk_eq {w p p' q : Nat} {d d' : Array Rec} (s : Blk w p q d) (hp : p ≤ p') (e : ∀ i, p' ≤ i → d'[i]! = d[i]!) : Blk w p' q d' := fun i j h1 h2 h3 h4 => by
  rw [e i h1, e j (by omega)]; exact s i j (by omega) h2 h3 h4
theorem stable_c (h : AHeap) (r N : Nat) (hsz : N < 1000000000) (d : Array El) (hN : d.size = N) (hG : Good d) :
    FWp Tryz.prog 100 [sl r N, I64 N, CF] (h.set r (row d)) fun u h' => u = .tuple #[] ∧ ∃ d' : Array El, PermIn 0 N d d' ∧ SortedIn ltJ 0 N d' ∧ h' = h.set r (row d') := by
  refine W.enter tyOK Tryz.func100 rfl rfl ?_
  simp only [entry]
  refine Wr <| Oa rfl za rfl <| On ?_
  refine Wr <| Oa rfl sm rfl <| Oa rfl za rfl <| Oa rfl za rfl <| On ?_
  refine W.seq <| ?_
  refine W.cut (fun L h' => ∃ (a k : Nat) (dk : Array El), a = k * 20 ∧ a ≤ N ∧ N < a + 20 ∧ PermIn 0 N d dk ∧ Blk 20 0 a dk ∧ h' = h.set r (row dk) ∧ L = [(0, sl r N), (1, I64 N), (2, CF), (6, I64 20), (7, I64 a)])
    (W.block (W.loop (fun c L h' => ∃ (a k : Nat) (dk : Array El), c = N - a ∧ a = k * 20 ∧ a ≤ N ∧ PermIn 0 N d dk ∧ Blk 20 0 a dk ∧ h' = h.set r (row dk) ∧ L = [(0, sl r N), (1, I64 N), (2, CF), (6, I64 20), (7, I64 a), (8, I64 (a + 20 : Nat))]) (n := N) ⟨0, 0, d, rfl, rfl, Nat.zero_le _, permIn_refl _ _ _, fun i j h1 h2 h3 => by omega, rfl, rfl⟩ ?_ ?_)) ?_
  · simp [HasA, Tr.get_put]
  · rintro c L h1 ⟨a, k, dk, rfl, hak, hle, hp, hb, rfl, rfl⟩
    simp only [mkA]
    have hds : dk.size = N := by rw [hp.1, hN]
    have hgk : Good dk := hG.perm (by omega) hp
    by_cases hlt : ((a + 20 : Nat) : Int) ≤ (N : Int)
    · have w3 : IntKind.i64.wrap (((a + 20 : Nat) : Int) + 20) = ((a + 20 + 20 : Nat) : Int) := by rw [wrap_i64 (by omega) (by omega)]; omega
      refine W.seq <| Wr <| Oa rfl sm rfl <| Oa rfl sm rfl <| Otb rfl (zb (hv := bi_leq)) rfl <| On ?_
      refine Wy <| CWp.skip <| SQ.normal ?_
      refine W.block <| Wr <| Oa rfl sm rfl <| Oa rfl sm rfl <| Oa rfl sm rfl <| Oa rfl sm rfl <| OSuf.callD rfl (by simp only [aopnds, lk] <;> rfl) en105 (insertion_c _ _ _ _ hds _ _ (by omega) (by omega) hsz) rfl <| On ?_
      refine Wr <| Oa rfl sm rfl <| Oa rfl za rfl <| On ?_
      refine W.reg <| Oa rfl sm rfl <| Oa rfl sm rfl <| Oa rfl (zb (hv := bi_w bi_add (by first | (simp only [w3] <;> rfl) | rfl))) rfl <| Oa rfl za rfl <| OSuf.nil <| BQ.normal <| ?_
      obtain ⟨i1, i2⟩ := insertionSort_holds swo dk a (a + 20) (by omega) (by omega)
      refine LQ.normal (m := N - (a + 20)) (L := [(0, sl r N), (1, I64 N), (2, CF), (6, I64 20), (7, I64 (a + 20 : Nat)), (8, I64 (a + 20 + 20 : Nat))]) (by omega) ?_ ⟨a + 20, k + 1, insertionSort ltJ dk a (a + 20), rfl, by omega, by omega, permIn_trans _ _ _ _ _ hp (permIn_mono _ _ _ _ _ _ (Nat.zero_le _) (by omega) (by omega) i1), blk_ext (by omega) hak hb (fun i hi => i1.2.1 i (.inl hi)) i2, by rw [ins_eq hgk (by omega)], rfl⟩
      simp only [HasA, Tr.get_put, Nat.reduceEqDiff, reduceIte, w3, and_self]
    · refine W.seq <| Wr <| Oa rfl sm rfl <| Oa rfl sm rfl <| Ofb rfl (zb (hv := bi_leq)) rfl <| On ?_
      refine Wn <| CWp.exit <| SQ.exit <| LQ.exit <| BQ.exit <| ?_
      refine NQ.normal (L := [(0, sl r N), (1, I64 N), (2, CF), (6, I64 20), (7, I64 a)]) ?_ ⟨a, k, dk, hak, hle, by omega, hp, hb, rfl, rfl⟩
      simp only [HasA, Tr.get_put, Nat.reduceEqDiff, reduceIte, and_self]
  rintro L a' h1 ha ⟨a, k, dk, hak, hle, hlt, hp, hb, rfl, rfl⟩
  have hds : dk.size = N := by rw [hp.1, hN]
  have hgk : Good dk := hG.perm (by omega) hp
  obtain ⟨i1, i2⟩ := insertionSort_holds swo dk a N (by omega) (by omega)
  have hB := blk_ext (by omega) hak hb (fun i hi => i1.2.1 i (.inl hi)) i2
  have hP := permIn_trans _ _ _ _ _ hp (permIn_mono _ _ _ _ _ _ (Nat.zero_le _) (Nat.le_refl _) (by omega) i1)
  have hE := ins_eq hgk (a := a) (b := N) (by omega)
  refine SQ.normal <| CWp.known ha ?_
  simp only [mkA]
  refine Wr <| Oa rfl sm rfl <| Oa rfl sm rfl <| Oa rfl sm rfl <| Oa rfl sm rfl <| OSuf.callD rfl (by simp only [aopnds, lk] <;> rfl) en105 (insertion_c _ _ _ _ hds _ _ (by omega) (by omega) hsz) rfl <| On ?_
  refine W.block (W.loop (fun c L h' => ∃ (w : Nat) (dk : Array El), c = N - w ∧ 20 ≤ w ∧ w ≤ 2 * N + 20 ∧ PermIn 0 N d dk ∧ Blk w 0 N dk ∧ h' = h.set r (row dk) ∧ L = [(0, sl r N), (1, I64 N), (2, CF), (6, I64 w)]) (n := N - 20) ⟨20, _, rfl, Nat.le_refl _, by omega, hP, hB, by rw [hE], rfl⟩ ?_ ?_)
  · simp [HasA, Tr.get_put]
  rintro c L h1 ⟨w, dk, rfl, hw, hw2, hp, hb, rfl, rfl⟩
  simp only [mkA]
  by_cases hlt : (w : Int) < (N : Int)
  · have w3 : IntKind.i64.wrap (2 * (w : Int)) = ((2 * w : Nat) : Int) := by rw [wrap_i64 (by omega) (by omega)]; omega
    have w4 : IntKind.i64.wrap ((w : Int) * 2) = ((2 * w : Nat) : Int) := by rw [wrap_i64 (by omega) (by omega)]; omega
    refine W.seq <| Wr <| Oa rfl sm rfl <| Oa rfl sm rfl <| Otb rfl (zb (hv := bi_lss)) rfl <| On ?_
    refine Wy <| CWp.skip <| SQ.normal ?_
    refine W.block <| Wr <| Oa rfl sm rfl <| Oa rfl (zb (hv := bi_w bi_mul (by first | (simp only [w3] <;> rfl) | rfl))) rfl <| Oa rfl za rfl <| Oa rfl za rfl <| On ?_
    refine W.seq <| ?_
    refine W.cut (fun L h' => ∃ (a k : Nat) (dk : Array El), a = k * (2 * w) ∧ a ≤ N ∧ N < a + 2 * w ∧ PermIn 0 N d dk ∧ Blk (2 * w) 0 a dk ∧ Blk w a N dk ∧ h' = h.set r (row dk) ∧ L = [(0, sl r N), (1, I64 N), (2, CF), (6, I64 w), (7, I64 a)])
      (W.block (W.loop (fun c L h' => ∃ (a k : Nat) (dk : Array El), c = N - a ∧ a = k * (2 * w) ∧ a ≤ N ∧ PermIn 0 N d dk ∧ Blk (2 * w) 0 a dk ∧ Blk w a N dk ∧ h' = h.set r (row dk) ∧ L = [(0, sl r N), (1, I64 N), (2, CF), (6, I64 w), (7, I64 a), (8, I64 (a + 2 * w : Nat))]) (n := N) ⟨0, 0, dk, rfl, by omega, Nat.zero_le _, hp, fun i j h1 h2 h3 => by omega, hb, rfl, by rw [Nat.zero_add]⟩ ?_ ?_)) ?_
    · simp [HasA, Tr.get_put, w3]
    · rintro c L h1 ⟨a, k, dk, rfl, hak, hle, hp, hb, hb2, rfl, rfl⟩
      simp only [mkA]
      have hds : dk.size = N := by rw [hp.1, hN]
      have hgk : Good dk := hG.perm (by omega) hp
      have e1 : 2 * k * w = a := by rw [hak, Nat.mul_comm 2 k, Nat.mul_assoc]
      have e2 : (2 * k + 1) * w = a + w := by rw [Nat.add_mul, e1, Nat.one_mul]
      have e3 : (2 * k + 1 + 1) * w = a + 2 * w := by rw [Nat.add_mul, e2, Nat.one_mul]; omega
      have e4 : (k + 1) * (2 * w) = a + 2 * w := by rw [Nat.add_mul, ← hak, Nat.one_mul]
      by_cases hlt2 : ((a + 2 * w : Nat) : Int) ≤ (N : Int)
      · have w5 : IntKind.i64.wrap ((a : Int) + (w : Int)) = ((a + w : Nat) : Int) := by rw [wrap_i64 (by omega) (by omega)]; omega
        have w6 : IntKind.i64.wrap (((a + 2 * w : Nat) : Int) + ((2 * w : Nat) : Int)) = ((a + 2 * w + 2 * w : Nat) : Int) := by rw [wrap_i64 (by omega) (by omega)]; omega
        refine W.seq <| Wr <| Oa rfl sm rfl <| Oa rfl sm rfl <| Otb rfl (zb (hv := bi_leq)) rfl <| On ?_
        refine Wy <| CWp.skip <| SQ.normal ?_
        refine W.block <| Wr <| Oa rfl sm rfl <| Oa rfl sm rfl <| Oa rfl sm rfl <| Oa rfl sm rfl <| Oa rfl (zb (hv := bi_w bi_add (by first | (simp only [w3, w5, w6] <;> rfl) | rfl))) rfl <| Oa rfl sm rfl <| Oa rfl sm rfl <| OSuf.call rfl (by simp only [aopnds, lk] <;> rfl) en120 (sym_c h r N hsz _ dk a (a + w) (a + 2 * w) (Nat.le_refl _) hds (by omega) (by omega) (by omega) hgk (blk_si (k := 2 * k) (by omega) hb2 (Nat.le_refl _) (by omega) (by omega) (by omega)) (blk_si (k := 2 * k + 1) (by omega) hb2 (by omega) (by omega) (by omega) (by omega))) ?_
        rintro _ h2 ⟨rfl, d2, p2, s2, rfl⟩
        refine ⟨_, rfl, ?_⟩
        refine On ?_
        refine Wr <| Oa rfl sm rfl <| Oa rfl za rfl <| On ?_
        refine W.reg <| Oa rfl sm rfl <| Oa rfl sm rfl <| Oa rfl (zb (hv := bi_w bi_mul (by first | (simp only [w3, w5, w6, w3, w5, w6] <;> rfl) | rfl))) rfl <| Oa rfl (zb (hv := bi_w bi_add (by first | (simp only [w3, w5, w6, w3, w5, w6] <;> rfl) | rfl))) rfl <| Oa rfl za rfl <| OSuf.nil <| BQ.normal <| ?_
        refine LQ.normal (m := N - (a + 2 * w)) (L := [(0, sl r N), (1, I64 N), (2, CF), (6, I64 w), (7, I64 (a + 2 * w : Nat)), (8, I64 (a + 2 * w + 2 * w : Nat))]) (by omega) ?_ ⟨a + 2 * w, k + 1, d2, rfl, e4.symm, by omega, permIn_trans _ _ _ _ _ hp (permIn_mono _ _ _ _ _ _ (Nat.zero_le _) (by omega) (by omega) p2), blk_ext (by omega) hak hb (fun i hi => p2.2.1 i (.inl hi)) s2, blk_eq hb2 (by omega) (fun i hi => p2.2.1 i (.inr hi)), rfl, rfl⟩
        simp only [HasA, Tr.get_put, Nat.reduceEqDiff, reduceIte, w3, w5, w6, and_self]
      · refine W.seq <| Wr <| Oa rfl sm rfl <| Oa rfl sm rfl <| Ofb rfl (zb (hv := bi_leq)) rfl <| On ?_
        refine Wn <| CWp.exit <| SQ.exit <| LQ.exit <| BQ.exit <| ?_
        refine NQ.normal (L := [(0, sl r N), (1, I64 N), (2, CF), (6, I64 w), (7, I64 a)]) ?_ ⟨a, k, dk, hak, hle, by omega, hp, hb, hb2, rfl, rfl⟩
        simp only [HasA, Tr.get_put, Nat.reduceEqDiff, reduceIte, and_self]
    rintro L a' h1 ha ⟨a, k, dk, hak, hle, hlt2, hp, hb, hb2, rfl, rfl⟩
    have hds : dk.size = N := by rw [hp.1, hN]
    have hgk : Good dk := hG.perm (by omega) hp
    have e1 : 2 * k * w = a := by rw [hak, Nat.mul_comm 2 k, Nat.mul_assoc]
    have e2 : (2 * k + 1) * w = a + w := by rw [Nat.add_mul, e1, Nat.one_mul]
    have e3 : (2 * k + 1 + 1) * w = a + 2 * w := by rw [Nat.add_mul, e2, Nat.one_mul]; omega
    have w5 : IntKind.i64.wrap ((a : Int) + (w : Int)) = ((a + w : Nat) : Int) := by rw [wrap_i64 (by omega) (by omega)]; omega
    by_cases hlt3 : ((a + w : Nat) : Int) < (N : Int)
    · refine SQ.normal <| CWp.known ha ?_
      simp only [mkA]
      refine W.seq <| Wr <| Oa rfl sm rfl <| Oa rfl sm rfl <| Oa rfl (zb (hv := bi_w bi_add (by first | (simp only [w5, w4] <;> rfl) | rfl))) rfl <| Oa rfl za rfl <| On ?_
      refine Wr <| Oa rfl sm rfl <| Oa rfl sm rfl <| Otb rfl (zb (hv := bi_lss)) rfl <| On ?_
      refine Wy <| W.reg <| Oa rfl sm rfl <| Oa rfl sm rfl <| Oa rfl sm rfl <| Oa rfl sm rfl <| Oa rfl sm rfl <| OSuf.call rfl (by simp only [aopnds, lk] <;> rfl) en120 (sym_c h r N hsz _ dk a (a + w) N (Nat.le_refl _) hds (by omega) (by omega) (by omega) hgk (blk_si (k := 2 * k) (by omega) hb2 (Nat.le_refl _) (by omega) (by omega) (by omega)) (blk_si (k := 2 * k + 1) (by omega) hb2 (by omega) (by omega) (by omega) (by omega))) ?_
      rintro _ h2 ⟨rfl, d2, p2, s2, rfl⟩
      refine ⟨_, rfl, ?_⟩
      refine On ?_
      refine W.reg <| Oa rfl sm rfl <| Oa rfl (zb (hv := bi_w bi_mul (by first | (simp only [w5, w4, w5, w4] <;> rfl) | rfl))) rfl <| Oa rfl za rfl <| OSuf.nil <| BQ.normal <| ?_
      refine LQ.normal (m := N - 2 * w) (L := [(0, sl r N), (1, I64 N), (2, CF), (6, I64 (2 * w : Nat))]) (by omega) ?_ ⟨2 * w, d2, rfl, by omega, by omega, permIn_trans _ _ _ _ _ hp (permIn_mono _ _ _ _ _ _ (Nat.zero_le _) (by omega) (by omega) p2), blk_ext (by omega) hak hb (fun i hi => p2.2.1 i (.inl hi)) s2, rfl, rfl⟩
      simp only [HasA, Tr.get_put, Nat.reduceEqDiff, reduceIte, w4, w5, and_self]
    · refine SQ.normal <| CWp.known ha ?_
      simp only [mkA]
      refine W.seq <| Wr <| Oa rfl sm rfl <| Oa rfl sm rfl <| Oa rfl (zb (hv := bi_w bi_add (by first | (simp only [w5, w4] <;> rfl) | rfl))) rfl <| Oa rfl za rfl <| On ?_
      refine Wr <| Oa rfl sm rfl <| Oa rfl sm rfl <| Ofb rfl (zb (hv := bi_lss)) rfl <| On ?_
      refine Wn <| CWp.skip <| SQ.normal ?_
      refine W.reg <| Oa rfl sm rfl <| Oa rfl (zb (hv := bi_w bi_mul (by first | (simp only [w5, w4] <;> rfl) | rfl))) rfl <| Oa rfl za rfl <| OSuf.nil <| BQ.normal <| ?_
      refine LQ.normal (m := N - 2 * w) (L := [(0, sl r N), (1, I64 N), (2, CF), (6, I64 (2 * w : Nat))]) (by omega) ?_ ⟨2 * w, dk, rfl, by omega, by omega, hp, blk_ext (by omega) hak hb (fun i hi => rfl) (blk_si (k := 2 * k) (by omega) hb2 (Nat.le_refl _) (Nat.le_refl _) (by omega) (by omega)), rfl, rfl⟩
      simp only [HasA, Tr.get_put, Nat.reduceEqDiff, reduceIte, w4, w5, and_self]
  · refine W.seq <| Wr <| Oa rfl sm rfl <| Oa rfl sm rfl <| Ofb rfl (zb (hv := bi_lss)) rfl <| On ?_
    refine Wn <| CWp.exit <| SQ.exit <| LQ.exit <| BQ.exit <| FQ.normal (by simp only [aRet, Tryz.f100, aResults, aResult, lk, Nat.reduceEqDiff, reduceIte] <;> rfl) ?_
    exact ⟨rfl, dk, hp, blk_si (k := 0) (by omega) hb (Nat.le_refl _) (Nat.le_refl _) (by omega) (by omega), rfl⟩
theorem sort_c (h : AHeap) (r N : Nat) (hsz : N < 1000000000) (d : Array El) (hN : d.size = N) (hG : Good d) :
    FWp Tryz.prog 73 [sl r N, CF] (h.set r (row d)) fun u h' => u = .tuple #[] ∧ ∃ d' : Array El, PermIn 0 N d d' ∧ SortedIn ltJ 0 N d' ∧ h' = h.set r (row d') := by
  refine W.enter tyOK Tryz.func73 rfl rfl ?_
  simp only [entry]
  refine W.reg <| Oa rfl sm rfl <| Oa rfl sm rfl <| Oa rfl (Zn (hv := by simp (disch := first | omega | simp only [nx]; omega) only [aLenOf, ty23, hpl] <;> rfl)) rfl <| Oa rfl sm rfl <| OSuf.call rfl (by simp only [aopnds, lk] <;> rfl) en100 (stable_c h r N hsz d hN hG) ?_
  rintro _ h2 ⟨rfl, hd⟩
  refine ⟨_, rfl, ?_⟩
  refine OSuf.nil <| FQ.normal (by simp only [aRet, Tryz.f73, aResults, aResult, lk, Nat.reduceEqDiff, reduceIte] <;> rfl) ?_
  exact ⟨rfl, hd⟩
end Go.Proofs.YtebheelmgcggmaaGreat.SortJ
