/-
  Contracts of the package vers: may, last, seen, Newest; table's versions.
-/
import Derived.Test.YtldhcjfhlfgleaaTableD
namespace Go.Proofs.Ytldhcjfhlfgleaa
open Go.Ab
set_option linter.unusedSimpArgs false
set_option linter.unusedVariables false
set_option maxRecDepth 10000
set_option maxHeartbeats 4000000

theorem flatV_cell : ∀ {V : List Vr} {i : Nat} {x : Vr}, V[i]? = some x → ((flatV V).drop (i * 5)).take 5 = x.cs
  | [], i, x, h => by simp at h
  | y :: V, 0, x, h => by simp at h; subst h; rfl
  | y :: V, i + 1, x, h => by
    have e : (i + 1) * 5 = i * 5 + 5 := by omega
    simp only [List.getElem?_cons_succ] at h
    rw [e]
    show ((y.cs ++ flatV V).drop (i * 5 + 5)).take 5 = x.cs
    rw [Nat.add_comm, ← List.drop_drop]
    exact flatV_cell h
theorem cell_of {vs : List Value} {off : Nat} {V : List Vr} {i : Nat} {x : Vr} (hc : cellsOf vs off (V.length * 5) = some (flatV V)) (hx : V[i]? = some x) : cellsOf vs (off + i * 5) 5 = some x.cs := by
  obtain ⟨h1, h2, h3⟩ := cellsOf_some hc
  have hi := (List.getElem?_eq_some_iff.1 hx).1
  rw [cellsOf_mk (by omega), ← flatV_cell hx, h2]
  congr 1
  rw [← List.drop_drop, List.drop_take, List.take_take]
  congr 1
  omega
theorem get_of {vs : List Value} {off : Nat} {V : List Vr} {i : Nat} {x : Vr} (hc : cellsOf vs off (V.length * 5) = some (flatV V)) (hx : V[i]? = some x) (j : Nat) (hj : j < 5) : vs[off + i * 5 + j]? = x.cs[j]? := by
  obtain ⟨h1, h2, h3⟩ := cellsOf_some (cell_of hc hx)
  rw [h2, List.getElem?_take, if_pos hj, List.getElem?_drop]

/-- Versions that rise. -/
def Ris (V : List Vr) : Prop := ∀ (i : Nat) (x y : Vr), V[i]? = some x → V[i + 1]? = some y → x.ts < y.ts
theorem may_c (h : AHeap) (V : List Vr) (v : Value) (hs : AVs h V v) (hl : V.length ≤ 1000000) (b : Bool) (hb : b = true ↔ Ris V) : FWp Try.prog 55 [v] h fun u h' => u = .bool b ∧ h' = h := by
  have hlen : ∃ a c, v = .slice a V.length c := by cases hs <;> exact ⟨_, _, rfl⟩
  obtain ⟨a, c, rfl⟩ := hlen
  refine W.enter tyOK Try.func55 rfl rfl ?_
  simp only [entry]
  refine W.seq <| W.reg <| OSuf.aopF tyOK rfl (so_assign (by simp only [lk] <;> rfl)) (fun _ => rfl) rfl <| OSuf.nil <| SQ.normal ?_
  refine W.seq <| W.seq <| W.reg <| OSuf.aop tyOK rfl (so_assign (by simp only [lk] <;> rfl)) rfl <| OSuf.nil <| SQ.normal ?_
  -- leaf: loop
  refine W.cut (fun L h' => h' = h ∧ b = true ∧ L = []) (W.block (W.loop (fun m L h' => ∃ i : Nat, 1 ≤ i ∧ m + i = V.length + 1 ∧ h' = h ∧ (∀ (j : Nat) (x y : Vr), j + 1 < i → V[j]? = some x → V[j + 1]? = some y → x.ts < y.ts) ∧ L = [(0, .slice a V.length c), (3, I64 i)]) (n := V.length) ⟨1, by omega, by omega, rfl, fun j x y hj => by omega, rfl⟩ ?_ ?_)) ?_
  · simp [HasA, Tr.get_put]
  · rintro m L h' ⟨i, hi1, hi, rfl, hr, rfl⟩
    simp only [mkA]
    have w2 : IntKind.i64.wrap ((i : Int) + 1) = ((i + 1 : Nat) : Int) := by rw [wrap_i64 (by omega) (by omega)]; omega
    have w3 : IntKind.i64.wrap ((i : Int) - 1) = ((i - 1 : Nat) : Int) := by rw [wrap_i64 (by omega) (by omega)]; omega
    by_cases hlt : (i : Int) < (V.length : Int)
    · obtain ⟨x, hx⟩ : ∃ x, V[i - 1]? = some x := ⟨V[i - 1]'(by omega), by simp⟩
      obtain ⟨y, hy⟩ : ∃ y, V[i]? = some y := ⟨V[i]'(by omega), by simp⟩
      cases hs with
      | nil => simp at hx
      | emp => simp at hx
      | @some _ z off _ vs hne hz hg hc =>
        have b1 : (0 ≤ (i : Int) ∧ (i : Int) < (V.length : Int)) := by omega
        have b2 : (0 ≤ ((i - 1 : Nat) : Int) ∧ ((i - 1 : Nat) : Int) < (V.length : Int)) := by omega
        have g1 := get_of hc hx 0 (by omega)
        have g2 := get_of hc hy 0 (by omega)
        have g1' : vs[off + (i - 1) * 5 + 0]? = some (U64 x.ts) := g1
        have g2' : vs[off + i * 5 + 0]? = some (U64 y.ts) := g2
        have g1'' : vs[off + (i - 1) * 5]? = some (U64 x.ts) := g1
        have g2'' : vs[off + i * 5]? = some (U64 y.ts) := g2
        simp only [rowOf] at hg
        by_cases hxy : x.ts ≥ y.ts
        · refine W.seq <| W.seq <| W.reg <| OSuf.aop tyOK rfl sm rfl <| OSuf.aop tyOK rfl sm rfl <| OSuf.aop tyOK rfl (so_len (by simp only [aopnds, lk] <;> rfl) (by simp (disch := first | assumption | omega | (simp only [nx] <;> omega) | fail) only [aLenOf, ty31, hpl, b1, b2, sb, hg, g1', g2', g1'', g2''] <;> rfl)) rfl <| OSuf.aopT tyOK rfl (so_bin (by simp only [lk] <;> rfl) (by simp only [lk] <;> rfl) bi_lss) (fun _ => rfl) (by first | rfl | assumption | ((simp only [bl, b1, b2, sb, hg, g1', g2', g1'', g2'']) <;> first | done | assumption | omega) | (simp; done) | (simp; omega)) <| OSuf.nil <| SQ.normal ?_
          refine W.yes (by simp only [lk] <;> rfl) <| CWp.skip <| SQ.normal ?_
          refine W.seq <| W.block <| W.seq <| W.regD tyOK mixed (by kernel_rfl) <| SqW.aop rfl sm rfl <| SqW.aop rfl sm rfl <| SqW.aop rfl (so_bin (by simp only [lk] <;> rfl) (by simp only [lk] <;> rfl) (bi_w bi_sub (by first | (simp only [w3] <;> rfl) | rfl))) rfl <| SqW.aop rfl (so_indexAddr (by simp only [lk] <;> rfl) (by simp only [lk] <;> rfl) (by simp (disch := first | assumption | omega | (simp only [nx] <;> omega) | fail) only [aIndexAddr, ty31, ty57, hpl, b1, b2, sb, hg, g1', g2', g1'', g2''] <;> rfl)) rfl <| SqW.aop rfl (so_fieldAddr (by simp only [lk] <;> rfl) (fa_ok (k := 0) ty57 rfl rfl ty27 rfl rfl)) rfl <| SqW.aop rfl (so_load (by simp only [lk] <;> rfl) (by simp (disch := first | assumption | omega | (simp only [nx] <;> omega) | fail) only [aLoad, ty27, rowOf, hpl, b1, b2, sb, hg, g1', g2', g1'', g2''] <;> rfl)) rfl <| SqW.aop rfl sm rfl <| SqW.aop rfl sm rfl <| SqW.aop rfl (so_indexAddr (by simp only [lk] <;> rfl) (by simp only [lk] <;> rfl) (by simp (disch := first | assumption | omega | (simp only [nx] <;> omega) | fail) only [aIndexAddr, ty31, ty57, hpl, b1, b2, sb, hg, g1', g2', g1'', g2''] <;> rfl)) rfl <| SqW.aop rfl (so_fieldAddr (by simp only [lk] <;> rfl) (fa_ok (k := 0) ty57 rfl rfl ty27 rfl rfl)) rfl <| SqW.aop rfl (so_load (by simp only [lk] <;> rfl) (by simp (disch := first | assumption | omega | (simp only [nx] <;> omega) | fail) only [aLoad, ty27, rowOf, hpl, b1, b2, sb, hg, g1', g2', g1'', g2''] <;> rfl)) rfl <| SqW.aopT rfl (so_bin (by simp only [lk] <;> rfl) (by simp only [lk] <;> rfl) bi_geq) (fun _ => rfl) (by first | rfl | assumption | ((simp only [bl, b1, b2, sb, hg, g1', g2', g1'', g2'']) <;> first | done | assumption | omega) | (simp; done) | (simp; omega)) <| SqW.nil <| SQ.normal ?_
          refine W.yes (by simp only [lk] <;> rfl) <| W.seq <| W.reg <| OSuf.aopF tyOK rfl (so_assign (by simp only [lk] <;> rfl)) (fun _ => rfl) rfl <| OSuf.nil <| SQ.normal ?_
          refine CWp.ret <| BQ.ret <| SQ.ret <| LQ.ret <| BQ.ret <| NQ.ret <| SQ.ret <| FQ.ret (by simp only [aRet, Try.f55, aResults, aResult, lk, Nat.reduceEqDiff, reduceIte] <;> rfl) ?_
          -- leaf: end
          have : ¬ b = true := fun e => by
            have := hb.1 e (i - 1) x y hx (by rw [Nat.sub_add_cancel hi1]; exact hy)
            omega
          exact ⟨by rw [Bool.eq_false_iff.2 this], rfl⟩
        · refine W.seq <| W.seq <| W.reg <| OSuf.aop tyOK rfl sm rfl <| OSuf.aop tyOK rfl sm rfl <| OSuf.aop tyOK rfl (so_len (by simp only [aopnds, lk] <;> rfl) (by simp (disch := first | assumption | omega | (simp only [nx] <;> omega) | fail) only [aLenOf, ty31, hpl, b1, b2, sb, hg, g1', g2', g1'', g2''] <;> rfl)) rfl <| OSuf.aopT tyOK rfl (so_bin (by simp only [lk] <;> rfl) (by simp only [lk] <;> rfl) bi_lss) (fun _ => rfl) (by first | rfl | assumption | ((simp only [bl, b1, b2, sb, hg, g1', g2', g1'', g2'']) <;> first | done | assumption | omega) | (simp; done) | (simp; omega)) <| OSuf.nil <| SQ.normal ?_
          refine W.yes (by simp only [lk] <;> rfl) <| CWp.skip <| SQ.normal ?_
          refine W.seq <| W.block <| W.seq <| W.regD tyOK mixed (by kernel_rfl) <| SqW.aop rfl sm rfl <| SqW.aop rfl sm rfl <| SqW.aop rfl (so_bin (by simp only [lk] <;> rfl) (by simp only [lk] <;> rfl) (bi_w bi_sub (by first | (simp only [w2, w3] <;> rfl) | rfl))) rfl <| SqW.aop rfl (so_indexAddr (by simp only [lk] <;> rfl) (by simp only [lk] <;> rfl) (by simp (disch := first | assumption | omega | (simp only [nx] <;> omega) | fail) only [aIndexAddr, ty31, ty57, hpl, b1, b2, sb, hg, g1', g2', g1'', g2''] <;> rfl)) rfl <| SqW.aop rfl (so_fieldAddr (by simp only [lk] <;> rfl) (fa_ok (k := 0) ty57 rfl rfl ty27 rfl rfl)) rfl <| SqW.aop rfl (so_load (by simp only [lk] <;> rfl) (by simp (disch := first | assumption | omega | (simp only [nx] <;> omega) | fail) only [aLoad, ty27, rowOf, hpl, b1, b2, sb, hg, g1', g2', g1'', g2''] <;> rfl)) rfl <| SqW.aop rfl sm rfl <| SqW.aop rfl sm rfl <| SqW.aop rfl (so_indexAddr (by simp only [lk] <;> rfl) (by simp only [lk] <;> rfl) (by simp (disch := first | assumption | omega | (simp only [nx] <;> omega) | fail) only [aIndexAddr, ty31, ty57, hpl, b1, b2, sb, hg, g1', g2', g1'', g2''] <;> rfl)) rfl <| SqW.aop rfl (so_fieldAddr (by simp only [lk] <;> rfl) (fa_ok (k := 0) ty57 rfl rfl ty27 rfl rfl)) rfl <| SqW.aop rfl (so_load (by simp only [lk] <;> rfl) (by simp (disch := first | assumption | omega | (simp only [nx] <;> omega) | fail) only [aLoad, ty27, rowOf, hpl, b1, b2, sb, hg, g1', g2', g1'', g2''] <;> rfl)) rfl <| SqW.aopF rfl (so_bin (by simp only [lk] <;> rfl) (by simp only [lk] <;> rfl) bi_geq) (fun _ => rfl) (by first | rfl | assumption | ((simp only [bl, b1, b2, sb, hg, g1', g2', g1'', g2'']) <;> first | done | assumption | omega) | (simp; done) | (simp; omega)) <| SqW.nil <| SQ.normal ?_
          refine W.no (by simp only [lk] <;> rfl) <| CWp.skip <| BQ.normal <| SQ.normal ?_
          refine W.reg <| OSuf.aop tyOK rfl sm rfl <| OSuf.aop tyOK rfl (so_bin (by simp only [lk] <;> rfl) (by simp only [lk] <;> rfl) (bi_w bi_add (by first | (simp only [w2, w3] <;> rfl) | rfl))) rfl <| OSuf.aop tyOK rfl (so_assign (by simp only [lk] <;> rfl)) rfl <| OSuf.nil <| ?_
          -- leaf: round
          refine LQ.normal (m := m - 1) (L := [(0, .slice (some ⟨z, off, none⟩) V.length c), (3, I64 ((i + 1 : Nat) : Int))]) (by omega) ?_ ⟨i + 1, by omega, by omega, rfl, fun j p q hj hp hq => ?_, rfl⟩
          · simp only [HasA, Tr.get_put, Nat.reduceEqDiff, reduceIte, w2, and_self]
          · by_cases hji : j + 1 < i
            · exact hr j p q hji hp hq
            · obtain rfl : j = i - 1 := by omega
              rw [hx] at hp; cases hp
              rw [Nat.sub_add_cancel hi1, hy] at hq; cases hq
              omega
    · refine W.seq <| W.seq <| W.reg <| OSuf.aop tyOK rfl sm rfl <| OSuf.aop tyOK rfl sm rfl <| OSuf.aop tyOK rfl (so_len (by simp only [aopnds, lk] <;> rfl) (by simp (disch := first | assumption | omega | (simp only [nx] <;> omega) | fail) only [aLenOf, ty31, hpl] <;> rfl)) rfl <| OSuf.aopF tyOK rfl (so_bin (by simp only [lk] <;> rfl) (by simp only [lk] <;> rfl) bi_lss) (fun _ => rfl) (by first | rfl | assumption | ((simp only [bl]) <;> first | done | assumption | omega) | (simp; done) | (simp; omega)) <| OSuf.nil <| SQ.normal ?_
      refine W.no (by simp only [lk] <;> rfl) <| CWp.exit <| SQ.exit <| LQ.exit <| BQ.exit <| ?_
      -- leaf: cut
      refine NQ.normal (L := []) trivial ⟨rfl, hb.2 fun j p q hp hq => hr j p q ?_ hp hq, rfl⟩
      have := (List.getElem?_eq_some_iff.1 hq).1
      omega
  rintro L a' h' ha ⟨rfl, rfl, rfl⟩
  refine SQ.normal <| CWp.known ha ?_
  simp only [mkA]
  refine W.seq <| W.reg <| OSuf.aopT tyOK rfl (so_assign (by simp only [lk] <;> rfl)) (fun _ => rfl) rfl <| OSuf.nil <| SQ.normal ?_
  refine CWp.ret <| FQ.ret (by simp only [aRet, Try.f55, aResults, aResult, lk, Nat.reduceEqDiff, reduceIte] <;> rfl) ?_
  -- leaf: end
  exact ⟨rfl, rfl⟩
theorem newest1_c (h : AHeap) (x : Vr) : FWp Try.prog 43 [.agg #[U64 x.ts, U64 x.lsn, .bool x.del, .string x.val, .bool x.acked]] h fun u h' => u = .bool true ∧ h' = h := by
  refine FWp.gcs (.flat rfl) (W.enter tyOK Try.func43 rfl rfl ?_)
  simp only [entry]
  refine W.seq <| W.reg <| OSuf.aop tyOK rfl (so_box (by simp only [lk] <;> rfl)) rfl <| OSuf.aopF tyOK rfl (so_assign (by simp only [lk] <;> rfl)) (fun _ => rfl) rfl <| OSuf.nil <| SQ.normal ?_
  refine W.seq <| W.reg <| OSuf.aopT tyOK rfl (so_assign (by simp only [lk] <;> rfl)) (fun _ => rfl) rfl <| OSuf.nil <| SQ.normal ?_
  refine CWp.ret <| FQ.ret (by simp only [aRet, Try.f43, aResults, aResult, lk, Nat.reduceEqDiff, reduceIte] <;> rfl) ?_
  -- leaf: end
  exact ⟨rfl, fun z o hz ho => by simp (disch := first | assumption | omega | (simp only [nx] <;> omega) | fail) only [hpl]; exact ho⟩
theorem bw_c (h : AHeap) (v : Value) : FWp Try.prog 63 [v] h fun u h' => u = .func (.func 65) #[] #[P0 h.next] ∧ h' = h.new (.cells v.cells.toList 1) := by
  refine W.enter tyOK Try.func63 rfl rfl ?_
  simp only [entry]
  refine W.seq <| W.reg <| OSuf.aop tyOK rfl (so_box (by simp only [lk] <;> rfl)) rfl <| OSuf.aop tyOK rfl (so_assign (by simp only [lk] <;> rfl)) rfl <| OSuf.nil <| SQ.normal ?_
  refine W.seq <| W.reg <| OSuf.aop tyOK rfl (so_makeFunc rfl (by simp only [aopnds, lk] <;> rfl) (by simp only [aopnds, lk] <;> rfl)) rfl <| OSuf.aop tyOK rfl (so_assign (by simp only [lk] <;> rfl)) rfl <| OSuf.nil <| SQ.normal ?_
  refine CWp.ret <| FQ.ret (by simp only [aRet, Try.f63, aResults, aResult, lk, Nat.reduceEqDiff, reduceIte] <;> rfl) ?_
  -- leaf: end
  exact ⟨rfl, rfl⟩
theorem bw1_emp (h : AHeap) (q : Nat) (yv : Value) (a : Option Addr) (c : Nat) (hq : h.get q = some (.cells [.slice a 0 c] 1)) : FWp Try.prog 65 [yv, P0 q] h fun u h' => u = .tuple #[] ∧ h' = h := by
  refine W.enter tyOK Try.func65 rfl rfl ?_
  simp only [entry]
  have w1 : IntKind.i64.wrap ((0 : Nat) - 1 : Int) = -1 := by decide
  refine W.seq <| W.reg <| OSuf.aop tyOK rfl (so_load (by simp only [lk] <;> rfl) (by simp (disch := first | assumption | omega | (simp only [nx] <;> omega) | fail) only [aLoad, ty31, rowOf, hpl, hq] <;> rfl)) rfl <| OSuf.aop tyOK rfl (so_len (by simp only [aopnds, lk] <;> rfl) (by simp (disch := first | assumption | omega | (simp only [nx] <;> omega) | fail) only [aLenOf, ty31, hpl, hq] <;> rfl)) rfl <| OSuf.aop tyOK rfl (so_bin (by simp only [lk] <;> rfl) (by simp only [lk] <;> rfl) (bi_w bi_sub (by first | (simp only [w1] <;> rfl) | rfl))) rfl <| OSuf.aop tyOK rfl (so_assign (by simp only [lk] <;> rfl)) rfl <| OSuf.nil <| SQ.normal ?_
  -- leaf: loop
  refine W.cut (fun L h' => h' = h ∧ L = []) (W.block (W.loop (fun m L h' => h' = h ∧ L = [(3, I64 (-1))]) (n := 0) ⟨rfl, rfl⟩ ?_ ?_)) ?_
  · simp [HasA, Tr.get_put]
  · rintro m L g ⟨rfl, rfl⟩
    simp only [mkA]
    refine W.seq <| W.seq <| W.reg <| OSuf.aop tyOK rfl sm rfl <| OSuf.aopF tyOK rfl (so_bin (by simp only [lk] <;> rfl) (by simp only [lk] <;> rfl) bi_geq) (fun _ => rfl) (by first | rfl | assumption | ((simp only [bl]) <;> first | done | assumption | omega) | (simp; done) | (simp; omega)) <| OSuf.nil <| SQ.normal ?_
    refine W.no (by simp only [lk] <;> rfl) <| CWp.exit <| SQ.exit <| LQ.exit <| BQ.exit <| ?_
    -- leaf: cut
    exact NQ.normal (L := []) trivial ⟨rfl, rfl⟩
  rintro L a' h' ha ⟨rfl, rfl⟩
  exact FQ.normal (by simp only [aRet, Try.f65, aResults] <;> rfl) ⟨rfl, rfl⟩
theorem bw1_some (h : AHeap) (q : Nat) (yv : Value) (V : List Vr) (v : Value) (hs : AVs h V v) (hl : V.length ≤ 1000000) (hq : h.get q = some (.cells [v] 1)) (x : Vr) (hx : V[V.length - 1]? = some x) (R : AHeap → Prop)
    (hy : VWp Try.prog yv [I64 ((V.length - 1 : Nat) : Int), .agg #[U64 x.ts, U64 x.lsn, .bool x.del, .string x.val, .bool x.acked]] h fun u g => u = .bool false ∧ R g) : FWp Try.prog 65 [yv, P0 q] h fun u h' => u = .tuple #[] ∧ R h' := by
  cases hs with
  | nil => simp at hx
  | emp => simp at hx
  | @some _ z off c vs hne hz hg hc =>
    have hpos : 0 < V.length := List.length_pos_iff.2 hne
    have w1 : IntKind.i64.wrap ((V.length : Int) - 1) = ((V.length - 1 : Nat) : Int) := by rw [wrap_i64 (by omega) (by omega)]; omega
    refine W.enter tyOK Try.func65 rfl rfl ?_
    simp only [entry]
    refine W.seq <| W.reg <| OSuf.aop tyOK rfl (so_load (by simp only [lk] <;> rfl) (by simp (disch := first | assumption | omega | (simp only [nx] <;> omega) | fail) only [aLoad, ty31, rowOf, hpl, hq] <;> rfl)) rfl <| OSuf.aop tyOK rfl (so_len (by simp only [aopnds, lk] <;> rfl) (by simp (disch := first | assumption | omega | (simp only [nx] <;> omega) | fail) only [aLenOf, ty31, hpl, hq] <;> rfl)) rfl <| OSuf.aop tyOK rfl (so_bin (by simp only [lk] <;> rfl) (by simp only [lk] <;> rfl) (bi_w bi_sub (by first | (simp only [w1] <;> rfl) | rfl))) rfl <| OSuf.aop tyOK rfl (so_assign (by simp only [lk] <;> rfl)) rfl <| OSuf.nil <| SQ.normal ?_
    -- leaf: loop
    refine W.cut (fun L h' => False) (W.block (W.loop (fun m L h' => h' = h ∧ L = [(0, yv), (1, P0 q), (3, I64 ((V.length - 1 : Nat) : Int))]) (n := 0) ⟨rfl, rfl⟩ ?_ ?_)) ?_
    · simp [HasA, Tr.get_put]
    · rintro m L g ⟨rfl, rfl⟩
      simp only [mkA]
      have b1 : (0 ≤ ((V.length - 1 : Nat) : Int) ∧ ((V.length - 1 : Nat) : Int) < (V.length : Int)) := by omega
      have g1 := cell_of hc hx
      have e1 : x.cs.toArray = #[U64 x.ts, U64 x.lsn, .bool x.del, .string x.val, .bool x.acked] := rfl
      simp only [rowOf] at hg
      refine W.seq <| W.seq <| W.reg <| OSuf.aop tyOK rfl sm rfl <| OSuf.aopT tyOK rfl (so_bin (by simp only [lk] <;> rfl) (by simp only [lk] <;> rfl) bi_geq) (fun _ => rfl) (by first | rfl | assumption | ((simp only [bl, hq, b1, sb, hg, g1, e1, cond_true, Option.map_some]) <;> first | done | assumption | omega) | (simp; done) | (simp; omega)) <| OSuf.nil <| SQ.normal ?_
      refine W.yes (by simp only [lk] <;> rfl) <| CWp.skip <| SQ.normal ?_
      refine W.seq <| W.block <| W.seq <| W.reg <| OSuf.aop tyOK rfl sm rfl <| OSuf.aop tyOK rfl sm rfl <| OSuf.aop tyOK rfl (so_load (by simp only [lk] <;> rfl) (by simp (disch := first | assumption | omega | (simp only [nx] <;> omega) | fail) only [aLoad, ty31, rowOf, hpl, hq, b1, sb, hg, g1, e1, cond_true, Option.map_some] <;> rfl)) rfl <| OSuf.aop tyOK rfl sm rfl <| OSuf.aop tyOK rfl (so_indexAddr (by simp only [lk] <;> rfl) (by simp only [lk] <;> rfl) (by simp (disch := first | assumption | omega | (simp only [nx] <;> omega) | fail) only [aIndexAddr, ty31, ty57, hpl, hq, b1, sb, hg, g1, e1, cond_true, Option.map_some] <;> rfl)) rfl <| OSuf.aop tyOK rfl (so_load (by simp only [lk] <;> rfl) (by simp (disch := first | assumption | omega | (simp only [nx] <;> omega) | fail) only [aLoad, ty57, rowOf, hpl, hq, b1, sb, hg, g1, e1, cond_true, Option.map_some] <;> rfl)) rfl <| OSuf.vcall rfl (by simp only [lk] <;> rfl) (by simp only [aopnds, lk] <;> rfl) (hy) ?_
      rintro u g' ⟨rfl, hr⟩
      refine ⟨_, rfl, ?_⟩
      refine OSuf.aopT tyOK rfl (so_not (by simp only [lk] <;> rfl)) (fun _ => rfl) rfl <| OSuf.nil <| SQ.normal ?_
      refine W.yes (by simp only [lk] <;> rfl) <| CWp.ret <| BQ.ret <| SQ.ret <| LQ.ret <| BQ.ret <| NQ.ret <| FQ.ret (by simp only [aRet, Try.f65, aResults, aResult, lk, Nat.reduceEqDiff, reduceIte] <;> rfl) ?_
      -- leaf: end
      exact ⟨rfl, hr⟩
    rintro L a' h' ha hf
    exact hf.elim
/-- The last one; any list. -/
theorem last_c (h : AHeap) (V : List Vr) (v : Value) (hs : AVs h V v) (hl : V.length ≤ 1000000) : FWp Try.prog 56 [v, .func (.func 43) #[] #[]] h fun u h' => ∃ x : Vr, u = .tuple #[.agg #[U64 x.ts, U64 x.lsn, .bool x.del, .string x.val, .bool x.acked], .bool (decide (V ≠ []))] ∧ h.next ≤ h'.next ∧ ∀ z o, z < h.next → h.get z = some o → h'.get z = some o := by
  obtain ⟨a, c, rfl⟩ : ∃ a c, v = .slice a V.length c := by cases hs <;> exact ⟨_, _, rfl⟩
  refine W.enter tyOK Try.func56 rfl rfl ?_
  simp only [entry]
  refine W.seq <| W.reg <| OSuf.aop tyOK rfl (so_box (by simp only [lk] <;> rfl)) rfl <| OSuf.aop tyOK rfl (so_alloc (by simp only [aAlloc, ty57] <;> rfl)) rfl <| OSuf.aop tyOK rfl (so_alloc (by simp only [aAlloc, ty4] <;> rfl)) rfl <| OSuf.nil <| SQ.normal ?_
  refine W.seq <| W.seq <| W.reg <| OSuf.aop tyOK rfl sm rfl <| OSuf.callD rfl (by simp only [aopnds, lk] <;> rfl) en63 (bw_c _ _) rfl <| OSuf.nil <| SQ.normal ?_
  -- leaf: loop
  refine W.block (CWp.rangeFunc (by simp only [aopnd, Tr.get_put, Nat.reduceEqDiff, reduceIte] <;> rfl) (fun l hl => by cases hl) (VWp.func en65 ?_))
  show FWp _ _ [_, _] _ _
  generalize hLP : (ALoop.mk _ _ _ _ _ _ _ _) = LP
  cases hx : V[V.length - 1]? with
  | none =>
    have hV : V = [] := by
      have := List.getElem?_eq_none_iff.1 hx
      exact List.length_eq_zero_iff.1 (by omega)
    subst hV
    have hbusy : (LP.state == .busy) = false := by rw [← hLP]; rfl
    have hjn : jumpExit LP.pending = some .normal := by rw [← hLP]; rfl
    clear hLP
    refine (bw1_emp _ (h.next + 3) _ a c (by simp (disch := first | assumption | omega | (simp only [nx] <;> omega) | fail) only [hpl] <;> rfl)).mono ?_
    rintro _ _ ⟨rfl, rfl⟩
    refine ⟨LP, .normal, by (simp (disch := first | assumption | omega | (simp only [nx] <;> omega) | fail) only [hpl]), hbusy, hjn, ?_⟩
    refine BQ.normal <| SQ.normal ?_
    refine W.seq <| W.reg <| OSuf.aop tyOK rfl (so_load (by simp only [lk] <;> rfl) (by simp (disch := first | assumption | omega | (simp only [nx] <;> omega) | fail) only [aLoad, ty57, rowOf, hpl, Value.cells, places, ty4, ty57, ty93] <;> rfl)) rfl <| OSuf.aop tyOK rfl (so_store (by simp only [lk] <;> rfl) (by simp only [lk] <;> rfl) (by simp (disch := first | assumption | omega | (simp only [nx] <;> omega) | fail) only [aStore, ty57, writeRow, hpl, Value.cells, places, ty4, ty57, ty93] <;> rfl)) rfl <| OSuf.aop tyOK rfl (so_store (by simp only [lk] <;> rfl) (by simp only [lk] <;> rfl) (by simp (disch := first | assumption | omega | (simp only [nx] <;> omega) | fail) only [aStore, ty4, writeRow, hpl, Value.cells, places, ty4, ty57, ty93] <;> rfl)) rfl <| OSuf.nil <| SQ.normal ?_
    refine CWp.ret <| FQ.ret (by simp (disch := first | assumption | omega | (simp only [nx] <;> omega) | fail) only [aRet, Try.f56, aResults, aResult, lk, Nat.reduceEqDiff, reduceIte, aLoad, rowOf, hpl, Value.cells, places, ty4, ty57, ty93] <;> rfl) ?_
    -- leaf: end
    refine ⟨⟨0, 0, false, ⟨#[]⟩, false⟩, rfl, by (simp only [nx]; omega), fun z o hz ho => ?_⟩
    simp (disch := first | assumption | omega | (simp only [nx] <;> omega) | fail) only [hpl]; exact ho
  | some x =>
    have hV : V ≠ [] := fun e => by subst e; simp at hx
    have hd : decide (V ≠ []) = true := by simp [hV]
    rw [hd]
    refine (bw1_some _ (h.next + 3) _ V (.slice a V.length c) ?_ hl ?_ x hx (fun g => g.next = h.next + 6 ∧ g.get (h.next + 1) = some (.cells [U64 x.ts, U64 x.lsn, .bool x.del, .string x.val, .bool x.acked] 1) ∧ g.get (h.next + 2) = some (.cells [.bool true] 1) ∧ g.get (h.next + 4) = some (.loop (LP.with .done (some .ret))) ∧ ∀ z, z < h.next → g.get z = h.get z) ?_).mono ?_
    · cases hs with
      | nil => exact (hV rfl).elim
      | emp => exact (hV rfl).elim
      | some hne hz hg hc =>
        refine .some hne (by simp only [nx]; omega) ?_ hc
        simp only [rowOf] at hg ⊢
        simp (disch := first | assumption | omega | (simp only [nx] <;> omega) | fail) only [hpl]; exact hg
    · simp (disch := first | assumption | omega | (simp only [nx] <;> omega) | fail) only [hpl] <;> rfl
    · have hl0 : (((((h.new (.cells [.func (.func 43) #[] #[]] 1)).new (.cells [U64 0, U64 0, .bool false, .string ⟨#[]⟩, .bool false] 1)).new (.cells [.bool false] 1)).new (.cells [.slice a V.length c] 1)).new (.loop LP)).get (h.next + 4) = some (.loop LP) := by simp (disch := first | assumption | omega | (simp only [nx] <;> omega) | fail) only [hpl]
      have hl1 := hl0
      rw [← hLP] at hl1
      rw [← hLP]
      refine VWp.yield hl1 rfl ?_
      refine W.reg <| OSuf.aop tyOK rfl (so_alloc (by simp only [aAlloc, ty57] <;> rfl)) rfl <| OSuf.aop tyOK rfl (so_store (by simp only [lk] <;> rfl) (by simp only [lk] <;> rfl) (by simp (disch := first | assumption | omega | (simp only [nx] <;> omega) | fail) only [aStore, ty57, writeRow, hpl, Value.cells, places, ty4, ty57, ty93] <;> rfl)) rfl <| OSuf.nil <| ?_
      -- leaf: stop
      refine ⟨rfl, _, by (simp (disch := first | assumption | omega | (simp only [nx] <;> omega) | fail) only [hpl]; rfl), rfl, ?_⟩
      refine W.block <| W.seq <| W.reg <| OSuf.aop tyOK rfl (so_load (by simp only [lk] <;> rfl) (by simp (disch := first | assumption | omega | (simp only [nx] <;> omega) | fail) only [aLoad, ty93, rowOf, hpl, Value.cells, places, ty4, ty57, ty93] <;> rfl)) rfl <| OSuf.aop tyOK rfl (so_load (by simp only [lk] <;> rfl) (by simp (disch := first | assumption | omega | (simp only [nx] <;> omega) | fail) only [aLoad, ty57, rowOf, hpl, Value.cells, places, ty4, ty57, ty93] <;> rfl)) rfl <| OSuf.vcallD rfl (by simp only [lk] <;> rfl) (by simp only [aopnds, lk] <;> rfl) (VWp.func en43 (newest1_c _ x)) rfl <| OSuf.nil <| SQ.normal ?_
      refine W.yes (by simp only [lk] <;> rfl) <| W.seq <| W.reg <| OSuf.aop tyOK rfl (so_load (by simp only [lk] <;> rfl) (by simp (disch := first | assumption | omega | (simp only [nx] <;> omega) | fail) only [aLoad, ty57, rowOf, hpl, Value.cells, places, ty4, ty57, ty93] <;> rfl)) rfl <| OSuf.aop tyOK rfl (so_store (by simp only [lk] <;> rfl) (by simp only [lk] <;> rfl) (by simp (disch := first | assumption | omega | (simp only [nx] <;> omega) | fail) only [aStore, ty57, writeRow, hpl, Value.cells, places, ty4, ty57, ty93] <;> rfl)) rfl <| OSuf.aop tyOK rfl (so_store (by simp only [lk] <;> rfl) (by simp only [lk] <;> rfl) (by simp (disch := first | assumption | omega | (simp only [nx] <;> omega) | fail) only [aStore, ty4, writeRow, hpl, Value.cells, places, ty4, ty57, ty93] <;> rfl)) rfl <| OSuf.nil <| SQ.normal ?_
      refine CWp.ret <| BQ.ret <| ?_
      -- leaf: stop
      refine ⟨_, by (simp (disch := first | assumption | omega | (simp only [nx] <;> omega) | fail) only [hpl]; rfl), rfl, ?_, ?_, ?_, ?_, fun z hz => ?_⟩
      · simp only [nx]
      · simp (disch := first | assumption | omega | (simp only [nx] <;> omega) | fail) only [hpl]; rfl
      · simp (disch := first | assumption | omega | (simp only [nx] <;> omega) | fail) only [hpl]; rfl
      · simp (disch := first | assumption | omega | (simp only [nx] <;> omega) | fail) only [hpl]; rfl
      · simp (disch := first | assumption | omega | (simp only [nx] <;> omega) | fail) only [hpl]
    · rintro _ g ⟨rfl, g1, g2, g3, g4, g5⟩
      refine ⟨_, .ret, g4, rfl, rfl, ?_⟩
      refine BQ.ret <| SQ.ret <| FQ.ret (by simp (disch := first | assumption | omega | (simp only [nx] <;> omega) | fail) only [aRet, Try.f56, aResults, aResult, lk, Nat.reduceEqDiff, reduceIte, aLoad, rowOf, hpl, g2, g3] <;> rfl) ?_
      refine ⟨x, rfl, by (simp only [nx]; omega), fun z o hz ho => ?_⟩
      simp (disch := first | assumption | omega | (simp only [nx] <;> omega) | fail) only [hpl]; rw [g5 z hz]; exact ho
theorem seen_c (h : AHeap) (V : List Vr) (v : Value) (hs : AVs h V v) (hl : V.length ≤ 1000000) (b : Bool) (hb : b = true ↔ Ris V) : FWp Try.prog 42 [v, .func (.func 43) #[] #[]] h fun u h' => ∃ x : Vr, u = .tuple #[.agg #[U64 x.ts, U64 x.lsn, .bool x.del, .string x.val, .bool x.acked], .bool (b && decide (V ≠ []))] ∧ h.next ≤ h'.next ∧ ∀ z o, z < h.next → h.get z = some o → h'.get z = some o := by
  have hs1 : ∀ o, AVs (h.new o) V v := fun o => by
    cases hs with
    | nil => exact .nil
    | emp => exact .emp
    | some hne hz hg hc =>
      refine .some hne (by simp only [nx]; omega) ?_ hc
      simp only [rowOf] at hg ⊢
      rw [AHeap.get_new_ne (by omega)]; exact hg
  refine W.enter tyOK Try.func42 rfl rfl ?_
  simp only [entry]
  cases b with
  | false =>
    refine W.seq <| W.reg <| OSuf.aop tyOK rfl (so_alloc (by simp only [aAlloc, ty57] <;> rfl)) rfl <| OSuf.aopF tyOK rfl (so_assign (by simp only [lk] <;> rfl)) (fun _ => rfl) rfl <| OSuf.nil <| SQ.normal ?_
    refine W.seq <| W.seq <| W.reg <| OSuf.aop tyOK rfl sm rfl <| OSuf.callD rfl (by simp only [aopnds, lk] <;> rfl) en55 (may_c _ V v (hs1 _) hl false hb) rfl <| OSuf.aopT tyOK rfl (so_not (by simp only [lk] <;> rfl)) (fun _ => rfl) rfl <| OSuf.nil <| SQ.normal ?_
    refine W.yes (by simp only [lk] <;> rfl) <| W.seq <| W.reg <| OSuf.aop tyOK rfl (so_build (by simp only [aparts, lk] <;> rfl) (by simp (disch := first | assumption | omega | (simp only [nx] <;> omega) | fail) only [aBuild, ty57, hpl, Value.cells, places, ty57] <;> rfl)) rfl <| OSuf.aop tyOK rfl (so_store (by simp only [lk] <;> rfl) (by simp only [lk] <;> rfl) (by simp (disch := first | assumption | omega | (simp only [nx] <;> omega) | fail) only [aStore, ty57, writeRow, hpl, Value.cells, places, ty57] <;> rfl)) rfl <| OSuf.aopF tyOK rfl (so_assign (by simp only [lk] <;> rfl)) (fun _ => rfl) rfl <| OSuf.nil <| SQ.normal ?_
    refine CWp.ret <| SQ.ret <| FQ.ret (by simp (disch := first | assumption | omega | (simp only [nx] <;> omega) | fail) only [aRet, Try.f42, aResults, aResult, lk, Nat.reduceEqDiff, reduceIte, aLoad, rowOf, hpl, Value.cells, places, ty57] <;> rfl) ?_
    -- leaf: end
    refine ⟨⟨0, 0, false, ⟨#[]⟩, false⟩, rfl, by (simp only [nx]; omega), fun z o hz ho => ?_⟩
    simp (disch := first | assumption | omega | (simp only [nx] <;> omega) | fail) only [hpl]; exact ho
  | true =>
    refine W.seq <| W.reg <| OSuf.aop tyOK rfl (so_alloc (by simp only [aAlloc, ty57] <;> rfl)) rfl <| OSuf.aopF tyOK rfl (so_assign (by simp only [lk] <;> rfl)) (fun _ => rfl) rfl <| OSuf.nil <| SQ.normal ?_
    refine W.seq <| W.seq <| W.reg <| OSuf.aop tyOK rfl sm rfl <| OSuf.callD rfl (by simp only [aopnds, lk] <;> rfl) en55 (may_c _ V v (hs1 _) hl true hb) rfl <| OSuf.aopF tyOK rfl (so_not (by simp only [lk] <;> rfl)) (fun _ => rfl) rfl <| OSuf.nil <| SQ.normal ?_
    refine W.no (by simp only [lk] <;> rfl) <| CWp.skip <| SQ.normal ?_
    refine W.seq <| W.reg <| OSuf.aop tyOK rfl sm rfl <| OSuf.aop tyOK rfl sm rfl <| OSuf.call rfl (by simp only [aopnds, lk] <;> rfl) en56 (last_c _ V v (hs1 _) hl) ?_
    rintro _ h1 ⟨x, rfl, hn, hx⟩
    have h2 : h1.get h.next = some (.cells [U64 0, U64 0, .bool false, .string ⟨#[]⟩, .bool false] 1) := hx _ _ (by simp) (AHeap.get_new_same _ _)
    refine ⟨_, rfl, ?_⟩
    refine OSuf.aop tyOK rfl (so_extract (by simp only [lk] <;> rfl) (by simp (disch := first | assumption | omega | (simp only [nx] <;> omega) | fail) only [aExtract, hpl, Value.cells, places, ty57, h2, Value.cells] <;> rfl)) rfl <| OSuf.aop tyOK rfl (so_extract (by simp only [lk] <;> rfl) (by simp (disch := first | assumption | omega | (simp only [nx] <;> omega) | fail) only [aExtract, hpl, Value.cells, places, ty57, h2, Value.cells] <;> rfl)) rfl <| OSuf.aop tyOK rfl (so_store (by simp only [lk] <;> rfl) (by simp only [lk] <;> rfl) (by simp (disch := first | assumption | omega | (simp only [nx] <;> omega) | fail) only [aStore, ty57, writeRow, hpl, Value.cells, places, ty57, h2, Value.cells] <;> rfl)) rfl <| OSuf.aop tyOK rfl (so_assign (by simp only [lk] <;> rfl)) rfl <| OSuf.nil <| SQ.normal ?_
    refine CWp.ret <| FQ.ret (by simp (disch := first | assumption | omega | (simp only [nx] <;> omega) | fail) only [aRet, Try.f42, aResults, aResult, lk, Nat.reduceEqDiff, reduceIte, aLoad, rowOf, hpl, Value.cells, places, ty57, h2, Value.cells] <;> rfl) ?_
    -- leaf: end
    refine ⟨x, rfl, by (simp only [nx] at hn ⊢; omega), fun z o hz ho => ?_⟩
    simp (disch := first | assumption | omega | (simp only [nx] <;> omega) | fail) only [hpl]
    exact hx z o (by simp only [nx]; omega) (by rw [AHeap.get_new_ne (by omega)]; exact ho)
theorem newest_c (h : AHeap) (V : List Vr) (v : Value) (hs : AVs h V v) (hl : V.length ≤ 1000000) (b : Bool) (hb : b = true ↔ Ris V) : FWp Try.prog 38 [v] h fun u h' => ∃ x : Vr, u = .tuple #[.agg #[U64 x.ts, U64 x.lsn, .bool x.del, .string x.val, .bool x.acked], .bool (b && decide (V ≠ []))] ∧ h.next ≤ h'.next ∧ ∀ z o, z < h.next → h.get z = some o → h'.get z = some o := by
  have hs1 : ∀ o, AVs (h.new o) V v := fun o => by
    cases hs with
    | nil => exact .nil
    | emp => exact .emp
    | some hne hz hg hc =>
      refine .some hne (by simp only [nx]; omega) ?_ hc
      simp only [rowOf] at hg ⊢
      rw [AHeap.get_new_ne (by omega)]; exact hg
  refine W.enter tyOK Try.func38 rfl rfl ?_
  simp only [entry]
  refine W.seq <| W.reg <| OSuf.aop tyOK rfl (so_alloc (by simp only [aAlloc, ty57] <;> rfl)) rfl <| OSuf.aopF tyOK rfl (so_assign (by simp only [lk] <;> rfl)) (fun _ => rfl) rfl <| OSuf.nil <| SQ.normal ?_
  refine W.seq <| W.reg <| OSuf.aop tyOK rfl sm rfl <| OSuf.call rfl (by simp only [aopnds, lk] <;> rfl) en42 (seen_c _ V v (hs1 _) hl b hb) ?_
  rintro _ h1 ⟨x, rfl, hn, hx⟩
  have h2 : h1.get h.next = some (.cells [U64 0, U64 0, .bool false, .string ⟨#[]⟩, .bool false] 1) := hx _ _ (by simp) (AHeap.get_new_same _ _)
  refine ⟨_, rfl, ?_⟩
  refine OSuf.aop tyOK rfl (so_extract (by simp only [lk] <;> rfl) (by simp (disch := first | assumption | omega | (simp only [nx] <;> omega) | fail) only [aExtract, hpl, Value.cells, places, ty57, h2, Value.cells] <;> rfl)) rfl <| OSuf.aop tyOK rfl (so_extract (by simp only [lk] <;> rfl) (by simp (disch := first | assumption | omega | (simp only [nx] <;> omega) | fail) only [aExtract, hpl, Value.cells, places, ty57, h2, Value.cells] <;> rfl)) rfl <| OSuf.aop tyOK rfl (so_store (by simp only [lk] <;> rfl) (by simp only [lk] <;> rfl) (by simp (disch := first | assumption | omega | (simp only [nx] <;> omega) | fail) only [aStore, ty57, writeRow, hpl, Value.cells, places, ty57, h2, Value.cells] <;> rfl)) rfl <| OSuf.aop tyOK rfl (so_assign (by simp only [lk] <;> rfl)) rfl <| OSuf.nil <| SQ.normal ?_
  refine CWp.ret <| FQ.ret (by simp (disch := first | assumption | omega | (simp only [nx] <;> omega) | fail) only [aRet, Try.f38, aResults, aResult, lk, Nat.reduceEqDiff, reduceIte, aLoad, rowOf, hpl, Value.cells, places, ty57, h2, Value.cells] <;> rfl) ?_
  -- leaf: end
  refine ⟨x, rfl, by (simp only [nx] at hn ⊢; omega), fun z o hz ho => ?_⟩
  simp (disch := first | assumption | omega | (simp only [nx] <;> omega) | fail) only [hpl]
  exact hx z o (by simp only [nx]; omega) (by rw [AHeap.get_new_ne (by omega)]; exact ho)
theorem versions_c (h : AHeap) (V : List Vr) (v : Value) (hs : AVs h V v) (hl : V.length ≤ 1000000) (b : Bool) (hb : b = true ↔ Ris V) : FWp Try.prog 28 [v] h fun u h' => u = .bool b ∧ h' = h := by
  obtain ⟨a, c, hv⟩ : ∃ a c, v = .slice a V.length c := by cases hs <;> exact ⟨_, _, rfl⟩
  refine FWp.gcs (.flat rfl) (W.enter tyOK Try.func28 rfl rfl ?_)
  simp only [entry]
  cases hbb : b && decide (V ≠ []) with
  | true =>
    have hb1 : b = true := by cases b <;> simp_all
    refine W.seq <| W.reg <| OSuf.aopF tyOK rfl (so_assign (by simp only [lk] <;> rfl)) (fun _ => rfl) rfl <| OSuf.nil <| SQ.normal ?_
    refine W.seq <| W.reg <| OSuf.aop tyOK rfl sm rfl <| OSuf.call rfl (by simp only [aopnds, lk] <;> rfl) en38 (newest_c _ V v hs hl b hb) ?_
    rintro _ h1 ⟨x, rfl, hn, hx⟩
    refine ⟨_, rfl, ?_⟩
    refine OSuf.aop tyOK rfl sm rfl <| OSuf.aop tyOK rfl (so_extract (by simp only [lk] <;> rfl) (by simp (disch := first | assumption | omega | (simp only [nx] <;> omega) | fail) only [aExtract, hpl, Value.cells, places, ty31, ty57, Value.cells] <;> rfl)) rfl <| OSuf.aopT tyOK rfl (so_extract (by simp only [lk] <;> rfl) (by simp (disch := first | assumption | omega | (simp only [nx] <;> omega) | fail) only [aExtract, hpl, Value.cells, places, ty31, ty57, Value.cells] <;> rfl)) (fun _ => rfl) (hbb) <| OSuf.aop tyOK rfl (so_alloc (by simp only [aAlloc, ty57] <;> rfl)) rfl <| OSuf.aop tyOK rfl (so_store (by simp only [lk] <;> rfl) (by simp only [lk] <;> rfl) (by simp (disch := first | assumption | omega | (simp only [nx] <;> omega) | fail) only [aStore, ty57, writeRow, hpl, Value.cells, places, ty31, ty57, Value.cells] <;> rfl)) rfl <| OSuf.aopT tyOK rfl (so_assign (by simp only [lk] <;> rfl)) (fun _ => rfl) rfl <| OSuf.nil <| SQ.normal ?_
    refine W.seq <| W.reg <| OSuf.aopT tyOK rfl sm (fun _ => rfl) rfl <| OSuf.aopT tyOK rfl sm (fun _ => rfl) rfl <| OSuf.pass ag rfl <| OSuf.pass ag rfl <| OSuf.pass ag rfl <| OSuf.aopT tyOK rfl (so_pick (by simp only [lk] <;> rfl) (by simp only [lk, cond_true, cond_false] <;> rfl)) (fun _ => rfl) rfl <| OSuf.aopT tyOK rfl (so_assign (by simp only [lk] <;> rfl)) (fun _ => rfl) rfl <| OSuf.nil <| SQ.normal ?_
    refine CWp.ret <| FQ.ret (by simp only [aRet, Try.f28, aResults, aResult, lk, Nat.reduceEqDiff, reduceIte] <;> rfl) ?_
    -- leaf: end
    refine ⟨by rw [hb1], fun z o hz ho => ?_⟩
    simp (disch := first | assumption | omega | (simp only [nx] <;> omega) | fail) only [hpl]
    exact hx z o hz ho
  | false =>
    have hbe : ((V.length : Int) == 0) = b := by
      cases hV : V with
      | nil =>
        have : b = true := hb.2 fun i x y hx => by rw [hV] at hx; simp at hx
        rw [this]; rfl
      | cons x l =>
        have : b = false := by rw [hV] at hbb; simpa using hbb
        rw [this]
        have : ¬ ((x :: l).length : Int) = 0 := by simp; omega
        simpa using this
    subst hv
    refine W.seq <| W.reg <| OSuf.aopF tyOK rfl (so_assign (by simp only [lk] <;> rfl)) (fun _ => rfl) rfl <| OSuf.nil <| SQ.normal ?_
    refine W.seq <| W.reg <| OSuf.aop tyOK rfl sm rfl <| OSuf.call rfl (by simp only [aopnds, lk] <;> rfl) en38 (newest_c _ V _ hs hl b hb) ?_
    rintro _ h1 ⟨x, rfl, hn, hx⟩
    refine ⟨_, rfl, ?_⟩
    refine OSuf.aop tyOK rfl sm rfl <| OSuf.aop tyOK rfl (so_extract (by simp only [lk] <;> rfl) (by simp (disch := first | assumption | omega | (simp only [nx] <;> omega) | fail) only [aExtract, hpl, Value.cells, places, ty31, ty57, Value.cells] <;> rfl)) rfl <| OSuf.aopF tyOK rfl (so_extract (by simp only [lk] <;> rfl) (by simp (disch := first | assumption | omega | (simp only [nx] <;> omega) | fail) only [aExtract, hpl, Value.cells, places, ty31, ty57, Value.cells] <;> rfl)) (fun _ => rfl) (hbb) <| OSuf.aop tyOK rfl (so_alloc (by simp only [aAlloc, ty57] <;> rfl)) rfl <| OSuf.aop tyOK rfl (so_store (by simp only [lk] <;> rfl) (by simp only [lk] <;> rfl) (by simp (disch := first | assumption | omega | (simp only [nx] <;> omega) | fail) only [aStore, ty57, writeRow, hpl, Value.cells, places, ty31, ty57, Value.cells] <;> rfl)) rfl <| OSuf.aopF tyOK rfl (so_assign (by simp only [lk] <;> rfl)) (fun _ => rfl) rfl <| OSuf.nil <| SQ.normal ?_
    refine W.seq <| W.reg <| OSuf.aopF tyOK rfl sm (fun _ => rfl) rfl <| OSuf.aopF tyOK rfl sm (fun _ => rfl) rfl <| OSuf.aop tyOK ag sm rfl <| OSuf.aop tyOK ag (so_len (by simp only [aopnds, lk] <;> rfl) (by simp (disch := first | assumption | omega | (simp only [nx] <;> omega) | fail) only [aLenOf, ty31, hpl, Value.cells, places, ty31, ty57, Value.cells] <;> rfl)) rfl <| OSuf.aop tyOK ag (so_bin (by simp only [lk] <;> rfl) (by simp only [lk] <;> rfl) bi_eql) rfl <| OSuf.aop tyOK rfl (so_pick (by simp only [lk] <;> rfl) (by simp only [lk, cond_true, cond_false] <;> rfl)) rfl <| OSuf.aop tyOK rfl (so_assign (by simp only [lk] <;> rfl)) rfl <| OSuf.nil <| SQ.normal ?_
    refine CWp.ret <| FQ.ret (by simp only [aRet, Try.f28, aResults, aResult, lk, Nat.reduceEqDiff, reduceIte] <;> rfl) ?_
    -- leaf: end
    refine ⟨by rw [hbe], fun z o hz ho => ?_⟩
    simp (disch := first | assumption | omega | (simp only [nx] <;> omega) | fail) only [hpl]
    exact hx z o hz ho
end Go.Proofs.Ytldhcjfhlfgleaa
