/-
  Merged: OrdCp, OrdY, OrdZ, OrdSp.
-/
import Derived.Test.YtjenbiohcecfnaaGreatOrdR
import Derived.Test.YtjenbiohcecfnaaGreatSortNU
import Derived.Test.YtjenbiohcecfnaaGreatOrdX
import Derived.Test.YtjenbiohcecfnaaGreatKeysKP
import Derived.Test.YtjenbiohcecfnaaGreatOrdL
namespace Go.Proofs.YtjenbiohcecfnaaGreat
open Go.Ab
set_option linter.unusedSimpArgs false
set_option linter.unusedVariables false
set_option maxRecDepth 10000
set_option maxHeartbeats 8000000
def cp2 : Nat → Array Int → Nat → Nat → Nat → Nat
  | 0, _, _, i, _ => i
  | f + 1, d, k, i, k2 => if d[k + k2]! = d[k + k2 - 1]! then cp2 f d k i (k2 + 1) else cp2 f (d.setIfInBounds i d[k + k2]!) k (i + 1) (k2 + 1)
def cp1 : Nat → Array Int → Nat → Nat
  | 0, _, k => k
  | f + 1, d, k => if d[k]! = d[k - 1]! then cp2 f d k k 1 else cp1 f d (k + 1)
def cpt (d : Array Int) : Nat := if d.size < 2 then d.size else cp1 (d.size - 1) d 1
abbrev rowU (d : Array Int) : AObj := .cells (d.toList.map (Value.int .u64)) 1
theorem compact_c (h : AHeap) (y N : Nat) (d : Array Int) (hN : d.size = N) (hy : y < h.next) (hg : h.get y = some (rowU d)) (h12 : N ≤ 1000) :
    FWp Tryz.prog 37 [.slice (some ⟨y, 0, none⟩) N 0] h fun u h' => u = .slice (some ⟨y, 0, none⟩) (cpt d) 0 ∧ cpt d ≤ N ∧ h.next ≤ h'.next ∧ ∀ z, z < h.next → ¬ z = y → h'.get z = h.get z := by
  refine W.enter tyOK Tryz.func37 rfl rfl ?_
  simp only [entry]
  by_cases h2 : (N : Int) < 2
  · refine W.seq <| W.reg <| OSuf.aop tyOK rfl za rfl <| OSuf.nil <| SQ.normal ?_
    refine W.seq <| W.seq <| W.reg <| OSuf.aop tyOK rfl sm rfl <| OSuf.aop tyOK rfl (so_len (by simp only [aopnds, lk] <;> rfl) (by simp (disch := first | assumption | omega | (simp only [nx] <;> omega) | fail) only [aLenOf, ty40, hpl, ty27, ty40] <;> rfl)) rfl <| OSuf.aopT tyOK rfl (zb (hv := bi_lss)) (fun _ => rfl) (decide_eq_true h2) <| OSuf.nil <| SQ.normal ?_
    refine W.yes (by simp only [lk] <;> rfl) <| W.seq <| W.reg <| OSuf.aop tyOK rfl sm rfl <| OSuf.aop tyOK rfl za rfl <| OSuf.nil <| SQ.normal ?_
    refine CWp.ret <| SQ.ret <| FQ.ret (by simp only [aRet, Tryz.f37, aResults, aResult, lk, Nat.reduceEqDiff, reduceIte] <;> rfl) ?_
    -- leaf: end
    have : cpt d = N := by rw [cpt, if_pos (by omega), hN]
    rw [this]
    exact ⟨rfl, Nat.le_refl _, Nat.le_refl _, fun _ _ _ => rfl⟩
  · refine W.seq <| W.reg <| OSuf.aop tyOK rfl za rfl <| OSuf.nil <| SQ.normal ?_
    refine W.seq <| W.seq <| W.reg <| OSuf.aop tyOK rfl sm rfl <| OSuf.aop tyOK rfl (so_len (by simp only [aopnds, lk] <;> rfl) (by simp (disch := first | assumption | omega | (simp only [nx] <;> omega) | fail) only [aLenOf, ty40, hpl, ty27, ty40] <;> rfl)) rfl <| OSuf.aopF tyOK rfl (zb (hv := bi_lss)) (fun _ => rfl) (decide_eq_false h2) <| OSuf.nil <| SQ.normal ?_
    refine W.no (by simp only [lk] <;> rfl) <| CWp.skip <| SQ.normal ?_
    refine W.seq <| W.seq <| W.reg <| OSuf.aop tyOK rfl za rfl <| OSuf.nil <| SQ.normal ?_
    -- leaf: loop
    have hcp : cpt d = cp1 (N - 1) d 1 := by rw [cpt, if_neg (by omega), hN]
    refine W.cut (fun L h' => h' = h ∧ cpt d = N ∧ L = [(0, .slice (some ⟨y, 0, none⟩) N 0)]) (W.block (W.loop (fun m L h' => ∃ k : Nat, m + k = N ∧ 1 ≤ k ∧ h' = h ∧ cp1 (N - k) d k = cpt d ∧ L = [(0, .slice (some ⟨y, 0, none⟩) N 0), (3, I64 k)]) (n := N - 1) ⟨1, by omega, Nat.le_refl _, rfl, hcp.symm, rfl⟩ ?_ ?_)) ?_
    · simp [HasA, Tr.get_put]
    · rintro m L g ⟨k, hm, hk1, rfl, hc, rfl⟩
      simp only [mkA]
      by_cases hlt : (k : Int) < (N : Int)
      · have w1 : IntKind.i64.wrap ((k : Int) - 1) = ((k - 1 : Nat) : Int) := by rw [wrap_i64 (by omega) (by omega)]; omega
        have w2 : IntKind.i64.wrap ((k : Int) + 1) = ((k + 1 : Nat) : Int) := by rw [wrap_i64 (by omega) (by omega)]; omega
        have b1 : (0 ≤ (k : Int) ∧ (k : Int) < (N : Int)) := by omega
        have b2 : (0 ≤ ((k - 1 : Nat) : Int) ∧ ((k - 1 : Nat) : Int) < (N : Int)) := by omega
        have c1 : (d.toList.map (Value.int .u64))[k]? = some (U64 d[k]!) := SortU.rg (by omega)
        have c2 : (d.toList.map (Value.int .u64))[k - 1]? = some (U64 d[k - 1]!) := SortU.rg (by omega)
        have hck : cp1 (N - k) d k = if d[k]! = d[k - 1]! then cp2 (N - k - 1) d k k 1 else cp1 (N - k - 1) d (k + 1) := by
          have : N - k = (N - k - 1) + 1 := by omega
          rw [this, cp1]; rfl
        rw [hck] at hc
        by_cases he : d[k]! = d[k - 1]!
        · rw [if_pos he] at hc
          have e1 : (d[k]! == d[k - 1]!) = true := by simp [he]
          refine W.seq <| W.seq <| W.reg <| OSuf.aop tyOK rfl sm rfl <| OSuf.aop tyOK rfl sm rfl <| OSuf.aop tyOK rfl (so_len (by simp only [aopnds, lk] <;> rfl) (by simp (disch := first | assumption | omega | (simp only [nx] <;> omega) | fail) only [aLenOf, ty40, hpl, hg, b1, b2, sb, c1, c2, ty27, ty40] <;> rfl)) rfl <| OSuf.aopT tyOK rfl (zb (hv := bi_lss)) (fun _ => rfl) (decide_eq_true hlt) <| OSuf.nil <| SQ.normal ?_
          refine W.yes (by simp only [lk] <;> rfl) <| CWp.skip <| SQ.normal ?_
          refine W.seq <| W.block <| W.seq <| W.regD tyOK mixed (by kernel_rfl) <| SqW.aop rfl sm rfl <| SqW.aop rfl sm rfl <| SqW.aop rfl (zi (hv := by simp (disch := first | assumption | omega | (simp only [nx] <;> omega) | fail) only [aIndexAddr, ty40, ty27, hpl, hg, b1, b2, sb, c1, c2, ty27, ty40] <;> rfl)) rfl <| SqW.aop rfl (zl (hv := by simp (disch := first | assumption | omega | (simp only [nx] <;> omega) | fail) only [aLoad, ty27, rowOf, hpl, hg, b1, b2, sb, c1, c2, ty27, ty40] <;> rfl)) rfl <| SqW.aop rfl sm rfl <| SqW.aop rfl sm rfl <| SqW.aop rfl (zb (hv := bi_w bi_sub (by first | (simp only [w1] <;> rfl) | rfl))) rfl <| SqW.aop rfl (zi (hv := by simp (disch := first | assumption | omega | (simp only [nx] <;> omega) | fail) only [aIndexAddr, ty40, ty27, hpl, hg, b1, b2, sb, c1, c2, ty27, ty40] <;> rfl)) rfl <| SqW.aop rfl (zl (hv := by simp (disch := first | assumption | omega | (simp only [nx] <;> omega) | fail) only [aLoad, ty27, rowOf, hpl, hg, b1, b2, sb, c1, c2, ty27, ty40] <;> rfl)) rfl <| SqW.aopT rfl (zb (hv := bi_eql)) (fun _ => rfl) (e1) <| SqW.nil <| SQ.normal ?_
          refine W.yes (by simp only [lk] <;> rfl) <| W.seq <| W.reg <| OSuf.aop tyOK rfl sm rfl <| OSuf.aop tyOK rfl sm rfl <| OSuf.aop tyOK rfl (so_slice (by simp only [lk] <;> rfl) (by simp only [oopnd, lk] <;> rfl) (by simp only [oopnd, lk] <;> rfl) (by simp only [oopnd, lk] <;> rfl) (sl_u ty40 rfl ty27 (bounds_lo (by omega)) hg)) rfl <| OSuf.aop tyOK rfl za rfl <| OSuf.nil <| SQ.normal ?_
          refine W.seq <| W.seq <| W.reg <| OSuf.aop tyOK rfl za rfl <| OSuf.nil <| SQ.normal ?_
          -- leaf: loop
          have hset : g = g.set y (rowU d) := (AHeap.set_self hg).symm
          refine W.cut (fun L h' => ∃ (dk : Array Int) (i : Nat), i = cpt d ∧ i + 1 ≤ N ∧ dk.size = N ∧ h' = g.set y (rowU dk) ∧ L = [(0, .slice (some ⟨y, 0, none⟩) N 0), (3, I64 i)]) (W.block (W.loop (fun m2 L h' => ∃ (dk : Array Int) (i k2 : Nat), m2 + k2 = N - k ∧ 1 ≤ k2 ∧ i + 1 ≤ k + k2 ∧ dk.size = N ∧ cp2 (N - k - k2) dk k i k2 = cpt d ∧ h' = g.set y (rowU dk) ∧ L = [(0, .slice (some ⟨y, 0, none⟩) N 0), (3, I64 i), (4, .slice (some ⟨y, k, none⟩) (N - k) 0), (5, I64 k2)]) (n := N - k - 1) ⟨d, k, 1, by omega, by omega, by omega, hN, hc, hset, rfl⟩ ?_ ?_)) ?_
          · simp [HasA, Tr.get_put]
          · rintro m2 L g2 ⟨dk, i, k2, hm2, hk2, hi, hdk, hc2, rfl, rfl⟩
            simp only [mkA]
            have hrow : (g.set y (rowU dk)).get y = some (rowU dk) := AHeap.get_set_same _ _ _
            by_cases hl2 : (k2 : Int) < ((N - k : Nat) : Int)
            · have v1 : IntKind.i64.wrap ((k2 : Int) - 1) = ((k2 - 1 : Nat) : Int) := by rw [wrap_i64 (by omega) (by omega)]; omega
              have v2 : IntKind.i64.wrap ((k2 : Int) + 1) = ((k2 + 1 : Nat) : Int) := by rw [wrap_i64 (by omega) (by omega)]; omega
              have v3 : IntKind.i64.wrap ((i : Int) + 1) = ((i + 1 : Nat) : Int) := by rw [wrap_i64 (by omega) (by omega)]; omega
              have d1 : (0 ≤ (k2 : Int) ∧ (k2 : Int) < ((N - k : Nat) : Int)) := by omega
              have d2 : (0 ≤ ((k2 - 1 : Nat) : Int) ∧ ((k2 - 1 : Nat) : Int) < ((N - k : Nat) : Int)) := by omega
              have d3 : (0 ≤ (i : Int) ∧ (i : Int) < (N : Int)) := by omega
              have f1 : (dk.toList.map (Value.int .u64))[k + k2]? = some (U64 dk[k + k2]!) := SortU.rg (by omega)
              have f2 : (dk.toList.map (Value.int .u64))[k + (k2 - 1)]? = some (U64 dk[k + k2 - 1]!) := by
                have : k + (k2 - 1) = k + k2 - 1 := by omega
                rw [this]; exact SortU.rg (by omega)
              have hck2 : cp2 (N - k - k2) dk k i k2 = if dk[k + k2]! = dk[k + k2 - 1]! then cp2 (N - k - (k2 + 1)) dk k i (k2 + 1) else cp2 (N - k - (k2 + 1)) (dk.setIfInBounds i dk[k + k2]!) k (i + 1) (k2 + 1) := by
                have : N - k - k2 = (N - k - (k2 + 1)) + 1 := by omega
                rw [this, cp2]
              rw [hck2] at hc2
              by_cases hne : dk[k + k2]! = dk[k + k2 - 1]!
              · rw [if_pos hne] at hc2
                have e2 : (dk[k + k2]! != dk[k + k2 - 1]!) = false := by simp [hne]
                refine W.seq <| W.seq <| W.reg <| OSuf.aop tyOK rfl sm rfl <| OSuf.aop tyOK rfl sm rfl <| OSuf.aop tyOK rfl (so_len (by simp only [aopnds, lk] <;> rfl) (by simp (disch := first | assumption | omega | (simp only [nx] <;> omega) | fail) only [aLenOf, ty40, hpl, hrow, d1, d2, sb, f1, f2, ty27, ty40] <;> rfl)) rfl <| OSuf.aopT tyOK rfl (zb (hv := bi_lss)) (fun _ => rfl) (decide_eq_true hl2) <| OSuf.nil <| SQ.normal ?_
                refine W.yes (by simp only [lk] <;> rfl) <| CWp.skip <| SQ.normal ?_
                refine W.seq <| W.block <| W.seq <| W.regD tyOK mixed (by kernel_rfl) <| SqW.aop rfl sm rfl <| SqW.aop rfl sm rfl <| SqW.aop rfl (zi (hv := by simp (disch := first | assumption | omega | (simp only [nx] <;> omega) | fail) only [aIndexAddr, ty40, ty27, hpl, hrow, d1, d2, sb, f1, f2, ty27, ty40] <;> rfl)) rfl <| SqW.aop rfl (zl (hv := by simp (disch := first | assumption | omega | (simp only [nx] <;> omega) | fail) only [aLoad, ty27, rowOf, hpl, hrow, d1, d2, sb, f1, f2, ty27, ty40] <;> rfl)) rfl <| SqW.aop rfl sm rfl <| SqW.aop rfl sm rfl <| SqW.aop rfl (zb (hv := bi_w bi_sub (by first | (simp only [v1, v2] <;> rfl) | rfl))) rfl <| SqW.aop rfl (zi (hv := by simp (disch := first | assumption | omega | (simp only [nx] <;> omega) | fail) only [aIndexAddr, ty40, ty27, hpl, hrow, d1, d2, sb, f1, f2, ty27, ty40] <;> rfl)) rfl <| SqW.aop rfl (zl (hv := by simp (disch := first | assumption | omega | (simp only [nx] <;> omega) | fail) only [aLoad, ty27, rowOf, hpl, hrow, d1, d2, sb, f1, f2, ty27, ty40] <;> rfl)) rfl <| SqW.aopF rfl (zb (hv := bi_neq)) (fun _ => rfl) (e2) <| SqW.nil <| SQ.normal ?_
                refine W.no (by simp only [lk] <;> rfl) <| CWp.skip <| BQ.normal <| SQ.normal ?_
                refine W.reg <| OSuf.aop tyOK rfl sm rfl <| OSuf.aop tyOK rfl (zb (hv := bi_w bi_add (by first | (simp only [v1, v2] <;> rfl) | rfl))) rfl <| OSuf.aop tyOK rfl za rfl <| OSuf.nil <| ?_
                -- leaf: round
                refine LQ.normal (m := m2 - 1) (L := [(0, .slice (some ⟨y, 0, none⟩) N 0), (3, I64 i), (4, .slice (some ⟨y, k, none⟩) (N - k) 0), (5, I64 ((k2 + 1 : Nat) : Int))]) (by omega) ?_ ⟨dk, i, k2 + 1, by omega, by omega, by omega, hdk, hc2, rfl, rfl⟩
                simp only [HasA, Tr.get_put, Nat.reduceEqDiff, reduceIte, v2, and_self]
              · rw [if_neg hne] at hc2
                have e2 : (dk[k + k2]! != dk[k + k2 - 1]!) = true := by simp [hne]
                have sp1 : splice (dk.toList.map (Value.int .u64)) i [U64 dk[k + k2]!] = (dk.setIfInBounds i dk[k + k2]!).toList.map (Value.int .u64) := SortU.rs (by omega)
                have hlen : Nat.ble (i + 1) (dk.toList.map (Value.int .u64)).length = true := SortU.rb (by omega)
                refine W.seq <| W.seq <| W.reg <| OSuf.aop tyOK rfl sm rfl <| OSuf.aop tyOK rfl sm rfl <| OSuf.aop tyOK rfl (so_len (by simp only [aopnds, lk] <;> rfl) (by simp (disch := first | assumption | omega | (simp only [nx] <;> omega) | fail) only [aLenOf, ty40, hpl, hrow, d1, d2, d3, sb, f1, f2, hlen, sp1, AHeap.set_set, cond_true, Value.cells, List.length_cons, List.length_nil, oneCells, List.all_cons, List.all_nil, Value.oneCell', Bool.and_self, ty27, ty40] <;> rfl)) rfl <| OSuf.aopT tyOK rfl (zb (hv := bi_lss)) (fun _ => rfl) (decide_eq_true hl2) <| OSuf.nil <| SQ.normal ?_
                refine W.yes (by simp only [lk] <;> rfl) <| CWp.skip <| SQ.normal ?_
                refine W.seq <| W.block <| W.seq <| W.regD tyOK mixed (by kernel_rfl) <| SqW.aop rfl sm rfl <| SqW.aop rfl sm rfl <| SqW.aop rfl (zi (hv := by simp (disch := first | assumption | omega | (simp only [nx] <;> omega) | fail) only [aIndexAddr, ty40, ty27, hpl, hrow, d1, d2, d3, sb, f1, f2, hlen, sp1, AHeap.set_set, cond_true, Value.cells, List.length_cons, List.length_nil, oneCells, List.all_cons, List.all_nil, Value.oneCell', Bool.and_self, ty27, ty40] <;> rfl)) rfl <| SqW.aop rfl (zl (hv := by simp (disch := first | assumption | omega | (simp only [nx] <;> omega) | fail) only [aLoad, ty27, rowOf, hpl, hrow, d1, d2, d3, sb, f1, f2, hlen, sp1, AHeap.set_set, cond_true, Value.cells, List.length_cons, List.length_nil, oneCells, List.all_cons, List.all_nil, Value.oneCell', Bool.and_self, ty27, ty40] <;> rfl)) rfl <| SqW.aop rfl sm rfl <| SqW.aop rfl sm rfl <| SqW.aop rfl (zb (hv := bi_w bi_sub (by first | (simp only [v1, v2, v3] <;> rfl) | rfl))) rfl <| SqW.aop rfl (zi (hv := by simp (disch := first | assumption | omega | (simp only [nx] <;> omega) | fail) only [aIndexAddr, ty40, ty27, hpl, hrow, d1, d2, d3, sb, f1, f2, hlen, sp1, AHeap.set_set, cond_true, Value.cells, List.length_cons, List.length_nil, oneCells, List.all_cons, List.all_nil, Value.oneCell', Bool.and_self, ty27, ty40] <;> rfl)) rfl <| SqW.aop rfl (zl (hv := by simp (disch := first | assumption | omega | (simp only [nx] <;> omega) | fail) only [aLoad, ty27, rowOf, hpl, hrow, d1, d2, d3, sb, f1, f2, hlen, sp1, AHeap.set_set, cond_true, Value.cells, List.length_cons, List.length_nil, oneCells, List.all_cons, List.all_nil, Value.oneCell', Bool.and_self, ty27, ty40] <;> rfl)) rfl <| SqW.aopT rfl (zb (hv := bi_neq)) (fun _ => rfl) (e2) <| SqW.nil <| SQ.normal ?_
                refine W.yes (by simp only [lk] <;> rfl) <| W.seq <| W.reg <| OSuf.aop tyOK rfl sm rfl <| OSuf.aop tyOK rfl sm rfl <| OSuf.aop tyOK rfl sm rfl <| OSuf.aop tyOK rfl sm rfl <| OSuf.aop tyOK rfl (zi (hv := by simp (disch := first | assumption | omega | (simp only [nx] <;> omega) | fail) only [aIndexAddr, ty40, ty27, hpl, hrow, d1, d2, d3, sb, f1, f2, hlen, sp1, AHeap.set_set, cond_true, Value.cells, List.length_cons, List.length_nil, oneCells, List.all_cons, List.all_nil, Value.oneCell', Bool.and_self, ty27, ty40] <;> rfl)) rfl <| OSuf.aop tyOK rfl (zl (hv := by simp (disch := first | assumption | omega | (simp only [nx] <;> omega) | fail) only [aLoad, ty27, rowOf, hpl, hrow, d1, d2, d3, sb, f1, f2, hlen, sp1, AHeap.set_set, cond_true, Value.cells, List.length_cons, List.length_nil, oneCells, List.all_cons, List.all_nil, Value.oneCell', Bool.and_self, ty27, ty40] <;> rfl)) rfl <| OSuf.aop tyOK rfl (zi (hv := by simp (disch := first | assumption | omega | (simp only [nx] <;> omega) | fail) only [aIndexAddr, ty40, ty27, hpl, hrow, d1, d2, d3, sb, f1, f2, hlen, sp1, AHeap.set_set, cond_true, Value.cells, List.length_cons, List.length_nil, oneCells, List.all_cons, List.all_nil, Value.oneCell', Bool.and_self, ty27, ty40] <;> rfl)) rfl <| OSuf.aop tyOK rfl (zs (hv := by simp (disch := first | assumption | omega | (simp only [nx] <;> omega) | fail) only [aStore, ty27, writeRow, hpl, hrow, d1, d2, d3, sb, f1, f2, hlen, sp1, AHeap.set_set, cond_true, Value.cells, List.length_cons, List.length_nil, oneCells, List.all_cons, List.all_nil, Value.oneCell', Bool.and_self, ty27, ty40] <;> rfl)) rfl <| OSuf.nil <| SQ.normal ?_
                refine W.reg <| OSuf.aop tyOK rfl sm rfl <| OSuf.aop tyOK rfl (zb (hv := bi_w bi_add (by first | (simp only [v1, v2, v3] <;> rfl) | rfl))) rfl <| OSuf.aop tyOK rfl za rfl <| OSuf.nil <| BQ.normal <| SQ.normal ?_
                refine W.reg <| OSuf.aop tyOK rfl sm rfl <| OSuf.aop tyOK rfl (zb (hv := bi_w bi_add (by first | (simp only [v1, v2, v3] <;> rfl) | rfl))) rfl <| OSuf.aop tyOK rfl za rfl <| OSuf.nil <| ?_
                -- leaf: round
                refine LQ.normal (m := m2 - 1) (L := [(0, .slice (some ⟨y, 0, none⟩) N 0), (3, I64 ((i + 1 : Nat) : Int)), (4, .slice (some ⟨y, k, none⟩) (N - k) 0), (5, I64 ((k2 + 1 : Nat) : Int))]) (by omega) ?_ ⟨_, i + 1, k2 + 1, by omega, by omega, by omega, by rw [Array.size_setIfInBounds]; exact hdk, hc2, rfl, rfl⟩
                simp only [HasA, Tr.get_put, Nat.reduceEqDiff, reduceIte, v2, v3, and_self]
            · have h0 : N - k - k2 = 0 := by omega
              rw [h0, cp2] at hc2
              refine W.seq <| W.seq <| W.reg <| OSuf.aop tyOK rfl sm rfl <| OSuf.aop tyOK rfl sm rfl <| OSuf.aop tyOK rfl (so_len (by simp only [aopnds, lk] <;> rfl) (by simp (disch := first | assumption | omega | (simp only [nx] <;> omega) | fail) only [aLenOf, ty40, hpl, ty27, ty40] <;> rfl)) rfl <| OSuf.aopF tyOK rfl (zb (hv := bi_lss)) (fun _ => rfl) (decide_eq_false hl2) <| OSuf.nil <| SQ.normal ?_
              refine W.no (by simp only [lk] <;> rfl) <| CWp.exit <| SQ.exit <| LQ.exit <| BQ.exit <| ?_
              -- leaf: cut
              refine NQ.normal (L := [(0, .slice (some ⟨y, 0, none⟩) N 0), (3, I64 i)]) ?_ ⟨dk, i, hc2, by omega, hdk, rfl, rfl⟩
              simp only [HasA, Tr.get_put, Nat.reduceEqDiff, reduceIte, and_self]
          rintro L a' h' ha ⟨dk, i, hi, hiN, hdk, rfl, rfl⟩
          have hP : (dk.toList.map (Value.int .u64)) = (dk.toList.map (Value.int .u64)).take i ++ ((dk.toList.map (Value.int .u64)).drop i ++ []) := by rw [List.append_nil, List.take_append_drop]
          have hl9 : (dk.toList.map (Value.int .u64)).length = N := by simp [hdk]
          have hcl : (g.set y (rowU dk)).get y = some (.cells ((dk.toList.map (Value.int .u64)).take i ++ ((dk.toList.map (Value.int .u64)).drop i ++ [])) 1) := by rw [← hP]; exact AHeap.get_set_same _ _ _
          refine SQ.normal <| CWp.known ha ?_
          simp only [mkA]
          refine W.seq <| W.reg <| OSuf.aop tyOK rfl sm rfl <| OSuf.aop tyOK rfl sm rfl <| OSuf.aop tyOK rfl (so_slice (by simp only [lk] <;> rfl) (by simp only [oopnd, lk] <;> rfl) (by simp only [oopnd, lk] <;> rfl) (by simp only [oopnd, lk] <;> rfl) (sl_u ty40 rfl ty27 (bounds_lo (by omega)) (AHeap.get_set_same _ _ _))) rfl <| OSuf.aop tyOK rfl (so_clear (by simp only [aopnds, lk] <;> rfl) (cl_u rfl ty40 rfl ty27 rfl rfl rfl hcl (by simp [hdk]; omega) (by simp [hdk, Value.cells]) (by omega))) rfl <| OSuf.nil <| SQ.normal ?_
          refine W.seq <| W.reg <| OSuf.aop tyOK rfl sm rfl <| OSuf.aop tyOK rfl sm rfl <| OSuf.aop tyOK rfl (so_slice (by simp only [lk] <;> rfl) (by simp only [oopnd, lk] <;> rfl) (by simp only [oopnd, lk] <;> rfl) (by simp only [oopnd, lk] <;> rfl) (sl_u ty40 rfl ty27 (bounds_hi (by omega)) (AHeap.get_set_same _ _ _))) rfl <| OSuf.aop tyOK rfl za rfl <| OSuf.nil <| SQ.normal ?_
          refine CWp.ret <| BQ.ret <| SQ.ret <| LQ.ret <| BQ.ret <| NQ.ret <| SQ.ret <| FQ.ret (by simp only [aRet, Tryz.f37, aResults, aResult, lk, Nat.reduceEqDiff, reduceIte] <;> rfl) ?_
          -- leaf: end
          rw [← hi]
          exact ⟨rfl, by omega, Nat.le_refl _, fun z hz hn => by rw [AHeap.set_set, AHeap.get_set_ne (by omega)]⟩
        · rw [if_neg he] at hc
          have e1 : (d[k]! == d[k - 1]!) = false := by simp [he]
          refine W.seq <| W.seq <| W.reg <| OSuf.aop tyOK rfl sm rfl <| OSuf.aop tyOK rfl sm rfl <| OSuf.aop tyOK rfl (so_len (by simp only [aopnds, lk] <;> rfl) (by simp (disch := first | assumption | omega | (simp only [nx] <;> omega) | fail) only [aLenOf, ty40, hpl, hg, b1, b2, sb, c1, c2, ty27, ty40] <;> rfl)) rfl <| OSuf.aopT tyOK rfl (zb (hv := bi_lss)) (fun _ => rfl) (decide_eq_true hlt) <| OSuf.nil <| SQ.normal ?_
          refine W.yes (by simp only [lk] <;> rfl) <| CWp.skip <| SQ.normal ?_
          refine W.seq <| W.block <| W.seq <| W.regD tyOK mixed (by kernel_rfl) <| SqW.aop rfl sm rfl <| SqW.aop rfl sm rfl <| SqW.aop rfl (zi (hv := by simp (disch := first | assumption | omega | (simp only [nx] <;> omega) | fail) only [aIndexAddr, ty40, ty27, hpl, hg, b1, b2, sb, c1, c2, ty27, ty40] <;> rfl)) rfl <| SqW.aop rfl (zl (hv := by simp (disch := first | assumption | omega | (simp only [nx] <;> omega) | fail) only [aLoad, ty27, rowOf, hpl, hg, b1, b2, sb, c1, c2, ty27, ty40] <;> rfl)) rfl <| SqW.aop rfl sm rfl <| SqW.aop rfl sm rfl <| SqW.aop rfl (zb (hv := bi_w bi_sub (by first | (simp only [w1, w2] <;> rfl) | rfl))) rfl <| SqW.aop rfl (zi (hv := by simp (disch := first | assumption | omega | (simp only [nx] <;> omega) | fail) only [aIndexAddr, ty40, ty27, hpl, hg, b1, b2, sb, c1, c2, ty27, ty40] <;> rfl)) rfl <| SqW.aop rfl (zl (hv := by simp (disch := first | assumption | omega | (simp only [nx] <;> omega) | fail) only [aLoad, ty27, rowOf, hpl, hg, b1, b2, sb, c1, c2, ty27, ty40] <;> rfl)) rfl <| SqW.aopF rfl (zb (hv := bi_eql)) (fun _ => rfl) (e1) <| SqW.nil <| SQ.normal ?_
          refine W.no (by simp only [lk] <;> rfl) <| CWp.skip <| BQ.normal <| SQ.normal ?_
          refine W.reg <| OSuf.aop tyOK rfl sm rfl <| OSuf.aop tyOK rfl (zb (hv := bi_w bi_add (by first | (simp only [w1, w2] <;> rfl) | rfl))) rfl <| OSuf.aop tyOK rfl za rfl <| OSuf.nil <| ?_
          -- leaf: round
          refine LQ.normal (m := m - 1) (L := [(0, .slice (some ⟨y, 0, none⟩) N 0), (3, I64 ((k + 1 : Nat) : Int))]) (by omega) ?_ ⟨k + 1, by omega, by omega, rfl, by rw [← hc]; congr 1, rfl⟩
          simp only [HasA, Tr.get_put, Nat.reduceEqDiff, reduceIte, w2, and_self]
      · have hkN : k = N := by omega
        subst hkN
        rw [Nat.sub_self, cp1] at hc
        refine W.seq <| W.seq <| W.reg <| OSuf.aop tyOK rfl sm rfl <| OSuf.aop tyOK rfl sm rfl <| OSuf.aop tyOK rfl (so_len (by simp only [aopnds, lk] <;> rfl) (by simp (disch := first | assumption | omega | (simp only [nx] <;> omega) | fail) only [aLenOf, ty40, hpl, ty27, ty40] <;> rfl)) rfl <| OSuf.aopF tyOK rfl (zb (hv := bi_lss)) (fun _ => rfl) (decide_eq_false hlt) <| OSuf.nil <| SQ.normal ?_
        refine W.no (by simp only [lk] <;> rfl) <| CWp.exit <| SQ.exit <| LQ.exit <| BQ.exit <| ?_
        -- leaf: cut
        refine NQ.normal (L := [(0, .slice (some ⟨y, 0, none⟩) k 0)]) ?_ ⟨rfl, hc.symm, rfl⟩
        simp only [HasA, Tr.get_put, Nat.reduceEqDiff, reduceIte, and_self]
    rintro L a' h' ha ⟨rfl, hc, rfl⟩
    refine SQ.normal <| CWp.known ha ?_
    simp only [mkA]
    refine W.seq <| W.reg <| OSuf.aop tyOK rfl sm rfl <| OSuf.aop tyOK rfl za rfl <| OSuf.nil <| SQ.normal ?_
    refine CWp.ret <| FQ.ret (by simp only [aRet, Tryz.f37, aResults, aResult, lk, Nat.reduceEqDiff, reduceIte] <;> rfl) ?_
    -- leaf: end
    rw [hc]
    exact ⟨rfl, Nat.le_refl _, Nat.le_refl _, fun _ _ _ => rfl⟩
theorem compact_nil (h : AHeap) : FWp Tryz.prog 37 [.slice none 0 0] h fun u h' => u = .slice none 0 0 ∧ h' = h := by
  refine W.enter tyOK Tryz.func37 rfl rfl ?_
  simp only [entry]
  refine W.seq <| W.reg <| OSuf.aop tyOK rfl za rfl <| OSuf.nil <| SQ.normal ?_
  refine W.seq <| W.seq <| W.reg <| OSuf.aop tyOK rfl sm rfl <| OSuf.aop tyOK rfl (so_len (by simp only [aopnds, lk] <;> rfl) (by simp (disch := first | assumption | omega | (simp only [nx] <;> omega) | fail) only [aLenOf, ty40, hpl, ty27, ty40] <;> rfl)) rfl <| OSuf.aopT tyOK rfl (zb (hv := bi_lss)) (fun _ => rfl) (by first | rfl | assumption | ((simp only [bl, ty27, ty40]) <;> first | done | assumption | omega) | (simp; done) | (simp; omega)) <| OSuf.nil <| SQ.normal ?_
  refine W.yes (by simp only [lk] <;> rfl) <| W.seq <| W.reg <| OSuf.aop tyOK rfl sm rfl <| OSuf.aop tyOK rfl za rfl <| OSuf.nil <| SQ.normal ?_
  refine CWp.ret <| SQ.ret <| FQ.ret (by simp only [aRet, Tryz.f37, aResults, aResult, lk, Nat.reduceEqDiff, reduceIte] <;> rfl) ?_
  -- leaf: end
  exact ⟨rfl, rfl⟩
theorem bwr_c (h : AHeap) : FWp Tryz.prog 32 [.slice none 0 0] h fun u h' => u = .func (.func 59) #[] #[P0 h.next] ∧ h' = h.new (.cells [.slice none 0 0] 1) := by
  refine W.enter tyOK Tryz.func32 rfl rfl ?_
  simp only [entry]
  refine W.seq <| W.reg <| OSuf.aop tyOK rfl (so_box (by simp only [lk] <;> rfl)) rfl <| OSuf.aop tyOK rfl za rfl <| OSuf.nil <| SQ.normal ?_
  refine W.seq <| W.reg <| OSuf.aop tyOK rfl (so_makeFunc rfl (by simp only [aopnds, lk] <;> rfl) (by simp only [aopnds, lk] <;> rfl)) rfl <| OSuf.aop tyOK rfl za rfl <| OSuf.nil <| SQ.normal ?_
  refine CWp.ret <| FQ.ret (by simp only [aRet, Tryz.f32, aResults, aResult, lk, Nat.reduceEqDiff, reduceIte] <;> rfl) ?_
  -- leaf: end
  exact ⟨rfl, rfl⟩
theorem bwr1_c (h : AHeap) (q : Nat) (yv : Value) (hq : h.get q = some (.cells [.slice none 0 0] 1)) : FWp Tryz.prog 59 [yv, P0 q] h fun u h' => u = .tuple #[] ∧ h' = h := by
  have w1 : IntKind.i64.wrap ((0 : Int) - 1) = -1 := by rw [wrap_i64 (by omega) (by omega)]; rfl
  refine W.enter tyOK Tryz.func59 rfl rfl ?_
  simp only [entry]
  refine W.seq <| W.reg <| OSuf.aop tyOK rfl (zl (hv := by simp (disch := first | assumption | omega | (simp only [nx] <;> omega) | fail) only [aLoad, ty43, rowOf, hpl, hq] <;> rfl)) rfl <| OSuf.aop tyOK rfl (so_len (by simp only [aopnds, lk] <;> rfl) (by simp (disch := first | assumption | omega | (simp only [nx] <;> omega) | fail) only [aLenOf, ty43, hpl, hq] <;> rfl)) rfl <| OSuf.aop tyOK rfl (zb (hv := bi_w bi_sub (by first | (simp only [w1] <;> rfl) | rfl))) rfl <| OSuf.aop tyOK rfl za rfl <| OSuf.nil <| SQ.normal ?_
  -- leaf: loop
  refine W.cut (fun L h' => h' = h ∧ L = []) (W.block (W.loop (fun m L h' => h' = h ∧ L = [(3, I64 (-1))]) (n := 0) ⟨rfl, rfl⟩ ?_ ?_)) ?_
  · simp [HasA, Tr.get_put]; exact w1
  · rintro m L g ⟨rfl, rfl⟩
    simp only [mkA]
    refine W.seq <| W.seq <| W.reg <| OSuf.aop tyOK rfl sm rfl <| OSuf.aopF tyOK rfl (zb (hv := bi_geq)) (fun _ => rfl) (by first | rfl | assumption | ((simp only [bl]) <;> first | done | assumption | omega) | (simp; done) | (simp; omega)) <| OSuf.nil <| SQ.normal ?_
    refine W.no (by simp only [lk] <;> rfl) <| CWp.exit <| SQ.exit <| LQ.exit <| BQ.exit <| ?_
    -- leaf: cut
    exact NQ.normal (L := []) trivial ⟨rfl, rfl⟩
  rintro L a' h' ha ⟨rfl, rfl⟩
  exact FQ.normal (by simp only [aRet, Tryz.f59, aResults] <;> rfl) ⟨rfl, rfl⟩
def pv (p : List UInt8 × Vr) : Value := .agg #[encS p.1, .string p.2.val]
def fnd (P : List (List UInt8 × Vr)) : List (List UInt8 × Vr) := P.filter fun p => !p.2.del
def hgs (ts : Int) (P : List (List UInt8 × Vr)) : List Int := (P.map fun p => hangV p.2 ts).filter fun n => decide (n > 0)
def mp : List (List UInt8 × Vr) → Nat → List (List UInt8 × Value × Nat)
  | [], _ => []
  | p :: F, b => (p.1, pv p, b) :: mp F (b + 1)
theorem mp_snoc (p : List UInt8 × Vr) : ∀ (F : List (List UInt8 × Vr)) (b : Nat), mp (F ++ [p]) b = mp F b ++ [(p.1, pv p, b + F.length)]
  | [], b => rfl
  | q :: F, b => by
    rw [List.cons_append, mp, mp, mp_snoc p F (b + 1), List.cons_append, List.length_cons]
    have : b + 1 + F.length = b + (F.length + 1) := by omega
    rw [this]
theorem mp_keys : ∀ (F : List (List UInt8 × Vr)) (b : Nat), (mp F b).map (·.1) = F.map Prod.fst
  | [], b => rfl
  | p :: F, b => by rw [mp, List.map_cons, mp_keys F (b + 1), List.map_cons]
theorem mp_length : ∀ (F : List (List UInt8 × Vr)) (b : Nat), (mp F b).length = F.length
  | [], b => rfl
  | p :: F, b => by rw [mp, List.length_cons, mp_length F (b + 1), List.length_cons]
theorem mp_mem : ∀ (F : List (List UInt8 × Vr)) (b : Nat) (x : List UInt8 × Value × Nat), x ∈ mp F b → ∃ (i : Nat) (p : List UInt8 × Vr), F[i]? = some p ∧ x = (p.1, pv p, b + i)
  | [], b, x, h => by cases h
  | q :: F, b, x, h => by
    rcases List.mem_cons.1 h with h | h
    · exact ⟨0, q, rfl, h⟩
    · obtain ⟨i, p, h1, h2⟩ := mp_mem F (b + 1) x h
      refine ⟨i + 1, p, h1, ?_⟩
      rw [h2]
      have : b + 1 + i = b + (i + 1) := by omega
      rw [this]
theorem mp_ok (F : List (List UInt8 × Vr)) : SortS.KP.MapOK (mp F 0) F.length := by
  refine ⟨fun x hx => ?_, fun x hx y hy e => ?_, ?_⟩
  · obtain ⟨i, p, h1, h2⟩ := mp_mem F 0 x hx
    have := (List.getElem?_eq_some_iff.1 h1).1
    rw [h2]; show 0 + i < _; omega
  · obtain ⟨i, p, h1, h2⟩ := mp_mem F 0 x hx
    obtain ⟨j, q, h3, h4⟩ := mp_mem F 0 y hy
    rw [h2, h4] at e
    have e9 : i = j := by simpa using e
    subst e9
    rw [h1] at h3
    cases h3
    rw [h2, h4]
  · have key : ∀ (F : List (List UInt8 × Vr)) (b : Nat), (mp F b).Nodup := by
      intro F
      induction F with
      | nil => intro b; exact List.nodup_nil
      | cons p F ih =>
        intro b
        rw [mp, List.nodup_cons]
        refine ⟨fun h9 => ?_, ih _⟩
        obtain ⟨i, q, h1, h2⟩ := mp_mem F (b + 1) _ h9
        have : b = b + 1 + i := congrArg (fun x => x.2.2) h2
        omega
    exact key F 0
theorem mp_none {k : List UInt8} {F : List (List UInt8 × Vr)} (hk : k ∉ F.map Prod.fst) : idxK k (mp F 0) 0 = none := idxK_none fun x hx e => hk (by
  obtain ⟨i, p, h1, h2⟩ := mp_mem F 0 x hx
  rw [e, h2]; exact List.mem_map.2 ⟨p, List.mem_of_getElem? h1, rfl⟩)
theorem mp_at : ∀ {F : List (List UInt8 × Vr)} {b j i : Nat} {p : List UInt8 × Vr}, (F.map Prod.fst).Nodup → F[i]? = some p → idxK p.1 (mp F b) j = some (j + i, pv p)
  | [], b, j, i, p, _, h => by simp at h
  | q :: F, b, j, 0, p, _, h => by
    simp at h; subst h
    rw [mp, idxK]; simp
  | q :: F, b, j, i + 1, p, hn, h => by
    simp only [List.getElem?_cons_succ] at h
    simp only [List.map_cons, List.nodup_cons] at hn
    have hne : ¬ p.1 = q.1 := fun e => hn.1 (by rw [← e]; exact List.mem_map.2 ⟨p, List.mem_of_getElem? h, rfl⟩)
    have e1 : decide (p.1 = q.1) = false := decide_eq_false hne
    rw [mp, idxK, e1, cond_false, mp_at hn.2 h]
    have : j + 1 + i = j + (i + 1) := by omega
    rw [this]
structure ScI (h g : AHeap) (F : List (List UInt8 × Vr)) (hs : List Int) (hv : Value) : Prop where
  next : h.next + 4 ≤ g.next
  map : g.get (h.next + 2) = some (.map (mkK encS (mp F 0)) F.length)
  var : g.get (h.next + 3) = some (.cells [.map (some (h.next + 2))] 1)
  sv : SV g 1 (h.next + 4) (hs.map (Value.int .u64)) hv
  old : ∀ z, z < h.next → g.get z = h.get z
theorem ScI.garb {h g g' : AHeap} {F : List (List UInt8 × Vr)} {hs : List Int} {hv : Value} (S : ScI h g F hs hv) (hn : g.next ≤ g'.next) (hk : ∀ z, z < g.next → g'.get z = g.get z) : ScI h g' F hs hv :=
  have h1 := S.next
  ⟨by omega, by rw [hk _ (by omega)]; exact S.map, by rw [hk _ (by omega)]; exact S.var, S.sv.mono hn fun z hz _ => hk z hz, fun z hz => by rw [hk z (by omega)]; exact S.old z hz⟩
theorem ScI.del {h g : AHeap} {F : List (List UInt8 × Vr)} {hs : List Int} {hv : Value} (S : ScI h g F hs hv) : ScI h (g.set (h.next + 2) (.map (mkK encS (mp F 0)) F.length)) F hs hv := by
  rw [AHeap.set_self S.map]; exact S
theorem ScI.put {h g : AHeap} {F : List (List UInt8 × Vr)} {hs : List Int} {hv : Value} (S : ScI h g F hs hv) (p : List UInt8 × Vr) : ScI h (g.set (h.next + 2) (.map (mkK encS (mp F 0 ++ [(p.1, pv p, F.length)])) (F.length + 1))) (F ++ [p]) hs hv := by
  have h1 := S.next
  refine ⟨h1, ?_, ?_, S.sv.mono (Nat.le_refl _) fun z hz e => AHeap.get_set_ne ?_, fun z hz => ?_⟩
  · rw [AHeap.get_set_same, mp_snoc, Nat.zero_add, List.length_append]; rfl
  · rw [AHeap.get_set_ne (by omega)]; exact S.var
  · have := (S.sv.row e).1; omega
  · rw [AHeap.get_set_ne (by omega)]; exact S.old z hz
theorem one_u {h : AHeap} {y c : Nat} {n : Int} (hg : h.get y = some (.cells [U64 n] 1)) : aCells h 1 1 (.slice (some ⟨y, 0, none⟩) 1 c) = some [U64 n] := aCells_of (vs := [U64 n]) (by simp only [rowOf, hg]) (Nat.le_refl _) rfl
theorem ScI.hang {h g : AHeap} {F : List (List UInt8 × Vr)} {hs : List Int} {hv : Value} (S : ScI h g F hs hv) (hl : hs.length ≤ 1000) (n : Int) :
    ∃ v' H, (∀ ats A', appT T ats = some A' → A'.size = 1 → A'.bytes ≤ 100 → aAppend T ats hv (.slice (some ⟨g.next, 0, none⟩) 1 2) (g.new (.cells [U64 n] 1)) = some (v', H)) ∧ ScI h H F (hs ++ [n]) v' ∧ g.next + 1 ≤ H.next ∧ (∀ z, z < g.next → ¬ svRow hv = some z → H.get z = g.get z) ∧ ∀ y, y < g.next → ¬ svRow v' = some y := by
  have hnx := S.next
  obtain ⟨_, _, hf, _⟩ := S.sv.form
  rw [List.length_map] at hf
  have hsv : SV (g.new (.cells [U64 n] 1)) 1 (h.next + 4) (hs.map (Value.int .u64)) hv := S.sv.mono (by simp) fun z hz _ => AHeap.get_new_ne (by omega)
  obtain ⟨v', H, a1, a2, a3, a4, a5, a6, a7⟩ := ap_any hsv rfl (one_u (AHeap.get_new_same _ _)) rfl rfl (by omega) (by simp only [nx]; omega)
  have ko : ∀ z, z < g.next → ¬ svRow hv = some z → H.get z = g.get z := fun z hz e => by rw [a5 z (by simp only [nx]; omega) e, AHeap.get_new_ne (by omega)]
  have hlo : ∀ z, z < h.next + 4 → ¬ svRow hv = some z := fun z hz e => by have := (S.sv.row e).1; omega
  simp only [nx] at a3
  refine ⟨v', H, a1, ⟨by omega, ?_, ?_, by rw [List.map_append]; exact a2, fun z hz => ?_⟩, by omega, ko, fun y hy e => ?_⟩
  · rw [ko _ (by omega) (hlo _ (by omega))]; exact S.map
  · rw [ko _ (by omega) (hlo _ (by omega))]; exact S.var
  · rw [ko z (by omega) (hlo _ (by omega))]; exact S.old z hz
  · rcases a6 with ⟨_, h9⟩ | h9
    · cases h9
    · rw [h9] at e
      simp only [nx] at e
      have := Option.some.inj e
      omega
theorem keyS : KeyOK Tryz.prog T 9 encS := key_str tyOK ty9 rfl
theorem fnd_snoc (P : List (List UInt8 × Vr)) (p : List UInt8 × Vr) : fnd (P ++ [p]) = if p.2.del then fnd P else fnd P ++ [p] := by
  rw [fnd, List.filter_append, List.filter_cons, List.filter_nil]
  cases p.2.del <;> simp [fnd]
theorem hgs_snoc (ts : Int) (P : List (List UInt8 × Vr)) (p : List UInt8 × Vr) : hgs ts (P ++ [p]) = if hangV p.2 ts > 0 then hgs ts P ++ [hangV p.2 ts] else hgs ts P := by
  rw [hgs, List.map_append, List.filter_append, List.map_cons, List.map_nil, List.filter_cons, List.filter_nil]
  by_cases h : hangV p.2 ts > 0
  · rw [if_pos h, if_pos (by simpa using h)]; rfl
  · rw [if_neg h, if_neg (by simpa using h), List.append_nil]; rfl
def flatPr (F : List (List UInt8 × Vr)) : List Value := (F.map fun p => [encS p.1, Value.string p.2.val]).flatten
theorem flatPr_snoc (F : List (List UInt8 × Vr)) (p : List UInt8 × Vr) : flatPr (F ++ [p]) = flatPr F ++ [encS p.1, Value.string p.2.val] := by simp [flatPr]
theorem flatPr_length (F : List (List UInt8 × Vr)) : (flatPr F).length = F.length * 2 := by
  induction F with
  | nil => rfl
  | cons p F ih =>
    simp only [flatPr, List.map_cons, List.flatten_cons, List.length_append, List.length_cons] at ih ⊢
    rw [ih]; simp; omega
theorem pr_step {g : AHeap} {lo : Nat} {F : List (List UInt8 × Vr)} {v : Value} (s : SV g 2 lo (flatPr F) v) (hl : F.length ≤ 1000) (hlo : lo ≤ g.next) (p : List UInt8 × Vr) :
    ∃ v' H, (∀ ats A', appT T ats = some A' → A'.size = 2 → A'.bytes ≤ 100 → aAppend T ats v (.slice (some ⟨g.next, 0, none⟩) 1 2) (g.new (.cells [encS p.1, .string p.2.val] 2)) = some (v', H)) ∧ SV H 2 lo (flatPr (F ++ [p])) v' ∧ g.next ≤ H.next ∧ ∀ z, z < lo → H.get z = g.get z := by
  have hsv : SV (g.new (.cells [encS p.1, .string p.2.val] 2)) 2 lo (flatPr F) v := s.mono (by simp) fun z hz _ => AHeap.get_new_ne (by omega)
  have hc : aCells (g.new (.cells [encS p.1, .string p.2.val] 2)) 2 1 (.slice (some ⟨g.next, 0, none⟩) 1 2) = some [encS p.1, .string p.2.val] := aCells_of (vs := [encS p.1, .string p.2.val]) (by simp only [rowOf, AHeap.get_new_same]) (Nat.le_refl _) rfl
  have hvl : vLen v ≤ 1000 := by
    obtain ⟨_, _, h9, _⟩ := s.form
    have := flatPr_length F; omega
  obtain ⟨v', H, a1, a2, a3, a4, a5, a6, a7⟩ := ap_any hsv rfl hc rfl rfl (by omega) (by simp only [nx]; omega)
  simp only [nx] at a3
  refine ⟨v', H, a1, by rw [flatPr_snoc]; exact a2, by omega, fun z hz => ?_⟩
  rw [a5 z (by simp only [nx]; omega) (fun e => by have := (s.row e).1; omega), AHeap.get_new_ne (by omega)]
def hgN (ts : Int) (P : List (List UInt8 × Vr)) : Nat := cpt (Go.Sort.insertionSort Go.Sort.ltInt (hgs ts P).toArray 0 (hgs ts P).length)
theorem scan_c (h : AHeap) (r : Nat) (fl : Int) (M : TM) (A : List Rec) (hB : TB h r fl M A) (hA : OkA A) (h12 : A.length ≤ 12) (hk8 : ∀ x ∈ A, okKey x.key) (lo : List UInt8) (ts st : Int) :
    FWp Tryz.prog 9 [P0 r, U64 ts, encS lo, encS [], .slice none 0 0, U64 st] h fun u h' => ∃ pr hb n, u = .tuple #[pr, .slice hb (hgN ts (scanL lo ts A)) 0, U64 n] ∧ h.next ≤ h'.next ∧ (∀ z, z < h.next → h'.get z = h.get z) ∧ SV h' 2 h.next (flatPr (fnd (scanL lo ts A))) pr := by
  have tb9 := And.intro ty22 (And.intro ty27 (And.intro ty29 (And.intro ty33 (And.intro ty34 (And.intro ty36 (And.intro ty39 (And.intro ty4 (And.intro ty40 (And.intro ty45 (And.intro ty49 (And.intro ty81 (And.intro ty85 (ty9)))))))))))))
  have hlt := hB.ta.lt
  refine W.enter tyOK Tryz.func9 rfl rfl ?_
  simp only [entry]
  refine W.seq <| W.reg <| OSuf.aop tyOK rfl (so_box (by simp only [lk] <;> rfl)) rfl <| OSuf.aop tyOK rfl (so_box (by simp only [lk] <;> rfl)) rfl <| OSuf.aop tyOK rfl za rfl <| OSuf.aop tyOK rfl za rfl <| OSuf.aop tyOK rfl za rfl <| OSuf.nil <| SQ.normal ?_
  refine W.seq <| W.seq <| W.reg <| OSuf.aop tyOK rfl sm rfl <| OSuf.aopF tyOK rfl (zb (hv := bi_nil ⟨_, _, ty22, rfl⟩)) (fun _ => rfl) rfl <| OSuf.nil <| SQ.normal ?_
  refine W.no (by simp only [lk] <;> rfl) <| CWp.skip <| SQ.normal ?_
  refine W.seq <| W.reg <| OSuf.aop tyOK rfl (so_makeMap) rfl <| OSuf.aop tyOK rfl (so_alloc (by simp only [aAlloc, ty81] <;> rfl)) rfl <| OSuf.aop tyOK rfl (zs (hv := by simp (disch := first | assumption | omega | (simp only [nx] <;> omega) | fail) only [aStore, ty81, writeRow, hpl, Value.cells] <;> rfl)) rfl <| OSuf.nil <| SQ.normal ?_
  refine W.seq <| W.seq <| W.reg <| OSuf.aop tyOK rfl sm rfl <| OSuf.callD rfl (by simp only [aopnds, lk] <;> rfl) en32 (bwr_c _) rfl <| OSuf.nil <| SQ.normal ?_
  -- leaf: loop
  refine W.cut (fun L g => ScI h g [] [] (.slice none 0 0) ∧ g.get h.next = some (.cells [encS lo] 1) ∧ g.get (h.next + 1) = some (.cells [encS []] 1) ∧ L = [(0, P0 r), (1, U64 ts), (5, U64 st), (8, P0 h.next), (9, P0 (h.next + 1)), (12, .slice none 0 0), (13, .slice none 0 0), (14, U64 0), (15, P0 (h.next + 3))]) ?_ ?_
  · refine W.block (CWp.rangeFunc (by simp only [aopnd, Tr.get_put, Nat.reduceEqDiff, reduceIte] <;> rfl) (fun l hl => by cases hl) (VWp.func en59 ?_))
    show FWp _ _ [_, _] _ _
    generalize hLP : (ALoop.mk _ _ _ _ _ _ _ _) = LP
    have hbusy : (LP.state == .busy) = false := by rw [← hLP]; rfl
    have hjn : jumpExit LP.pending = some .normal := by rw [← hLP]; rfl
    clear hLP
    refine (bwr1_c _ (h.next + 4) _ (by simp (disch := first | assumption | omega | (simp only [nx] <;> omega) | fail) only [hpl])).mono ?_
    rintro _ _ ⟨rfl, rfl⟩
    refine ⟨LP, .normal, by (simp (disch := first | assumption | omega | (simp only [nx] <;> omega) | fail) only [hpl]), hbusy, hjn, ?_⟩
    refine BQ.normal <| NQ.normal (L := [(0, P0 r), (1, U64 ts), (5, U64 st), (8, P0 h.next), (9, P0 (h.next + 1)), (12, .slice none 0 0), (13, .slice none 0 0), (14, U64 0), (15, P0 (h.next + 3))]) ?_ ⟨⟨?_, ?_, ?_, ?_, fun z hz => ?_⟩, ?_, ?_, rfl⟩
    · simp only [HasA, Tr.get_put, Nat.reduceEqDiff, reduceIte, and_self] <;> first | done | trivial | exact ⟨rfl, trivial⟩ | exact ⟨rfl, rfl, trivial⟩ | exact ⟨rfl, rfl, rfl, trivial⟩
    · simp only [nx]; omega
    · simp (disch := first | assumption | omega | (simp only [nx] <;> omega) | fail) only [hpl]; rfl
    · simp (disch := first | assumption | omega | (simp only [nx] <;> omega) | fail) only [hpl]; rfl
    · exact .nil
    · simp (disch := first | assumption | omega | (simp only [nx] <;> omega) | fail) only [hpl]
    · simp (disch := first | assumption | omega | (simp only [nx] <;> omega) | fail) only [hpl]
    · simp (disch := first | assumption | omega | (simp only [nx] <;> omega) | fail) only [hpl]
  rintro L a' g ha ⟨S0, bl, bh, rfl⟩
  have hKmem : ∀ k ∈ keysR lo [] A, ∃ x, getR k A = some x := fun k hk => by
    obtain ⟨hk1, _⟩ := List.mem_filter.1 ((SortS.sortL_perm _).mem_iff.1 hk)
    obtain ⟨x, hx, rfl⟩ := List.mem_map.1 hk1
    exact ⟨x, find_nodup hB.nodup hx rfl⟩
  have hKlen : (keysR lo [] A).length ≤ 12 := by
    have h1 := (SortS.sortL_perm ((A.map Rec.key).filter (inR lo []))).length_eq
    have h2 := List.length_filter_le (inR lo []) (A.map Rec.key)
    rw [List.length_map] at h2
    show (SortS.sortL _).length ≤ 12
    omega
  have hBg := hB.mono (h' := g) (by have := S0.next; omega) S0.old
  obtain ⟨K, hK⟩ : ∃ K, K = keysR lo [] A := ⟨_, rfl⟩
  rw [← hK] at hKlen
  refine SQ.normal <| CWp.known ha ?_
  simp only [mkA]
  have hn0 := S0.next
  obtain ⟨kb, H, k3, S1, k4⟩ : ∃ kb H, FWp Tryz.prog 33 [P0 r, encS lo, encS []] g (fun u h' => u = .slice kb K.length 0 ∧ h' = H) ∧ ScI h H [] [] (.slice none 0 0) ∧ (K ≠ [] → ∃ y, kb = some ⟨y, 0, none⟩ ∧ h.next + 4 ≤ y ∧ y < H.next ∧ H.get y = some (.cells (encL K) 1)) := by
    obtain ⟨k1, k2⟩ := keys_c g r fl M A hBg lo [] h12
    rw [← hK] at k1 k2
    by_cases hKe : K = []
    · exact ⟨none, g, (k1 hKe).mono fun u h' hk => by rw [hKe]; exact hk, S0, fun h9 => absurd hKe h9⟩
    · exact ⟨some ⟨g.next, 0, none⟩, _, k2 hKe, S0.garb (by simp only [nx]; omega) (fun z hz => by simp (disch := first | assumption | omega | (simp only [nx] <;> omega) | fail) only [hpl]), fun _ => ⟨g.next, rfl, by omega, by simp only [nx]; omega, AHeap.get_new_same _ _⟩⟩
  refine W.seq <| W.cut (fun L g' => ∃ hv n, ScI h g' (fnd (K.filterMap (hitK lo ts A))) (hgs ts (K.filterMap (hitK lo ts A))) hv ∧ L = [(12, .slice none 0 0), (13, hv), (14, U64 n), (15, P0 (h.next + 3))]) ?_ ?_
  · refine W.seq <| W.reg <| OSuf.aop tyOK rfl sm rfl <| OSuf.aop tyOK rfl (zl (hv := by simp (disch := first | assumption | omega | (simp only [nx] <;> omega) | fail) only [aLoad, ty9, rowOf, hpl, bl, bh, Value.cells] <;> rfl)) rfl <| OSuf.aop tyOK rfl (zl (hv := by simp (disch := first | assumption | omega | (simp only [nx] <;> omega) | fail) only [aLoad, ty9, rowOf, hpl, bl, bh, Value.cells] <;> rfl)) rfl <| OSuf.callD rfl (by simp only [aopnds, lk] <;> rfl) en33 (k3) rfl <| OSuf.aop tyOK rfl (so_len (by simp only [aopnds, lk] <;> rfl) (by simp (disch := first | assumption | omega | (simp only [nx] <;> omega) | fail) only [aLenOf, ty85, hpl, bl, bh, Value.cells, places, tb9] <;> rfl)) rfl <| OSuf.aop tyOK rfl sm rfl <| OSuf.nil <| SQ.normal ?_
    -- leaf: loop
    refine W.block (W.loop (fun q L g' => ∃ (i : Nat) (hv : Value) (n : Int), q + i = K.length ∧ ScI h g' (fnd ((K.take i).filterMap (hitK lo ts A))) (hgs ts ((K.take i).filterMap (hitK lo ts A))) hv ∧ (K ≠ [] → ∃ y, kb = some ⟨y, 0, none⟩ ∧ h.next + 4 ≤ y ∧ y < g'.next ∧ ¬ svRow hv = some y ∧ g'.get y = some (.cells (encL K) 1)) ∧ L = [(0, P0 r), (1, U64 ts), (5, U64 st), (12, .slice none 0 0), (13, hv), (14, U64 n), (15, P0 (h.next + 3)), (65, .slice kb K.length 0), (66, I64 K.length), (67, I64 i)]) (n := K.length) ⟨0, .slice none 0 0, 0, by omega, S1, fun h9 => by obtain ⟨y, y1, y2, y3, y4⟩ := k4 h9; exact ⟨y, y1, y2, y3, by simp [svRow], y4⟩, rfl⟩ ?_ ?_)
    · simp [HasA, Tr.get_put]
    · rintro q L g1 ⟨i, hv, n, hq, S, hky, rfl⟩
      simp only [mkA]
      have w2 : IntKind.i64.wrap ((i : Int) + 1) = ((i + 1 : Nat) : Int) := by rw [wrap_i64 (by omega) (by omega)]; omega
      by_cases hlt : (i : Int) < (K.length : Int)
      · obtain ⟨k, hki⟩ : ∃ k, K[i]? = some k := ⟨K[i]'(by omega), by simp⟩
        have hkm := List.mem_of_getElem? hki
        obtain ⟨y, rfl, y1, y2, y3, y4⟩ := hky (fun e => by rw [e] at hkm; cases hkm)
        obtain ⟨x, hx⟩ := hKmem k (by rw [← hK]; exact hkm)
        obtain ⟨xm, xk⟩ := getR_key hx
        have hk9 : k.length < 9223372036854775808 := by have := (hk8 x xm).2; rw [xk] at this; omega
        have hxV := hA.v x xm
        have hb1 : (0 ≤ (i : Int) ∧ (i : Int) < (K.length : Int)) := by omega
        have c0 : (encL K)[i]? = some (encS k) := by rw [encL, List.getElem?_map, hki]; rfl
        have hKnd : K.Nodup := by
          rw [hK]
          exact (SortS.sortL_perm _).nodup_iff.2 (hB.nodup.filter _)
        obtain ⟨P, hP⟩ : ∃ P, P = (K.take i).filterMap (hitK lo ts A) := ⟨_, rfl⟩
        rw [← hP] at S
        have hnot : ∀ p ∈ P, ¬ p.1 = k := fun p hp e => by
          rw [hP] at hp
          obtain ⟨k', hk1, hk2⟩ := List.mem_filterMap.1 hp
          rw [hitK_key hk2] at e
          subst e
          obtain ⟨j, hj⟩ := List.getElem?_of_mem hk1
          rw [List.getElem?_take] at hj
          split at hj
          · rename_i hji
            obtain ⟨q1, q2⟩ := List.getElem?_eq_some_iff.1 hj
            obtain ⟨q3, q4⟩ := List.getElem?_eq_some_iff.1 hki
            exact List.pairwise_iff_getElem.1 hKnd j i q1 q3 hji (q2.trans q4.symm)
          · cases hj
        have hidx : idxK k (mp (fnd P) 0) 0 = none := mp_none fun h9 => by
          obtain ⟨p, hp, e⟩ := List.mem_map.1 h9
          exact hnot p (List.mem_filter.1 hp).1 e
        have hP1 : (K.take (i + 1)).filterMap (hitK lo ts A) = P ++ (hitK lo ts A k).toList := by
          rw [List.take_add_one, hki, List.filterMap_append, ← hP, Option.toList_some]
          rw [List.filterMap_cons, List.filterMap_nil]
          cases hitK lo ts A k <;> rfl
        have hn1 := S.next
        have hB1 := hB.mono (h' := g1) (by omega) S.old
        obtain ⟨rv, H2, r1, r2, r3, r4⟩ := row_some g1 r fl M A hB1 k hk9 x hx (by omega)
        obtain ⟨ra, rc, rfl⟩ := avo_form r2
        have e4 : cellsOf [encS x.key, U64 x.rts, .bool x.here, .slice ra x.V.length rc] 0 4 = some [encS x.key, U64 x.rts, .bool x.here, .slice ra x.V.length rc] := rfl
        obtain ⟨g3, hg3⟩ : ∃ g3, g3 = (H2.new (.cells [encS [], U64 0, .bool false, .slice none 0 0] 1)).set H2.next (.cells [encS x.key, U64 x.rts, .bool x.here, .slice ra x.V.length rc] 1) := ⟨_, rfl⟩
        have n3 : g3.next = H2.next + 1 := by rw [hg3]; rfl
        have o3 : ∀ z, z < g1.next → g3.get z = g1.get z := fun z hz => by rw [← r4 z hz, hg3]; simp (disch := first | assumption | omega | (simp only [nx] <;> omega) | fail) only [hpl]
        have S3 := S.garb (g' := g3) (by omega) o3
        have y23 : y < g3.next := by omega
        have y43 : g3.get y = some (.cells (encL K) 1) := by rw [o3 y y2]; exact y4
        cases hh : x.here with
        | false =>
          have hn9 : hitK lo ts A k = none := by rw [hitK, hx]; simp [hitF, hh]
          rw [hn9, Option.toList_none, List.append_nil] at hP1
          subst hg3
          refine W.seq <| W.reg <| OSuf.aopT tyOK rfl (zb (hv := bi_lss)) (fun _ => rfl) (decide_eq_true hlt) <| OSuf.nil <| SQ.normal ?_
          refine W.seq <| W.yes (by simp only [lk] <;> rfl) <| CWp.skip <| SQ.normal ?_
          refine W.seq <| W.block <| W.seq <| W.reg <| OSuf.aop tyOK rfl (zi (hv := by simp (disch := first | assumption | omega | (simp only [nx] <;> omega) | fail) only [aIndexAddr, ty85, ty9, hpl, y4, hb1, sb, c0, e4, rowV, cond_true, Value.cells, places, tb9] <;> rfl)) rfl <| OSuf.aop tyOK rfl (zl (hv := by simp (disch := first | assumption | omega | (simp only [nx] <;> omega) | fail) only [aLoad, ty9, rowOf, hpl, y4, hb1, sb, c0, e4, rowV, Option.map_some, cond_true, Value.cells] <;> rfl)) rfl <| OSuf.aop tyOK rfl za rfl <| OSuf.nil <| SQ.normal ?_
          refine W.seq <| W.reg <| OSuf.aop tyOK rfl sm rfl <| OSuf.aop tyOK rfl sm rfl <| OSuf.callD rfl (by simp only [aopnds, lk] <;> rfl) en8 (r1) rfl <| OSuf.aop tyOK rfl sm rfl <| OSuf.aop tyOK rfl (ze (hv := by simp (disch := first | assumption | omega | (simp only [nx] <;> omega) | fail) only [aExtract, hpl, y4, hb1, sb, c0, e4, rowV, cond_true, Value.cells, places, tb9] <;> rfl)) rfl <| OSuf.aop tyOK rfl (ze (hv := by simp (disch := first | assumption | omega | (simp only [nx] <;> omega) | fail) only [aExtract, hpl, y4, hb1, sb, c0, e4, rowV, cond_true, Value.cells, places, tb9] <;> rfl)) rfl <| OSuf.aop tyOK rfl (so_alloc (by simp only [aAlloc, ty36] <;> rfl)) rfl <| OSuf.aop tyOK rfl (zs (hv := by simp (disch := first | assumption | omega | (simp only [nx] <;> omega) | fail) only [aStore, ty36, writeRow, hpl, y4, hb1, sb, c0, e4, rowV, Option.map_some, cond_true, Value.cells] <;> rfl)) rfl <| OSuf.aop tyOK rfl za rfl <| OSuf.nil <| SQ.normal ?_
          refine W.seq <| W.seq <| W.reg <| OSuf.aop tyOK rfl (zf (hv := fa_ok (k := 2) ty36 rfl rfl ty4 rfl rfl)) rfl <| OSuf.aopF tyOK rfl (zl (hv := by simp (disch := first | assumption | omega | (simp only [nx] <;> omega) | fail) only [aLoad, ty4, rowOf, hpl, y4, hb1, sb, c0, e4, rowV, Option.map_some, cond_true, Value.cells] <;> rfl)) (fun _ => rfl) (hh) <| OSuf.aopT tyOK rfl (so_not (by simp only [lk] <;> rfl)) (fun _ => rfl) rfl <| OSuf.nil <| SQ.normal ?_
          refine W.yes (by simp only [lk] <;> rfl) <| CWp.exit <| SQ.exit <| BQ.exit <| SQ.normal ?_
          refine W.reg <| OSuf.aop tyOK rfl (zb (hv := bi_w bi_add (by first | (simp only [w2] <;> rfl) | rfl))) rfl <| OSuf.aop tyOK rfl sm rfl <| OSuf.nil <| ?_
          -- leaf: round
          refine LQ.normal (m := q - 1) (L := [(0, P0 r), (1, U64 ts), (5, U64 st), (12, .slice none 0 0), (13, hv), (14, U64 n), (15, P0 (h.next + 3)), (65, .slice (some ⟨y, 0, none⟩) K.length 0), (66, I64 K.length), (67, I64 ((i + 1 : Nat) : Int))]) (by omega) ?_ ⟨i + 1, hv, n, by omega, by rw [hP1]; exact S3, fun _ => ⟨y, rfl, y1, y23, y3, y43⟩, rfl⟩
          simp only [HasA, Tr.get_put, Nat.reduceEqDiff, reduceIte, w2, and_self]
        | true =>
          rw [hh] at e4 hg3
          have hIn : inR lo [] k = true := by
            have h7 : k ∈ keysR lo [] A := by rw [← hK]; exact hkm
            exact (List.mem_filter.1 ((SortS.sortL_perm _).mem_iff.1 h7)).2
          obtain ⟨g4, hg4⟩ : ∃ g4, g4 = g3.set (h.next + 2) (.map (mkK encS (mp (fnd P) 0)) (fnd P).length) := ⟨_, rfl⟩
          have e34 : g4 = g3 := by rw [hg4]; exact AHeap.set_self S3.map
          have av4 : AVs g4 x.V (.slice ra x.V.length rc) := by
            rw [e34, hg3]
            exact avo_avs (avo_mono r2 (by simp only [nx]; omega) fun y w hy _ => by simp (disch := first | assumption | omega | (simp only [nx] <;> omega) | fail) only [hpl])
          have hvis := visible_c g4 x.V _ ts av4 (by omega) hxV.2
          have S4 := S3.del
          rw [← hg4] at S4
          have y44 : g4.get y = some (.cells (encL K) 1) := by rw [e34]; exact y43
          have n4 : g4.next = H2.next + 1 := by rw [e34]; exact n3
          have x4 : g4.get H2.next = some (.cells [encS x.key, U64 x.rts, .bool true, .slice ra x.V.length rc] 1) := by rw [e34, hg3]; exact AHeap.get_set_same _ _ _
          have S2 := S.garb r3 r4
          have m3 := S2.map
          have v3 := S2.var
          have v4 := S4.var
          cases hv9 : lastV (fun y => decide (y.ts ≤ ts)) x.V with
          | none =>
            have hn9 : hitK lo ts A k = none := by rw [hitK, hx]; simp [hitF, hh, hv9]
            rw [hn9, Option.toList_none, List.append_nil] at hP1
            rw [hv9] at hvis
            obtain ⟨g5, hg5⟩ : ∃ g5, g5 = (g4.new (.cells [U64 0, U64 0, .bool false, .string ⟨#[]⟩, .bool false] 1)).set g4.next (.cells [U64 0, U64 0, .bool false, .string ⟨#[]⟩, .bool false] 1) := ⟨_, rfl⟩
            have o5 : ∀ z, z < g4.next → g5.get z = g4.get z := fun z hz => by rw [hg5]; simp (disch := first | assumption | omega | (simp only [nx] <;> omega) | fail) only [hpl]
            have S5 := S4.garb (g' := g5) (by rw [hg5]; simp only [nx]; omega) o5
            have y53 : y < g5.next := by rw [hg5]; simp only [nx]; omega
            have y54 : g5.get y = some (.cells (encL K) 1) := by rw [o5 y (by omega)]; exact y44
            subst hg5 hg4 hg3
            refine W.seq <| W.reg <| OSuf.aopT tyOK rfl (zb (hv := bi_lss)) (fun _ => rfl) (decide_eq_true hlt) <| OSuf.nil <| SQ.normal ?_
            refine W.seq <| W.yes (by simp only [lk] <;> rfl) <| CWp.skip <| SQ.normal ?_
            refine W.seq <| W.block <| W.seq <| W.reg <| OSuf.aop tyOK rfl (zi (hv := by simp (disch := first | assumption | omega | (simp only [nx] <;> omega) | fail) only [aIndexAddr, ty85, ty9, hpl, y4, hb1, sb, c0, e4, m3, v3, v4, x4, rowV, hh, Option.getD_none, zeroV, Option.isSome_none, cond_true, Value.cells, places, tb9] <;> rfl)) rfl <| OSuf.aop tyOK rfl (zl (hv := by simp (disch := first | assumption | omega | (simp only [nx] <;> omega) | fail) only [aLoad, ty9, rowOf, hpl, y4, hb1, sb, c0, e4, m3, v3, v4, x4, rowV, hh, Option.map_some, Option.getD_none, zeroV, Option.isSome_none, cond_true, Value.cells] <;> rfl)) rfl <| OSuf.aop tyOK rfl za rfl <| OSuf.nil <| SQ.normal ?_
            refine W.seq <| W.reg <| OSuf.aop tyOK rfl sm rfl <| OSuf.aop tyOK rfl sm rfl <| OSuf.callD rfl (by simp only [aopnds, lk] <;> rfl) en8 (r1) rfl <| OSuf.aop tyOK rfl sm rfl <| OSuf.aop tyOK rfl (ze (hv := by simp (disch := first | assumption | omega | (simp only [nx] <;> omega) | fail) only [aExtract, hpl, y4, hb1, sb, c0, e4, m3, v3, v4, x4, rowV, hh, Option.getD_none, zeroV, Option.isSome_none, cond_true, Value.cells, places, tb9] <;> rfl)) rfl <| OSuf.aop tyOK rfl (ze (hv := by simp (disch := first | assumption | omega | (simp only [nx] <;> omega) | fail) only [aExtract, hpl, y4, hb1, sb, c0, e4, m3, v3, v4, x4, rowV, hh, Option.getD_none, zeroV, Option.isSome_none, cond_true, Value.cells, places, tb9] <;> rfl)) rfl <| OSuf.aop tyOK rfl (so_alloc (by simp only [aAlloc, ty36] <;> rfl)) rfl <| OSuf.aop tyOK rfl (zs (hv := by simp (disch := first | assumption | omega | (simp only [nx] <;> omega) | fail) only [aStore, ty36, writeRow, hpl, y4, hb1, sb, c0, e4, m3, v3, v4, x4, rowV, hh, Option.map_some, Option.getD_none, zeroV, Option.isSome_none, cond_true, Value.cells] <;> rfl)) rfl <| OSuf.aop tyOK rfl za rfl <| OSuf.nil <| SQ.normal ?_
            refine W.seq <| W.seq <| W.reg <| OSuf.aop tyOK rfl (zf (hv := fa_ok (k := 2) ty36 rfl rfl ty4 rfl rfl)) rfl <| OSuf.aopT tyOK rfl (zl (hv := by simp (disch := first | assumption | omega | (simp only [nx] <;> omega) | fail) only [aLoad, ty4, rowOf, hpl, y4, hb1, sb, c0, e4, m3, v3, v4, x4, rowV, hh, Option.map_some, Option.getD_none, zeroV, Option.isSome_none, cond_true, Value.cells] <;> rfl)) (fun _ => rfl) (hh) <| OSuf.aopF tyOK rfl (so_not (by simp only [lk] <;> rfl)) (fun _ => rfl) rfl <| OSuf.nil <| SQ.normal ?_
            refine W.no (by simp only [lk] <;> rfl) <| CWp.skip <| SQ.normal ?_
            refine W.seq <| W.reg <| OSuf.aop tyOK rfl (zl (hv := by simp (disch := first | assumption | omega | (simp only [nx] <;> omega) | fail) only [aLoad, ty81, rowOf, hpl, y4, hb1, sb, c0, e4, m3, v3, v4, x4, rowV, hh, Option.map_some, Option.getD_none, zeroV, Option.isSome_none, cond_true, Value.cells] <;> rfl)) rfl <| OSuf.aop tyOK rfl sm rfl <| OSuf.aop tyOK rfl (so_delete (by simp only [aopnds, lk] <;> rfl) (kd_none keyS (a := k) rfl ty81 rfl (by simp (disch := first | assumption | omega | (simp only [nx] <;> omega) | fail) only [aCells, rowOf, hpl, y4, hb1, sb, c0, e4, m3, v3, v4, x4, rowV, hh, Option.getD_none, zeroV, Option.isSome_none, cond_true, Value.cells, places, tb9] <;> rfl) hidx)) rfl <| OSuf.nil <| SQ.normal ?_
            refine W.seq <| W.reg <| OSuf.aop tyOK rfl (zf (hv := fa_ok (k := 3) ty36 rfl rfl ty34 rfl rfl)) rfl <| OSuf.aop tyOK rfl (zl (hv := by simp (disch := first | assumption | omega | (simp only [nx] <;> omega) | fail) only [aLoad, ty34, rowOf, hpl, y4, hb1, sb, c0, e4, m3, v3, v4, x4, rowV, hh, Option.map_some, Option.getD_none, zeroV, Option.isSome_none, cond_true, Value.cells] <;> rfl)) rfl <| OSuf.aop tyOK rfl sm rfl <| OSuf.callD rfl (by simp only [aopnds, lk] <;> rfl) en19 (hvis) rfl <| OSuf.aop tyOK rfl sm rfl <| OSuf.aop tyOK rfl (ze (hv := by simp (disch := first | assumption | omega | (simp only [nx] <;> omega) | fail) only [aExtract, hpl, y4, hb1, sb, c0, e4, m3, v3, v4, x4, rowV, hh, Option.getD_none, zeroV, Option.isSome_none, cond_true, Value.cells, places, tb9] <;> rfl)) rfl <| OSuf.aopF tyOK rfl (ze (hv := by simp (disch := first | assumption | omega | (simp only [nx] <;> omega) | fail) only [aExtract, hpl, y4, hb1, sb, c0, e4, m3, v3, v4, x4, rowV, hh, Option.getD_none, zeroV, Option.isSome_none, cond_true, Value.cells, places, tb9] <;> rfl)) (fun _ => rfl) (by first | rfl | assumption | ((simp only [bl, y4, hb1, sb, c0, e4, m3, v3, v4, x4, rowV, hh, Option.map_some, Option.getD_none, zeroV, Option.isSome_none, cond_true, Value.cells, places, tb9]) <;> first | done | assumption | omega) | (simp; done) | (simp; omega)) <| OSuf.aop tyOK rfl (so_alloc (by simp only [aAlloc, ty49] <;> rfl)) rfl <| OSuf.aop tyOK rfl (zs (hv := by simp (disch := first | assumption | omega | (simp only [nx] <;> omega) | fail) only [aStore, ty49, writeRow, hpl, y4, hb1, sb, c0, e4, m3, v3, v4, x4, rowV, hh, Option.map_some, Option.getD_none, zeroV, Option.isSome_none, cond_true, Value.cells] <;> rfl)) rfl <| OSuf.aopF tyOK rfl za (fun _ => rfl) rfl <| OSuf.nil <| SQ.normal ?_
            refine W.seq <| W.seq <| W.reg <| OSuf.aopF tyOK rfl sm (fun _ => rfl) rfl <| OSuf.aopT tyOK rfl (so_not (by simp only [lk] <;> rfl)) (fun _ => rfl) rfl <| OSuf.nil <| SQ.normal ?_
            refine W.yes (by simp only [lk] <;> rfl) <| CWp.exit <| SQ.exit <| BQ.exit <| SQ.normal ?_
            refine W.reg <| OSuf.aop tyOK rfl (zb (hv := bi_w bi_add (by first | (simp only [w2] <;> rfl) | rfl))) rfl <| OSuf.aop tyOK rfl sm rfl <| OSuf.nil <| ?_
            -- leaf: round
            refine LQ.normal (m := q - 1) (L := [(0, P0 r), (1, U64 ts), (5, U64 st), (12, .slice none 0 0), (13, hv), (14, U64 n), (15, P0 (h.next + 3)), (65, .slice (some ⟨y, 0, none⟩) K.length 0), (66, I64 K.length), (67, I64 ((i + 1 : Nat) : Int))]) (by omega) ?_ ⟨i + 1, hv, n, by omega, by rw [hP1]; exact S5, fun _ => ⟨y, rfl, y1, y53, y3, y54⟩, rfl⟩
            simp only [HasA, Tr.get_put, Nat.reduceEqDiff, reduceIte, w2, and_self]
          | some w =>
            have hn9 : hitK lo ts A k = some (k, w) := by rw [hitK, hx]; simp [hitF, hh, hv9, xk, hIn]
            rw [hn9, Option.toList_some] at hP1
            rw [hv9] at hvis
            obtain ⟨d, hd⟩ : ∃ d, d = lookD w ts st := ⟨_, rfl⟩
            have hlk := fun G : AHeap => look_c G w ts st
            rw [← hd] at hlk
            have e5 : cellsOf [U64 w.ts, U64 w.lsn, .bool w.del, .string w.val, .bool w.acked] 0 5 = some [U64 w.ts, U64 w.lsn, .bool w.del, .string w.val, .bool w.acked] := rfl
            obtain ⟨g5, hg5⟩ : ∃ g5, g5 = (g4.new (.cells [U64 0, U64 0, .bool false, .string ⟨#[]⟩, .bool false] 1)).set g4.next (.cells [U64 w.ts, U64 w.lsn, .bool w.del, .string w.val, .bool w.acked] 1) := ⟨_, rfl⟩
            have o5 : ∀ z, z < g4.next → g5.get z = g4.get z := fun z hz => by rw [hg5]; simp (disch := first | assumption | omega | (simp only [nx] <;> omega) | fail) only [hpl]
            have n5 : g5.next = H2.next + 2 := by rw [hg5]; simp only [nx]; omega
            obtain ⟨g6, hg6⟩ : ∃ g6, g6 = (g5.new (.cells [.bool false, I64 0, .bool false, .string ⟨#[]⟩, U64 0, U64 0, U64 0] 1)).set g5.next (.cells [.bool d.fetch, I64 d.err, .bool d.found, .string d.val, U64 d.hang, U64 d.need, U64 d.over] 1) := ⟨_, rfl⟩
            have o6 : ∀ z, z < g5.next → g6.get z = g5.get z := fun z hz => by rw [hg6]; simp (disch := first | assumption | omega | (simp only [nx] <;> omega) | fail) only [hpl]
            have n6 : g6.next = H2.next + 3 := by rw [hg6]; simp only [nx]; omega
            have S5 := S4.garb (g' := g5) (by omega) o5
            have S6 := S5.garb (g' := g6) (by omega) o6
            have y64 : g6.get y = some (.cells (encL K) 1) := by rw [o6 y (by omega), o5 y (by omega)]; exact y44
            have d6 : g6.get (H2.next + 2) = some (.cells [.bool d.fetch, I64 d.err, .bool d.found, .string d.val, U64 d.hang, U64 d.need, U64 d.over] 1) := by rw [hg6, n5]; exact AHeap.get_set_same _ _ _
            have x5 : g5.get g4.next = some (.cells [U64 w.ts, U64 w.lsn, .bool w.del, .string w.val, .bool w.acked] 1) := by rw [hg5]; exact AHeap.get_set_same _ _ _
            have z1 : y < g6.next := by omega
            have z2 : H2.next + 3 ≤ g6.next := by omega
            subst hg6 hg5 hg4 hg3
            refine W.seq <| W.reg <| OSuf.aopT tyOK rfl (zb (hv := bi_lss)) (fun _ => rfl) (decide_eq_true hlt) <| OSuf.nil <| SQ.normal ?_
            refine W.seq <| W.yes (by simp only [lk] <;> rfl) <| CWp.skip <| SQ.normal ?_
            refine W.seq <| W.block <| W.seq <| W.reg <| OSuf.aop tyOK rfl (zi (hv := by simp (disch := first | assumption | omega | (simp only [nx] <;> omega) | fail) only [aIndexAddr, ty85, ty9, hpl, y4, hb1, sb, c0, e4, e5, m3, v3, v4, x4, x5, rowV, hh, aggD, Option.getD_some, Option.isSome_some, cond_true, Value.cells, places, tb9] <;> rfl)) rfl <| OSuf.aop tyOK rfl (zl (hv := by simp (disch := first | assumption | omega | (simp only [nx] <;> omega) | fail) only [aLoad, ty9, rowOf, hpl, y4, hb1, sb, c0, e4, e5, m3, v3, v4, x4, x5, rowV, hh, aggD, Option.map_some, Option.getD_some, Option.isSome_some, cond_true, Value.cells] <;> rfl)) rfl <| OSuf.aop tyOK rfl za rfl <| OSuf.nil <| SQ.normal ?_
            refine W.seq <| W.reg <| OSuf.aop tyOK rfl sm rfl <| OSuf.aop tyOK rfl sm rfl <| OSuf.callD rfl (by simp only [aopnds, lk] <;> rfl) en8 (r1) rfl <| OSuf.aop tyOK rfl sm rfl <| OSuf.aop tyOK rfl (ze (hv := by simp (disch := first | assumption | omega | (simp only [nx] <;> omega) | fail) only [aExtract, hpl, y4, hb1, sb, c0, e4, e5, m3, v3, v4, x4, x5, rowV, hh, aggD, Option.getD_some, Option.isSome_some, cond_true, Value.cells, places, tb9] <;> rfl)) rfl <| OSuf.aop tyOK rfl (ze (hv := by simp (disch := first | assumption | omega | (simp only [nx] <;> omega) | fail) only [aExtract, hpl, y4, hb1, sb, c0, e4, e5, m3, v3, v4, x4, x5, rowV, hh, aggD, Option.getD_some, Option.isSome_some, cond_true, Value.cells, places, tb9] <;> rfl)) rfl <| OSuf.aop tyOK rfl (so_alloc (by simp only [aAlloc, ty36] <;> rfl)) rfl <| OSuf.aop tyOK rfl (zs (hv := by simp (disch := first | assumption | omega | (simp only [nx] <;> omega) | fail) only [aStore, ty36, writeRow, hpl, y4, hb1, sb, c0, e4, e5, m3, v3, v4, x4, x5, rowV, hh, aggD, Option.map_some, Option.getD_some, Option.isSome_some, cond_true, Value.cells] <;> rfl)) rfl <| OSuf.aop tyOK rfl za rfl <| OSuf.nil <| SQ.normal ?_
            refine W.seq <| W.seq <| W.reg <| OSuf.aop tyOK rfl (zf (hv := fa_ok (k := 2) ty36 rfl rfl ty4 rfl rfl)) rfl <| OSuf.aopT tyOK rfl (zl (hv := by simp (disch := first | assumption | omega | (simp only [nx] <;> omega) | fail) only [aLoad, ty4, rowOf, hpl, y4, hb1, sb, c0, e4, e5, m3, v3, v4, x4, x5, rowV, hh, aggD, Option.map_some, Option.getD_some, Option.isSome_some, cond_true, Value.cells] <;> rfl)) (fun _ => rfl) (hh) <| OSuf.aopF tyOK rfl (so_not (by simp only [lk] <;> rfl)) (fun _ => rfl) rfl <| OSuf.nil <| SQ.normal ?_
            refine W.no (by simp only [lk] <;> rfl) <| CWp.skip <| SQ.normal ?_
            refine W.seq <| W.reg <| OSuf.aop tyOK rfl (zl (hv := by simp (disch := first | assumption | omega | (simp only [nx] <;> omega) | fail) only [aLoad, ty81, rowOf, hpl, y4, hb1, sb, c0, e4, e5, m3, v3, v4, x4, x5, rowV, hh, aggD, Option.map_some, Option.getD_some, Option.isSome_some, cond_true, Value.cells] <;> rfl)) rfl <| OSuf.aop tyOK rfl sm rfl <| OSuf.aop tyOK rfl (so_delete (by simp only [aopnds, lk] <;> rfl) (kd_none keyS (a := k) rfl ty81 rfl (by simp (disch := first | assumption | omega | (simp only [nx] <;> omega) | fail) only [aCells, rowOf, hpl, y4, hb1, sb, c0, e4, e5, m3, v3, v4, x4, x5, rowV, hh, aggD, Option.getD_some, Option.isSome_some, cond_true, Value.cells, places, tb9] <;> rfl) hidx)) rfl <| OSuf.nil <| SQ.normal ?_
            refine W.seq <| W.reg <| OSuf.aop tyOK rfl (zf (hv := fa_ok (k := 3) ty36 rfl rfl ty34 rfl rfl)) rfl <| OSuf.aop tyOK rfl (zl (hv := by simp (disch := first | assumption | omega | (simp only [nx] <;> omega) | fail) only [aLoad, ty34, rowOf, hpl, y4, hb1, sb, c0, e4, e5, m3, v3, v4, x4, x5, rowV, hh, aggD, Option.map_some, Option.getD_some, Option.isSome_some, cond_true, Value.cells] <;> rfl)) rfl <| OSuf.aop tyOK rfl sm rfl <| OSuf.callD rfl (by simp only [aopnds, lk] <;> rfl) en19 (hvis) rfl <| OSuf.aop tyOK rfl sm rfl <| OSuf.aop tyOK rfl (ze (hv := by simp (disch := first | assumption | omega | (simp only [nx] <;> omega) | fail) only [aExtract, hpl, y4, hb1, sb, c0, e4, e5, m3, v3, v4, x4, x5, rowV, hh, aggD, Option.getD_some, Option.isSome_some, cond_true, Value.cells, places, tb9] <;> rfl)) rfl <| OSuf.aopT tyOK rfl (ze (hv := by simp (disch := first | assumption | omega | (simp only [nx] <;> omega) | fail) only [aExtract, hpl, y4, hb1, sb, c0, e4, e5, m3, v3, v4, x4, x5, rowV, hh, aggD, Option.getD_some, Option.isSome_some, cond_true, Value.cells, places, tb9] <;> rfl)) (fun _ => rfl) (by first | rfl | assumption | ((simp only [bl, y4, hb1, sb, c0, e4, e5, m3, v3, v4, x4, x5, rowV, hh, aggD, Option.map_some, Option.getD_some, Option.isSome_some, cond_true, Value.cells, places, tb9]) <;> first | done | assumption | omega) | (simp; done) | (simp; omega)) <| OSuf.aop tyOK rfl (so_alloc (by simp only [aAlloc, ty49] <;> rfl)) rfl <| OSuf.aop tyOK rfl (zs (hv := by simp (disch := first | assumption | omega | (simp only [nx] <;> omega) | fail) only [aStore, ty49, writeRow, hpl, y4, hb1, sb, c0, e4, e5, m3, v3, v4, x4, x5, rowV, hh, aggD, Option.map_some, Option.getD_some, Option.isSome_some, cond_true, Value.cells] <;> rfl)) rfl <| OSuf.aopT tyOK rfl za (fun _ => rfl) rfl <| OSuf.nil <| SQ.normal ?_
            refine W.seq <| W.seq <| W.reg <| OSuf.aopT tyOK rfl sm (fun _ => rfl) rfl <| OSuf.aopF tyOK rfl (so_not (by simp only [lk] <;> rfl)) (fun _ => rfl) rfl <| OSuf.nil <| SQ.normal ?_
            refine W.no (by simp only [lk] <;> rfl) <| CWp.skip <| SQ.normal ?_
            refine W.seq <| W.reg <| OSuf.aop tyOK rfl (zl (hv := by simp (disch := first | assumption | omega | (simp only [nx] <;> omega) | fail) only [aLoad, ty49, rowOf, hpl, y4, hb1, sb, c0, e4, e5, m3, v3, v4, x4, x5, rowV, hh, aggD, Option.map_some, Option.getD_some, Option.isSome_some, cond_true, Value.cells] <;> rfl)) rfl <| OSuf.aop tyOK rfl sm rfl <| OSuf.aop tyOK rfl sm rfl <| OSuf.callD rfl (by simp only [aopnds, lk] <;> rfl) en20 (hlk _) rfl <| OSuf.aop tyOK rfl (so_alloc (by simp only [aAlloc, ty29] <;> rfl)) rfl <| OSuf.aop tyOK rfl (zs (hv := by simp (disch := first | assumption | omega | (simp only [nx] <;> omega) | fail) only [aStore, ty29, writeRow, hpl, y4, hb1, sb, c0, e4, e5, m3, v3, v4, x4, x5, rowV, hh, aggD, Option.map_some, Option.getD_some, Option.isSome_some, cond_true, Value.cells] <;> rfl)) rfl <| OSuf.nil <| SQ.normal ?_
            refine W.seq <| W.reg <| OSuf.aop tyOK rfl sm rfl <| OSuf.aop tyOK rfl (zf (hv := fa_ok (k := 5) ty29 rfl rfl ty27 rfl rfl)) rfl <| OSuf.aop tyOK rfl (zl (hv := by simp (disch := first | assumption | omega | (simp only [nx] <;> omega) | fail) only [aLoad, ty27, rowOf, hpl, y4, hb1, sb, c0, e4, e5, m3, v3, v4, x4, x5, rowV, hh, aggD, Option.map_some, Option.getD_some, Option.isSome_some, cond_true, Value.cells] <;> rfl)) rfl <| OSuf.aop tyOK rfl (so_max (by simp only [aopnds, lk] <;> rfl)) rfl <| OSuf.aop tyOK rfl za rfl <| OSuf.nil <| SQ.normal ?_
            refine W.seq <| ?_
            -- leaf: upto
            have hPl : P.length ≤ 12 := by
              rw [hP]
              have h1 := List.length_filterMap_le (hitK lo ts A) (K.take i)
              have h2 := List.length_take_le i K
              have h3 : (K.take i).length ≤ K.length := by rw [List.length_take]; omega
              omega
            have hhl : (hgs ts P).length ≤ 12 := by
              have h1 := List.length_filter_le (fun n : Int => decide (n > 0)) (P.map fun p => hangV p.2 ts)
              rw [List.length_map] at h1
              show ((P.map fun p => hangV p.2 ts).filter _).length ≤ 12
              omega
            have hdh : d.hang = hangV w ts := by rw [hd]; rfl
            obtain ⟨Q, hQ⟩ : ∃ Q, Q = hgs ts (P ++ [(k, w)]) := ⟨_, rfl⟩
            refine W.cut (fun L g' => ∃ hv', ScI h g' (fnd P) Q hv' ∧ g'.get (H2.next + 2) = some (.cells [.bool d.fetch, I64 d.err, .bool d.found, .string d.val, U64 d.hang, U64 d.need, U64 d.over] 1) ∧ y < g'.next ∧ ¬ svRow hv' = some y ∧ g'.get y = some (.cells (encL K) 1) ∧ H2.next + 3 ≤ g'.next ∧ L = [(0, P0 r), (1, U64 ts), (5, U64 st), (12, .slice none 0 0), (13, hv'), (14, U64 (if d.need > n then d.need else n)), (15, P0 (h.next + 3)), (19, encS k), (24, P0 (H2.next + 2)), (65, .slice (some ⟨y, 0, none⟩) K.length 0), (66, I64 K.length), (67, I64 i)]) ?_ ?_
            · by_cases hg0 : d.hang > 0
              · rw [hgs_snoc, if_pos (by show hangV w ts > 0; rw [← hdh]; exact hg0)] at hQ
                obtain ⟨v', H7, a1, S7, n7, o7, y7⟩ := S6.hang (by omega) d.hang
                have hdr : ¬ svRow hv = some (H2.next + 2) := fun e => by
                  have := (S.sv.row e).2.1
                  omega
                have S7' : ScI h H7 (fnd P) Q v' := by rw [hQ]; show ScI h H7 (fnd P) (hgs ts P ++ [hangV w ts]) v'; rw [← hdh]; exact S7
                have d7 := (o7 _ (by omega) hdr).trans d6
                have y74 := (o7 y (by omega) y3).trans y64
                have y75 := y7 y (by omega)
                have z3 : y < H7.next := by omega
                have z4 : H2.next + 3 ≤ H7.next := by omega
                refine W.seq <| W.reg <| OSuf.aop tyOK rfl (zf (hv := fa_ok (k := 4) ty29 rfl rfl ty27 rfl rfl)) rfl <| OSuf.aop tyOK rfl (zl (hv := by simp (disch := first | assumption | omega | (simp only [nx] <;> omega) | fail) only [aLoad, ty27, rowOf, hpl, d6, Option.map_some, cond_true, Value.cells] <;> rfl)) rfl <| OSuf.aopT tyOK rfl (zb (hv := bi_gtr)) (fun _ => rfl) (decide_eq_true hg0) <| OSuf.nil <| SQ.normal ?_
                refine W.yes (by simp only [lk] <;> rfl) <| W.reg <| OSuf.aop tyOK rfl sm rfl <| OSuf.aop tyOK rfl (zf (hv := fa_ok (k := 4) ty29 rfl rfl ty27 rfl rfl)) rfl <| OSuf.aop tyOK rfl (zl (hv := by simp (disch := first | assumption | omega | (simp only [nx] <;> omega) | fail) only [aLoad, ty27, rowOf, hpl, d6, Option.map_some, cond_true, Value.cells] <;> rfl)) rfl <| OSuf.aop tyOK rfl (so_buildSlice (by simp only [aparts, lk] <;> rfl) (by simp only [aBuildSlice, ty40, ty27, d6, cond_true, Value.cells, places, tb9] <;> rfl)) rfl <| OSuf.aop tyOK rfl (so_append (by simp only [aopnds, lk] <;> rfl) (a1 _ _ (by simp only [appT, ty40, ty27] <;> rfl) rfl (by decide))) rfl <| OSuf.aop tyOK rfl za rfl <| OSuf.nil <| ?_
                -- leaf: cut
                refine NQ.normal (L := [(0, P0 r), (1, U64 ts), (5, U64 st), (12, .slice none 0 0), (13, v'), (14, U64 (if d.need > n then d.need else n)), (15, P0 (h.next + 3)), (19, encS k), (24, P0 (H2.next + 2)), (65, .slice (some ⟨y, 0, none⟩) K.length 0), (66, I64 K.length), (67, I64 i)]) ?_ ⟨v', S7', d7, z3, y75, y74, z4, rfl⟩
                simp only [HasA, Tr.get_put, Nat.reduceEqDiff, reduceIte, and_self] <;> first | done | trivial | exact ⟨rfl, trivial⟩ | exact ⟨rfl, rfl, trivial⟩ | exact ⟨rfl, rfl, rfl, trivial⟩
              · rw [hgs_snoc, if_neg (by show ¬ hangV w ts > 0; rw [← hdh]; exact hg0)] at hQ
                subst hQ
                refine W.seq <| W.reg <| OSuf.aop tyOK rfl (zf (hv := fa_ok (k := 4) ty29 rfl rfl ty27 rfl rfl)) rfl <| OSuf.aop tyOK rfl (zl (hv := by simp (disch := first | assumption | omega | (simp only [nx] <;> omega) | fail) only [aLoad, ty27, rowOf, hpl, d6, Option.map_some, cond_true, Value.cells] <;> rfl)) rfl <| OSuf.aopF tyOK rfl (zb (hv := bi_gtr)) (fun _ => rfl) (decide_eq_false hg0) <| OSuf.nil <| SQ.normal ?_
                refine W.no (by simp only [lk] <;> rfl) <| CWp.skip <| ?_
                -- leaf: cut
                refine NQ.normal (L := [(0, P0 r), (1, U64 ts), (5, U64 st), (12, .slice none 0 0), (13, hv), (14, U64 (if d.need > n then d.need else n)), (15, P0 (h.next + 3)), (19, encS k), (24, P0 (H2.next + 2)), (65, .slice (some ⟨y, 0, none⟩) K.length 0), (66, I64 K.length), (67, I64 i)]) ?_ ⟨hv, S6, d6, z1, y3, y64, z2, rfl⟩
                simp only [HasA, Tr.get_put, Nat.reduceEqDiff, reduceIte, and_self] <;> first | done | trivial | exact ⟨rfl, trivial⟩ | exact ⟨rfl, rfl, trivial⟩ | exact ⟨rfl, rfl, rfl, trivial⟩
            clear S6 d6 y64 z1 z2
            rintro L a9 g7 ha9 ⟨hv', S7, d7, z1, z2, y74, z4, rfl⟩
            have ha := ha9
            have hdf : d.found = !w.del := by rw [hd]; rfl
            have hdv : d.val = w.val := by rw [hd]; rfl
            rw [hdf, hdv] at d7
            have v7 := S7.var
            have m7 := S7.map
            have hn7 := S7.next
            have hfs := fnd_snoc P (k, w)
            cases hdl : w.del with
            | true =>
              rw [hdl] at d7
              simp only [hdl, if_true] at hfs
              refine SQ.normal <| CWp.known ha ?_
              simp only [mkA]
              refine W.seq <| W.reg <| OSuf.aop tyOK rfl (zf (hv := fa_ok (k := 2) ty29 rfl rfl ty4 rfl rfl)) rfl <| OSuf.aopF tyOK rfl (zl (hv := by simp (disch := first | assumption | omega | (simp only [nx] <;> omega) | fail) only [aLoad, ty4, rowOf, hpl, d7, Bool.not_true, Option.map_some, cond_true, Value.cells] <;> rfl)) (fun _ => rfl) (by first | rfl | assumption | ((simp only [bl, d7, Bool.not_true, Option.map_some, cond_true, Value.cells, places, tb9]) <;> first | done | assumption | omega) | (simp; done) | (simp; omega)) <| OSuf.nil <| SQ.normal ?_
              refine W.no (by simp only [lk] <;> rfl) <| CWp.skip <| BQ.normal <| SQ.normal ?_
              refine W.reg <| OSuf.aop tyOK rfl (zb (hv := bi_w bi_add (by first | (simp only [w2] <;> rfl) | rfl))) rfl <| OSuf.aop tyOK rfl sm rfl <| OSuf.nil <| ?_
              -- leaf: round
              refine LQ.normal (m := q - 1) (L := [(0, P0 r), (1, U64 ts), (5, U64 st), (12, .slice none 0 0), (13, hv'), (14, U64 (if d.need > n then d.need else n)), (15, P0 (h.next + 3)), (65, .slice (some ⟨y, 0, none⟩) K.length 0), (66, I64 K.length), (67, I64 ((i + 1 : Nat) : Int))]) (by omega) ?_ ⟨i + 1, hv', (if d.need > n then d.need else n), by omega, by rw [hP1, hfs, ← hQ]; exact S7, fun _ => ⟨y, rfl, y1, z1, z2, y74⟩, rfl⟩
              simp only [HasA, Tr.get_put, Nat.reduceEqDiff, reduceIte, w2, and_self]
            | false =>
              rw [hdl] at d7
              simp only [hdl, Bool.false_eq_true, if_false] at hfs
              have S8 := S7.put (k, w)
              have y84 : (g7.set (h.next + 2) (.map (mkK encS (mp (fnd P) 0 ++ [((k, w).1, pv (k, w), (fnd P).length)])) ((fnd P).length + 1))).get y = some (.cells (encL K) 1) := by rw [AHeap.get_set_ne (by omega)]; exact y74
              refine SQ.normal <| CWp.known ha ?_
              simp only [mkA]
              refine W.seq <| W.reg <| OSuf.aop tyOK rfl (zf (hv := fa_ok (k := 2) ty29 rfl rfl ty4 rfl rfl)) rfl <| OSuf.aopT tyOK rfl (zl (hv := by simp (disch := first | assumption | omega | (simp only [nx] <;> omega) | fail) only [aLoad, ty4, rowOf, hpl, d7, v7, Bool.not_false, Option.map_some, cond_true, Value.cells] <;> rfl)) (fun _ => rfl) (by first | rfl | assumption | ((simp only [bl, d7, v7, Bool.not_false, Option.map_some, cond_true, Value.cells, places, tb9]) <;> first | done | assumption | omega) | (simp; done) | (simp; omega)) <| OSuf.nil <| SQ.normal ?_
              refine W.yes (by simp only [lk] <;> rfl) <| W.reg <| OSuf.aop tyOK rfl (zl (hv := by simp (disch := first | assumption | omega | (simp only [nx] <;> omega) | fail) only [aLoad, ty81, rowOf, hpl, d7, v7, Bool.not_false, Option.map_some, cond_true, Value.cells] <;> rfl)) rfl <| OSuf.aop tyOK rfl sm rfl <| OSuf.aop tyOK rfl sm rfl <| OSuf.aop tyOK rfl (zf (hv := fa_ok (k := 3) ty29 rfl rfl ty9 rfl rfl)) rfl <| OSuf.aop tyOK rfl (zl (hv := by simp (disch := first | assumption | omega | (simp only [nx] <;> omega) | fail) only [aLoad, ty9, rowOf, hpl, d7, v7, Bool.not_false, Option.map_some, cond_true, Value.cells] <;> rfl)) rfl <| OSuf.aop tyOK rfl (so_build (by simp only [aparts, lk] <;> rfl) (by simp only [aBuild, ty45, d7, v7, Bool.not_false, cond_true, Value.cells, places, tb9] <;> rfl)) rfl <| OSuf.aop tyOK rfl (so_mapUpdate (by simp only [lk] <;> rfl) (by simp only [lk] <;> rfl) (by simp only [lk] <;> rfl) (ku_new keyS (a := k) ty81 rfl m7 hidx)) rfl <| OSuf.nil <| BQ.normal <| SQ.normal ?_
              refine W.reg <| OSuf.aop tyOK rfl (zb (hv := bi_w bi_add (by first | (simp only [w2] <;> rfl) | rfl))) rfl <| OSuf.aop tyOK rfl sm rfl <| OSuf.nil <| ?_
              -- leaf: round
              refine LQ.normal (m := q - 1) (L := [(0, P0 r), (1, U64 ts), (5, U64 st), (12, .slice none 0 0), (13, hv'), (14, U64 (if d.need > n then d.need else n)), (15, P0 (h.next + 3)), (65, .slice (some ⟨y, 0, none⟩) K.length 0), (66, I64 K.length), (67, I64 ((i + 1 : Nat) : Int))]) (by omega) ?_ ⟨i + 1, hv', (if d.need > n then d.need else n), by omega, by rw [hP1, hfs, ← hQ]; exact S8, fun _ => ⟨y, rfl, y1, z1, z2, y84⟩, rfl⟩
              simp only [HasA, Tr.get_put, Nat.reduceEqDiff, reduceIte, w2, and_self]
      · have hiK : K.length ≤ i := by omega
        rw [List.take_of_length_le hiK] at S
        refine W.seq <| W.reg <| OSuf.aopF tyOK rfl (zb (hv := bi_lss)) (fun _ => rfl) (decide_eq_false hlt) <| OSuf.nil <| SQ.normal ?_
        refine W.seq <| W.no (by simp only [lk] <;> rfl) <| CWp.exit <| SQ.exit <| LQ.exit <| BQ.exit <| ?_
        -- leaf: cut
        refine NQ.normal (L := [(12, .slice none 0 0), (13, hv), (14, U64 n), (15, P0 (h.next + 3))]) ?_ ⟨hv, n, S, rfl⟩
        simp only [HasA, Tr.get_put, Nat.reduceEqDiff, reduceIte, and_self]
  rintro L a2 g2 ha2 ⟨hv, n, S, rfl⟩
  have ha := ha2
  have hKs : K.filterMap (hitK lo ts A) = scanL lo ts A := by rw [hK]; rfl
  rw [hKs] at S
  have hsk := scanL_sorted lo ts A
  have hsn : ((scanL lo ts A).map Prod.fst).Nodup := ((scanL_perm hB.nodup).map Prod.fst).nodup_iff.2 ((hits_sub A).nodup hB.nodup)
  have hsl : (scanL lo ts A).length ≤ 12 := by
    rw [← hKs]
    have := List.length_filterMap_le (hitK lo ts A) K
    omega
  obtain ⟨P, hP⟩ : ∃ P, P = scanL lo ts A := ⟨_, rfl⟩
  rw [← hP] at S hsk hsn hsl ⊢
  obtain ⟨F, hF⟩ : ∃ F, F = fnd P := ⟨_, rfl⟩
  rw [← hF] at S ⊢
  have hsub : List.Sublist (F.map Prod.fst) (P.map Prod.fst) := by rw [hF, fnd]; exact List.filter_sublist.map _
  have hFk := hsk.sublist hsub
  have hFn := hsub.nodup hsn
  have hFl : F.length ≤ 12 := by have := hsub.length_le; rw [List.length_map, List.length_map] at this; omega
  have hn2 := S.next
  have v2 := S.var
  have m2 := S.map
  obtain ⟨sb, H3, s1, s2, s3, s4⟩ : ∃ sb H3, FWp Tryz.prog 34 [.func (.func 62) #[] #[P0 g2.next]] (g2.new (.cells [.map (some (h.next + 2))] 1)) (fun u h' => u = .slice sb F.length 0 ∧ h' = H3) ∧ g2.next ≤ H3.next ∧ (∀ z, z < g2.next → H3.get z = g2.get z) ∧ (F ≠ [] → ∃ y, sb = some ⟨y, 0, none⟩ ∧ y < H3.next ∧ H3.get y = some (.cells (encL (F.map Prod.fst)) 1)) := by
    have hsc := SortS.KP.sorted_c (g2.new (.cells [.map (some (h.next + 2))] 1)) g2.next (h.next + 2) F.length (mp F 0) (F.map Prod.fst) (mp_ok F) (by simp) (by simp only [nx]; omega) (AHeap.get_new_same _ _) (by rw [AHeap.get_new_ne (by omega)]; exact m2) (by rw [mp_length]; omega) (by rw [mp_keys]) hFk
    by_cases hFe : F = []
    · refine ⟨none, g2.new (.cells [.map (some (h.next + 2))] 1), hsc.mono ?_, by simp, fun z hz => AHeap.get_new_ne (by omega), fun h9 => absurd hFe h9⟩
      rintro u h' (⟨_, h8, h9⟩ | ⟨h7, _⟩)
      · rw [hFe]; exact ⟨h8, h9⟩
      · exact absurd (by rw [hFe]; rfl) h7
    · refine ⟨some ⟨(g2.new (.cells [.map (some (h.next + 2))] 1)).next, 0, none⟩, (g2.new (.cells [.map (some (h.next + 2))] 1)).new (.cells (encL (F.map Prod.fst)) 1), hsc.mono ?_, by simp only [nx]; omega, fun z hz => by simp (disch := first | assumption | omega | (simp only [nx] <;> omega) | fail) only [hpl], fun _ => ⟨_, rfl, by simp, AHeap.get_new_same _ _⟩⟩
      rintro u h' (⟨h7, _⟩ | ⟨_, h8, h9⟩)
      · exact absurd (List.map_eq_nil_iff.1 h7) hFe
      · rw [List.length_map] at h8; exact ⟨h8, h9⟩
  have S3 := S.garb s2 s3
  refine SQ.normal <| CWp.known ha ?_
  simp only [mkA]
  refine W.seq <| W.seq <| W.reg <| OSuf.aop tyOK rfl (zl (hv := by simp (disch := first | assumption | omega | (simp only [nx] <;> omega) | fail) only [aLoad, ty81, rowOf, hpl, v2, Value.cells] <;> rfl)) rfl <| OSuf.callD rfl (by simp only [aopnds, lk] <;> rfl) en35 (SortS.KP.keys_c _ _) rfl <| OSuf.callD rfl (by simp only [aopnds, lk] <;> rfl) en34 (s1) rfl <| OSuf.aop tyOK rfl (so_len (by simp only [aopnds, lk] <;> rfl) (by simp (disch := first | assumption | omega | (simp only [nx] <;> omega) | fail) only [aLenOf, ty85, hpl, v2, Value.cells, places, tb9] <;> rfl)) rfl <| OSuf.aop tyOK rfl sm rfl <| OSuf.nil <| SQ.normal ?_
  -- leaf: loop
  refine W.cut (fun L g' => ∃ pr, SV g' 2 H3.next (flatPr F) pr ∧ H3.next ≤ g'.next ∧ (∀ z, z < H3.next → g'.get z = H3.get z) ∧ L = [(12, pr), (13, hv), (14, U64 n)]) (W.block (W.loop (fun q L g' => ∃ (j : Nat) (pr : Value), q + j = F.length ∧ SV g' 2 H3.next (flatPr (F.take j)) pr ∧ H3.next ≤ g'.next ∧ (∀ z, z < H3.next → g'.get z = H3.get z) ∧ L = [(12, pr), (13, hv), (14, U64 n), (15, P0 (h.next + 3)), (118, .slice sb F.length 0), (119, I64 F.length), (120, I64 j)]) (n := F.length) ⟨0, .slice none 0 0, by omega, .nil, Nat.le_refl _, fun _ _ => rfl, rfl⟩ ?_ ?_)) ?_
  · simp [HasA, Tr.get_put]
  · rintro q L g4 ⟨j, pr, hq, Sp, hn4, ho4, rfl⟩
    simp only [mkA]
    have w2 : IntKind.i64.wrap ((j : Int) + 1) = ((j + 1 : Nat) : Int) := by rw [wrap_i64 (by omega) (by omega)]; omega
    by_cases hlt2 : (j : Int) < (F.length : Int)
    · obtain ⟨p, hp⟩ : ∃ p, F[j]? = some p := ⟨F[j]'(by omega), by simp⟩
      obtain ⟨y, rfl, y1, y2⟩ := s4 (fun e => by rw [e] at hp; simp at hp)
      have hb1 : (0 ≤ (j : Int) ∧ (j : Int) < (F.length : Int)) := by omega
      have c0 : (encL (F.map Prod.fst))[j]? = some (encS p.1) := by rw [encL, List.getElem?_map, List.getElem?_map, hp]; rfl
      have S4 := S3.garb hn4 ho4
      have hnx4 := S4.next
      have v4 := S4.var
      have m4 := S4.map
      have y4 : g4.get y = some (.cells (encL (F.map Prod.fst)) 1) := by rw [ho4 y y1]; exact y2
      have hi9 : idxK p.1 (mp F 0) 0 = some (0 + j, pv p) := mp_at hFn hp
      obtain ⟨v', H5, a1, a2, a3, a4⟩ := pr_step Sp (by rw [List.length_take]; omega) hn4 p
      have htk : F.take (j + 1) = F.take j ++ [p] := by rw [List.take_add_one, hp]; rfl
      refine W.seq <| W.reg <| OSuf.aopT tyOK rfl (zb (hv := bi_lss)) (fun _ => rfl) (decide_eq_true hlt2) <| OSuf.nil <| SQ.normal ?_
      refine W.seq <| W.yes (by simp only [lk] <;> rfl) <| CWp.skip <| SQ.normal ?_
      refine W.seq <| W.block <| W.seq <| W.reg <| OSuf.aop tyOK rfl (zi (hv := by simp (disch := first | assumption | omega | (simp only [nx] <;> omega) | fail) only [aIndexAddr, ty85, ty9, hpl, y4, hb1, sb, c0, v4, pv, cond_false, cond_true, Value.cells, places, tb9] <;> rfl)) rfl <| OSuf.aop tyOK rfl (zl (hv := by simp (disch := first | assumption | omega | (simp only [nx] <;> omega) | fail) only [aLoad, ty9, rowOf, hpl, y4, hb1, sb, c0, v4, pv, cond_false, Option.map_some, cond_true, Value.cells] <;> rfl)) rfl <| OSuf.aop tyOK rfl za rfl <| OSuf.nil <| SQ.normal ?_
      refine W.reg <| OSuf.aop tyOK rfl sm rfl <| OSuf.aop tyOK rfl (zl (hv := by simp (disch := first | assumption | omega | (simp only [nx] <;> omega) | fail) only [aLoad, ty81, rowOf, hpl, y4, hb1, sb, c0, v4, pv, cond_false, Option.map_some, cond_true, Value.cells] <;> rfl)) rfl <| OSuf.aop tyOK rfl sm rfl <| OSuf.aop tyOK rfl (so_lookup (by simp only [lk] <;> rfl) (by simp only [lk] <;> rfl) (kl_some keyS (a := p.1) ty81 rfl m4 hi9)) rfl <| OSuf.aop tyOK rfl (so_buildSlice (by simp only [aparts, lk] <;> rfl) (by simp only [aBuildSlice, ty39, ty45, y4, hb1, sb, c0, v4, pv, cond_false, cond_true, Value.cells, places, tb9] <;> rfl)) rfl <| OSuf.aop tyOK rfl (so_append (by simp only [aopnds, lk] <;> rfl) (a1 _ _ (by simp only [appT, ty39, ty45] <;> rfl) rfl (by decide))) rfl <| OSuf.aop tyOK rfl za rfl <| OSuf.nil <| BQ.normal <| SQ.normal ?_
      refine W.reg <| OSuf.aop tyOK rfl (zb (hv := bi_w bi_add (by first | (simp only [w2] <;> rfl) | rfl))) rfl <| OSuf.aop tyOK rfl sm rfl <| OSuf.nil <| ?_
      -- leaf: round
      refine LQ.normal (m := q - 1) (L := [(12, v'), (13, hv), (14, U64 n), (15, P0 (h.next + 3)), (118, .slice (some ⟨y, 0, none⟩) F.length 0), (119, I64 F.length), (120, I64 ((j + 1 : Nat) : Int))]) (by omega) ?_ ⟨j + 1, v', by omega, by rw [htk]; exact a2, by omega, fun z hz => by rw [a4 z hz]; exact ho4 z hz, rfl⟩
      simp only [HasA, Tr.get_put, Nat.reduceEqDiff, reduceIte, w2, and_self]
    · have hjF : F.length ≤ j := by omega
      rw [List.take_of_length_le hjF] at Sp
      refine W.seq <| W.reg <| OSuf.aopF tyOK rfl (zb (hv := bi_lss)) (fun _ => rfl) (decide_eq_false hlt2) <| OSuf.nil <| SQ.normal ?_
      refine W.seq <| W.no (by simp only [lk] <;> rfl) <| CWp.exit <| SQ.exit <| LQ.exit <| BQ.exit <| ?_
      -- leaf: cut
      refine NQ.normal (L := [(12, pr), (13, hv), (14, U64 n)]) ?_ ⟨pr, Sp, hn4, ho4, rfl⟩
      simp only [HasA, Tr.get_put, Nat.reduceEqDiff, reduceIte, and_self]
  clear ha
  rintro L a5 g5 ha5 ⟨pr, Sp, hn5, ho5, rfl⟩
  have ha := ha5
  have S5 := S3.garb hn5 ho5
  have hnx5 := S5.next
  have hpr : ∀ H : AHeap, g5.next ≤ H.next → (∀ z, z < g5.next → H3.next ≤ z → H.get z = g5.get z) → SV H 2 h.next (flatPr F) pr := fun H q1 q2 => (Sp.mono q1 fun z hz e => q2 z hz (Sp.row e).1).low (by omega)
  obtain ⟨hs, hhs⟩ : ∃ hs, hs = hgs ts P := ⟨_, rfl⟩
  have hhl : hs.length ≤ 12 := by
    have h1 := List.length_filter_le (fun n : Int => decide (n > 0)) (P.map fun p => hangV p.2 ts)
    rw [List.length_map] at h1
    rw [hhs]
    show ((P.map fun p => hangV p.2 ts).filter _).length ≤ 12
    omega
  have hgn : hgN ts P = cpt (Go.Sort.insertionSort Go.Sort.ltInt hs.toArray 0 hs.length) := by rw [hgN, ← hhs]
  rw [hgn]
  rw [← hhs] at S5
  by_cases hne : hs = []
  · obtain rfl : hv = .slice none 0 0 := S5.sv.empty (by rw [hne]; rfl)
    have h0 : cpt (Go.Sort.insertionSort Go.Sort.ltInt hs.toArray 0 hs.length) = 0 := by rw [hne]; decide +kernel
    rw [h0]
    refine SQ.normal <| CWp.known ha ?_
    simp only [mkA]
    refine W.seq <| W.reg <| OSuf.aop tyOK rfl sm rfl <| OSuf.callD rfl (by simp only [aopnds, lk] <;> rfl) en36 (SortU.sort_nil _) rfl <| OSuf.nil <| SQ.normal ?_
    refine W.seq <| W.reg <| OSuf.aop tyOK rfl sm rfl <| OSuf.aop tyOK rfl sm rfl <| OSuf.callD rfl (by simp only [aopnds, lk] <;> rfl) en37 (compact_nil _) rfl <| OSuf.aop tyOK rfl sm rfl <| OSuf.aop tyOK rfl za rfl <| OSuf.aop tyOK rfl za rfl <| OSuf.aop tyOK rfl za rfl <| OSuf.nil <| SQ.normal ?_
    refine CWp.ret <| FQ.ret (by simp only [aRet, Tryz.f9, aResults, aResult, lk, Nat.reduceEqDiff, reduceIte] <;> rfl) ?_
    -- leaf: end
    exact ⟨pr, none, n, rfl, by omega, S5.old, hpr _ (Nat.le_refl _) fun _ _ _ => rfl⟩
  · obtain ⟨b, hf1, hf2, hf3⟩ := S5.sv.form
    obtain ⟨y, rfl, _, hy1, hy2, hy3⟩ := hf3 (fun e => hne (List.map_eq_nil_iff.1 e))
    rw [List.length_map] at hf2
    have hvl : vLen hv = hs.length := by omega
    rw [hvl] at hf1
    subst hf1
    have hrow : g5.get y = some (SortU.row hs.toArray) := hy3
    have hyH : y < H3.next := by
      have h9 := S3.sv.row (y := y) rfl
      exact h9.2.1
    have hso := SortU.sort_x g5 y hs.length hhl hs.toArray (by simp)
    rw [AHeap.set_self hrow] at hso
    obtain ⟨D, hD⟩ : ∃ D, D = Go.Sort.insertionSort Go.Sort.ltInt hs.toArray 0 hs.length := ⟨_, rfl⟩
    have hDs : D.size = hs.length := by
      have h9 := (Go.Sort.insertionSort_holds SortU.swo hs.toArray 0 hs.length (by omega) (by simp)).1.1
      rw [hD]; simp at h9; omega
    rw [← hD] at hso ⊢
    have hco := compact_c (g5.set y (rowU D)) y hs.length D hDs (by simpa using hy2) (AHeap.get_set_same _ _ _) (by omega)
    refine SQ.normal <| CWp.known ha ?_
    simp only [mkA]
    refine W.seq <| W.reg <| OSuf.aop tyOK rfl sm rfl <| OSuf.callD rfl (by simp only [aopnds, lk] <;> rfl) en36 (hso) rfl <| OSuf.nil <| SQ.normal ?_
    refine W.seq <| W.reg <| OSuf.aop tyOK rfl sm rfl <| OSuf.aop tyOK rfl sm rfl <| OSuf.call rfl (by simp only [aopnds, lk] <;> rfl) en37 (hco) ?_
    rintro u6 g6 ⟨rfl, c1, c2, c3⟩
    refine ⟨_, rfl, ?_⟩
    refine OSuf.aop tyOK rfl sm rfl <| OSuf.aop tyOK rfl za rfl <| OSuf.aop tyOK rfl za rfl <| OSuf.aop tyOK rfl za rfl <| OSuf.nil <| SQ.normal ?_
    refine CWp.ret <| FQ.ret (by simp only [aRet, Tryz.f9, aResults, aResult, lk, Nat.reduceEqDiff, reduceIte] <;> rfl) ?_
    -- leaf: end
    simp only [nx] at c2
    refine ⟨pr, some ⟨y, 0, none⟩, n, rfl, by omega, fun z hz => ?_, hpr _ c2 fun z hz hz3 => ?_⟩
    · rw [c3 z (by simp only [nx]; omega) (by omega), AHeap.get_set_ne (by omega)]; exact S5.old z hz
    · rw [c3 z (by simp only [nx]; omega) (by omega), AHeap.get_set_ne (by omega)]
theorem bsearch_c (h : AHeap) (lo hi : List UInt8) (f : Value) : FWp Tryz.prog 65 [.slice none 0 0, .agg #[encS lo, encS hi], f] h fun u h' => u = .tuple #[I64 0, .bool false] ∧ h' = h := by
  refine FWp.gcs (.flat rfl) (W.enter tyOK Tryz.func65 rfl rfl ?_)
  simp only [entry]
  refine W.seq <| W.reg <| OSuf.aop tyOK rfl (so_box (by simp only [lk] <;> rfl)) rfl <| OSuf.aop tyOK rfl za rfl <| OSuf.aopF tyOK rfl za (fun _ => rfl) rfl <| OSuf.nil <| SQ.normal ?_
  refine W.seq <| W.reg <| OSuf.aop tyOK rfl sm rfl <| OSuf.aop tyOK rfl (so_len (by simp only [aopnds, lk] <;> rfl) (by simp (disch := first | assumption | omega | (simp only [nx] <;> omega) | fail) only [aLenOf, ty98, hpl, Value.cells] <;> rfl)) rfl <| OSuf.aop tyOK rfl za rfl <| OSuf.nil <| SQ.normal ?_
  refine W.seq <| W.reg <| OSuf.aop tyOK rfl sm rfl <| OSuf.aop tyOK rfl za rfl <| OSuf.aop tyOK rfl za rfl <| OSuf.nil <| SQ.normal ?_
  refine W.seq <| ?_
  -- leaf: loop
  refine W.cut (fun L h' => h' = h.new (.cells [encS lo, encS hi] 1) ∧ L = [(2, f), (8, I64 0), (9, I64 0)]) (W.block (W.loop (fun m L h' => h' = h.new (.cells [encS lo, encS hi] 1) ∧ L = [(2, f), (8, I64 0), (9, I64 0), (10, I64 0)]) (n := 0) ⟨rfl, rfl⟩ ?_ ?_)) ?_
  · simp [HasA, Tr.get_put]
  · rintro m L g ⟨rfl, rfl⟩
    simp only [mkA]
    refine W.seq <| W.seq <| W.reg <| OSuf.aop tyOK rfl sm rfl <| OSuf.aop tyOK rfl sm rfl <| OSuf.aopF tyOK rfl (zb (hv := bi_lss)) (fun _ => rfl) (by first | rfl | assumption | ((simp only [bl]) <;> first | done | assumption | omega) | (simp; done) | (simp; omega)) <| OSuf.nil <| SQ.normal ?_
    refine W.no (by simp only [lk] <;> rfl) <| CWp.exit <| SQ.exit <| LQ.exit <| BQ.exit <| ?_
    -- leaf: cut
    refine NQ.normal (L := [(2, f), (8, I64 0), (9, I64 0)]) ?_ ⟨rfl, rfl⟩
    simp only [HasA, Tr.get_put, Nat.reduceEqDiff, reduceIte, and_self]
  rintro L a' h' ha ⟨rfl, rfl⟩
  refine SQ.normal <| CWp.known ha ?_
  simp only [mkA]
  refine W.seq <| W.regD tyOK mixed (by kernel_rfl) <| SqW.aop rfl sm rfl <| SqW.aop rfl sm rfl <| SqW.aop rfl sm rfl <| SqW.aopF rfl (zb (hv := bi_lss)) (fun _ => rfl) (by first | rfl | assumption | ((simp only [bl, Value.cells]) <;> first | done | assumption | omega) | (simp; done) | (simp; omega)) <| SqW.aopF rfl sm (fun _ => rfl) rfl <| SqW.pass ag rfl <| SqW.pass ag rfl <| SqW.pass ag rfl <| SqW.pass ag rfl <| SqW.pass ag rfl <| SqW.pass ag rfl <| SqW.pass ag rfl <| SqW.pass ag rfl <| SqW.aopF rfl (so_pick (by simp only [lk] <;> rfl) (by simp only [lk, cond_true, cond_false] <;> rfl)) (fun _ => rfl) rfl <| SqW.aop rfl za rfl <| SqW.aopF rfl za (fun _ => rfl) rfl <| SqW.nil <| SQ.normal ?_
  refine CWp.ret <| FQ.ret (by simp only [aRet, Tryz.f65, aResults, aResult, lk, Nat.reduceEqDiff, reduceIte] <;> rfl) ?_
  -- leaf: end
  exact ⟨rfl, fun z o hz ho => by simp (disch := first | assumption | omega | (simp only [nx] <;> omega) | fail) only [hpl]; exact ho⟩
theorem insert_c (h : AHeap) (q c : Nat) (x y : List UInt8) (t : Int) (hq : h.get q = some (.cells [encS x, encS y, U64 t] 3)) : FWp Tryz.prog 67 [.slice none 0 0, I64 0, .slice (some ⟨q, 0, none⟩) 1 c] h fun u h' => u = .slice (some ⟨h.next, 0, none⟩) 1 0 ∧ h' = h.new (.cells [encS x, encS y, U64 t] 3) := by
  have tb67 := And.intro ty3 (And.intro ty97 (ty98))
  have hc : aCells h 3 1 (.slice (some ⟨q, 0, none⟩) 1 c) = some [encS x, encS y, U64 t] := aCells_of (vs := [encS x, encS y, U64 t]) (by simp only [rowOf, hq]) (Nat.le_refl _) rfl
  refine W.enter tyOK Tryz.func67 rfl rfl ?_
  simp only [entry]
  refine W.seq <| W.reg <| OSuf.aop tyOK rfl za rfl <| OSuf.nil <| SQ.normal ?_
  refine W.seq <| W.reg <| OSuf.aop tyOK rfl sm rfl <| OSuf.aop tyOK rfl sm rfl <| OSuf.aop tyOK rfl (so_slice (by simp only [lk] <;> rfl) (by simp only [oopnd, lk] <;> rfl) (by simp only [oopnd, lk] <;> rfl) (by simp only [oopnd, lk] <;> rfl) (sl_0 ty98 rfl ty97 (x := (0, 0, 0)) rfl)) rfl <| OSuf.nil <| SQ.normal ?_
  refine W.seq <| W.reg <| OSuf.aop tyOK rfl sm rfl <| OSuf.aop tyOK rfl (so_len (by simp only [aopnds, lk] <;> rfl) (by simp (disch := first | assumption | omega | (simp only [nx] <;> omega) | fail) only [aLenOf, ty98, hpl, Value.cells, places, tb67] <;> rfl)) rfl <| OSuf.aop tyOK rfl za rfl <| OSuf.nil <| SQ.normal ?_
  refine W.seq <| W.seq <| W.reg <| OSuf.aop tyOK rfl sm rfl <| OSuf.aopF tyOK rfl (zb (hv := bi_eql)) (fun _ => rfl) (by first | rfl | assumption | ((simp only [bl, Value.cells, places, tb67]) <;> first | done | assumption | omega) | (simp; done) | (simp; omega)) <| OSuf.nil <| SQ.normal ?_
  refine W.no (by simp only [lk] <;> rfl) <| CWp.skip <| SQ.normal ?_
  refine W.seq <| W.reg <| OSuf.aop tyOK rfl sm rfl <| OSuf.aop tyOK rfl (so_len (by simp only [aopnds, lk] <;> rfl) (by simp (disch := first | assumption | omega | (simp only [nx] <;> omega) | fail) only [aLenOf, ty98, hpl, Value.cells, places, tb67] <;> rfl)) rfl <| OSuf.aop tyOK rfl za rfl <| OSuf.nil <| SQ.normal ?_
  refine W.seq <| W.seq <| W.reg <| OSuf.aop tyOK rfl sm rfl <| OSuf.aop tyOK rfl sm rfl <| OSuf.aopT tyOK rfl (zb (hv := bi_eql)) (fun _ => rfl) (by first | rfl | assumption | ((simp only [bl, Value.cells, places, tb67]) <;> first | done | assumption | omega) | (simp; done) | (simp; omega)) <| OSuf.nil <| SQ.normal ?_
  refine W.yes (by simp only [lk] <;> rfl) <| W.seq <| W.reg <| OSuf.aop tyOK rfl sm rfl <| OSuf.aop tyOK rfl sm rfl <| OSuf.aop tyOK rfl (so_append (by simp only [aopnds, lk] <;> rfl) (ap_0 (by simp only [appT, ty98, ty97] <;> rfl) rfl hc (by decide) rfl)) rfl <| OSuf.aop tyOK rfl za rfl <| OSuf.nil <| SQ.normal ?_
  refine CWp.ret <| SQ.ret <| FQ.ret (by simp only [aRet, Tryz.f67, aResults, aResult, lk, Nat.reduceEqDiff, reduceIte] <;> rfl) ?_
  -- leaf: end
  exact ⟨rfl, rfl⟩
theorem spanput_c (h : AHeap) (sp : Nat) (n : Int) (x y : List UInt8) (t : Int) (hl : sp < h.next) (hp : h.get sp = some (.cells [I64 n, .slice none 0 0] 1)) :
    ∃ H, FWp Tryz.prog 38 [P0 sp, .agg #[encS x, encS y, U64 t]] h (fun u h' => u = .tuple #[] ∧ h' = H) ∧ H.get sp = some (.cells [I64 n, .slice (some ⟨h.next + 2, 0, none⟩) 1 0] 1) ∧ H.get (h.next + 2) = some (.cells [encS x, encS y, U64 t] 3) ∧ H.next = h.next + 3 ∧ ∀ z, z < h.next → ¬ z = sp → H.get z = h.get z := by
  have tb38 := And.intro ty100 (And.intro ty27 (And.intro ty95 (And.intro ty97 (ty98))))
  have e3 : ∀ a b c : Value, cellsOf [a, b, c] 0 3 = some [a, b, c] := fun _ _ _ => rfl
  have e2 : ∀ a b c : Value, cellsOf [a, b, c] 0 2 = some [a, b] := fun _ _ _ => rfl
  have hins := insert_c ((h.new (.cells [encS x, encS y, U64 t] 1)).new (.cells [encS x, encS y, U64 t] 3)) (h.next + 1) 2 x y t (by exact AHeap.get_new_same _ _)
  refine ⟨(((h.new (.cells [encS x, encS y, U64 t] 1)).new (.cells [encS x, encS y, U64 t] 3)).new (.cells [encS x, encS y, U64 t] 3)).set sp (.cells [I64 n, .slice (some ⟨h.next + 2, 0, none⟩) 1 0] 1), ?_, AHeap.get_set_same _ _ _, ?_, rfl, fun z hz hn => ?_⟩
  · refine W.enter tyOK Tryz.func38 rfl rfl ?_
    simp only [entry]
    refine W.seq <| W.reg <| OSuf.aop tyOK rfl (so_box (by simp only [lk] <;> rfl)) rfl <| OSuf.nil <| SQ.normal ?_
    refine W.seq <| W.regD tyOK mixed (by kernel_rfl) <| SqW.aop rfl sm rfl <| SqW.aop rfl (so_nilCheck (by simp only [lk] <;> rfl)) rfl <| SqW.aop rfl (zf (hv := fa_ok (k := 1) ty100 rfl rfl ty98 rfl rfl)) rfl <| SqW.aop rfl (zl (hv := by simp (disch := first | assumption | omega | (simp only [nx] <;> omega) | fail) only [aLoad, ty98, rowOf, hpl, hp, e3, e2, Option.map_some, cond_true, Value.cells] <;> rfl)) rfl <| SqW.aop rfl (zf (hv := fa_ok (k := 0) ty97 rfl rfl ty95 rfl rfl)) rfl <| SqW.aop rfl (zl (hv := by simp (disch := first | assumption | omega | (simp only [nx] <;> omega) | fail) only [aLoad, ty95, rowOf, hpl, hp, e3, e2, Option.map_some, cond_true, Value.cells] <;> rfl)) rfl <| SqW.callD rfl (by simp only [aopnds, lk] <;> rfl) en65 (bsearch_c _ _ _ _) rfl <| SqW.aop rfl sm rfl <| SqW.aop rfl (ze (hv := by simp (disch := first | assumption | omega | (simp only [nx] <;> omega) | fail) only [aExtract, hpl, hp, e3, e2, cond_true, Value.cells, places, tb38] <;> rfl)) rfl <| SqW.aopF rfl (ze (hv := by simp (disch := first | assumption | omega | (simp only [nx] <;> omega) | fail) only [aExtract, hpl, hp, e3, e2, cond_true, Value.cells, places, tb38] <;> rfl)) (fun _ => rfl) (by first | rfl | assumption | ((simp only [bl, hp, e3, e2, Option.map_some, cond_true, Value.cells, places, tb38]) <;> first | done | assumption | omega) | (simp; done) | (simp; omega)) <| SqW.aop rfl za rfl <| SqW.aopF rfl za (fun _ => rfl) rfl <| SqW.nil <| SQ.normal ?_
    refine W.seq <| W.seq <| W.reg <| OSuf.aopF tyOK rfl sm (fun _ => rfl) rfl <| OSuf.nil <| SQ.normal ?_
    refine W.no (by simp only [lk] <;> rfl) <| CWp.skip <| SQ.normal ?_
    refine CWp.sqd tyOK mixed (ms := [0, 0, 2, 6, 14, 0, 0, 64, 254, 511, 1023, 2047]) (by kernel_rfl) (
        .free rfl rfl sm rfl <| .free rfl rfl sm rfl <| .free rfl rfl (so_nilCheck (by simp only [lk] <;> rfl)) rfl <| .free rfl rfl (zf (hv := fa_ok (k := 1) ty100 rfl rfl ty98 rfl rfl)) rfl <| .read rfl rfl (zl (hv := by simp (disch := first | assumption | omega | (simp only [nx] <;> omega) | fail) only [aLoad, ty98, rowOf, hpl, hp, e3, e2, Option.map_some, cond_true, Value.cells] <;> rfl)) (by first | rfl | (simp [veq, veq1, veqs]; done) | (simp [veq, veq1, veqs, splice]; done)) trivial rfl <| .free rfl rfl sm rfl <| .read rfl rfl (zl (hv := by simp (disch := first | assumption | omega | (simp only [nx] <;> omega) | fail) only [aLoad, ty97, rowOf, hpl, hp, e3, e2, Option.map_some, cond_true, Value.cells] <;> rfl)) (by first | rfl | (simp [veq, veq1, veqs]; done) | (simp [veq, veq1, veqs, splice]; done)) trivial rfl <| .change rfl rfl (so_buildSlice (by simp only [aparts, lk] <;> rfl) (by simp only [aBuildSlice, ty98, ty97, hp, e3, e2, cond_true, Value.cells, places, tb38] <;> rfl)) rfl ⟨.inl rfl, .inr (zl (hv := by simp (disch := first | assumption | omega | (simp only [nx] <;> omega) | fail) only [aLoad, ty98, rowOf, hpl, hp, e3, e2, Option.map_some, cond_true, Value.cells] <;> rfl)), trivial⟩ rfl <| .call rfl rfl (fcallO (by simp only [aopnds, lk] <;> rfl) en67 (hins)) rfl ⟨.inl rfl, .inl rfl, trivial⟩ rfl <| .free rfl rfl (so_nilCheck (by simp only [lk] <;> rfl)) rfl <| .free rfl rfl (zf (hv := fa_ok (k := 1) ty100 rfl rfl ty98 rfl rfl)) rfl <| .change rfl rfl (zs (hv := by simp (disch := first | assumption | omega | (simp only [nx] <;> omega) | fail) only [aStore, ty98, writeRow, hpl, hp, e3, e2, Option.map_some, cond_true, Value.cells] <;> rfl)) rfl ⟨.inl rfl, .inl rfl, trivial⟩ rfl <| .nil) <| FQ.normal (by simp only [aRet, Tryz.f38, aResults, aResult, lk, Nat.reduceEqDiff, reduceIte] <;> rfl) ?_
    -- leaf: end
    exact ⟨rfl, rfl⟩
  · have : ¬ sp = h.next + 2 := by omega
    simp (disch := first | assumption | omega | (simp only [nx] <;> omega) | fail) only [hpl]
  · have q : ¬ sp = z := fun e => hn e.symm
    simp (disch := first | assumption | omega | (simp only [nx] <;> omega) | fail) only [hpl]
theorem spanread_c (h : AHeap) (sp : Nat) (n : Int) (x : List UInt8) (t : Int) (hl : sp < h.next) (hp : h.get sp = some (.cells [I64 n, .slice none 0 0] 1)) (ht : 0 < t) (hn : 1 ≤ n) :
    ∃ H, FWp Tryz.prog 10 [P0 sp, encS x, encS [], U64 t] h (fun u h' => u = .tuple #[] ∧ h' = H) ∧ H.get sp = some (.cells [I64 n, .slice (some ⟨h.next + 2, 0, none⟩) 1 0] 1) ∧ H.get (h.next + 2) = some (.cells [encS x, encS [], U64 t] 3) ∧ H.next = h.next + 3 ∧ ∀ z, z < h.next → ¬ z = sp → H.get z = h.get z := by
  have tb10 := And.intro ty100 (And.intro ty23 (And.intro ty27 (And.intro ty3 (And.intro ty9 (And.intro ty95 (And.intro ty97 (ty98)))))))
  obtain ⟨H, r1, r2, r3, r4, r5⟩ := spanput_c h sp n x [] t hl hp
  refine ⟨H, ?_, r2, r3, r4, r5⟩
  have d1 : (t == 0) = false := by simp; omega
  have d2 : decide ((1 : Int) ≤ n) = true := decide_eq_true hn
  refine W.enter tyOK Tryz.func10 rfl rfl ?_
  simp only [entry]
  refine W.seq <| W.seq <| W.reg <| OSuf.aop tyOK rfl sm rfl <| OSuf.aopF tyOK rfl (zb (hv := bi_nil ⟨_, _, ty23, rfl⟩)) (fun _ => rfl) rfl <| OSuf.aopF tyOK rfl sm (fun _ => rfl) rfl <| OSuf.aop tyOK ag sm rfl <| OSuf.aopF tyOK ag (zb (hv := bs_neq)) (fun _ => rfl) (by rw [str_eq]; rfl) <| OSuf.aopF tyOK ag sm (fun _ => rfl) rfl <| OSuf.pass ag rfl <| OSuf.pass ag rfl <| OSuf.pass ag rfl <| OSuf.aopF tyOK ag (so_pick (by simp only [lk] <;> rfl) (by simp only [lk, cond_true, cond_false] <;> rfl)) (fun _ => rfl) rfl <| OSuf.aopF tyOK rfl (so_pick (by simp only [lk] <;> rfl) (by simp only [lk, cond_true, cond_false] <;> rfl)) (fun _ => rfl) rfl <| OSuf.aopF tyOK rfl sm (fun _ => rfl) rfl <| OSuf.aop tyOK ag sm rfl <| OSuf.aopF tyOK ag (zb (hv := bi_eql)) (fun _ => rfl) (d1) <| OSuf.aopF tyOK rfl (so_pick (by simp only [lk] <;> rfl) (by simp only [lk, cond_true, cond_false] <;> rfl)) (fun _ => rfl) rfl <| OSuf.nil <| SQ.normal ?_
  refine W.no (by simp only [lk] <;> rfl) <| CWp.skip <| SQ.normal ?_
  refine W.seq <| W.reg <| OSuf.aop tyOK rfl sm rfl <| OSuf.aop tyOK rfl sm rfl <| OSuf.aop tyOK rfl sm rfl <| OSuf.aop tyOK rfl (so_build (by simp only [aparts, lk] <;> rfl) (by simp only [aBuild, ty95, r2, Value.cells, places, tb10] <;> rfl)) rfl <| OSuf.aop tyOK rfl sm rfl <| OSuf.aop tyOK rfl (so_build (by simp only [aparts, lk] <;> rfl) (by simp only [aBuild, ty97, r2, Value.cells, places, tb10] <;> rfl)) rfl <| OSuf.callD rfl (by simp only [aopnds, lk] <;> rfl) en38 (r1) rfl <| OSuf.nil <| SQ.normal ?_
  refine W.seq <| W.seq <| W.regD tyOK mixed (by kernel_rfl) <| SqW.aop rfl sm rfl <| SqW.aop rfl (so_nilCheck (by simp only [lk] <;> rfl)) rfl <| SqW.aop rfl (zf (hv := fa_ok (k := 1) ty100 rfl rfl ty98 rfl rfl)) rfl <| SqW.aop rfl (zl (hv := by simp (disch := first | assumption | omega | (simp only [nx] <;> omega) | fail) only [aLoad, ty98, rowOf, hpl, r2, Value.cells] <;> rfl)) rfl <| SqW.aop rfl (so_len (by simp only [aopnds, lk] <;> rfl) (by simp (disch := first | assumption | omega | (simp only [nx] <;> omega) | fail) only [aLenOf, ty98, hpl, r2, Value.cells, places, tb10] <;> rfl)) rfl <| SqW.aop rfl sm rfl <| SqW.aop rfl (so_nilCheck (by simp only [lk] <;> rfl)) rfl <| SqW.aop rfl (zf (hv := fa_ok (k := 0) ty100 rfl rfl ty3 rfl rfl)) rfl <| SqW.aop rfl (zl (hv := by simp (disch := first | assumption | omega | (simp only [nx] <;> omega) | fail) only [aLoad, ty3, rowOf, hpl, r2, Value.cells] <;> rfl)) rfl <| SqW.aopT rfl (zb (hv := bi_leq)) (fun _ => rfl) (d2) <| SqW.nil <| SQ.normal ?_
  refine W.yes (by simp only [lk] <;> rfl) <| CWp.ret <| SQ.ret <| FQ.ret (by simp only [aRet, Tryz.f10, aResults, aResult, lk, Nat.reduceEqDiff, reduceIte] <;> rfl) ?_
  -- leaf: end
  exact ⟨rfl, rfl⟩
theorem leq_in {lo k : List UInt8} (hk : Go.Sort.ltStr k lo = false) : (Op.bytesLess (ByteArray.toList ⟨⟨lo⟩⟩) (ByteArray.toList ⟨⟨k⟩⟩) || ByteArray.toList ⟨⟨lo⟩⟩ == ByteArray.toList ⟨⟨k⟩⟩) = true := by
  rw [str_lt, str_eq]
  cases h9 : Go.Sort.ltStr lo k with
  | true => rfl
  | false =>
    simp only [Go.Sort.ltStr, decide_eq_false_iff_not, List.not_lt] at hk h9
    rw [List.le_antisymm hk h9]; simp
theorem leq_out {lo k : List UInt8} (hk : Go.Sort.ltStr k lo = true) : (Op.bytesLess (ByteArray.toList ⟨⟨lo⟩⟩) (ByteArray.toList ⟨⟨k⟩⟩) || ByteArray.toList ⟨⟨lo⟩⟩ == ByteArray.toList ⟨⟨k⟩⟩) = false := by
  rw [str_lt, str_eq]
  simp only [Go.Sort.ltStr, decide_eq_true_eq] at hk
  have h1 : Go.Sort.ltStr lo k = false := by
    simp only [Go.Sort.ltStr, decide_eq_false_iff_not]
    exact fun h9 => List.lt_irrefl _ (List.lt_trans hk h9)
  have h2 : ¬ lo = k := fun e => by rw [e] at hk; exact List.lt_irrefl _ hk
  rw [h1]; simp [h2]
theorem of_in (h : AHeap) (sp q1 q2 x c : Nat) (n ts : Int) (lo k : List UInt8) (yv : Value) (R : AHeap → Prop) (h1 : h.get q1 = some (.cells [P0 sp] 1)) (h2 : h.get q2 = some (.cells [encS k] 1)) (h3 : h.get sp = some (.cells [I64 n, .slice (some ⟨x, 0, none⟩) 1 c] 1)) (h4 : h.get x = some (.cells [encS lo, encS [], U64 ts] 3))
    (l2 : q2 < h.next) (l4 : x < h.next) (hk : Go.Sort.ltStr k lo = false) (hy : ∀ g : AHeap, h.next ≤ g.next → (∀ z, z < h.next → g.get z = h.get z) → VWp Tryz.prog yv [U64 ts] g fun u g' => u = .bool true ∧ R g') : FWp Tryz.prog 70 [yv, P0 q1, P0 q2] h fun u h' => u = .tuple #[] ∧ R h' := by
  have tb70 := And.intro ty100 (And.intro ty23 (And.intro ty27 (And.intro ty9 (And.intro ty95 (And.intro ty97 (ty98))))))
  have b0 : (0 ≤ (0 : Int) ∧ (0 : Int) < ((1 : Nat) : Int)) := by omega
  have e3 : cellsOf [encS lo, encS [], U64 ts] (0 + Int.toNat 0 * 3) 3 = some [encS lo, encS [], U64 ts] := rfl
  have e3' : cellsOf [encS lo, encS [], U64 ts] 0 3 = some [encS lo, encS [], U64 ts] := rfl
  have w2 : IntKind.i64.wrap ((0 : Int) + 1) = 1 := by rw [wrap_i64 (by omega) (by omega)]; rfl
  have b1 := leq_in hk
  have b2 : ((ByteArray.toList ⟨⟨([] : List UInt8)⟩⟩) == (ByteArray.toList ⟨#[]⟩)) = true := by rw [str_eq]; rfl
  have hy9 := hy ((h.new (.cells [encS [], encS [], U64 0] 1)).set h.next (.cells [encS lo, encS [], U64 ts] 1)) (by simp only [nx]; omega) (fun z hz => by simp (disch := first | assumption | omega | (simp only [nx] <;> omega) | fail) only [hpl])
  refine W.enter tyOK Tryz.func70 rfl rfl ?_
  simp only [entry]
  refine W.seq <| W.reg <| OSuf.aop tyOK rfl (zl (hv := by simp (disch := first | assumption | omega | (simp only [nx] <;> omega) | fail) only [aLoad, ty23, rowOf, hpl, h1, h3] <;> rfl)) rfl <| OSuf.aop tyOK rfl (so_nilCheck (by simp only [lk] <;> rfl)) rfl <| OSuf.aop tyOK rfl (zf (hv := fa_ok (k := 1) ty100 rfl rfl ty98 rfl rfl)) rfl <| OSuf.aop tyOK rfl (zl (hv := by simp (disch := first | assumption | omega | (simp only [nx] <;> omega) | fail) only [aLoad, ty98, rowOf, hpl, h1, h3] <;> rfl)) rfl <| OSuf.aop tyOK rfl (so_len (by simp only [aopnds, lk] <;> rfl) (by simp (disch := first | assumption | omega | (simp only [nx] <;> omega) | fail) only [aLenOf, ty98, hpl, h1, h3] <;> rfl)) rfl <| OSuf.aop tyOK rfl sm rfl <| OSuf.nil <| SQ.normal ?_
  -- leaf: loop
  refine W.cut (fun L h' => R h' ∧ L = []) (W.block (W.loop (fun m L h' => (m = 1 ∧ h' = h ∧ L = [(0, yv), (2, P0 q2), (9, .slice (some ⟨x, 0, none⟩) 1 c), (10, I64 1), (11, I64 0)]) ∨ (m = 0 ∧ R h' ∧ L = [(0, yv), (2, P0 q2), (9, .slice (some ⟨x, 0, none⟩) 1 c), (10, I64 1), (11, I64 1)])) (n := 1) (.inl ⟨rfl, rfl, rfl⟩) ?_ ?_)) ?_
  · simp [HasA, Tr.get_put]
  · rintro m L g (⟨rfl, rfl, rfl⟩ | ⟨rfl, hr, rfl⟩)
    · simp only [mkA]
      refine W.seq <| W.reg <| OSuf.aopT tyOK rfl (zb (hv := bi_lss)) (fun _ => rfl) (by first | rfl | assumption | ((simp only [bl, b0, sb, h2, h4, e3, e3', Option.map_some, cond_true, Value.cells, places, tb70]) <;> first | done | assumption | omega) | (simp; done) | (simp; omega)) <| OSuf.nil <| SQ.normal ?_
      refine W.seq <| W.yes (by simp only [lk] <;> rfl) <| CWp.skip <| SQ.normal ?_
      refine W.seq <| W.block <| W.seq <| W.reg <| OSuf.aop tyOK rfl (zi (hv := by simp (disch := first | assumption | omega | (simp only [nx] <;> omega) | fail) only [aIndexAddr, ty98, ty97, hpl, b0, sb, h2, h4, e3, e3', cond_true, Value.cells, places, tb70] <;> rfl)) rfl <| OSuf.aop tyOK rfl (zl (hv := by simp (disch := first | assumption | omega | (simp only [nx] <;> omega) | fail) only [aLoad, ty97, rowOf, hpl, b0, sb, h2, h4, e3, e3', Option.map_some, cond_true, Value.cells] <;> rfl)) rfl <| OSuf.aop tyOK rfl (so_alloc (by simp only [aAlloc, ty97] <;> rfl)) rfl <| OSuf.aop tyOK rfl (zs (hv := by simp (disch := first | assumption | omega | (simp only [nx] <;> omega) | fail) only [aStore, ty97, writeRow, hpl, b0, sb, h2, h4, e3, e3', Option.map_some, cond_true, Value.cells] <;> rfl)) rfl <| OSuf.nil <| SQ.normal ?_
      refine W.seq <| W.reg <| OSuf.aop tyOK rfl (zf (hv := fa_ok (k := 0) ty97 rfl rfl ty95 rfl rfl)) rfl <| OSuf.aop tyOK rfl (zf (hv := fa_ok (k := 0) ty95 rfl rfl ty9 rfl rfl)) rfl <| OSuf.aop tyOK rfl (zl (hv := by simp (disch := first | assumption | omega | (simp only [nx] <;> omega) | fail) only [aLoad, ty9, rowOf, hpl, b0, sb, h2, h4, e3, e3', Option.map_some, cond_true, Value.cells] <;> rfl)) rfl <| OSuf.aop tyOK rfl (zl (hv := by simp (disch := first | assumption | omega | (simp only [nx] <;> omega) | fail) only [aLoad, ty9, rowOf, hpl, b0, sb, h2, h4, e3, e3', Option.map_some, cond_true, Value.cells] <;> rfl)) rfl <| OSuf.aopT tyOK rfl (zb (hv := bs_leq)) (fun _ => rfl) (b1) <| OSuf.aopT tyOK rfl sm (fun _ => rfl) rfl <| OSuf.aop tyOK ag (zf (hv := fa_ok (k := 0) ty97 rfl rfl ty95 rfl rfl)) rfl <| OSuf.aop tyOK ag (zf (hv := fa_ok (k := 1) ty95 rfl rfl ty9 rfl rfl)) rfl <| OSuf.aop tyOK ag (zl (hv := by simp (disch := first | assumption | omega | (simp only [nx] <;> omega) | fail) only [aLoad, ty9, rowOf, hpl, b0, sb, h2, h4, e3, e3', Option.map_some, cond_true, Value.cells] <;> rfl)) rfl <| OSuf.aopT tyOK ag (zb (hv := bs_eql)) (fun _ => rfl) (b2) <| OSuf.aopT tyOK ag sm (fun _ => rfl) rfl <| OSuf.pass ag rfl <| OSuf.pass ag rfl <| OSuf.pass ag rfl <| OSuf.pass ag rfl <| OSuf.pass ag rfl <| OSuf.aopT tyOK ag (so_pick (by simp only [lk] <;> rfl) (by simp only [lk, cond_true, cond_false] <;> rfl)) (fun _ => rfl) rfl <| OSuf.aopT tyOK rfl (so_pick (by simp only [lk] <;> rfl) (by simp only [lk, cond_true, cond_false] <;> rfl)) (fun _ => rfl) rfl <| OSuf.aopT tyOK rfl sm (fun _ => rfl) rfl <| OSuf.aop tyOK ag sm rfl <| OSuf.aop tyOK ag (zf (hv := fa_ok (k := 2) ty97 rfl rfl ty27 rfl rfl)) rfl <| OSuf.aop tyOK ag (zl (hv := by simp (disch := first | assumption | omega | (simp only [nx] <;> omega) | fail) only [aLoad, ty27, rowOf, hpl, b0, sb, h2, h4, e3, e3', Option.map_some, cond_true, Value.cells] <;> rfl)) rfl <| OSuf.vcall ag (by simp only [lk] <;> rfl) (by simp only [aopnds, lk] <;> rfl) (hy9) ?_
      rintro u g' ⟨rfl, hr⟩
      refine ⟨_, rfl, ?_⟩
      refine OSuf.aopF tyOK ag (so_not (by simp only [lk] <;> rfl)) (fun _ => rfl) rfl <| OSuf.aopF tyOK rfl (so_pick (by simp only [lk] <;> rfl) (by simp only [lk, cond_true, cond_false] <;> rfl)) (fun _ => rfl) rfl <| OSuf.nil <| SQ.normal ?_
      refine W.no (by simp only [lk] <;> rfl) <| CWp.skip <| BQ.normal <| SQ.normal ?_
      refine W.reg <| OSuf.aop tyOK rfl (zb (hv := bi_w bi_add (by first | (simp only [w2, w2] <;> rfl) | rfl))) rfl <| OSuf.aop tyOK rfl sm rfl <| OSuf.nil <| ?_
      -- leaf: round
      refine LQ.normal (m := 0) (L := [(0, yv), (2, P0 q2), (9, .slice (some ⟨x, 0, none⟩) 1 c), (10, I64 1), (11, I64 1)]) (by omega) ?_ (.inr ⟨rfl, hr, rfl⟩)
      simp only [HasA, Tr.get_put, Nat.reduceEqDiff, reduceIte, w2, and_self]
    · simp only [mkA]
      refine W.seq <| W.reg <| OSuf.aopF tyOK rfl (zb (hv := bi_lss)) (fun _ => rfl) (by first | rfl | assumption | ((simp only [bl]) <;> first | done | assumption | omega) | (simp; done) | (simp; omega)) <| OSuf.nil <| SQ.normal ?_
      refine W.seq <| W.no (by simp only [lk] <;> rfl) <| CWp.exit <| SQ.exit <| LQ.exit <| BQ.exit <| ?_
      -- leaf: cut
      exact NQ.normal (L := []) trivial ⟨hr, rfl⟩
  rintro L a' h' ha ⟨hr, rfl⟩
  exact FQ.normal (by simp only [aRet, Tryz.f70, aResults] <;> rfl) ⟨rfl, hr⟩
theorem of_out (h : AHeap) (sp q1 q2 x c : Nat) (n ts : Int) (lo k : List UInt8) (yv : Value) (h1 : h.get q1 = some (.cells [P0 sp] 1)) (h2 : h.get q2 = some (.cells [encS k] 1)) (h3 : h.get sp = some (.cells [I64 n, .slice (some ⟨x, 0, none⟩) 1 c] 1)) (h4 : h.get x = some (.cells [encS lo, encS [], U64 ts] 3))
    (l2 : q2 < h.next) (l4 : x < h.next) (hk : Go.Sort.ltStr k lo = true) : FWp Tryz.prog 70 [yv, P0 q1, P0 q2] h fun u h' => u = .tuple #[] ∧ h' = (h.new (.cells [encS [], encS [], U64 0] 1)).set h.next (.cells [encS lo, encS [], U64 ts] 1) := by
  have tb70 := And.intro ty100 (And.intro ty23 (And.intro ty27 (And.intro ty9 (And.intro ty95 (And.intro ty97 (ty98))))))
  have b0 : (0 ≤ (0 : Int) ∧ (0 : Int) < ((1 : Nat) : Int)) := by omega
  have e3 : cellsOf [encS lo, encS [], U64 ts] (0 + Int.toNat 0 * 3) 3 = some [encS lo, encS [], U64 ts] := rfl
  have e3' : cellsOf [encS lo, encS [], U64 ts] 0 3 = some [encS lo, encS [], U64 ts] := rfl
  have w2 : IntKind.i64.wrap ((0 : Int) + 1) = 1 := by rw [wrap_i64 (by omega) (by omega)]; rfl
  have b1 := leq_out hk
  refine W.enter tyOK Tryz.func70 rfl rfl ?_
  simp only [entry]
  refine W.seq <| W.reg <| OSuf.aop tyOK rfl (zl (hv := by simp (disch := first | assumption | omega | (simp only [nx] <;> omega) | fail) only [aLoad, ty23, rowOf, hpl, h1, h3] <;> rfl)) rfl <| OSuf.aop tyOK rfl (so_nilCheck (by simp only [lk] <;> rfl)) rfl <| OSuf.aop tyOK rfl (zf (hv := fa_ok (k := 1) ty100 rfl rfl ty98 rfl rfl)) rfl <| OSuf.aop tyOK rfl (zl (hv := by simp (disch := first | assumption | omega | (simp only [nx] <;> omega) | fail) only [aLoad, ty98, rowOf, hpl, h1, h3] <;> rfl)) rfl <| OSuf.aop tyOK rfl (so_len (by simp only [aopnds, lk] <;> rfl) (by simp (disch := first | assumption | omega | (simp only [nx] <;> omega) | fail) only [aLenOf, ty98, hpl, h1, h3] <;> rfl)) rfl <| OSuf.aop tyOK rfl sm rfl <| OSuf.nil <| SQ.normal ?_
  -- leaf: loop
  refine W.cut (fun L h' => h' = (h.new (.cells [encS [], encS [], U64 0] 1)).set h.next (.cells [encS lo, encS [], U64 ts] 1) ∧ L = []) (W.block (W.loop (fun m L h' => (m = 1 ∧ h' = h ∧ L = [(0, yv), (2, P0 q2), (9, .slice (some ⟨x, 0, none⟩) 1 c), (10, I64 1), (11, I64 0)]) ∨ (m = 0 ∧ h' = (h.new (.cells [encS [], encS [], U64 0] 1)).set h.next (.cells [encS lo, encS [], U64 ts] 1) ∧ L = [(0, yv), (2, P0 q2), (9, .slice (some ⟨x, 0, none⟩) 1 c), (10, I64 1), (11, I64 1)])) (n := 1) (.inl ⟨rfl, rfl, rfl⟩) ?_ ?_)) ?_
  · simp [HasA, Tr.get_put]
  · rintro m L g (⟨rfl, rfl, rfl⟩ | ⟨rfl, rfl, rfl⟩)
    · simp only [mkA]
      refine W.seq <| W.reg <| OSuf.aopT tyOK rfl (zb (hv := bi_lss)) (fun _ => rfl) (by first | rfl | assumption | ((simp only [bl, b0, sb, h2, h4, e3, e3', Option.map_some, cond_true, Value.cells, places, tb70]) <;> first | done | assumption | omega) | (simp; done) | (simp; omega)) <| OSuf.nil <| SQ.normal ?_
      refine W.seq <| W.yes (by simp only [lk] <;> rfl) <| CWp.skip <| SQ.normal ?_
      refine W.seq <| W.block <| W.seq <| W.reg <| OSuf.aop tyOK rfl (zi (hv := by simp (disch := first | assumption | omega | (simp only [nx] <;> omega) | fail) only [aIndexAddr, ty98, ty97, hpl, b0, sb, h2, h4, e3, e3', cond_true, Value.cells, places, tb70] <;> rfl)) rfl <| OSuf.aop tyOK rfl (zl (hv := by simp (disch := first | assumption | omega | (simp only [nx] <;> omega) | fail) only [aLoad, ty97, rowOf, hpl, b0, sb, h2, h4, e3, e3', Option.map_some, cond_true, Value.cells] <;> rfl)) rfl <| OSuf.aop tyOK rfl (so_alloc (by simp only [aAlloc, ty97] <;> rfl)) rfl <| OSuf.aop tyOK rfl (zs (hv := by simp (disch := first | assumption | omega | (simp only [nx] <;> omega) | fail) only [aStore, ty97, writeRow, hpl, b0, sb, h2, h4, e3, e3', Option.map_some, cond_true, Value.cells] <;> rfl)) rfl <| OSuf.nil <| SQ.normal ?_
      refine W.seq <| W.reg <| OSuf.aop tyOK rfl (zf (hv := fa_ok (k := 0) ty97 rfl rfl ty95 rfl rfl)) rfl <| OSuf.aop tyOK rfl (zf (hv := fa_ok (k := 0) ty95 rfl rfl ty9 rfl rfl)) rfl <| OSuf.aop tyOK rfl (zl (hv := by simp (disch := first | assumption | omega | (simp only [nx] <;> omega) | fail) only [aLoad, ty9, rowOf, hpl, b0, sb, h2, h4, e3, e3', Option.map_some, cond_true, Value.cells] <;> rfl)) rfl <| OSuf.aop tyOK rfl (zl (hv := by simp (disch := first | assumption | omega | (simp only [nx] <;> omega) | fail) only [aLoad, ty9, rowOf, hpl, b0, sb, h2, h4, e3, e3', Option.map_some, cond_true, Value.cells] <;> rfl)) rfl <| OSuf.aopF tyOK rfl (zb (hv := bs_leq)) (fun _ => rfl) (b1) <| OSuf.aopF tyOK rfl sm (fun _ => rfl) rfl <| OSuf.pass ag rfl <| OSuf.pass ag rfl <| OSuf.pass ag rfl <| OSuf.pass ag rfl <| OSuf.pass ag rfl <| OSuf.pass (aguard_un rfl rfl (by simp only [lk] <;> rfl)) rfl <| OSuf.pass (aguard_un rfl rfl (by simp only [lk] <;> rfl)) rfl <| OSuf.pass (aguard_un rfl rfl (by simp only [lk] <;> rfl)) rfl <| OSuf.pass (aguard_un rfl rfl (by simp only [lk] <;> rfl)) rfl <| OSuf.pass (aguard_un rfl rfl (by simp only [lk] <;> rfl)) rfl <| OSuf.pass ag rfl <| OSuf.aopF tyOK rfl (so_pick (by simp only [lk] <;> rfl) (by simp only [lk, cond_true, cond_false] <;> rfl)) (fun _ => rfl) rfl <| OSuf.aopF tyOK rfl sm (fun _ => rfl) rfl <| OSuf.pass ag rfl <| OSuf.pass ag rfl <| OSuf.pass ag rfl <| OSuf.pass ag rfl <| OSuf.pass ag rfl <| OSuf.aopF tyOK rfl (so_pick (by simp only [lk] <;> rfl) (by simp only [lk, cond_true, cond_false] <;> rfl)) (fun _ => rfl) rfl <| OSuf.nil <| SQ.normal ?_
      refine W.no (by simp only [lk] <;> rfl) <| CWp.skip <| BQ.normal <| SQ.normal ?_
      refine W.reg <| OSuf.aop tyOK rfl (zb (hv := bi_w bi_add (by first | (simp only [w2] <;> rfl) | rfl))) rfl <| OSuf.aop tyOK rfl sm rfl <| OSuf.nil <| ?_
      -- leaf: round
      refine LQ.normal (m := 0) (L := [(0, yv), (2, P0 q2), (9, .slice (some ⟨x, 0, none⟩) 1 c), (10, I64 1), (11, I64 1)]) (by omega) ?_ (.inr ⟨rfl, rfl, rfl⟩)
      simp only [HasA, Tr.get_put, Nat.reduceEqDiff, reduceIte, w2, and_self]
    · simp only [mkA]
      refine W.seq <| W.reg <| OSuf.aopF tyOK rfl (zb (hv := bi_lss)) (fun _ => rfl) (by first | rfl | assumption | ((simp only [bl]) <;> first | done | assumption | omega) | (simp; done) | (simp; omega)) <| OSuf.nil <| SQ.normal ?_
      refine W.seq <| W.no (by simp only [lk] <;> rfl) <| CWp.exit <| SQ.exit <| LQ.exit <| BQ.exit <| ?_
      -- leaf: cut
      exact NQ.normal (L := []) trivial ⟨rfl, rfl⟩
  rintro L a' h' ha ⟨rfl, rfl⟩
  exact FQ.normal (by simp only [aRet, Tryz.f70, aResults] <;> rfl) ⟨rfl, rfl⟩
theorem spanmax_in (h : AHeap) (sp x c : Nat) (n ts : Int) (lo k : List UInt8) (h3 : h.get sp = some (.cells [I64 n, .slice (some ⟨x, 0, none⟩) 1 c] 1)) (h4 : h.get x = some (.cells [encS lo, encS [], U64 ts] 3)) (l3 : sp < h.next) (l4 : x < h.next) (ht : 0 < ts) (hk : Go.Sort.ltStr k lo = false) :
    FWp Tryz.prog 23 [P0 sp, encS k] h fun u h' => u = U64 ts ∧ h' = h := by
  refine FWp.gcs (.flat rfl) (W.enter tyOK Tryz.func23 rfl rfl ?_)
  simp only [entry]
  refine W.seq <| W.reg <| OSuf.aop tyOK rfl za rfl <| OSuf.nil <| SQ.normal ?_
  refine W.seq <| W.reg <| OSuf.aop tyOK rfl (so_alloc (by simp only [aAlloc, ty27] <;> rfl)) rfl <| OSuf.aop tyOK rfl (zs (hv := by simp (disch := first | assumption | omega | (simp only [nx] <;> omega) | fail) only [aStore, ty27, writeRow, hpl, Value.cells] <;> rfl)) rfl <| OSuf.nil <| SQ.normal ?_
  refine W.seq <| W.seq <| W.reg <| OSuf.aop tyOK rfl sm rfl <| OSuf.aopT tyOK rfl (zb (hv := bi_nnil ⟨_, _, ty23, rfl⟩)) (fun _ => rfl) rfl <| OSuf.nil <| SQ.normal ?_
  refine W.yes (by simp only [lk] <;> rfl) <| W.seq <| W.reg <| OSuf.aop tyOK rfl sm rfl <| OSuf.aop tyOK rfl sm rfl <| OSuf.callD rfl (by simp only [aopnds, lk] <;> rfl) en49 (spanof_c _ _ _) rfl <| OSuf.nil <| SQ.normal ?_
  -- leaf: loop
  refine W.block (CWp.rangeFunc (by simp only [aopnd, Tr.get_put, Nat.reduceEqDiff, reduceIte] <;> rfl) (fun l hl => by cases hl) (VWp.func en70 ?_))
  show FWp _ _ [_, _, _] _ _
  generalize hLP : (ALoop.mk _ _ _ _ _ _ _ _) = LP
  have hbusy : (LP.state == .busy) = false := by rw [← hLP]; rfl
  have hjn : jumpExit LP.pending = some .normal := by rw [← hLP]; rfl
  have em : (if ts > 0 then ts else 0) = ts := if_pos ht
  refine FWp.mono (K := fun u g' => u = .tuple #[] ∧ g'.get h.next = some (.cells [U64 ts] 1) ∧ g'.get (h.next + 3) = some (.loop LP) ∧ ∀ z, z < h.next → g'.get z = h.get z) ?_ ?_
  · refine of_in _ sp (h.next + 1) (h.next + 2) x c n ts lo k _ _ (by simp (disch := first | assumption | omega | (simp only [nx] <;> omega) | fail) only [hpl]) (by simp (disch := first | assumption | omega | (simp only [nx] <;> omega) | fail) only [hpl]) (by simp (disch := first | assumption | omega | (simp only [nx] <;> omega) | fail) only [hpl]; exact h3) (by simp (disch := first | assumption | omega | (simp only [nx] <;> omega) | fail) only [hpl]; exact h4) (by simp only [nx]; omega) (by simp only [nx]; omega) hk ?_
    intro g g1 g2
    have q5 : g.get h.next = some (.cells [U64 0] 1) := by rw [g2 _ (by simp only [nx]; omega)]; simp (disch := first | assumption | omega | (simp only [nx] <;> omega) | fail) only [hpl] <;> rfl
    have ql : g.get (h.next + 3) = some (.loop LP) := by rw [g2 _ (by simp only [nx]; omega)]; simp (disch := first | assumption | omega | (simp only [nx] <;> omega) | fail) only [hpl]
    have qo : ∀ z, z < h.next → g.get z = h.get z := fun z hz => by rw [g2 _ (by simp only [nx]; omega)]; simp (disch := first | assumption | omega | (simp only [nx] <;> omega) | fail) only [hpl]
    have hgn : h.next + 4 ≤ g.next := by simp only [nx] at g1; omega
    have hl := ql
    rw [← hLP] at hl
    refine VWp.yield hl rfl ?_
    refine W.reg <| OSuf.aop tyOK rfl za rfl <| OSuf.nil <| ?_
    -- leaf: stop
    refine ⟨rfl, _, by (simp (disch := first | assumption | omega | (simp only [nx] <;> omega) | fail) only [hpl]; exact hl), rfl, ?_⟩
    refine W.block <| W.reg <| OSuf.aop tyOK rfl (zl (hv := by simp (disch := first | assumption | omega | (simp only [nx] <;> omega) | fail) only [aLoad, ty27, rowOf, hpl, q5, Value.cells] <;> rfl)) rfl <| OSuf.aop tyOK rfl sm rfl <| OSuf.aop tyOK rfl (so_max (by simp only [aopnds, lk] <;> rfl)) rfl <| OSuf.aop tyOK rfl (zs (hv := by simp (disch := first | assumption | omega | (simp only [nx] <;> omega) | fail) only [aStore, ty27, writeRow, hpl, q5, Value.cells] <;> rfl)) rfl <| OSuf.nil <| BQ.normal <| ?_
    -- leaf: stop
    refine ⟨_, by (simp (disch := first | assumption | omega | (simp only [nx] <;> omega) | fail) only [hpl]; rfl), rfl, ?_, ?_, fun z hz => ?_⟩
    · simp (disch := first | assumption | omega | (simp only [nx] <;> omega) | fail) only [hpl]; rw [em]; rfl
    · simp (disch := first | assumption | omega | (simp only [nx] <;> omega) | fail) only [hpl]; rw [← hLP]; rfl
    · simp (disch := first | assumption | omega | (simp only [nx] <;> omega) | fail) only [hpl]; exact qo z hz
  · rintro _ g ⟨rfl, q5, ql, qo⟩
    refine ⟨LP, .normal, ql, hbusy, hjn, ?_⟩
    refine BQ.normal <| SQ.normal ?_
    refine W.seq <| W.reg <| OSuf.aop tyOK rfl (zl (hv := by simp (disch := first | assumption | omega | (simp only [nx] <;> omega) | fail) only [aLoad, ty27, rowOf, hpl, q5, Value.cells] <;> rfl)) rfl <| OSuf.aop tyOK rfl za rfl <| OSuf.nil <| SQ.normal ?_
    refine CWp.ret <| FQ.ret (by simp only [aRet, Tryz.f23, aResults, aResult, lk, Nat.reduceEqDiff, reduceIte] <;> rfl) ?_
    -- leaf: end
    exact ⟨rfl, fun z o hz ho => by simp (disch := first | assumption | omega | (simp only [nx] <;> omega) | fail) only [hpl]; rw [qo z hz]; exact ho⟩
theorem spanmax_out (h : AHeap) (sp x c : Nat) (n ts : Int) (lo k : List UInt8) (h3 : h.get sp = some (.cells [I64 n, .slice (some ⟨x, 0, none⟩) 1 c] 1)) (h4 : h.get x = some (.cells [encS lo, encS [], U64 ts] 3)) (l3 : sp < h.next) (l4 : x < h.next) (hk : Go.Sort.ltStr k lo = true) :
    FWp Tryz.prog 23 [P0 sp, encS k] h fun u h' => u = U64 0 ∧ h' = h := by
  refine FWp.gcs (.flat rfl) (W.enter tyOK Tryz.func23 rfl rfl ?_)
  simp only [entry]
  refine W.seq <| W.reg <| OSuf.aop tyOK rfl za rfl <| OSuf.nil <| SQ.normal ?_
  refine W.seq <| W.reg <| OSuf.aop tyOK rfl (so_alloc (by simp only [aAlloc, ty27] <;> rfl)) rfl <| OSuf.aop tyOK rfl (zs (hv := by simp (disch := first | assumption | omega | (simp only [nx] <;> omega) | fail) only [aStore, ty27, writeRow, hpl, Value.cells] <;> rfl)) rfl <| OSuf.nil <| SQ.normal ?_
  refine W.seq <| W.seq <| W.reg <| OSuf.aop tyOK rfl sm rfl <| OSuf.aopT tyOK rfl (zb (hv := bi_nnil ⟨_, _, ty23, rfl⟩)) (fun _ => rfl) rfl <| OSuf.nil <| SQ.normal ?_
  refine W.yes (by simp only [lk] <;> rfl) <| W.seq <| W.reg <| OSuf.aop tyOK rfl sm rfl <| OSuf.aop tyOK rfl sm rfl <| OSuf.callD rfl (by simp only [aopnds, lk] <;> rfl) en49 (spanof_c _ _ _) rfl <| OSuf.nil <| SQ.normal ?_
  -- leaf: loop
  refine W.block (CWp.rangeFunc (by simp only [aopnd, Tr.get_put, Nat.reduceEqDiff, reduceIte] <;> rfl) (fun l hl => by cases hl) (VWp.func en70 ?_))
  show FWp _ _ [_, _, _] _ _
  generalize hLP : (ALoop.mk _ _ _ _ _ _ _ _) = LP
  have hbusy : (LP.state == .busy) = false := by rw [← hLP]; rfl
  have hjn : jumpExit LP.pending = some .normal := by rw [← hLP]; rfl
  clear hLP
  refine (of_out _ sp (h.next + 1) (h.next + 2) x c n ts lo k _ (by simp (disch := first | assumption | omega | (simp only [nx] <;> omega) | fail) only [hpl]) (by simp (disch := first | assumption | omega | (simp only [nx] <;> omega) | fail) only [hpl]) (by simp (disch := first | assumption | omega | (simp only [nx] <;> omega) | fail) only [hpl]; exact h3) (by simp (disch := first | assumption | omega | (simp only [nx] <;> omega) | fail) only [hpl]; exact h4) (by simp only [nx]; omega) (by simp only [nx]; omega) hk).mono ?_
  rintro _ _ ⟨rfl, rfl⟩
  refine ⟨LP, .normal, by (simp (disch := first | assumption | omega | (simp only [nx] <;> omega) | fail) only [hpl]), hbusy, hjn, ?_⟩
  refine BQ.normal <| SQ.normal ?_
  refine W.seq <| W.reg <| OSuf.aop tyOK rfl (zl (hv := by simp (disch := first | assumption | omega | (simp only [nx] <;> omega) | fail) only [aLoad, ty27, rowOf, hpl, Value.cells] <;> rfl)) rfl <| OSuf.aop tyOK rfl za rfl <| OSuf.nil <| SQ.normal ?_
  refine CWp.ret <| FQ.ret (by simp only [aRet, Tryz.f23, aResults, aResult, lk, Nat.reduceEqDiff, reduceIte] <;> rfl) ?_
  -- leaf: end
  exact ⟨rfl, fun z o hz ho => by simp (disch := first | assumption | omega | (simp only [nx] <;> omega) | fail) only [hpl]; exact ho⟩
theorem max_one {h : AHeap} {sp x c : Nat} {n ts : Int} {lo k : List UInt8} (h3 : h.get sp = some (.cells [I64 n, .slice (some ⟨x, 0, none⟩) 1 c] 1)) (h4 : h.get x = some (.cells [encS lo, encS [], U64 ts] 3)) (l3 : sp < h.next) (l4 : x < h.next) (ht : 0 < ts) : MaxAt h sp k (if Go.Sort.ltStr k lo then 0 else ts) := by
  intro g g1 g2
  cases hk : Go.Sort.ltStr k lo with
  | true => exact spanmax_out g sp x c n ts lo k (by rw [g2 _ l3]; exact h3) (by rw [g2 _ l4]; exact h4) (by omega) (by omega) hk
  | false => exact spanmax_in g sp x c n ts lo k (by rw [g2 _ l3]; exact h3) (by rw [g2 _ l4]; exact h4) (by omega) (by omega) ht hk
end Go.Proofs.YtjenbiohcecfnaaGreat
