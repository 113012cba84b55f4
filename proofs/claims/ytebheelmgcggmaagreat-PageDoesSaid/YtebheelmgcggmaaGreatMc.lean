/-
  Merged: SorRA, SorRB, SorRC, SorRD.
-/
import Derived.Test.YtebheelmgcggmaaGreatMb
set_option linter.unusedSimpArgs false
set_option linter.unusedVariables false
set_option maxRecDepth 10000
set_option maxHeartbeats 8000000
namespace Go.Proofs.YtebheelmgcggmaaGreat.SortR
open Go.Ab Go.Sort
abbrev El : Type := Rec
abbrev lt : El → El → Bool := ltL
abbrev CF : Value := .func (.func 41) #[] #[]
abbrev row (d : Array El) : AObj := .cells (fl d.toList) 4
abbrev sl (r n : Nat) : Value := .slice (some ⟨r, 0, none⟩) n 0
theorem get_at {d : Array El} {i : Nat} (hi : i < d.size) : d.toList[i]? = some d[i]! := by simp [hi]
theorem rg {d : Array El} {i : Nat} (hi : i < d.size) : cellsOf (fl d.toList) (i * 4) 4 = some (d[i]!).cs := fl_get (get_at hi)
theorem rs {d : Array El} {i : Nat} {x : El} (hi : i < d.size) : splice (fl d.toList) (i * 4) x.cs = fl (d.setIfInBounds i x).toList := by rw [fl_set x xY]; simp
theorem rb {d : Array El} {i : Nat} (hi : i < d.size) : Nat.ble (i * 4 + 4) (fl d.toList).length = true := fl_ble xY
theorem sq : (∀ {c : Prop} {i : Decidable c} {α : Type} {t e : α}, c → @ite α c i t e = t) ∧ (∀ n : Nat, (n : Int).toNat = n) ∧ (∀ n : Nat, 0 + n = n) ∧ (∀ {α β : Type} (f : α → β) (x : α), Option.map f (some x) = some (f x)) ∧ (∀ {d : Array El} {i : Nat}, i < d.size → cellsOf (fl d.toList) (i * 4) 4 = some (d[i]!).cs) ∧ (∀ {d : Array El} {i : Nat} {x : El}, i < d.size → splice (fl d.toList) (i * 4) x.cs = fl (d.setIfInBounds i x).toList) ∧ (∀ {d : Array El} {i : Nat}, i < d.size → Nat.ble (i * 4 + 4) (fl d.toList).length = true) ∧
    (∀ x : Rec, (Value.agg x.cs.toArray).cells.size = 4) ∧ (∀ x : Rec, (Value.agg x.cs.toArray).cells.toList = x.cs) ∧ (∀ x : Rec, oneCells x.cs = true) ∧ (∀ x : Rec, x.cs.length = 4) ∧ (∀ {α : Type} (a b : α), cond true a b = a) ∧ (∀ (h : AHeap) (r : Nat) (o o' : AObj), (h.set r o).set r o' = h.set r o') ∧ (∀ {α : Type} (d : Array α) (i : Nat) (x : α), (d.setIfInBounds i x).size = d.size) :=
  ⟨fun hc => if_pos hc, Int.toNat_natCast, Nat.zero_add, fun _ _ => rfl, rg, rs, rb, csz, csl, cso, csn, fun _ _ => rfl, AHeap.set_set, fun _ _ _ => by simp⟩
theorem cmp_c (x y : El) (h : AHeap) : FWp Tryz.prog 41 [x.V, y.V] h fun u h' => u = I64 (if lt x y = true then -1 else 1) ∧ h' = h := by
  refine FWp.gcs (.flat rfl) ?_
  refine W.enter tyOK Tryz.func41 rfl rfl ?_
  simp only [entry]
  refine Wr <| ja Zx <| ja Zx <| ja za <| On ?_
  have jY := An ty22 <| ty27
  refine W.seq <| Wr <| ja J27f1 <| ja Jl <| ja J27f1 <| ja Jl <| OSuf.aopB tyOK rfl Jt (fun _ => rfl) (fun h1 => ?_) (fun h1 => ?_)
  · try simp only [bl] at h1
    refine On ?_
    refine Wy <| Wr <| ja za <| On ?_
    refine CWp.ret <| SQ.ret <| Jr ?_
    exact ⟨by simp [ltL, h1], fun r o hr ho => by simp (disch := first | omega | simp only [nx]; omega) only [hpl]; exact ho⟩
  · try simp only [bl] at h1
    refine On ?_
    refine Wn <| CWp.skip <| SQ.normal ?_
    refine Wr <| ja za <| On ?_
    refine CWp.ret <| Jr ?_
    exact ⟨by simp [ltL, h1], fun r o hr ho => by simp (disch := first | omega | simp only [nx]; omega) only [hpl]; exact ho⟩
theorem less_v (x y : El) (h : AHeap) (b : Bool) (hb : lt x y = b) : VWp Tryz.prog CF [x.V, y.V] h fun u h' => u = I64 (if b = true then -1 else 1) ∧ h' = h := by
  rw [← hb]; exact VWp.func en41 (cmp_c x y h)
theorem insertion_c (h : AHeap) (r N : Nat) (d : Array El) (hN : d.size = N) (a b : Nat) (hab : a ≤ b) (hb : b ≤ N) (hsz : N < 1000000000) :
    FWp Tryz.prog 105 [sl r N, I64 a, I64 b, CF] (h.set r (row d)) fun u h' => u = .tuple #[] ∧ h' = h.set r (row (insertionSort lt d a b)) := by
  refine W.enter tyOK Tryz.func105 rfl rfl ?_
  simp only [entry]
  have w0 : IntKind.i64.wrap ((a : Int) + 1) = ((a + 1 : Nat) : Int) := by rw [wrap_i64 xA xA]; omega
  have jW := @w0
  refine Wr <| ja sm <| ja Ja <| ja za <| On ?_
  refine W.block (W.loop (fun n L h' => ∃ (i : Nat) (dk : Array El), n = b - i ∧ a + 1 ≤ i ∧ (i ≤ b ∨ i = a + 1) ∧ dk.size = N ∧ insOuter lt a b i dk = insertionSort lt d a b ∧ h' = h.set r (row dk) ∧
      L = [(0, sl r N), (1, I64 a), (2, I64 b), (3, CF), (8, I64 i)]) (n := b - (a + 1)) ⟨a + 1, d, rfl, by omega, by omega, hN, rfl, rfl, rfl⟩ ?_ ?_)
  · simp [HasA, Tr.get_put]
  · rintro n L h1 ⟨i, dk, rfl, hi1, hi2, hds, heq, rfl, rfl⟩
    simp only [mkA]
    by_cases hib : (i : Int) < (b : Int)
    · refine W.seq <| Wr <| ja sm <| ja sm <| jx Jt <| On ?_
      refine Wy <| CWp.skip <| SQ.normal ?_
      refine W.seq <| W.block <| Wr <| ja sm <| ja za <| On ?_
      refine W.cut (fun L h' => ∃ (dj : Array El), dj.size = N ∧ dj = insInner lt a i dk ∧ h' = h.set r (row dj) ∧ L = [(0, sl r N), (1, I64 a), (2, I64 b), (3, CF), (8, I64 i)]) (W.block (W.loop (fun n L h' => ∃ (j : Nat) (dj : Array El), n = j ∧ j ≤ i ∧ dj.size = N ∧ insInner lt a j dj = insInner lt a i dk ∧ h' = h.set r (row dj) ∧
          L = [(0, sl r N), (1, I64 a), (2, I64 b), (3, CF), (8, I64 i), (9, I64 j)]) (n := i) ⟨i, dk, rfl, by omega, hds, rfl, rfl, rfl⟩ ?_ ?_)) ?_
      · simp [HasA, Tr.get_put]
      · rintro j L h1 ⟨_, dj, rfl, hji, hdj, hq, rfl, rfl⟩
        simp only [mkA]
        by_cases hja : (j : Int) > (a : Int)
        · obtain ⟨m, rfl⟩ : ∃ m, j = m + 1 := ⟨j - 1, by omega⟩
          have w1 : IntKind.i64.wrap (((m + 1 : Nat) : Int) - 1) = (m : Int) := by rw [wrap_i64 xA xA]; omega
          cases hl : lt dj[m + 1]! dj[m]!
          · have jY := An @sq <| An ty27 <| ty23
            have jW := @w1
            refine W.seq <| Wd <| jb sm <| jb sm <| jg Jv <| jG sm rfl <| jb sm <| jb sm <| jb sm <| jb Ji <| jb Jl <| jb sm <| jb sm <| jb Jb <| jb Ji <| jb Jl <| jl (Jd (less_v _ _ _ _ hl)) rfl <| jH Jt rfl <| jH Zp rfl <| Sn ?_
            refine Wn <| CWp.exit <| SQ.exit <| LQ.exit <| BQ.exit <| ?_
            refine NQ.normal (L := [(0, sl r N), (1, I64 a), (2, I64 b), (3, CF), (8, I64 i)]) ?_ ⟨dj, hdj, ?_, rfl, rfl⟩
            · simp only [HasA, Tr.get_put, Nat.reduceEqDiff, reduceIte, and_self]
            · rw [← hq, insInner]; simp [hl]
          · have jY := An @sq <| An ty27 <| ty23
            have jW := @w1
            refine W.seq <| Wd <| jb sm <| jb sm <| jg Jv <| jG sm rfl <| jb sm <| jb sm <| jb sm <| jb Ji <| jb Jl <| jb sm <| jb sm <| jb Jb <| jb Ji <| jb Jl <| jl (Jd (less_v _ _ _ _ hl)) rfl <| jG Jt rfl <| jG Zp rfl <| Sn ?_
            refine Wy <| CWp.skip <| SQ.normal ?_
            refine W.seq <| W.block <| W.regD tyOK mixed xJ <| jb sm <| jb sm <| jb sm <| jb sm <| jb Jb <| jb sm <| jb sm <| jb Jb <| jb Ji <| jb Jl <| jb sm <| jb sm <| jb Ji <| jb Jl <| jb Ji <| jd Js <| jb Ji <| jd Js <| SqW.nil <| BQ.normal <| SQ.normal ?_
            refine W.reg <| ja sm <| ja Jb <| ja za <| OSuf.nil <| ?_
            refine LQ.normal (m := m) (L := [(0, sl r N), (1, I64 a), (2, I64 b), (3, CF), (8, I64 i), (9, I64 m)]) xA ?_ ⟨m, swp dj (m + 1) m, rfl, by omega, by rw [size_swp]; exact hdj, ?_, rfl, rfl⟩
            · simp only [HasA, Tr.get_put, Nat.reduceEqDiff, reduceIte, w1, and_self]
            · rw [← hq, insInner]; simp [hl]; omega
        · refine W.seq <| Wd <| jb sm <| jb sm <| jw Jv <| jH sm rfl <| jq rfl <| jq rfl <| jq rfl <| jq rfl <| jq rfl <| jq rfl <| jq rfl <| jq rfl <| jq rfl <| jq rfl <| jq rfl <| jq rfl <| jH Zp rfl <| Sn ?_
          refine Wn <| CWp.exit <| SQ.exit <| LQ.exit <| BQ.exit <| ?_
          refine NQ.normal (L := [(0, sl r N), (1, I64 a), (2, I64 b), (3, CF), (8, I64 i)]) ?_ ⟨dj, hdj, ?_, rfl, rfl⟩
          · simp only [HasA, Tr.get_put, Nat.reduceEqDiff, reduceIte, and_self]
          · rw [← hq]
            cases j with
            | zero => rfl
            | succ m => rw [insInner]; simp; omega
      · rintro L a' h1 ha ⟨dj, hdj, rfl, rfl, rfl⟩
        have w1 : IntKind.i64.wrap ((i : Int) + 1) = ((i + 1 : Nat) : Int) := by rw [wrap_i64 xA xA]; omega
        refine BQ.normal <| SQ.normal <| CWp.known ha ?_
        simp only [mkA]
        have jW := @w1
        refine W.reg <| ja sm <| ja Ja <| ja za <| OSuf.nil <| ?_
        refine LQ.normal (m := b - (i + 1)) (L := [(0, sl r N), (1, I64 a), (2, I64 b), (3, CF), (8, I64 (i + 1 : Nat))]) xA ?_ ⟨i + 1, insInner lt a i dk, rfl, by omega, by omega, hdj, ?_, rfl, rfl⟩
        · simp only [HasA, Tr.get_put, Nat.reduceEqDiff, reduceIte, w1, and_self]
        · rw [← heq]
          conv => rhs; rw [insOuter]
          rw [if_pos xA]
    · refine W.seq <| Wr <| ja sm <| ja sm <| jy Jt <| On ?_
      refine Wn <| CWp.exit <| SQ.exit <| LQ.exit <| BQ.exit <| JR ?_
      refine ⟨rfl, ?_⟩
      rw [← heq, insOuter, if_neg xA]
end Go.Proofs.YtebheelmgcggmaaGreat.SortR
namespace Go.Proofs.YtebheelmgcggmaaGreat.SortR
open Go.Ab Go.Sort
theorem sift_c (h : AHeap) (r N : Nat) (d : Array El) (hN : d.size = N) (lo hi first : Nat) (hlo : lo ≤ hi) (hb : first + hi ≤ N) (hsz : N < 1000000000) :
    FWp Tryz.prog 121 [sl r N, I64 lo, I64 hi, I64 first, CF] (h.set r (row d)) fun u h' => u = .tuple #[] ∧ h' = h.set r (row (siftDown lt hi first lo d)) := by
  refine W.enter tyOK Tryz.func121 rfl rfl ?_
  simp only [entry]
  refine Wr <| ja sm <| ja za <| On ?_
  refine W.block (W.loop (fun n L h' => ∃ (root : Nat) (dk : Array El), n = hi - root ∧ root ≤ hi ∧ dk.size = N ∧ siftDown lt hi first root dk = siftDown lt hi first lo d ∧ h' = h.set r (row dk) ∧
      L = [(0, sl r N), (2, I64 hi), (3, I64 first), (4, CF), (10, I64 root)]) (n := hi - lo) ⟨lo, d, rfl, hlo, hN, rfl, rfl, rfl⟩ ?_ ?_)
  · simp [HasA, Tr.get_put]
  · rintro n L h1 ⟨root, dk, rfl, hrt, hds, heq, rfl, rfl⟩
    simp only [mkA]
    have w1 : IntKind.i64.wrap (2 * (root : Int)) = 2 * (root : Int) := wrap_i64 xA xA
    have w2 : IntKind.i64.wrap (2 * (root : Int) + 1) = ((2 * root + 1 : Nat) : Int) := by rw [wrap_i64 xA xA]; omega
    have w3 : IntKind.i64.wrap (((2 * root + 1 : Nat) : Int) + 1) = ((2 * root + 2 : Nat) : Int) := by rw [wrap_i64 xA xA]; omega
    have w4 : IntKind.i64.wrap ((first : Int) + ((2 * root + 1 : Nat) : Int)) = ((first + (2 * root + 1) : Nat) : Int) := by rw [wrap_i64 xA xA]; omega
    have w5 : IntKind.i64.wrap (((first + (2 * root + 1) : Nat) : Int) + 1) = ((first + (2 * root + 1) + 1 : Nat) : Int) := by rw [wrap_i64 xA xA]; omega
    have w6 : IntKind.i64.wrap ((first : Int) + (root : Int)) = ((first + root : Nat) : Int) := by rw [wrap_i64 xA xA]; omega
    have w7 : IntKind.i64.wrap ((first : Int) + ((2 * root + 2 : Nat) : Int)) = ((first + (2 * root + 2) : Nat) : Int) := by rw [wrap_i64 xA xA]; omega
    rw [siftDown] at heq
    by_cases hc : ((2 * root + 1 : Nat) : Int) ≥ (hi : Int)
    · have jW := An @w1 <| @w2
      refine W.block <| Wr <| ja sm <| ja (Jw (e := bi_mul)) <| ja Ja <| ja za <| On ?_
      refine W.seq <| Wr <| ja sm <| ja sm <| jx Jx <| On ?_
      refine Wy <| CWp.exit <| SQ.exit <| BQ.out rfl <| LQ.exit <| BQ.exit <| JR ?_
      refine ⟨rfl, ?_⟩
      rw [← heq, dif_pos xA]
    rw [dif_neg xA] at heq
    by_cases hc2 : ((2 * root + 2 : Nat) : Int) < (hi : Int)
    · have hc3 : 2 * root + 1 + 1 < hi := by omega
      cases hl1 : lt dk[first + (2 * root + 1)]! dk[first + (2 * root + 1) + 1]!
      · rw [hl1] at heq
        simp only [Bool.and_false, Bool.false_eq_true, if_false] at heq
        cases hl2 : lt dk[first + root]! dk[first + (2 * root + 1)]!
        · have jW := An @w1 <| An @w2 <| An @w3 <| An @w4 <| An @w5 <| An @w6 <| @w7
          refine W.block <| Wr <| ja sm <| ja (Jw (e := bi_mul)) <| ja Ja <| ja za <| On ?_
          have jY := An @sq <| An ty27 <| ty23
          refine W.seq <| Wr <| ja sm <| ja sm <| jf Jx <| On ?_
          refine Wn <| CWp.skip <| SQ.normal ?_
          refine W.seq <| Wd <| jb sm <| jb Ja <| jb sm <| jg Jt <| jG sm rfl <| jb sm <| jb sm <| jb sm <| jb sm <| jb Ja <| jb Ji <| jb Jl <| jb sm <| jb sm <| jb sm <| jb Ja <| jb Ja <| jb Ji <| jb Jl <| jl (Jd (less_v _ _ _ _ hl1)) rfl <| jH Jt rfl <| jH Zp rfl <| Sn ?_
          refine Wn <| CWp.skip <| SQ.normal ?_
          refine W.seq <| Wd <| jb sm <| jb sm <| jb sm <| jb sm <| jb Ja <| jb Ji <| jb Jl <| jb sm <| jb sm <| jb sm <| jb Ja <| jb Ji <| jb Jl <| jl (Jd (less_v _ _ _ _ hl2)) rfl <| jH Jt rfl <| jG Zt rfl <| Sn ?_
          refine Wy <| CWp.ret <| SQ.ret <| BQ.ret <| LQ.ret <| BQ.ret <| Jr ?_
          refine ⟨rfl, ?_⟩
          rw [← heq]; simp [hl2]
        · have jW := An @w1 <| An @w2 <| An @w3 <| An @w4 <| An @w5 <| An @w6 <| @w7
          refine W.block <| Wr <| ja sm <| ja (Jw (e := bi_mul)) <| ja Ja <| ja za <| On ?_
          have jY := An @sq <| An ty27 <| ty23
          refine W.seq <| Wr <| ja sm <| ja sm <| jf Jx <| On ?_
          refine Wn <| CWp.skip <| SQ.normal ?_
          refine W.seq <| Wd <| jb sm <| jb Ja <| jb sm <| jg Jt <| jG sm rfl <| jb sm <| jb sm <| jb sm <| jb sm <| jb Ja <| jb Ji <| jb Jl <| jb sm <| jb sm <| jb sm <| jb Ja <| jb Ja <| jb Ji <| jb Jl <| jl (Jd (less_v _ _ _ _ hl1)) rfl <| jH Jt rfl <| jH Zp rfl <| Sn ?_
          refine Wn <| CWp.skip <| SQ.normal ?_
          refine W.seq <| Wd <| jb sm <| jb sm <| jb sm <| jb sm <| jb Ja <| jb Ji <| jb Jl <| jb sm <| jb sm <| jb sm <| jb Ja <| jb Ji <| jb Jl <| jl (Jd (less_v _ _ _ _ hl2)) rfl <| jG Jt rfl <| jH Zt rfl <| Sn ?_
          refine Wn <| CWp.skip <| SQ.normal ?_
          refine Wd <| jb sm <| jb sm <| jb sm <| jb Ja <| jb sm <| jb sm <| jb sm <| jb Ja <| jb sm <| jb sm <| jb sm <| jb Ja <| jb Ji <| jb Jl <| jb sm <| jb sm <| jb sm <| jb Ja <| jb Ji <| jb Jl <| jb Ji <| jd Js <| jb Ji <| jd Js <| Sn ?_
          refine W.reg <| ja sm <| ja za <| OSuf.nil <| BQ.normal <| ?_
          refine LQ.normal (m := hi - (2 * root + 1)) (L := [(0, sl r N), (2, I64 hi), (3, I64 first), (4, CF), (10, I64 (2 * root + 1 : Nat))]) xA ?_ ⟨2 * root + 1, swp dk (first + root) (first + (2 * root + 1)), rfl, by omega, by rw [size_swp]; exact hds, ?_, rfl, rfl⟩
          · simp only [HasA, Tr.get_put, Nat.reduceEqDiff, reduceIte, and_self]
          · rw [← heq]; simp [hl2]
      · rw [hl1] at heq
        have hc4 : 2 * root + 2 < hi := by omega
        simp only [hc3, decide_true, Bool.and_true, if_true, hc4, dif_pos] at heq
        cases hl2 : lt dk[first + root]! dk[first + (2 * root + 2)]!
        · have jW := An @w1 <| An @w2 <| An @w3 <| An @w4 <| An @w5 <| An @w6 <| @w7
          refine W.block <| Wr <| ja sm <| ja (Jw (e := bi_mul)) <| ja Ja <| ja za <| On ?_
          have jY := An @sq <| An ty27 <| ty23
          refine W.seq <| Wr <| ja sm <| ja sm <| jf Jx <| On ?_
          refine Wn <| CWp.skip <| SQ.normal ?_
          refine W.seq <| Wd <| jb sm <| jb Ja <| jb sm <| jg Jt <| jG sm rfl <| jb sm <| jb sm <| jb sm <| jb sm <| jb Ja <| jb Ji <| jb Jl <| jb sm <| jb sm <| jb sm <| jb Ja <| jb Ja <| jb Ji <| jb Jl <| jl (Jd (less_v _ _ _ _ hl1)) rfl <| jG Jt rfl <| jG Zp rfl <| Sn ?_
          refine Wy <| W.reg <| ja sm <| ja Ja <| ja za <| On ?_
          refine W.seq <| Wd <| jb sm <| jb sm <| jb sm <| jb sm <| jb Ja <| jb Ji <| jb Jl <| jb sm <| jb sm <| jb sm <| jb Ja <| jb Ji <| jb Jl <| jl (Jd (less_v _ _ _ _ hl2)) rfl <| jH Jt rfl <| jG Zt rfl <| Sn ?_
          refine Wy <| CWp.ret <| SQ.ret <| BQ.ret <| LQ.ret <| BQ.ret <| Jr ?_
          refine ⟨rfl, ?_⟩
          rw [← heq]; simp [hl2]
        · have jW := An @w1 <| An @w2 <| An @w3 <| An @w4 <| An @w5 <| An @w6 <| @w7
          refine W.block <| Wr <| ja sm <| ja (Jw (e := bi_mul)) <| ja Ja <| ja za <| On ?_
          have jY := An @sq <| An ty27 <| ty23
          refine W.seq <| Wr <| ja sm <| ja sm <| jf Jx <| On ?_
          refine Wn <| CWp.skip <| SQ.normal ?_
          refine W.seq <| Wd <| jb sm <| jb Ja <| jb sm <| jg Jt <| jG sm rfl <| jb sm <| jb sm <| jb sm <| jb sm <| jb Ja <| jb Ji <| jb Jl <| jb sm <| jb sm <| jb sm <| jb Ja <| jb Ja <| jb Ji <| jb Jl <| jl (Jd (less_v _ _ _ _ hl1)) rfl <| jG Jt rfl <| jG Zp rfl <| Sn ?_
          refine Wy <| W.reg <| ja sm <| ja Ja <| ja za <| On ?_
          refine W.seq <| Wd <| jb sm <| jb sm <| jb sm <| jb sm <| jb Ja <| jb Ji <| jb Jl <| jb sm <| jb sm <| jb sm <| jb Ja <| jb Ji <| jb Jl <| jl (Jd (less_v _ _ _ _ hl2)) rfl <| jG Jt rfl <| jH Zt rfl <| Sn ?_
          refine Wn <| CWp.skip <| SQ.normal ?_
          refine Wd <| jb sm <| jb sm <| jb sm <| jb Ja <| jb sm <| jb sm <| jb sm <| jb Ja <| jb sm <| jb sm <| jb sm <| jb Ja <| jb Ji <| jb Jl <| jb sm <| jb sm <| jb sm <| jb Ja <| jb Ji <| jb Jl <| jb Ji <| jd Js <| jb Ji <| jd Js <| Sn ?_
          refine W.reg <| ja sm <| ja za <| OSuf.nil <| BQ.normal <| ?_
          refine LQ.normal (m := hi - (2 * root + 2)) (L := [(0, sl r N), (2, I64 hi), (3, I64 first), (4, CF), (10, I64 (2 * root + 2 : Nat))]) xA ?_ ⟨2 * root + 2, swp dk (first + root) (first + (2 * root + 2)), rfl, by omega, by rw [size_swp]; exact hds, ?_, rfl, rfl⟩
          · simp only [HasA, Tr.get_put, Nat.reduceEqDiff, reduceIte, and_self]
          · rw [← heq]; simp [hl2, hc2]
    · have hc3 : ¬ 2 * root + 1 + 1 < hi := by omega
      simp only [hc3, decide_false, Bool.false_and, Bool.false_eq_true, if_false] at heq
      cases hl2 : lt dk[first + root]! dk[first + (2 * root + 1)]!
      · have jW := An @w1 <| An @w2 <| An @w3 <| An @w4 <| An @w5 <| An @w6 <| @w7
        refine W.block <| Wr <| ja sm <| ja (Jw (e := bi_mul)) <| ja Ja <| ja za <| On ?_
        have jY := An @sq <| An ty27 <| ty23
        refine W.seq <| Wr <| ja sm <| ja sm <| jf Jx <| On ?_
        refine Wn <| CWp.skip <| SQ.normal ?_
        refine W.seq <| Wd <| jb sm <| jb Ja <| jb sm <| jh Jt <| jH sm rfl <| jq rfl <| jq rfl <| jq rfl <| jq rfl <| jq rfl <| jq rfl <| jq rfl <| jq rfl <| jq rfl <| jq rfl <| jq rfl <| jq rfl <| jq rfl <| jq rfl <| jq rfl <| jq rfl <| jH Zp rfl <| Sn ?_
        refine Wn <| CWp.skip <| SQ.normal ?_
        refine W.seq <| Wd <| jb sm <| jb sm <| jb sm <| jb sm <| jb Ja <| jb Ji <| jb Jl <| jb sm <| jb sm <| jb sm <| jb Ja <| jb Ji <| jb Jl <| jl (Jd (less_v _ _ _ _ hl2)) rfl <| jH Jt rfl <| jG Zt rfl <| Sn ?_
        refine Wy <| CWp.ret <| SQ.ret <| BQ.ret <| LQ.ret <| BQ.ret <| Jr ?_
        refine ⟨rfl, ?_⟩
        rw [← heq]; simp [hl2]
      · have jW := An @w1 <| An @w2 <| An @w3 <| An @w4 <| An @w5 <| An @w6 <| @w7
        refine W.block <| Wr <| ja sm <| ja (Jw (e := bi_mul)) <| ja Ja <| ja za <| On ?_
        have jY := An @sq <| An ty27 <| ty23
        refine W.seq <| Wr <| ja sm <| ja sm <| jf Jx <| On ?_
        refine Wn <| CWp.skip <| SQ.normal ?_
        refine W.seq <| Wd <| jb sm <| jb Ja <| jb sm <| jh Jt <| jH sm rfl <| jq rfl <| jq rfl <| jq rfl <| jq rfl <| jq rfl <| jq rfl <| jq rfl <| jq rfl <| jq rfl <| jq rfl <| jq rfl <| jq rfl <| jq rfl <| jq rfl <| jq rfl <| jq rfl <| jH Zp rfl <| Sn ?_
        refine Wn <| CWp.skip <| SQ.normal ?_
        refine W.seq <| Wd <| jb sm <| jb sm <| jb sm <| jb sm <| jb Ja <| jb Ji <| jb Jl <| jb sm <| jb sm <| jb sm <| jb Ja <| jb Ji <| jb Jl <| jl (Jd (less_v _ _ _ _ hl2)) rfl <| jG Jt rfl <| jH Zt rfl <| Sn ?_
        refine Wn <| CWp.skip <| SQ.normal ?_
        refine Wd <| jb sm <| jb sm <| jb sm <| jb Ja <| jb sm <| jb sm <| jb sm <| jb Ja <| jb sm <| jb sm <| jb sm <| jb Ja <| jb Ji <| jb Jl <| jb sm <| jb sm <| jb sm <| jb Ja <| jb Ji <| jb Jl <| jb Ji <| jd Js <| jb Ji <| jd Js <| Sn ?_
        refine W.reg <| ja sm <| ja za <| OSuf.nil <| BQ.normal <| ?_
        refine LQ.normal (m := hi - (2 * root + 1)) (L := [(0, sl r N), (2, I64 hi), (3, I64 first), (4, CF), (10, I64 (2 * root + 1 : Nat))]) xA ?_ ⟨2 * root + 1, swp dk (first + root) (first + (2 * root + 1)), rfl, by omega, by rw [size_swp]; exact hds, ?_, rfl, rfl⟩
        · simp only [HasA, Tr.get_put, Nat.reduceEqDiff, reduceIte, and_self]
        · rw [← heq]; simp [hl2]
theorem sift_size (hi first : Nat) : ∀ (n root : Nat) (e : Array El), hi - root ≤ n → (siftDown lt hi first root e).size = e.size := by
  intro n
  induction n with
  | zero => intro root e hn; rw [siftDown, dif_pos xA]
  | succ n ih =>
    intro root e hn
    rw [siftDown]
    split
    · rfl
    · split
      · split
        · rfl
        · split
          · rw [ih _ _ xA, size_swp]
          · rfl
      · split
        · rfl
        · rw [ih _ _ xA, size_swp]
theorem heap_c (h : AHeap) (r N : Nat) (d : Array El) (hN : d.size = N) (a b : Nat) (hab : a ≤ b) (hb : b ≤ N) (hsz : N < 1000000000) :
    FWp Tryz.prog 106 [sl r N, I64 a, I64 b, CF] (h.set r (row d)) fun u h' => u = .tuple #[] ∧ h' = h.set r (row (heapSort lt d a b)) := by
  refine W.enter tyOK Tryz.func106 rfl rfl ?_
  simp only [entry]
  have w1 : IntKind.i64.wrap ((b : Int) - (a : Int)) = ((b - a : Nat) : Int) := by rw [wrap_i64 xA xA]; omega
  have w2 : IntKind.i64.wrap (((b - a : Nat) : Int) - 1) = ((b - a : Nat) : Int) - 1 := wrap_i64 xA xA
  have w3 : IntKind.i64.wrap ((((b - a : Nat) : Int) - 1).tdiv 2) = (((b - a - 1) / 2 + 1 : Nat) : Int) - 1 := by
    rw [wrap_i64]
    · by_cases h0 : b - a = 0
      · rw [h0]; rfl
      · rw [Int.tdiv_eq_ediv_of_nonneg xA]; omega
    · by_cases h0 : b - a = 0
      · rw [h0]; decide
      · rw [Int.tdiv_eq_ediv_of_nonneg xA]; omega
    · by_cases h0 : b - a = 0
      · rw [h0]; decide
      · rw [Int.tdiv_eq_ediv_of_nonneg xA]; omega
  refine Wr <| ja sm <| ja za <| On ?_
  refine Wr <| ja za <| On ?_
  have jW := An @w1 <| An @w2 <| @w3
  refine Wr <| ja sm <| ja sm <| ja Jb <| ja za <| On ?_
  refine W.seq <| Wr <| ja sm <| ja Jb <| ja (Jw (e := (bi_quo xK))) <| ja za <| On ?_
  refine W.cut (fun L h' => ∃ dk : Array El, dk.size = N ∧ dk = heapBuild lt (b - a) a ((b - a - 1) / 2 + 1) d ∧ h' = h.set r (row dk) ∧ L = [(0, sl r N), (3, CF), (8, I64 a), (9, I64 (0 : Nat)), (10, I64 (b - a : Nat))])
    (W.block (W.loop (fun n L h' => ∃ (dk : Array El), n ≤ (b - a - 1) / 2 + 1 ∧ dk.size = N ∧ heapBuild lt (b - a) a n dk = heapBuild lt (b - a) a ((b - a - 1) / 2 + 1) d ∧ h' = h.set r (row dk) ∧
      L = [(0, sl r N), (3, CF), (8, I64 a), (9, I64 (0 : Nat)), (10, I64 (b - a : Nat)), (11, I64 ((n : Int) - 1))]) (n := (b - a - 1) / 2 + 1) ⟨d, Nat.le_refl _, hN, rfl, rfl, rfl⟩ ?_ ?_)) ?_
  · simp [HasA, Tr.get_put]
  · rintro n L h1 ⟨dk, hn, hds, heq, rfl, rfl⟩
    simp only [mkA]
    cases n with
    | zero =>
      refine W.seq <| Wr <| ja sm <| jy Jx <| On ?_
      refine Wn <| CWp.exit <| SQ.exit <| LQ.exit <| BQ.exit <| ?_
      refine NQ.normal (L := [(0, sl r N), (3, CF), (8, I64 a), (9, I64 (0 : Nat)), (10, I64 (b - a : Nat))]) ?_ ⟨dk, hds, heq, rfl, rfl⟩
      simp [HasA, Tr.get_put]
    | succ k =>
      have e1 : (((k + 1 : Nat) : Int) - 1) = (k : Int) := by omega
      rw [e1]
      have w4 : IntKind.i64.wrap ((k : Int) - 1) = (k : Int) - 1 := wrap_i64 xA xA
      have hk : k ≤ b - a := by omega
      refine W.seq <| Wr <| ja sm <| jx Jx <| On ?_
      refine Wy <| CWp.skip <| SQ.normal ?_
      refine W.seq <| W.block <| W.reg <| ja sm <| ja sm <| ja sm <| ja sm <| ja sm <| jk (Jc en121 (sift_c h r N dk hds k (b - a) a hk xA xA)) rfl <| OSuf.nil <| BQ.normal <| SQ.normal ?_
      have jW := @w4
      refine W.reg <| ja sm <| ja Jb <| ja za <| OSuf.nil <| ?_
      refine LQ.normal (m := k) (L := [(0, sl r N), (3, CF), (8, I64 a), (9, I64 (0 : Nat)), (10, I64 (b - a : Nat)), (11, I64 ((k : Int) - 1))]) xA ?_ ⟨siftDown lt (b - a) a k dk, by omega, ?_, ?_, rfl, rfl⟩
      · simp only [HasA, Tr.get_put, Nat.reduceEqDiff, reduceIte, and_self]
      · rw [sift_size _ _ _ _ _ (Nat.le_refl _)]; exact hds
      · rw [← heq]; rfl
  rintro L a' h1 ha ⟨dk, hds, hdk, rfl, rfl⟩
  refine SQ.normal <| CWp.known ha ?_
  simp only [mkA]
  have jW := @w2
  refine Wr <| ja sm <| ja Jb <| ja za <| On ?_
  refine W.block (W.loop (fun n L h' => ∃ (dj : Array El), n ≤ b - a ∧ dj.size = N ∧ heapPop lt a n dj = heapPop lt a (b - a) dk ∧ h' = h.set r (row dj) ∧
      L = [(0, sl r N), (3, CF), (8, I64 a), (9, I64 (0 : Nat)), (12, I64 ((n : Int) - 1))]) (n := b - a) ⟨dk, Nat.le_refl _, hds, rfl, rfl, rfl⟩ ?_ ?_)
  · simp [HasA, Tr.get_put]
  · rintro n L h1 ⟨dj, hn, hdj, heq, rfl, rfl⟩
    simp only [mkA]
    cases n with
    | zero =>
      refine W.seq <| Wr <| ja sm <| jy Jx <| On ?_
      refine Wn <| CWp.exit <| SQ.exit <| LQ.exit <| BQ.exit <| JR ?_
      refine ⟨rfl, ?_⟩
      rw [heapSort, ← hdk, ← heq]; rfl
    | succ k =>
      have e1 : (((k + 1 : Nat) : Int) - 1) = (k : Int) := by omega
      rw [e1]
      have w4 : IntKind.i64.wrap ((k : Int) - 1) = (k : Int) - 1 := wrap_i64 xA xA
      have w5 : IntKind.i64.wrap ((a : Int) + (k : Int)) = ((a + k : Nat) : Int) := by rw [wrap_i64 xA xA]; omega
      have hsw : (swp dj a (a + k)).size = N := by rw [size_swp]; exact hdj
      have jY := An @sq <| An ty27 <| ty23
      refine W.seq <| Wr <| ja sm <| je Jx <| On ?_
      refine Wy <| CWp.skip <| SQ.normal ?_
      have jW := An @w4 <| @w5
      refine W.seq <| W.block <| Wd <| jb sm <| jb sm <| jb sm <| jb sm <| jb sm <| jb Ja <| jb sm <| jb sm <| jb sm <| jb Ja <| jb Ji <| jb Jl <| jb sm <| jb sm <| jb Ji <| jb Jl <| jb Ji <| jd Js <| jb Ji <| jd Js <| Sn ?_
      refine W.reg <| ja sm <| ja sm <| ja sm <| ja sm <| ja sm <| jk (Jc en121 (sift_c h r N (swp dj a (a + k)) hsw 0 k a xA xA xA)) rfl <| OSuf.nil <| BQ.normal <| SQ.normal ?_
      refine W.reg <| ja sm <| ja Jb <| ja za <| OSuf.nil <| ?_
      refine LQ.normal (m := k) (L := [(0, sl r N), (3, CF), (8, I64 a), (9, I64 (0 : Nat)), (12, I64 ((k : Int) - 1))]) xA ?_ ⟨siftDown lt k a 0 (swp dj a (a + k)), by omega, ?_, ?_, rfl, rfl⟩
      · simp only [HasA, Tr.get_put, Nat.reduceEqDiff, reduceIte, and_self]
      · rw [sift_size _ _ _ _ _ (Nat.le_refl _)]; exact hsw
      · rw [← heq]; rfl
theorem reverse_c (h : AHeap) (r N : Nat) (d : Array El) (hN : d.size = N) (a b : Nat) (hab : a < b) (hb : b ≤ N) (hsz : N < 1000000000) :
    FWp Tryz.prog 109 [sl r N, I64 a, I64 b, CF] (h.set r (row d)) fun u h' => u = .tuple #[] ∧ h' = h.set r (row (reverseRange d a b)) := by
  refine W.enter tyOK Tryz.func109 rfl rfl ?_
  simp only [entry]
  have w1 : IntKind.i64.wrap ((b : Int) - 1) = ((b - 1 : Nat) : Int) := by rw [wrap_i64 xA xA]; omega
  refine Wr <| ja sm <| ja za <| On ?_
  have jW := @w1
  refine Wr <| ja sm <| ja Jb <| ja za <| On ?_
  refine W.block (W.loop (fun n L h' => ∃ (i j : Nat) (dk : Array El), n = j - i ∧ a ≤ i ∧ i ≤ b ∧ j < b ∧ dk.size = N ∧ reverseLoop i j dk = reverseRange d a b ∧ h' = h.set r (row dk) ∧
      L = [(0, sl r N), (3, CF), (8, I64 i), (9, I64 j)]) (n := b - 1 - a) ⟨a, b - 1, d, rfl, by omega, by omega, by omega, hN, rfl, rfl, rfl⟩ ?_ ?_)
  · simp [HasA, Tr.get_put]
  · rintro n L h1 ⟨i, j, dk, rfl, hi, hib, hj, hds, heq, rfl, rfl⟩
    simp only [mkA]
    rw [reverseLoop] at heq
    by_cases hij : (i : Int) < (j : Int)
    · have w2 : IntKind.i64.wrap ((i : Int) + 1) = ((i + 1 : Nat) : Int) := by rw [wrap_i64 xA xA]; omega
      have w3 : IntKind.i64.wrap ((j : Int) - 1) = ((j - 1 : Nat) : Int) := by rw [wrap_i64 xA xA]; omega
      rw [if_pos xA] at heq
      have jY := An @sq <| An ty27 <| ty23
      refine W.seq <| Wr <| ja sm <| ja sm <| je Jt <| On ?_
      refine Wy <| CWp.skip <| SQ.normal ?_
      refine W.block <| Wd <| jb sm <| jb sm <| jb sm <| jb sm <| jb sm <| jb sm <| jb Ji <| jb Jl <| jb sm <| jb sm <| jb Ji <| jb Jl <| jb Ji <| jd Js <| jb Ji <| jd Js <| Sn ?_
      have jW := An @w2 <| @w3
      refine Wr <| ja sm <| ja Ja <| ja za <| On ?_
      refine W.reg <| ja sm <| ja Jb <| ja za <| OSuf.nil <| BQ.normal <| ?_
      refine LQ.normal (m := (j - 1) - (i + 1)) (L := [(0, sl r N), (3, CF), (8, I64 (i + 1 : Nat)), (9, I64 (j - 1 : Nat))]) xA ?_ ⟨i + 1, j - 1, swp dk i j, rfl, by omega, by omega, by omega, by rw [size_swp]; exact hds, heq, rfl, rfl⟩
      simp only [HasA, Tr.get_put, Nat.reduceEqDiff, reduceIte, and_self]
    · rw [if_neg xA] at heq
      refine W.seq <| Wr <| ja sm <| ja sm <| jy Jt <| On ?_
      refine Wn <| CWp.exit <| SQ.exit <| LQ.exit <| BQ.exit <| JR ?_
      exact ⟨rfl, by rw [← heq]⟩
end Go.Proofs.YtebheelmgcggmaaGreat.SortR
namespace Go.Proofs.YtebheelmgcggmaaGreat.SortR
open Go.Ab Go.Sort
theorem up_eq {p : El → Bool} {d : Array El} {j i : Nat} (h : i ≤ j) (hp : p d[i]! = true) : scanUp p d j i = scanUp p d j (i + 1) := by conv => lhs; rw [scanUp]; simp [h, hp]
theorem up_stop {p : El → Bool} {d : Array El} {j i : Nat} (h : ¬ i ≤ j ∨ p d[i]! = false) : scanUp p d j i = i := by
  rw [scanUp]
  rcases h with h | h
  · simp [h]
  · simp [h]
theorem down_eq {p : El → Bool} {d : Array El} {j i : Nat} (h : i ≤ j + 1) (hp : p d[j + 1]! = true) : scanDown p d i (j + 1) = scanDown p d i j := by conv => lhs; rw [scanDown]; simp [h, hp]
theorem down_stop {p : El → Bool} {d : Array El} {j i : Nat} (hi : 1 ≤ i) (h : ¬ i ≤ j ∨ p d[j]! = false) : scanDown p d i j = j := by
  cases j with
  | zero => rfl
  | succ j =>
    rw [scanDown]
    rcases h with h | h
    · simp [h]
    · simp [h]
theorem swp_sz {d : Array El} {i j n : Nat} (h : d.size = n) : (swp d i j).size = n := by rw [size_swp]; exact h
theorem partition_c (h : AHeap) (r N : Nat) (d : Array El) (hN : d.size = N) (a b pivot : Nat) (hap : a ≤ pivot) (hpb : pivot < b) (hb : b ≤ N) (hsz : N < 1000000000) :
    FWp Tryz.prog 112 [sl r N, I64 a, I64 b, I64 pivot, CF] (h.set r (row d)) fun u h' => u = .tuple #[I64 (partition lt d a b pivot).1, .bool (partition lt d a b pivot).2.1] ∧ h' = h.set r (row (partition lt d a b pivot).2.2) := by
  obtain ⟨d1, hd1⟩ : ∃ d1, d1 = swp d a pivot := ⟨_, rfl⟩
  have hs1 : d1.size = N := by rw [hd1]; exact swp_sz hN
  have hpart : partition lt d a b pivot = (let i := scanUp (fun x => lt x d1[a]!) d1 (b - 1) (a + 1); let j := scanDown (fun x => !lt x d1[a]!) d1 i (b - 1); if i > j then (j, true, swp d1 j a) else
    let r := partLoop lt a (i + 1) (j - 1) (swp d1 i j); (r.1, false, swp r.2 r.1 a)) := by rw [hd1]; rfl
  rw [hpart]
  refine W.enter tyOK Tryz.func112 rfl rfl ?_
  simp only [entry]
  have w1 : IntKind.i64.wrap ((a : Int) + 1) = ((a + 1 : Nat) : Int) := by rw [wrap_i64 xA xA]; omega
  have w2 : IntKind.i64.wrap ((b : Int) - 1) = ((b - 1 : Nat) : Int) := by rw [wrap_i64 xA xA]; omega
  refine Wr <| ja za <| jF za rfl <| On ?_
  have jY := An @sq <| An ty27 <| ty23
  refine Wd <| jb sm <| jb sm <| jb sm <| jb sm <| jb sm <| jb sm <| jb Ji <| jb Jl <| jb sm <| jb sm <| jb Ji <| jb Jl <| jb Ji <| jd Js <| jb Ji <| jd Js <| Sn ?_
  have jW := An @w1 <| @w2
  refine Wr <| ja sm <| ja Ja <| ja sm <| ja Jb <| ja za <| ja za <| On ?_
  refine W.seq <| ?_
  rw [show (d.setIfInBounds a d[pivot]!).setIfInBounds pivot d[a]! = d1 from hd1.symm]
  generalize hi0 : a + 1 = i0 at *
  generalize hj0 : b - 1 = j0 at *
  refine W.cut (fun L h' => h' = h.set r (row d1) ∧ L = [(0, sl r N), (1, I64 a), (4, CF), (12, I64 (scanUp (fun x => lt x d1[a]!) d1 j0 i0 : Nat)), (13, I64 j0)])
    (W.block (W.loop (fun n L h' => ∃ i : Nat, n = j0 + 1 - i ∧ 1 ≤ i ∧ i ≤ j0 + 1 ∧ scanUp (fun x => lt x d1[a]!) d1 j0 i = scanUp (fun x => lt x d1[a]!) d1 j0 i0 ∧ h' = h.set r (row d1) ∧ L = [(0, sl r N), (1, I64 a), (4, CF), (12, I64 i), (13, I64 j0)]) (n := j0 + 1 - i0) ⟨i0, rfl, by omega, by omega, rfl, rfl, rfl⟩ ?_ ?_)) ?_
  · simp [HasA, Tr.get_put]
  · rintro n L h1 ⟨i, rfl, hi1, hi2, heq, rfl, rfl⟩
    simp only [mkA]
    have w1 : IntKind.i64.wrap ((i : Int) + 1) = ((i + 1 : Nat) : Int) := by rw [wrap_i64 xA xA]; omega
    by_cases hij : (i : Int) ≤ (j0 : Int)
    · cases hl : lt d1[i]! d1[a]!
      · refine W.seq <| Wd <| jb sm <| jb sm <| jg Ju <| jG sm rfl <| jb sm <| jb sm <| jb sm <| jb Ji <| jb Jl <| jb sm <| jb sm <| jb Ji <| jb Jl <| jl (Jd (less_v _ _ _ _ hl)) rfl <| jH Jt rfl <| jH Zp rfl <| Sn ?_
        refine Wn <| CWp.exit <| SQ.exit <| LQ.exit <| BQ.exit <| ?_
        refine NQ.normal (L := [(0, sl r N), (1, I64 a), (4, CF), (12, I64 i), (13, I64 j0)]) ?_ ⟨rfl, ?_⟩
        · simp only [HasA, Tr.get_put, Nat.reduceEqDiff, reduceIte, and_self]
        · rw [← heq, up_stop (.inr xS)]
      · refine W.seq <| Wd <| jb sm <| jb sm <| jg Ju <| jG sm rfl <| jb sm <| jb sm <| jb sm <| jb Ji <| jb Jl <| jb sm <| jb sm <| jb Ji <| jb Jl <| jl (Jd (less_v _ _ _ _ hl)) rfl <| jG Jt rfl <| jG Zp rfl <| Sn ?_
        refine Wy <| CWp.skip <| SQ.normal ?_
        have jW := @w1
        refine W.block <| W.reg <| ja sm <| ja Ja <| ja za <| OSuf.nil <| BQ.normal <| ?_
        refine LQ.normal (m := j0 + 1 - (i + 1)) (L := [(0, sl r N), (1, I64 a), (4, CF), (12, I64 (i + 1 : Nat)), (13, I64 j0)]) xA ?_ ⟨i + 1, rfl, by omega, by omega, ?_, rfl, rfl⟩
        · simp only [HasA, Tr.get_put, Nat.reduceEqDiff, reduceIte, and_self]
        · rw [← heq]; exact (up_eq xA xS).symm
    · refine W.seq <| Wd <| jb sm <| jb sm <| jw Ju <| jH sm rfl <| jq rfl <| jq rfl <| jq rfl <| jq rfl <| jq rfl <| jq rfl <| jq rfl <| jq rfl <| jq rfl <| jq rfl <| jq rfl <| jH Zp rfl <| Sn ?_
      refine Wn <| CWp.exit <| SQ.exit <| LQ.exit <| BQ.exit <| ?_
      refine NQ.normal (L := [(0, sl r N), (1, I64 a), (4, CF), (12, I64 i), (13, I64 j0)]) ?_ ⟨rfl, ?_⟩
      · simp only [HasA, Tr.get_put, Nat.reduceEqDiff, reduceIte, and_self]
      · rw [← heq, up_stop (.inl xA)]
  rintro L a' h1 ha ⟨rfl, rfl⟩
  have hi2 := (scanUp_spec (fun x => lt x d1[a]!) d1 j0 _ i0 rfl)
  have hge := scanUp_ge (fun x => lt x d1[a]!) d1 j0 i0
  have hle : scanUp (fun x => lt x d1[a]!) d1 j0 i0 ≤ j0 + 1 := by have := hi2.2.1; omega
  generalize hgi : scanUp (fun x => lt x d1[a]!) d1 j0 i0 = i2 at *
  refine SQ.normal <| CWp.known ha ?_
  simp only [mkA]
  refine W.seq <| ?_
  refine W.cut (fun L h' => h' = h.set r (row d1) ∧ L = [(0, sl r N), (1, I64 a), (4, CF), (12, I64 i2), (13, I64 (scanDown (fun x => !lt x d1[a]!) d1 i2 j0 : Nat))])
    (W.block (W.loop (fun n L h' => ∃ j : Nat, n = j ∧ j ≤ j0 ∧ scanDown (fun x => !lt x d1[a]!) d1 i2 j = scanDown (fun x => !lt x d1[a]!) d1 i2 j0 ∧ h' = h.set r (row d1) ∧ L = [(0, sl r N), (1, I64 a), (4, CF), (12, I64 i2), (13, I64 j)]) (n := j0) ⟨j0, rfl, by omega, rfl, rfl, rfl⟩ ?_ ?_)) ?_
  · simp [HasA, Tr.get_put]
  · rintro j L h1 ⟨_, rfl, hj, heq, rfl, rfl⟩
    simp only [mkA]
    by_cases hij : (i2 : Int) ≤ (j : Int)
    · obtain ⟨m, rfl⟩ : ∃ m, j = m + 1 := ⟨j - 1, by omega⟩
      have w1 : IntKind.i64.wrap (((m + 1 : Nat) : Int) - 1) = (m : Int) := by rw [wrap_i64 xA xA]; omega
      cases hl : lt d1[m + 1]! d1[a]!
      · refine W.seq <| Wd <| jb sm <| jb sm <| jg Ju <| jG sm rfl <| jb sm <| jb sm <| jb sm <| jb Ji <| jb Jl <| jb sm <| jb sm <| jb Ji <| jb Jl <| jl (Jd (less_v _ _ _ _ hl)) rfl <| jH Jt rfl <| jG Zt rfl <| jG Zp rfl <| Sn ?_
        refine Wy <| CWp.skip <| SQ.normal ?_
        have jW := @w1
        refine W.block <| W.reg <| ja sm <| ja Jb <| ja za <| OSuf.nil <| BQ.normal <| ?_
        refine LQ.normal (m := m) (L := [(0, sl r N), (1, I64 a), (4, CF), (12, I64 i2), (13, I64 m)]) xA ?_ ⟨m, rfl, by omega, ?_, rfl, rfl⟩
        · simp only [HasA, Tr.get_put, Nat.reduceEqDiff, reduceIte, and_self]
        · rw [← heq]; exact (down_eq xA xS).symm
      · refine W.seq <| Wd <| jb sm <| jb sm <| jg Ju <| jG sm rfl <| jb sm <| jb sm <| jb sm <| jb Ji <| jb Jl <| jb sm <| jb sm <| jb Ji <| jb Jl <| jl (Jd (less_v _ _ _ _ hl)) rfl <| jG Jt rfl <| jH Zt rfl <| jH Zp rfl <| Sn ?_
        refine Wn <| CWp.exit <| SQ.exit <| LQ.exit <| BQ.exit <| ?_
        refine NQ.normal (L := [(0, sl r N), (1, I64 a), (4, CF), (12, I64 i2), (13, I64 (m + 1 : Nat))]) ?_ ⟨rfl, ?_⟩
        · simp only [HasA, Tr.get_put, Nat.reduceEqDiff, reduceIte, and_self]
        · rw [← heq, down_stop xA (.inr xS)]
    · refine W.seq <| Wd <| jb sm <| jb sm <| jw Ju <| jH sm rfl <| jq rfl <| jq rfl <| jq rfl <| jq rfl <| jq rfl <| jq rfl <| jq rfl <| jq rfl <| jq rfl <| jq rfl <| jq rfl <| jq rfl <| jH Zp rfl <| Sn ?_
      refine Wn <| CWp.exit <| SQ.exit <| LQ.exit <| BQ.exit <| ?_
      refine NQ.normal (L := [(0, sl r N), (1, I64 a), (4, CF), (12, I64 i2), (13, I64 j)]) ?_ ⟨rfl, ?_⟩
      · simp only [HasA, Tr.get_put, Nat.reduceEqDiff, reduceIte, and_self]
      · rw [← heq, down_stop xA (.inl xA)]
  rintro L a' h1 ha ⟨rfl, rfl⟩
  have hdl := scanDown_le (fun x => !lt x d1[a]!) d1 i2 j0
  have hds2 := (scanDown_spec (fun x => !lt x d1[a]!) d1 i2 j0)
  generalize hgj : scanDown (fun x => !lt x d1[a]!) d1 i2 j0 = j2 at *
  have hdl2 : i2 ≤ j2 + 1 := hds2.2.1 xA
  have hne : i2 ≤ j2 → i2 < j2 := fun hle2 => by
    have u1 := hi2.2.2.2 xA
    have u2 := hds2.2.2.2 hle2 xA
    rcases Nat.lt_or_eq_of_le hle2 with h0 | h0
    · exact h0
    · subst h0; try simp only at u1 u2
      first | (rw [u1] at u2; simp at u2; done) | (rw [u2] at u1; simp at u1; done)
  by_cases hgt : (i2 : Int) > (j2 : Int)
  · rw [if_pos xA]
    refine SQ.normal <| CWp.known ha ?_
    simp only [mkA]
    refine W.seq <| Wr <| ja sm <| ja sm <| je Jv <| On ?_
    refine Wy <| Wd <| jb sm <| jb sm <| jb sm <| jb sm <| jb sm <| jb sm <| jb Ji <| jb Jl <| jb sm <| jb sm <| jb Ji <| jb Jl <| jb Ji <| jd Js <| jb Ji <| jd Js <| Sn ?_
    refine Wr <| ja sm <| ja za <| jE za rfl <| On ?_
    refine CWp.ret <| SQ.ret <| Jr ?_
    exact ⟨rfl, rfl⟩
  rw [if_neg xA]
  have hlt2 := hne xA
  have w3 : IntKind.i64.wrap ((i2 : Int) + 1) = ((i2 + 1 : Nat) : Int) := by rw [wrap_i64 xA xA]; omega
  have w4 : IntKind.i64.wrap ((j2 : Int) - 1) = ((j2 - 1 : Nat) : Int) := by rw [wrap_i64 xA xA]; omega
  refine SQ.normal <| CWp.known ha ?_
  simp only [mkA]
  refine W.seq <| Wr <| ja sm <| ja sm <| jf Jv <| On ?_
  refine Wn <| CWp.skip <| SQ.normal ?_
  refine Wd <| jb sm <| jb sm <| jb sm <| jb sm <| jb sm <| jb sm <| jb Ji <| jb Jl <| jb sm <| jb sm <| jb Ji <| jb Jl <| jb Ji <| jd Js <| jb Ji <| jd Js <| Sn ?_
  have jW := An @w3 <| @w4
  refine Wr <| ja sm <| ja Ja <| ja za <| On ?_
  refine Wr <| ja sm <| ja Jb <| ja za <| On ?_
  refine W.seq <| ?_
  rw [show (d1.setIfInBounds i2 d1[j2]!).setIfInBounds j2 d1[i2]! = swp d1 i2 j2 from rfl]
  obtain ⟨e2, he2⟩ : ∃ e2, e2 = swp d1 i2 j2 := ⟨_, rfl⟩
  have hse : e2.size = N := by rw [he2]; exact swp_sz hs1
  rw [← he2]
  obtain ⟨i3, hi3⟩ : ∃ i3, i3 = i2 + 1 := ⟨_, rfl⟩
  obtain ⟨j3, hj3⟩ : ∃ j3, j3 = j2 - 1 := ⟨_, rfl⟩
  rw [← hi3, ← hj3]
  have k1 : a < i3 := by omega
  have k2 : i3 ≤ j3 + 1 := by omega
  have k3 : j3 < b := by omega
  clear hi3 hj3 he2 hgi hgj hne hds2 hi2 hdl hdl2 hge hle hgt hlt2 w3 w4 ha a' hpart hd1 hs1
  refine W.cut (fun L h' => ∃ (j : Nat) (dk : Array El), dk.size = N ∧ a ≤ j ∧ j < b ∧ partLoop lt a i3 j3 e2 = (j, dk) ∧ h' = h.set r (row dk) ∧ L = [(0, sl r N), (1, I64 a), (4, CF), (13, I64 j)])
    (W.block (W.loop (fun n L h' => ∃ (i j : Nat) (dk : Array El), n = j + 1 - i ∧ a < i ∧ i ≤ j + 1 ∧ j < b ∧ dk.size = N ∧ partLoop lt a i j dk = partLoop lt a i3 j3 e2 ∧ h' = h.set r (row dk) ∧
      L = [(0, sl r N), (1, I64 a), (4, CF), (12, I64 i), (13, I64 j)]) (n := j3 + 1 - i3) ⟨i3, j3, e2, rfl, k1, k2, k3, hse, rfl, rfl, rfl⟩ ?_ ?_)) ?_
  · simp [HasA, Tr.get_put]
  · rintro n L h1 ⟨i0, j0, d1, rfl, k4, k5, k6, hs1, hloop, rfl, rfl⟩
    simp only [mkA]
    refine W.block <| W.seq <| ?_
    rw [partLoop_eq] at hloop
    refine W.cut (fun L h' => h' = h.set r (row d1) ∧ L = [(0, sl r N), (1, I64 a), (4, CF), (12, I64 (scanUp (fun x => lt x d1[a]!) d1 j0 i0 : Nat)), (13, I64 j0)])
      (W.block (W.loop (fun n L h' => ∃ i : Nat, n = j0 + 1 - i ∧ 1 ≤ i ∧ i ≤ j0 + 1 ∧ scanUp (fun x => lt x d1[a]!) d1 j0 i = scanUp (fun x => lt x d1[a]!) d1 j0 i0 ∧ h' = h.set r (row d1) ∧ L = [(0, sl r N), (1, I64 a), (4, CF), (12, I64 i), (13, I64 j0)]) (n := j0 + 1 - i0) ⟨i0, rfl, by omega, by omega, rfl, rfl, rfl⟩ ?_ ?_)) ?_
    · simp [HasA, Tr.get_put]
    · rintro n L h1 ⟨i, rfl, hi1, hi2, heq, rfl, rfl⟩
      simp only [mkA]
      have w1 : IntKind.i64.wrap ((i : Int) + 1) = ((i + 1 : Nat) : Int) := by rw [wrap_i64 xA xA]; omega
      by_cases hij : (i : Int) ≤ (j0 : Int)
      · cases hl : lt d1[i]! d1[a]!
        · refine W.seq <| Wd <| jb sm <| jb sm <| jg Ju <| jG sm rfl <| jb sm <| jb sm <| jb sm <| jb Ji <| jb Jl <| jb sm <| jb sm <| jb Ji <| jb Jl <| jl (Jd (less_v _ _ _ _ hl)) rfl <| jH Jt rfl <| jH Zp rfl <| Sn ?_
          refine Wn <| CWp.exit <| SQ.exit <| LQ.exit <| BQ.exit <| ?_
          refine NQ.normal (L := [(0, sl r N), (1, I64 a), (4, CF), (12, I64 i), (13, I64 j0)]) ?_ ⟨rfl, ?_⟩
          · simp only [HasA, Tr.get_put, Nat.reduceEqDiff, reduceIte, and_self]
          · rw [← heq, up_stop (.inr xS)]
        · refine W.seq <| Wd <| jb sm <| jb sm <| jg Ju <| jG sm rfl <| jb sm <| jb sm <| jb sm <| jb Ji <| jb Jl <| jb sm <| jb sm <| jb Ji <| jb Jl <| jl (Jd (less_v _ _ _ _ hl)) rfl <| jG Jt rfl <| jG Zp rfl <| Sn ?_
          refine Wy <| CWp.skip <| SQ.normal ?_
          have jW := @w1
          refine W.block <| W.reg <| ja sm <| ja Ja <| ja za <| OSuf.nil <| BQ.normal <| ?_
          refine LQ.normal (m := j0 + 1 - (i + 1)) (L := [(0, sl r N), (1, I64 a), (4, CF), (12, I64 (i + 1 : Nat)), (13, I64 j0)]) xA ?_ ⟨i + 1, rfl, by omega, by omega, ?_, rfl, rfl⟩
          · simp only [HasA, Tr.get_put, Nat.reduceEqDiff, reduceIte, and_self]
          · rw [← heq]; exact (up_eq xA xS).symm
      · refine W.seq <| Wd <| jb sm <| jb sm <| jw Ju <| jH sm rfl <| jq rfl <| jq rfl <| jq rfl <| jq rfl <| jq rfl <| jq rfl <| jq rfl <| jq rfl <| jq rfl <| jq rfl <| jq rfl <| jH Zp rfl <| Sn ?_
        refine Wn <| CWp.exit <| SQ.exit <| LQ.exit <| BQ.exit <| ?_
        refine NQ.normal (L := [(0, sl r N), (1, I64 a), (4, CF), (12, I64 i), (13, I64 j0)]) ?_ ⟨rfl, ?_⟩
        · simp only [HasA, Tr.get_put, Nat.reduceEqDiff, reduceIte, and_self]
        · rw [← heq, up_stop (.inl xA)]
    rintro L a' h1 ha ⟨rfl, rfl⟩
    have hi2 := (scanUp_spec (fun x => lt x d1[a]!) d1 j0 _ i0 rfl)
    have hge := scanUp_ge (fun x => lt x d1[a]!) d1 j0 i0
    have hle : scanUp (fun x => lt x d1[a]!) d1 j0 i0 ≤ j0 + 1 := by have := hi2.2.1; omega
    generalize hgi : scanUp (fun x => lt x d1[a]!) d1 j0 i0 = i2 at *
    refine SQ.normal <| CWp.known ha ?_
    simp only [mkA]
    refine W.seq <| ?_
    refine W.cut (fun L h' => h' = h.set r (row d1) ∧ L = [(0, sl r N), (1, I64 a), (4, CF), (12, I64 i2), (13, I64 (scanDown (fun x => !lt x d1[a]!) d1 i2 j0 : Nat))])
      (W.block (W.loop (fun n L h' => ∃ j : Nat, n = j ∧ j ≤ j0 ∧ scanDown (fun x => !lt x d1[a]!) d1 i2 j = scanDown (fun x => !lt x d1[a]!) d1 i2 j0 ∧ h' = h.set r (row d1) ∧ L = [(0, sl r N), (1, I64 a), (4, CF), (12, I64 i2), (13, I64 j)]) (n := j0) ⟨j0, rfl, by omega, rfl, rfl, rfl⟩ ?_ ?_)) ?_
    · simp [HasA, Tr.get_put]
    · rintro j L h1 ⟨_, rfl, hj, heq, rfl, rfl⟩
      simp only [mkA]
      by_cases hij : (i2 : Int) ≤ (j : Int)
      · obtain ⟨m, rfl⟩ : ∃ m, j = m + 1 := ⟨j - 1, by omega⟩
        have w1 : IntKind.i64.wrap (((m + 1 : Nat) : Int) - 1) = (m : Int) := by rw [wrap_i64 xA xA]; omega
        cases hl : lt d1[m + 1]! d1[a]!
        · refine W.seq <| Wd <| jb sm <| jb sm <| jg Ju <| jG sm rfl <| jb sm <| jb sm <| jb sm <| jb Ji <| jb Jl <| jb sm <| jb sm <| jb Ji <| jb Jl <| jl (Jd (less_v _ _ _ _ hl)) rfl <| jH Jt rfl <| jG Zt rfl <| jG Zp rfl <| Sn ?_
          refine Wy <| CWp.skip <| SQ.normal ?_
          have jW := @w1
          refine W.block <| W.reg <| ja sm <| ja Jb <| ja za <| OSuf.nil <| BQ.normal <| ?_
          refine LQ.normal (m := m) (L := [(0, sl r N), (1, I64 a), (4, CF), (12, I64 i2), (13, I64 m)]) xA ?_ ⟨m, rfl, by omega, ?_, rfl, rfl⟩
          · simp only [HasA, Tr.get_put, Nat.reduceEqDiff, reduceIte, and_self]
          · rw [← heq]; exact (down_eq xA xS).symm
        · refine W.seq <| Wd <| jb sm <| jb sm <| jg Ju <| jG sm rfl <| jb sm <| jb sm <| jb sm <| jb Ji <| jb Jl <| jb sm <| jb sm <| jb Ji <| jb Jl <| jl (Jd (less_v _ _ _ _ hl)) rfl <| jG Jt rfl <| jH Zt rfl <| jH Zp rfl <| Sn ?_
          refine Wn <| CWp.exit <| SQ.exit <| LQ.exit <| BQ.exit <| ?_
          refine NQ.normal (L := [(0, sl r N), (1, I64 a), (4, CF), (12, I64 i2), (13, I64 (m + 1 : Nat))]) ?_ ⟨rfl, ?_⟩
          · simp only [HasA, Tr.get_put, Nat.reduceEqDiff, reduceIte, and_self]
          · rw [← heq, down_stop xA (.inr xS)]
      · refine W.seq <| Wd <| jb sm <| jb sm <| jw Ju <| jH sm rfl <| jq rfl <| jq rfl <| jq rfl <| jq rfl <| jq rfl <| jq rfl <| jq rfl <| jq rfl <| jq rfl <| jq rfl <| jq rfl <| jq rfl <| jH Zp rfl <| Sn ?_
        refine Wn <| CWp.exit <| SQ.exit <| LQ.exit <| BQ.exit <| ?_
        refine NQ.normal (L := [(0, sl r N), (1, I64 a), (4, CF), (12, I64 i2), (13, I64 j)]) ?_ ⟨rfl, ?_⟩
        · simp only [HasA, Tr.get_put, Nat.reduceEqDiff, reduceIte, and_self]
        · rw [← heq, down_stop xA (.inl xA)]
    rintro L a' h1 ha ⟨rfl, rfl⟩
    have hdl := scanDown_le (fun x => !lt x d1[a]!) d1 i2 j0
    have hds2 := (scanDown_spec (fun x => !lt x d1[a]!) d1 i2 j0)
    generalize hgj : scanDown (fun x => !lt x d1[a]!) d1 i2 j0 = j2 at *
    have hdl2 : i2 ≤ j2 + 1 := hds2.2.1 xA
    have hne : i2 ≤ j2 → i2 < j2 := fun hle2 => by
      have u1 := hi2.2.2.2 xA
      have u2 := hds2.2.2.2 hle2 xA
      rcases Nat.lt_or_eq_of_le hle2 with h0 | h0
      · exact h0
      · subst h0; try simp only at u1 u2
        first | (rw [u1] at u2; simp at u2; done) | (rw [u2] at u1; simp at u1; done)
    by_cases hgt : (i2 : Int) > (j2 : Int)
    · rw [if_pos xA] at hloop
      refine SQ.normal <| CWp.known ha ?_
      simp only [mkA]
      refine W.seq <| Wr <| ja sm <| ja sm <| je Jv <| On ?_
      refine Wy <| CWp.exit <| SQ.exit <| BQ.out rfl <| LQ.exit <| BQ.exit <| ?_
      refine NQ.normal (L := [(0, sl r N), (1, I64 a), (4, CF), (13, I64 j2)]) ?_ ⟨j2, d1, hs1, by omega, by omega, hloop.symm, rfl, rfl⟩
      simp only [HasA, Tr.get_put, Nat.reduceEqDiff, reduceIte, and_self]
    · rw [if_neg xA] at hloop
      have hlt2 := hne xA
      have w3 : IntKind.i64.wrap ((i2 : Int) + 1) = ((i2 + 1 : Nat) : Int) := by rw [wrap_i64 xA xA]; omega
      have w4 : IntKind.i64.wrap ((j2 : Int) - 1) = ((j2 - 1 : Nat) : Int) := by rw [wrap_i64 xA xA]; omega
      refine SQ.normal <| CWp.known ha ?_
      simp only [mkA]
      refine W.seq <| Wr <| ja sm <| ja sm <| jf Jv <| On ?_
      refine Wn <| CWp.skip <| SQ.normal ?_
      refine Wd <| jb sm <| jb sm <| jb sm <| jb sm <| jb sm <| jb sm <| jb Ji <| jb Jl <| jb sm <| jb sm <| jb Ji <| jb Jl <| jb Ji <| jd Js <| jb Ji <| jd Js <| Sn ?_
      have jW := An @w3 <| @w4
      refine Wr <| ja sm <| ja Ja <| ja za <| On ?_
      refine W.reg <| ja sm <| ja Jb <| ja za <| OSuf.nil <| BQ.normal <| ?_
      refine LQ.normal (m := (j2 - 1) + 1 - (i2 + 1)) (L := [(0, sl r N), (1, I64 a), (4, CF), (12, I64 (i2 + 1 : Nat)), (13, I64 (j2 - 1 : Nat))]) xA ?_ ⟨i2 + 1, j2 - 1, swp d1 i2 j2, rfl, by omega, by omega, by omega, swp_sz hs1, hloop, rfl, rfl⟩
      simp only [HasA, Tr.get_put, Nat.reduceEqDiff, reduceIte, and_self]
  rintro L a' h1 ha ⟨j, dk, hdk, hja, hjb, hlp, rfl, rfl⟩
  rw [hlp]
  refine SQ.normal <| CWp.known ha ?_
  simp only [mkA]
  refine Wd <| jb sm <| jb sm <| jb sm <| jb sm <| jb sm <| jb sm <| jb Ji <| jb Jl <| jb sm <| jb sm <| jb Ji <| jb Jl <| jb Ji <| jd Js <| jb Ji <| jd Js <| Sn ?_
  refine Wr <| ja sm <| ja za <| jF za rfl <| On ?_
  refine CWp.ret <| Jr ?_
  exact ⟨rfl, rfl⟩
theorem partEq_c (h : AHeap) (r N : Nat) (d : Array El) (hN : d.size = N) (a b pivot : Nat) (hap : a ≤ pivot) (hpb : pivot < b) (hb : b ≤ N) (hsz : N < 1000000000) :
    FWp Tryz.prog 111 [sl r N, I64 a, I64 b, I64 pivot, CF] (h.set r (row d)) fun u h' => u = I64 (partitionEqual lt d a b pivot).1 ∧ h' = h.set r (row (partitionEqual lt d a b pivot).2) := by
  obtain ⟨e2, he2⟩ : ∃ d1, d1 = swp d a pivot := ⟨_, rfl⟩
  have hse : e2.size = N := by rw [he2]; exact swp_sz hN
  have hpart : partitionEqual lt d a b pivot = partEqLoop lt a (a + 1) (b - 1) e2 := by rw [he2]; rfl
  rw [hpart]
  refine W.enter tyOK Tryz.func111 rfl rfl ?_
  simp only [entry]
  have w1 : IntKind.i64.wrap ((a : Int) + 1) = ((a + 1 : Nat) : Int) := by rw [wrap_i64 xA xA]; omega
  have w2 : IntKind.i64.wrap ((b : Int) - 1) = ((b - 1 : Nat) : Int) := by rw [wrap_i64 xA xA]; omega
  refine Wr <| ja za <| On ?_
  have jY := An @sq <| An ty27 <| ty23
  refine Wd <| jb sm <| jb sm <| jb sm <| jb sm <| jb sm <| jb sm <| jb Ji <| jb Jl <| jb sm <| jb sm <| jb Ji <| jb Jl <| jb Ji <| jd Js <| jb Ji <| jd Js <| Sn ?_
  have jW := An @w1 <| @w2
  refine Wr <| ja sm <| ja Ja <| ja sm <| ja Jb <| ja za <| ja za <| On ?_
  refine W.seq <| ?_
  rw [show (d.setIfInBounds a d[pivot]!).setIfInBounds pivot d[a]! = e2 from he2.symm]
  refine W.cut (fun L h' => ∃ (i : Nat) (dk : Array El), dk.size = N ∧ partEqLoop lt a (a + 1) (b - 1) e2 = (i, dk) ∧ h' = h.set r (row dk) ∧ L = [(4, CF), (11, I64 i)])
    (W.block (W.loop (fun n L h' => ∃ (i j : Nat) (dk : Array El), n = j + 1 - i ∧ a < i ∧ i ≤ j + 1 ∧ j < b ∧ dk.size = N ∧ partEqLoop lt a i j dk = partEqLoop lt a (a + 1) (b - 1) e2 ∧ h' = h.set r (row dk) ∧
      L = [(0, sl r N), (1, I64 a), (4, CF), (11, I64 i), (12, I64 j)]) (n := b - 1 + 1 - (a + 1)) ⟨a + 1, b - 1, e2, rfl, by omega, by omega, by omega, hse, rfl, rfl, rfl⟩ ?_ ?_)) ?_
  · simp [HasA, Tr.get_put]
  · rintro n L h1 ⟨i0, j0, d1, rfl, k4, k5, k6, hs1, hloop, rfl, rfl⟩
    simp only [mkA]
    refine W.block <| W.seq <| ?_
    rw [partEqLoop_eq] at hloop
    refine W.cut (fun L h' => h' = h.set r (row d1) ∧ L = [(0, sl r N), (1, I64 a), (4, CF), (11, I64 (scanUp (fun x => !lt d1[a]! x) d1 j0 i0 : Nat)), (12, I64 j0)])
      (W.block (W.loop (fun n L h' => ∃ i : Nat, n = j0 + 1 - i ∧ 1 ≤ i ∧ i ≤ j0 + 1 ∧ scanUp (fun x => !lt d1[a]! x) d1 j0 i = scanUp (fun x => !lt d1[a]! x) d1 j0 i0 ∧ h' = h.set r (row d1) ∧ L = [(0, sl r N), (1, I64 a), (4, CF), (11, I64 i), (12, I64 j0)]) (n := j0 + 1 - i0) ⟨i0, rfl, by omega, by omega, rfl, rfl, rfl⟩ ?_ ?_)) ?_
    · simp [HasA, Tr.get_put]
    · rintro n L h1 ⟨i, rfl, hi1, hi2, heq, rfl, rfl⟩
      simp only [mkA]
      have w1 : IntKind.i64.wrap ((i : Int) + 1) = ((i + 1 : Nat) : Int) := by rw [wrap_i64 xA xA]; omega
      by_cases hij : (i : Int) ≤ (j0 : Int)
      · cases hl : lt d1[a]! d1[i]!
        · refine W.seq <| Wd <| jb sm <| jb sm <| jg Ju <| jG sm rfl <| jb sm <| jb sm <| jb sm <| jb Ji <| jb Jl <| jb sm <| jb sm <| jb Ji <| jb Jl <| jl (Jd (less_v _ _ _ _ hl)) rfl <| jH Jt rfl <| jG Zt rfl <| jG Zp rfl <| Sn ?_
          refine Wy <| CWp.skip <| SQ.normal ?_
          have jW := @w1
          refine W.block <| W.reg <| ja sm <| ja Ja <| ja za <| OSuf.nil <| BQ.normal <| ?_
          refine LQ.normal (m := j0 + 1 - (i + 1)) (L := [(0, sl r N), (1, I64 a), (4, CF), (11, I64 (i + 1 : Nat)), (12, I64 j0)]) xA ?_ ⟨i + 1, rfl, by omega, by omega, ?_, rfl, rfl⟩
          · simp only [HasA, Tr.get_put, Nat.reduceEqDiff, reduceIte, and_self]
          · rw [← heq]; exact (up_eq xA xS).symm
        · refine W.seq <| Wd <| jb sm <| jb sm <| jg Ju <| jG sm rfl <| jb sm <| jb sm <| jb sm <| jb Ji <| jb Jl <| jb sm <| jb sm <| jb Ji <| jb Jl <| jl (Jd (less_v _ _ _ _ hl)) rfl <| jG Jt rfl <| jH Zt rfl <| jH Zp rfl <| Sn ?_
          refine Wn <| CWp.exit <| SQ.exit <| LQ.exit <| BQ.exit <| ?_
          refine NQ.normal (L := [(0, sl r N), (1, I64 a), (4, CF), (11, I64 i), (12, I64 j0)]) ?_ ⟨rfl, ?_⟩
          · simp only [HasA, Tr.get_put, Nat.reduceEqDiff, reduceIte, and_self]
          · rw [← heq, up_stop (.inr xS)]
      · refine W.seq <| Wd <| jb sm <| jb sm <| jw Ju <| jH sm rfl <| jq rfl <| jq rfl <| jq rfl <| jq rfl <| jq rfl <| jq rfl <| jq rfl <| jq rfl <| jq rfl <| jq rfl <| jq rfl <| jq rfl <| jH Zp rfl <| Sn ?_
        refine Wn <| CWp.exit <| SQ.exit <| LQ.exit <| BQ.exit <| ?_
        refine NQ.normal (L := [(0, sl r N), (1, I64 a), (4, CF), (11, I64 i), (12, I64 j0)]) ?_ ⟨rfl, ?_⟩
        · simp only [HasA, Tr.get_put, Nat.reduceEqDiff, reduceIte, and_self]
        · rw [← heq, up_stop (.inl xA)]
    rintro L a' h1 ha ⟨rfl, rfl⟩
    have hi2 := (scanUp_spec (fun x => !lt d1[a]! x) d1 j0 _ i0 rfl)
    have hge := scanUp_ge (fun x => !lt d1[a]! x) d1 j0 i0
    have hle : scanUp (fun x => !lt d1[a]! x) d1 j0 i0 ≤ j0 + 1 := by have := hi2.2.1; omega
    generalize hgi : scanUp (fun x => !lt d1[a]! x) d1 j0 i0 = i2 at *
    refine SQ.normal <| CWp.known ha ?_
    simp only [mkA]
    refine W.seq <| ?_
    refine W.cut (fun L h' => h' = h.set r (row d1) ∧ L = [(0, sl r N), (1, I64 a), (4, CF), (11, I64 i2), (12, I64 (scanDown (fun x => lt d1[a]! x) d1 i2 j0 : Nat))])
      (W.block (W.loop (fun n L h' => ∃ j : Nat, n = j ∧ j ≤ j0 ∧ scanDown (fun x => lt d1[a]! x) d1 i2 j = scanDown (fun x => lt d1[a]! x) d1 i2 j0 ∧ h' = h.set r (row d1) ∧ L = [(0, sl r N), (1, I64 a), (4, CF), (11, I64 i2), (12, I64 j)]) (n := j0) ⟨j0, rfl, by omega, rfl, rfl, rfl⟩ ?_ ?_)) ?_
    · simp [HasA, Tr.get_put]
    · rintro j L h1 ⟨_, rfl, hj, heq, rfl, rfl⟩
      simp only [mkA]
      by_cases hij : (i2 : Int) ≤ (j : Int)
      · obtain ⟨m, rfl⟩ : ∃ m, j = m + 1 := ⟨j - 1, by omega⟩
        have w1 : IntKind.i64.wrap (((m + 1 : Nat) : Int) - 1) = (m : Int) := by rw [wrap_i64 xA xA]; omega
        cases hl : lt d1[a]! d1[m + 1]!
        · refine W.seq <| Wd <| jb sm <| jb sm <| jg Ju <| jG sm rfl <| jb sm <| jb sm <| jb sm <| jb Ji <| jb Jl <| jb sm <| jb sm <| jb Ji <| jb Jl <| jl (Jd (less_v _ _ _ _ hl)) rfl <| jH Jt rfl <| jH Zp rfl <| Sn ?_
          refine Wn <| CWp.exit <| SQ.exit <| LQ.exit <| BQ.exit <| ?_
          refine NQ.normal (L := [(0, sl r N), (1, I64 a), (4, CF), (11, I64 i2), (12, I64 (m + 1 : Nat))]) ?_ ⟨rfl, ?_⟩
          · simp only [HasA, Tr.get_put, Nat.reduceEqDiff, reduceIte, and_self]
          · rw [← heq, down_stop xA (.inr xS)]
        · refine W.seq <| Wd <| jb sm <| jb sm <| jg Ju <| jG sm rfl <| jb sm <| jb sm <| jb sm <| jb Ji <| jb Jl <| jb sm <| jb sm <| jb Ji <| jb Jl <| jl (Jd (less_v _ _ _ _ hl)) rfl <| jG Jt rfl <| jG Zp rfl <| Sn ?_
          refine Wy <| CWp.skip <| SQ.normal ?_
          have jW := @w1
          refine W.block <| W.reg <| ja sm <| ja Jb <| ja za <| OSuf.nil <| BQ.normal <| ?_
          refine LQ.normal (m := m) (L := [(0, sl r N), (1, I64 a), (4, CF), (11, I64 i2), (12, I64 m)]) xA ?_ ⟨m, rfl, by omega, ?_, rfl, rfl⟩
          · simp only [HasA, Tr.get_put, Nat.reduceEqDiff, reduceIte, and_self]
          · rw [← heq]; exact (down_eq xA xS).symm
      · refine W.seq <| Wd <| jb sm <| jb sm <| jw Ju <| jH sm rfl <| jq rfl <| jq rfl <| jq rfl <| jq rfl <| jq rfl <| jq rfl <| jq rfl <| jq rfl <| jq rfl <| jq rfl <| jq rfl <| jH Zp rfl <| Sn ?_
        refine Wn <| CWp.exit <| SQ.exit <| LQ.exit <| BQ.exit <| ?_
        refine NQ.normal (L := [(0, sl r N), (1, I64 a), (4, CF), (11, I64 i2), (12, I64 j)]) ?_ ⟨rfl, ?_⟩
        · simp only [HasA, Tr.get_put, Nat.reduceEqDiff, reduceIte, and_self]
        · rw [← heq, down_stop xA (.inl xA)]
    rintro L a' h1 ha ⟨rfl, rfl⟩
    have hdl := scanDown_le (fun x => lt d1[a]! x) d1 i2 j0
    have hds2 := (scanDown_spec (fun x => lt d1[a]! x) d1 i2 j0)
    generalize hgj : scanDown (fun x => lt d1[a]! x) d1 i2 j0 = j2 at *
    have hdl2 : i2 ≤ j2 + 1 := hds2.2.1 xA
    have hne : i2 ≤ j2 → i2 < j2 := fun hle2 => by
      have u1 := hi2.2.2.2 xA
      have u2 := hds2.2.2.2 hle2 xA
      rcases Nat.lt_or_eq_of_le hle2 with h0 | h0
      · exact h0
      · subst h0; try simp only at u1 u2
        first | (rw [u1] at u2; simp at u2; done) | (rw [u2] at u1; simp at u1; done)
    by_cases hgt : (i2 : Int) > (j2 : Int)
    · rw [if_pos xA] at hloop
      refine SQ.normal <| CWp.known ha ?_
      simp only [mkA]
      refine W.seq <| Wr <| ja sm <| ja sm <| je Jv <| On ?_
      refine Wy <| CWp.exit <| SQ.exit <| BQ.out rfl <| LQ.exit <| BQ.exit <| ?_
      refine NQ.normal (L := [(4, CF), (11, I64 i2)]) ?_ ⟨i2, d1, hs1, hloop.symm, rfl, rfl⟩
      simp only [HasA, Tr.get_put, Nat.reduceEqDiff, reduceIte, and_self]
    · rw [if_neg xA] at hloop
      have hlt2 := hne xA
      have w3 : IntKind.i64.wrap ((i2 : Int) + 1) = ((i2 + 1 : Nat) : Int) := by rw [wrap_i64 xA xA]; omega
      have w4 : IntKind.i64.wrap ((j2 : Int) - 1) = ((j2 - 1 : Nat) : Int) := by rw [wrap_i64 xA xA]; omega
      refine SQ.normal <| CWp.known ha ?_
      simp only [mkA]
      refine W.seq <| Wr <| ja sm <| ja sm <| jf Jv <| On ?_
      refine Wn <| CWp.skip <| SQ.normal ?_
      refine Wd <| jb sm <| jb sm <| jb sm <| jb sm <| jb sm <| jb sm <| jb Ji <| jb Jl <| jb sm <| jb sm <| jb Ji <| jb Jl <| jb Ji <| jd Js <| jb Ji <| jd Js <| Sn ?_
      have jW := An @w3 <| @w4
      refine Wr <| ja sm <| ja Ja <| ja za <| On ?_
      refine W.reg <| ja sm <| ja Jb <| ja za <| OSuf.nil <| BQ.normal <| ?_
      refine LQ.normal (m := (j2 - 1) + 1 - (i2 + 1)) (L := [(0, sl r N), (1, I64 a), (4, CF), (11, I64 (i2 + 1 : Nat)), (12, I64 (j2 - 1 : Nat))]) xA ?_ ⟨i2 + 1, j2 - 1, swp d1 i2 j2, rfl, by omega, by omega, by omega, swp_sz hs1, hloop, rfl, rfl⟩
      simp only [HasA, Tr.get_put, Nat.reduceEqDiff, reduceIte, and_self]
  rintro L a' h1 ha ⟨i, dk, hdk, hlp, rfl, rfl⟩
  rw [hlp]
  refine SQ.normal <| CWp.known ha ?_
  simp only [mkA]
  refine Wr <| ja sm <| ja za <| On ?_
  refine CWp.ret <| Jr ?_
  exact ⟨rfl, rfl⟩
end Go.Proofs.YtebheelmgcggmaaGreat.SortR
namespace Go.Proofs.YtebheelmgcggmaaGreat.SortR
open Go.Ab Go.Sort
abbrev P0 (p : Nat) : Value := .pointer (some ⟨p, 0, none⟩)
abbrev cell (n : Int) : AObj := .cells [I64 n] 1
theorem order2_c (h : AHeap) (r N q : Nat) (d : Array El) (hN : d.size = N) (hr : h.get r = some (row d)) (hq : ¬ q = r) (s : Int) (hs0 : 0 ≤ s) (hs1 : s ≤ 100) (a b : Nat) (ha : a < N) (hb : b < N) (hsz : N < 1000000000) :
    FWp Tryz.prog 136 [sl r N, I64 a, I64 b, P0 q, CF] (h.set q (cell s)) fun u h' => ∃ (s' : Int) (x y : Nat), u = .tuple #[I64 x, I64 y] ∧ h' = h.set q (cell s') ∧ 0 ≤ s' ∧ s' ≤ s + 1 ∧ ((x = a ∧ y = b) ∨ (x = b ∧ y = a)) := by
  have w1 : IntKind.i64.wrap (s + 1) = s + 1 := wrap_i64 xA xA
  refine W.enter tyOK Tryz.func136 rfl rfl ?_
  simp only [entry]
  cases hl : lt d[b]! d[a]!
  · refine Wr <| ja za <| ja za <| On ?_
    have jY := An @hr <| An @sq <| An ty27 <| ty23
    refine W.seq <| Wd <| jb sm <| jb sm <| jb sm <| jb Ji <| jb Jl <| jb sm <| jb sm <| jb Ji <| jb Jl <| jl (Jd (less_v _ _ _ _ hl)) rfl <| jH Jt rfl <| Sn ?_
    refine Wn <| CWp.skip <| SQ.normal ?_
    refine Wr <| ja sm <| ja sm <| ja za <| ja za <| On ?_
    refine CWp.ret <| Jr ?_
    exact ⟨s, a, b, rfl, rfl, hs0, by omega, .inl ⟨rfl, rfl⟩⟩
  · refine Wr <| ja za <| ja za <| On ?_
    have jY := An @hr <| An @sq <| An ty27 <| An ty23 <| ty3
    refine W.seq <| Wd <| jb sm <| jb sm <| jb sm <| jb Ji <| jb Jl <| jb sm <| jb sm <| jb Ji <| jb Jl <| jl (Jd (less_v _ _ _ _ hl)) rfl <| jG Jt rfl <| Sn ?_
    have jW := @w1
    refine Wy <| Wr <| ja sm <| Oa rfl (so_nilCheck xB) rfl <| ja Jl <| ja Ja <| Oa rfl (so_nilCheck xB) rfl <| jc Js <| On ?_
    refine Wr <| ja sm <| ja sm <| ja za <| ja za <| On ?_
    refine CWp.ret <| SQ.ret <| Jr ?_
    exact ⟨s + 1, b, a, rfl, rfl, by omega, by omega, .inr ⟨rfl, rfl⟩⟩
theorem median_c (h0 h : AHeap) (r N q : Nat) (d : Array El) (hN : d.size = N) (hr : h.get r = some (row d)) (hq : ¬ q = r) (s : Int) (hh : h0 = h.set q (cell s)) (hs0 : 0 ≤ s) (hs1 : s ≤ 90) (a b c : Nat) (ha : a < N) (hb : b < N) (hc : c < N) (hsz : N < 1000000000) :
    FWp Tryz.prog 125 [sl r N, I64 a, I64 b, I64 c, P0 q, CF] h0 fun u h' => ∃ (s' : Int) (x : Nat), u = I64 x ∧ h' = h.set q (cell s') ∧ 0 ≤ s' ∧ s' ≤ s + 3 ∧ (x = a ∨ x = b ∨ x = c) := by
  subst hh
  refine W.enter tyOK Tryz.func125 rfl rfl ?_
  simp only [entry]
  refine Wr <| ja za <| On ?_
  refine Wr <| ja sm <| ja sm <| ja sm <| ja sm <| ja sm <| jm (Jc en136 (order2_c h r N q d hN hr hq s hs0 xA a b ha hb hsz)) ?_
  rintro _ _ ⟨s1, x1, y1, rfl, rfl, g1, g2, g3⟩
  refine ⟨_, rfl, ?_⟩
  have jY := @hr
  refine ja sm <| ja Je <| ja Je <| ja za <| ja za <| On ?_
  refine Wr <| ja sm <| ja sm <| ja sm <| ja sm <| ja sm <| jm (Jc en136 (order2_c h r N q d hN hr hq s1 g1 xA y1 c xA hc hsz)) ?_
  rintro _ _ ⟨s2, x2, y2, rfl, rfl, g4, g5, g6⟩
  refine ⟨_, rfl, ?_⟩
  have jY := @hr
  refine ja sm <| ja Je <| ja Je <| ja za <| ja za <| On ?_
  refine Wr <| ja sm <| ja sm <| ja sm <| ja sm <| ja sm <| jm (Jc en136 (order2_c h r N q d hN hr hq s2 g4 xA x1 x2 xA xA hsz)) ?_
  rintro _ _ ⟨s3, x3, y3, rfl, rfl, g7, g8, g9⟩
  refine ⟨_, rfl, ?_⟩
  have jY := @hr
  refine ja sm <| ja Je <| ja Je <| ja za <| ja za <| On ?_
  refine Wr <| ja sm <| ja za <| On ?_
  refine CWp.ret <| Jr ?_
  exact ⟨s3, y3, rfl, rfl, g7, by omega, by omega⟩
theorem adjacent_c (h0 h : AHeap) (r N q : Nat) (d : Array El) (hN : d.size = N) (hr : h.get r = some (row d)) (hq : ¬ q = r) (s : Int) (hh : h0 = h.set q (cell s)) (hs0 : 0 ≤ s) (hs1 : s ≤ 90) (a : Nat) (ha : 1 ≤ a) (hb : a + 1 < N) (hsz : N < 1000000000) :
    FWp Tryz.prog 124 [sl r N, I64 a, P0 q, CF] h0 fun u h' => ∃ (s' : Int) (x : Nat), u = I64 x ∧ h' = h.set q (cell s') ∧ 0 ≤ s' ∧ s' ≤ s + 3 ∧ (a ≤ x + 1 ∧ x ≤ a + 1) := by
  subst hh
  have w1 : IntKind.i64.wrap ((a : Int) - 1) = ((a - 1 : Nat) : Int) := by rw [wrap_i64 xA xA]; omega
  have w2 : IntKind.i64.wrap ((a : Int) + 1) = ((a + 1 : Nat) : Int) := by rw [wrap_i64 xA xA]; omega
  refine W.enter tyOK Tryz.func124 rfl rfl ?_
  simp only [entry]
  refine Wr <| ja za <| On ?_
  have jW := An @w1 <| @w2
  refine Wr <| ja sm <| ja sm <| ja Jb <| ja sm <| ja sm <| ja Ja <| ja sm <| ja sm <| jm (Jc en125 (median_c _ h r N q d hN hr hq s rfl hs0 hs1 (a - 1) a (a + 1) xA xA hb hsz)) ?_
  rintro _ _ ⟨s1, x1, rfl, rfl, g1, g2, g3⟩
  refine ⟨_, rfl, ?_⟩
  refine ja za <| On ?_
  refine CWp.ret <| Jr ?_
  exact ⟨s1, x1, rfl, rfl, g1, g2, by omega⟩
theorem pivot_c (h : AHeap) (r N : Nat) (hrn : r < h.next) (d : Array El) (hN : d.size = N) (a b : Nat) (hab : a + 12 < b) (hb : b ≤ N) (hsz : N < 1000000000) :
    FWp Tryz.prog 108 [sl r N, I64 a, I64 b, CF] (h.set r (row d)) fun u h' => (∃ (p : Nat) (hint : Int), u = .tuple #[I64 p, I64 hint] ∧ a ≤ p ∧ p < b) ∧ h' = h.set r (row d) := by
  refine FWp.gcE (K0 := fun u h' => (∃ (p : Nat) (hint : Int), u = .tuple #[I64 p, I64 hint] ∧ a ≤ p ∧ p < b) ∧ ∃ s, h' = ((h.set r (row d)).new (cell 0)).set h.next (cell s)) ?_ ?_
  · have w1 : IntKind.i64.wrap ((b : Int) - (a : Int)) = ((b - a : Nat) : Int) := by rw [wrap_i64 xA xA]; omega
    have w2 : IntKind.i64.wrap (((b - a : Nat) : Int).tdiv 4) = (((b - a) / 4 : Nat) : Int) := by rw [Int.tdiv_eq_ediv_of_nonneg xA, wrap_i64 xA xA]; omega
    obtain ⟨l4, hl4⟩ : ∃ l4, l4 = (b - a) / 4 := ⟨_, rfl⟩
    rw [← hl4] at w2
    have w3 : IntKind.i64.wrap ((l4 : Int) * 1) = (l4 : Int) := by rw [wrap_i64 xA xA]; omega
    have w4 : IntKind.i64.wrap ((l4 : Int) * 2) = ((l4 * 2 : Nat) : Int) := by rw [wrap_i64 xA xA]; omega
    have w5 : IntKind.i64.wrap ((l4 : Int) * 3) = ((l4 * 3 : Nat) : Int) := by rw [wrap_i64 xA xA]; omega
    have w6 : IntKind.i64.wrap ((a : Int) + (l4 : Int)) = ((a + l4 : Nat) : Int) := by rw [wrap_i64 xA xA]; omega
    have w7 : IntKind.i64.wrap ((a : Int) + ((l4 * 2 : Nat) : Int)) = ((a + l4 * 2 : Nat) : Int) := by rw [wrap_i64 xA xA]; omega
    have w8 : IntKind.i64.wrap ((a : Int) + ((l4 * 3 : Nat) : Int)) = ((a + l4 * 3 : Nat) : Int) := by rw [wrap_i64 xA xA]; omega
    obtain ⟨g, hg⟩ : ∃ g, g = (h.set r (row d)).new (cell 0) := ⟨_, rfl⟩
    have hgr : g.get r = some (row d) := by rw [hg, zN xt, AHeap.get_set_same]
    have hg0 : g = g.set h.next (cell 0) := (AHeap.set_self (by rw [hg]; exact zQ)).symm
    have hqr : ¬ h.next = r := by omega
    refine W.enter tyOK Tryz.func108 rfl rfl ?_
    simp only [entry]
    have fin : ∀ (s : Int) (p : Nat) (hint : Int), a ≤ p → p < b → (∃ (p : Nat) (hint : Int), Value.tuple #[I64 p, I64 hint] = .tuple #[I64 p, I64 hint] ∧ a ≤ p ∧ p < b) := fun s p hint h1 h2 => ⟨p, hint, rfl, h1, h2⟩
    by_cases h50 : ((b - a : Nat) : Int) ≥ 50
    · refine Wr <| ja za <| ja za <| On ?_
      have jW := An @w1 <| An @w2 <| An @w3 <| An @w4 <| An @w5 <| An @w6 <| An @w7 <| @w8
      refine Wr <| ja sm <| ja sm <| ja Jb <| ja za <| On ?_
      have jY := ty3
      refine Wr <| ja Jo <| On ?_
      refine Wr <| ja sm <| ja sm <| ja (Jw (e := (bi_quo xK))) <| ja (Jw (e := bi_mul)) <| ja Ja <| ja za <| On ?_
      refine Wr <| ja sm <| ja sm <| ja (Jw (e := (bi_quo xK))) <| ja (Jw (e := bi_mul)) <| ja Ja <| ja za <| On ?_
      refine Wr <| ja sm <| ja sm <| ja (Jw (e := (bi_quo xK))) <| ja (Jw (e := bi_mul)) <| ja Ja <| ja za <| On ?_
      have jY := @hgr
      refine W.seq <| Wr <| ja sm <| je Jx <| On ?_
      refine Wy <| W.seq <| Wr <| ja sm <| je Jx <| On ?_
      refine Wy <| Wr <| ja sm <| ja sm <| ja sm <| jm (Jc en124 (adjacent_c _ g r N h.next d hN hgr hqr 0 (hg ▸ hg0) xA xA (a + l4) xA xA hsz)) ?_
      rintro _ _ ⟨s1, x1, rfl, rfl, g1, g2, g3⟩
      refine ⟨_, rfl, ?_⟩
      refine ja za <| On ?_
      refine Wr <| ja sm <| ja sm <| ja sm <| jm (Jc en124 (adjacent_c _ g r N h.next d hN hgr hqr s1 rfl g1 xA (a + l4 * 2) xA xA hsz)) ?_
      rintro _ _ ⟨s2, x2, rfl, rfl, g4, g5, g6⟩
      refine ⟨_, rfl, ?_⟩
      refine ja za <| On ?_
      refine W.reg <| ja sm <| ja sm <| ja sm <| jm (Jc en124 (adjacent_c _ g r N h.next d hN hgr hqr s2 rfl g4 xA (a + l4 * 3) xA xA hsz)) ?_
      rintro _ _ ⟨s3, x3, rfl, rfl, g7, g8, g9⟩
      refine ⟨_, rfl, ?_⟩
      refine ja za <| On ?_
      refine W.reg <| ja sm <| ja sm <| ja sm <| ja sm <| ja sm <| jm (Jc en125 (median_c _ g r N h.next d hN hgr hqr s3 rfl g7 xA x1 x2 x3 xA xA xA hsz)) ?_
      rintro _ _ ⟨s4, x4, rfl, rfl, g10, g11, g12⟩
      refine ⟨_, rfl, ?_⟩
      refine ja za <| On ?_
      have jY := An @hgr <| ty3
      refine Wr <| ja Jl <| On ?_
      refine W.block <| Wr <| OSuf.aopB tyOK rfl Jy (fun _ => rfl) (fun hb => ?_) (fun hb => ?_)
      · try simp only [bl] at hb
        refine jE za rfl <| On ?_
        refine Wy <| Wr <| ja sm <| ja za <| ja za <| On ?_
        refine CWp.ret <| BQ.ret <| Jr ?_
        exact ⟨⟨x4, 1, rfl, by omega, by omega⟩, s4, by rw [hg]⟩
      · try simp only [bl] at hb
        refine jF za rfl <| On ?_
        refine Wn <| Wr <| OSuf.aopB tyOK rfl Jy (fun _ => rfl) (fun hb => ?_) (fun hb => ?_)
        · try simp only [bl] at hb
          refine jE za rfl <| On ?_
          refine Wy <| Wr <| ja sm <| ja za <| ja za <| On ?_
          refine CWp.ret <| BQ.ret <| Jr ?_
          exact ⟨⟨x4, 2, rfl, by omega, by omega⟩, s4, by rw [hg]⟩
        · try simp only [bl] at hb
          refine jF za rfl <| On ?_
          refine Wn <| Wr <| ja sm <| ja za <| ja za <| On ?_
          refine CWp.ret <| BQ.ret <| Jr ?_
          exact ⟨⟨x4, 0, rfl, by omega, by omega⟩, s4, by rw [hg]⟩
    · refine Wr <| ja za <| ja za <| On ?_
      have jW := An @w1 <| An @w2 <| An @w3 <| An @w4 <| An @w5 <| An @w6 <| An @w7 <| @w8
      refine Wr <| ja sm <| ja sm <| ja Jb <| ja za <| On ?_
      have jY := ty3
      refine Wr <| ja Jo <| On ?_
      refine Wr <| ja sm <| ja sm <| ja (Jw (e := (bi_quo xK))) <| ja (Jw (e := bi_mul)) <| ja Ja <| ja za <| On ?_
      refine Wr <| ja sm <| ja sm <| ja (Jw (e := (bi_quo xK))) <| ja (Jw (e := bi_mul)) <| ja Ja <| ja za <| On ?_
      refine Wr <| ja sm <| ja sm <| ja (Jw (e := (bi_quo xK))) <| ja (Jw (e := bi_mul)) <| ja Ja <| ja za <| On ?_
      have jY := @hgr
      refine W.seq <| Wr <| ja sm <| je Jx <| On ?_
      refine Wy <| W.seq <| Wr <| ja sm <| jf Jx <| On ?_
      refine Wn <| CWp.skip <| SQ.normal ?_
      refine W.reg <| ja sm <| ja sm <| ja sm <| ja sm <| ja sm <| jm (Jc en125 (median_c _ g r N h.next d hN hgr hqr 0 (hg ▸ hg0) xA xA (a + l4) (a + l4 * 2) (a + l4 * 3) xA xA xA hsz)) ?_
      rintro _ _ ⟨s4, x4, rfl, rfl, g10, g11, g12⟩
      refine ⟨_, rfl, ?_⟩
      refine ja za <| On ?_
      have jY := An @hgr <| ty3
      refine Wr <| ja Jl <| On ?_
      refine W.block <| Wr <| OSuf.aopB tyOK rfl Jy (fun _ => rfl) (fun hb => ?_) (fun hb => ?_)
      · try simp only [bl] at hb
        refine jE za rfl <| On ?_
        refine Wy <| Wr <| ja sm <| ja za <| ja za <| On ?_
        refine CWp.ret <| BQ.ret <| Jr ?_
        exact ⟨⟨x4, 1, rfl, by omega, by omega⟩, s4, by rw [hg]⟩
      · try simp only [bl] at hb
        refine jF za rfl <| On ?_
        refine Wn <| Wr <| OSuf.aopB tyOK rfl Jy (fun _ => rfl) (fun hb => ?_) (fun hb => ?_)
        · try simp only [bl] at hb
          refine jE za rfl <| On ?_
          refine Wy <| Wr <| ja sm <| ja za <| ja za <| On ?_
          refine CWp.ret <| BQ.ret <| Jr ?_
          exact ⟨⟨x4, 2, rfl, by omega, by omega⟩, s4, by rw [hg]⟩
        · try simp only [bl] at hb
          refine jF za rfl <| On ?_
          refine Wn <| Wr <| ja sm <| ja za <| ja za <| On ?_
          refine CWp.ret <| BQ.ret <| Jr ?_
          exact ⟨⟨x4, 0, rfl, by omega, by omega⟩, s4, by rw [hg]⟩
  · rintro u h' ⟨⟨p, hint, rfl, h1, h2⟩, s, rfl⟩
    refine ⟨.flat rfl, _, rfl, fun x o hx => .inl ⟨hx, fun hlt => ?_⟩, ⟨p, hint, rfl, h1, h2⟩, rfl⟩
    simp only [AHeap.next_set] at hlt
    rw [zS xA, zN xt]; exact hx
end Go.Proofs.YtebheelmgcggmaaGreat.SortR
