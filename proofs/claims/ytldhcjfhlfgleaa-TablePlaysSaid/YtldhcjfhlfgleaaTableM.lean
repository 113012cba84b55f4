/-
  Merged: TableR, TableP, TableX, TableY, TableZ, TableM.
-/
import Derived.Test.YtldhcjfhlfgleaaTableS
import Derived.Test.YtldhcjfhlfgleaaAb39
namespace Go.Proofs.Ytldhcjfhlfgleaa
open Go.Ab Go.Sort
set_option linter.unusedSimpArgs false
set_option linter.unusedVariables false
set_option maxRecDepth 10000
set_option maxHeartbeats 8000000

/-! Lists that are put together. -/
def VL (h : AHeap) (vs : List Value) (v : Value) : Prop := SV h 1 0 vs v ∨ (vs = [] ∧ ∃ y, v = .slice (some ⟨y, 0, none⟩) 0 1)
theorem touchR_all {k : List UInt8} {ts fl : Int} {A : List Rec} (P : Rec → Prop) (h : ∀ x ∈ A, P x) (hu : ∀ x ∈ A, P { x with rts := mx x.rts ts }) (hn : okKey k → P ⟨k, mx fl ts, false, []⟩) : ∀ x ∈ touchR k ts fl A, P x := by
  intro x hx
  rw [touchR] at hx
  split at hx
  · rename_i y hy
    rcases setR_mem hx with h9 | h9
    · rw [h9]; exact hu y (getR_key hy).1
    · exact h x h9
  · split at hx
    · rename_i ho
      rcases setR_mem hx with h9 | h9
      · rw [h9]; exact hn ho
      · exact h x h9
    · exact h x hx
/-! Keys of ranges. -/
def leS (a b : List UInt8) : Prop := ltStr b a = false
theorem leS_trans {a b c : List UInt8} (h1 : leS a b) (h2 : leS b c) : leS a c := by
  simp only [leS, ltStr, decide_eq_false_iff_not, List.not_lt] at *
  exact List.le_trans h1 h2
theorem leS_of_lt {a b : List UInt8} (h : ltStr a b = true) : leS a b := by
  simp only [leS, ltStr, decide_eq_false_iff_not, decide_eq_true_eq, List.not_lt] at *
  exact List.le_of_lt h
theorem lt_of_lt_le {a b c : List UInt8} (h : ltStr a b = true) (h2 : leS b c) : ltStr a c = true := by
  cases h3 : ltStr a c with
  | true => rfl
  | false => have := leS_trans h2 (show leS c a from h3); rw [leS, h] at this; cases this
/-! Less. -/
theorem lt_cons (x y : UInt8) (a b : List UInt8) : ltStr (x :: a) (y :: b) = (decide (x < y) || (decide (x = y) && ltStr a b)) := by
  simp only [ltStr]
  rw [Bool.eq_iff_iff]
  simp [List.cons_lt_cons_iff]
theorem lt_split (x y : UInt8) (hxy : ¬ x = y) (a b : List UInt8) : ∀ p : List UInt8, ltStr (p ++ x :: a) (p ++ y :: b) = decide (x < y)
  | [] => by rw [List.nil_append, List.nil_append, lt_cons]; simp [hxy]
  | z :: p => by
    rw [List.cons_append, List.cons_append, lt_cons, lt_split x y hxy a b p]
    simp [UInt8.lt_irrefl]
theorem lt_ext : ∀ (a t : List UInt8), ltStr a (a ++ t) = decide (0 < t.length)
  | [], [] => by simp [ltStr]
  | [], x :: t => by simp [ltStr]
  | z :: a, t => by rw [List.cons_append, lt_cons, lt_ext a t]; simp [UInt8.lt_irrefl]
theorem lt_ext' : ∀ (a t : List UInt8), ltStr (a ++ t) a = false
  | [], [] => by simp [ltStr]
  | [], x :: t => by simp [ltStr]
  | z :: a, t => by rw [List.cons_append, lt_cons, lt_ext' a t]; simp [UInt8.lt_irrefl]
theorem lt_pre {a b : List UInt8} {n : Nat} (h : a.take n = b.take n) (hn : a.length ≤ n ∨ b.length ≤ n) : ltStr a b = decide (a.length < b.length) := by
  rcases Nat.le_total a.length b.length with hl | hl
  · have hn : a.length ≤ n := by omega
    rw [List.take_of_length_le hn] at h
    have hb : b = a ++ b.drop a.length := by
      have h2 : b.take a.length = a := by
        have := congrArg (fun l : List UInt8 => l.take a.length) h
        simp only [List.take_take, List.take_length] at this
        rw [Nat.min_eq_left hn] at this; exact this.symm
      rw [← h2, List.length_take, Nat.min_eq_left hl]
      simp
    have h3 := lt_ext a (b.drop a.length)
    rw [← hb] at h3
    rw [h3, decide_eq_decide]
    simp; omega
  · have hn : b.length ≤ n := by omega
    rw [List.take_of_length_le hn] at h
    have hb : a = b ++ a.drop b.length := by
      have h2 : a.take b.length = b := by
        have := congrArg (fun l : List UInt8 => l.take b.length) h
        simp only [List.take_take, List.take_length] at this
        rw [Nat.min_eq_left hn] at this; exact this
      rw [← h2, List.length_take, Nat.min_eq_left hl]
      simp
    have h3 := lt_ext' b (a.drop b.length)
    rw [← hb] at h3
    rw [h3]; symm
    simp; omega
theorem less_c (h : AHeap) (a b : List UInt8) (ha : a.length < 9223372036854775808) (hb : b.length < 9223372036854775808) : FWp Try.prog 37 [encS a, encS b] h fun u h' => u = .bool (ltStr a b) ∧ h' = h := by
  have e0 : (ByteArray.mk ⟨a⟩).size = a.length := rfl
  have e1 : (ByteArray.mk ⟨b⟩).size = b.length := rfl
  refine W.enter tyOK Try.func37 rfl rfl ?_
  simp only [entry]
  refine W.seq <| W.reg <| OSuf.aopF tyOK rfl (so_assign (by simp only [lk] <;> rfl)) (fun _ => rfl) rfl <| OSuf.nil <| SQ.normal ?_
  refine W.seq <| W.seq <| W.reg <| OSuf.aop tyOK rfl (so_assign (by simp only [lk] <;> rfl)) rfl <| OSuf.nil <| SQ.normal ?_
  -- leaf: loop
  refine W.cut (fun L h' => h' = h ∧ ltStr a b = decide (a.length < b.length) ∧ L = [(0, encS a), (1, encS b)]) (W.block (W.loop (fun n L h' => ∃ i : Nat, n + i = a.length + 1 ∧ h' = h ∧ a.take i = b.take i ∧ i ≤ a.length ∧ i ≤ b.length ∧ L = [(0, encS a), (1, encS b), (5, I64 i)]) (n := a.length + 1) ⟨0, by omega, rfl, rfl, by omega, by omega, rfl⟩ ?_ ?_)) ?_
  · simp [HasA, Tr.get_put]
  · rintro n L h' ⟨i, hn, rfl, ht, hia, hib, rfl⟩
    simp only [mkA]
    by_cases h1 : (i : Int) < (a.length : Int)
    · have w2 : IntKind.i64.wrap ((i : Int) + 1) = ((i + 1 : Nat) : Int) := by rw [wrap_i64 (by omega) (by omega)]; omega
      by_cases h2 : (i : Int) < (b.length : Int)
      · obtain ⟨x, hx⟩ : ∃ x, a[i]? = some x := ⟨a[i]'(by omega), by simp⟩
        obtain ⟨y, hy⟩ : ∃ y, b[i]? = some y := ⟨b[i]'(by omega), by simp⟩
        have hx' : (ByteArray.mk ⟨a⟩).data.toList[i]? = some x := hx
        have hy' : (ByteArray.mk ⟨b⟩).data.toList[i]? = some y := hy
        by_cases hxy : x = y
        · have b1 : ((x.toNat : Int) != (y.toNat : Int)) = false := by simp [hxy]
          refine W.seq <| W.seq <| W.reg <| OSuf.aop tyOK rfl sm rfl <| OSuf.aop tyOK rfl sm rfl <| OSuf.aop tyOK rfl (so_len (by simp only [aopnds, lk] <;> rfl) (by simp (disch := first | assumption | omega | (simp only [nx] <;> omega) | fail) only [aLenOf, ty9, hpl, e0, e1] <;> rfl)) rfl <| OSuf.aopT tyOK rfl (so_bin (by simp only [lk] <;> rfl) (by simp only [lk] <;> rfl) bi_lss) (fun _ => rfl) (by first | rfl | assumption | ((simp only [bl, e0, e1]) <;> first | done | assumption | omega) | (simp; done) | (simp; omega)) <| OSuf.aopT tyOK rfl sm (fun _ => rfl) rfl <| OSuf.aop tyOK ag sm rfl <| OSuf.aop tyOK ag sm rfl <| OSuf.aop tyOK ag (so_len (by simp only [aopnds, lk] <;> rfl) (by simp (disch := first | assumption | omega | (simp only [nx] <;> omega) | fail) only [aLenOf, ty9, hpl, e0, e1] <;> rfl)) rfl <| OSuf.aopT tyOK ag (so_bin (by simp only [lk] <;> rfl) (by simp only [lk] <;> rfl) bi_lss) (fun _ => rfl) (by first | rfl | assumption | ((simp only [bl, e0, e1]) <;> first | done | assumption | omega) | (simp; done) | (simp; omega)) <| OSuf.aopT tyOK rfl (so_pick (by simp only [lk] <;> rfl) (by simp only [lk, cond_true, cond_false] <;> rfl)) (fun _ => rfl) rfl <| OSuf.nil <| SQ.normal ?_
          refine W.yes (by simp only [lk] <;> rfl) <| CWp.skip <| SQ.normal ?_
          refine W.seq <| W.block <| W.seq <| W.regD tyOK mixed (by kernel_rfl) <| SqW.aop rfl sm rfl <| SqW.aop rfl sm rfl <| SqW.aop rfl (so_index (by simp only [lk] <;> rfl) (by simp only [lk] <;> rfl) (ix_str ty9 rfl hx')) rfl <| SqW.aop rfl sm rfl <| SqW.aop rfl sm rfl <| SqW.aop rfl (so_index (by simp only [lk] <;> rfl) (by simp only [lk] <;> rfl) (ix_str ty9 rfl hy')) rfl <| SqW.aopF rfl (so_bin (by simp only [lk] <;> rfl) (by simp only [lk] <;> rfl) bi_neq) (fun _ => rfl) (b1) <| SqW.nil <| SQ.normal ?_
          refine W.no (by simp only [lk] <;> rfl) <| CWp.skip <| BQ.normal <| SQ.normal ?_
          refine W.reg <| OSuf.aop tyOK rfl sm rfl <| OSuf.aop tyOK rfl (so_bin (by simp only [lk] <;> rfl) (by simp only [lk] <;> rfl) (bi_w bi_add (by first | (simp only [w2] <;> rfl) | rfl))) rfl <| OSuf.aop tyOK rfl (so_assign (by simp only [lk] <;> rfl)) rfl <| OSuf.nil <| ?_
          -- leaf: round
          refine LQ.normal (m := n - 1) (L := [(0, encS a), (1, encS b), (5, I64 ((i + 1 : Nat) : Int))]) (by omega) ?_ ⟨i + 1, by omega, rfl, ?_, by omega, by omega, rfl⟩
          · simp only [HasA, Tr.get_put, Nat.reduceEqDiff, reduceIte, w2, and_self]
          · rw [List.take_add_one, List.take_add_one, ht, hx, hy, hxy]
        · have hne : ¬ x.toNat = y.toNat := fun e => hxy (UInt8.toNat_inj.1 e)
          have b1 : ((x.toNat : Int) != (y.toNat : Int)) = true := by simp; omega
          have hlt : decide ((x.toNat : Int) < (y.toNat : Int)) = ltStr a b := by
            have ea : a = a.take i ++ x :: a.drop (i + 1) := by
              conv => lhs; rw [← List.take_append_drop i a, List.drop_eq_getElem_cons (by omega)]
              rw [(List.getElem?_eq_some_iff.1 hx).2]
            have eb : b = a.take i ++ y :: b.drop (i + 1) := by
              conv => lhs; rw [← List.take_append_drop i b, List.drop_eq_getElem_cons (by omega), ← ht]
              rw [(List.getElem?_eq_some_iff.1 hy).2]
            have := lt_split x y hxy (a.drop (i + 1)) (b.drop (i + 1)) (a.take i)
            rw [← ea, ← eb] at this
            rw [this, decide_eq_decide, UInt8.lt_iff_toNat_lt]; omega
          refine W.seq <| W.seq <| W.reg <| OSuf.aop tyOK rfl sm rfl <| OSuf.aop tyOK rfl sm rfl <| OSuf.aop tyOK rfl (so_len (by simp only [aopnds, lk] <;> rfl) (by simp (disch := first | assumption | omega | (simp only [nx] <;> omega) | fail) only [aLenOf, ty9, hpl, e0, e1] <;> rfl)) rfl <| OSuf.aopT tyOK rfl (so_bin (by simp only [lk] <;> rfl) (by simp only [lk] <;> rfl) bi_lss) (fun _ => rfl) (by first | rfl | assumption | ((simp only [bl, e0, e1]) <;> first | done | assumption | omega) | (simp; done) | (simp; omega)) <| OSuf.aopT tyOK rfl sm (fun _ => rfl) rfl <| OSuf.aop tyOK ag sm rfl <| OSuf.aop tyOK ag sm rfl <| OSuf.aop tyOK ag (so_len (by simp only [aopnds, lk] <;> rfl) (by simp (disch := first | assumption | omega | (simp only [nx] <;> omega) | fail) only [aLenOf, ty9, hpl, e0, e1] <;> rfl)) rfl <| OSuf.aopT tyOK ag (so_bin (by simp only [lk] <;> rfl) (by simp only [lk] <;> rfl) bi_lss) (fun _ => rfl) (by first | rfl | assumption | ((simp only [bl, e0, e1]) <;> first | done | assumption | omega) | (simp; done) | (simp; omega)) <| OSuf.aopT tyOK rfl (so_pick (by simp only [lk] <;> rfl) (by simp only [lk, cond_true, cond_false] <;> rfl)) (fun _ => rfl) rfl <| OSuf.nil <| SQ.normal ?_
          refine W.yes (by simp only [lk] <;> rfl) <| CWp.skip <| SQ.normal ?_
          refine W.seq <| W.block <| W.seq <| W.regD tyOK mixed (by kernel_rfl) <| SqW.aop rfl sm rfl <| SqW.aop rfl sm rfl <| SqW.aop rfl (so_index (by simp only [lk] <;> rfl) (by simp only [lk] <;> rfl) (ix_str ty9 rfl hx')) rfl <| SqW.aop rfl sm rfl <| SqW.aop rfl sm rfl <| SqW.aop rfl (so_index (by simp only [lk] <;> rfl) (by simp only [lk] <;> rfl) (ix_str ty9 rfl hy')) rfl <| SqW.aopT rfl (so_bin (by simp only [lk] <;> rfl) (by simp only [lk] <;> rfl) bi_neq) (fun _ => rfl) (b1) <| SqW.nil <| SQ.normal ?_
          refine W.yes (by simp only [lk] <;> rfl) <| W.seq <| W.regD tyOK mixed (by kernel_rfl) <| SqW.aop rfl sm rfl <| SqW.aop rfl sm rfl <| SqW.aop rfl (so_index (by simp only [lk] <;> rfl) (by simp only [lk] <;> rfl) (ix_str ty9 rfl hx')) rfl <| SqW.aop rfl sm rfl <| SqW.aop rfl sm rfl <| SqW.aop rfl (so_index (by simp only [lk] <;> rfl) (by simp only [lk] <;> rfl) (ix_str ty9 rfl hy')) rfl <| SqW.aop rfl (so_bin (by simp only [lk] <;> rfl) (by simp only [lk] <;> rfl) bi_lss) rfl <| SqW.aop rfl (so_assign (by simp only [lk] <;> rfl)) rfl <| SqW.nil <| SQ.normal ?_
          refine CWp.ret <| BQ.ret <| SQ.ret <| LQ.ret <| BQ.ret <| NQ.ret <| SQ.ret <| FQ.ret (by simp only [aRet, Try.f37, aResults, aResult, lk, Nat.reduceEqDiff, reduceIte] <;> rfl) ?_
          -- leaf: end
          exact ⟨by rw [hlt], rfl⟩
      · refine W.seq <| W.seq <| W.reg <| OSuf.aop tyOK rfl sm rfl <| OSuf.aop tyOK rfl sm rfl <| OSuf.aop tyOK rfl (so_len (by simp only [aopnds, lk] <;> rfl) (by simp (disch := first | assumption | omega | (simp only [nx] <;> omega) | fail) only [aLenOf, ty9, hpl, e0, e1] <;> rfl)) rfl <| OSuf.aopT tyOK rfl (so_bin (by simp only [lk] <;> rfl) (by simp only [lk] <;> rfl) bi_lss) (fun _ => rfl) (by first | rfl | assumption | ((simp only [bl, e0, e1]) <;> first | done | assumption | omega) | (simp; done) | (simp; omega)) <| OSuf.aopT tyOK rfl sm (fun _ => rfl) rfl <| OSuf.aop tyOK ag sm rfl <| OSuf.aop tyOK ag sm rfl <| OSuf.aop tyOK ag (so_len (by simp only [aopnds, lk] <;> rfl) (by simp (disch := first | assumption | omega | (simp only [nx] <;> omega) | fail) only [aLenOf, ty9, hpl, e0, e1] <;> rfl)) rfl <| OSuf.aopF tyOK ag (so_bin (by simp only [lk] <;> rfl) (by simp only [lk] <;> rfl) bi_lss) (fun _ => rfl) (by first | rfl | assumption | ((simp only [bl, e0, e1]) <;> first | done | assumption | omega) | (simp; done) | (simp; omega)) <| OSuf.aopF tyOK rfl (so_pick (by simp only [lk] <;> rfl) (by simp only [lk, cond_true, cond_false] <;> rfl)) (fun _ => rfl) rfl <| OSuf.nil <| SQ.normal ?_
        refine W.no (by simp only [lk] <;> rfl) <| CWp.exit <| SQ.exit <| LQ.exit <| BQ.exit <| ?_
        -- leaf: cut
        refine NQ.normal (L := [(0, encS a), (1, encS b)]) ?_ ⟨rfl, lt_pre ht (by omega), rfl⟩
        simp only [HasA, Tr.get_put, Nat.reduceEqDiff, reduceIte, and_self]
    · refine W.seq <| W.seq <| W.reg <| OSuf.aop tyOK rfl sm rfl <| OSuf.aop tyOK rfl sm rfl <| OSuf.aop tyOK rfl (so_len (by simp only [aopnds, lk] <;> rfl) (by simp (disch := first | assumption | omega | (simp only [nx] <;> omega) | fail) only [aLenOf, ty9, hpl, e0, e1] <;> rfl)) rfl <| OSuf.aopF tyOK rfl (so_bin (by simp only [lk] <;> rfl) (by simp only [lk] <;> rfl) bi_lss) (fun _ => rfl) (by first | rfl | assumption | ((simp only [bl, e0, e1]) <;> first | done | assumption | omega) | (simp; done) | (simp; omega)) <| OSuf.aopF tyOK rfl sm (fun _ => rfl) rfl <| OSuf.pass ag rfl <| OSuf.pass ag rfl <| OSuf.pass ag rfl <| OSuf.pass ag rfl <| OSuf.aopF tyOK rfl (so_pick (by simp only [lk] <;> rfl) (by simp only [lk, cond_true, cond_false] <;> rfl)) (fun _ => rfl) rfl <| OSuf.nil <| SQ.normal ?_
      refine W.no (by simp only [lk] <;> rfl) <| CWp.exit <| SQ.exit <| LQ.exit <| BQ.exit <| ?_
      -- leaf: cut
      refine NQ.normal (L := [(0, encS a), (1, encS b)]) ?_ ⟨rfl, lt_pre ht (by omega), rfl⟩
      simp only [HasA, Tr.get_put, Nat.reduceEqDiff, reduceIte, and_self]
  rintro L a' h' ha ⟨rfl, hlt, rfl⟩
  refine SQ.normal <| CWp.known ha ?_
  simp only [mkA]
  refine W.seq <| W.reg <| OSuf.aop tyOK rfl sm rfl <| OSuf.aop tyOK rfl (so_len (by simp only [aopnds, lk] <;> rfl) (by simp (disch := first | assumption | omega | (simp only [nx] <;> omega) | fail) only [aLenOf, ty9, hpl, e0, e1] <;> rfl)) rfl <| OSuf.aop tyOK rfl sm rfl <| OSuf.aop tyOK rfl (so_len (by simp only [aopnds, lk] <;> rfl) (by simp (disch := first | assumption | omega | (simp only [nx] <;> omega) | fail) only [aLenOf, ty9, hpl, e0, e1] <;> rfl)) rfl <| OSuf.aop tyOK rfl (so_bin (by simp only [lk] <;> rfl) (by simp only [lk] <;> rfl) bi_lss) rfl <| OSuf.aop tyOK rfl (so_assign (by simp only [lk] <;> rfl)) rfl <| OSuf.nil <| SQ.normal ?_
  refine CWp.ret <| FQ.ret (by simp only [aRet, Try.f37, aResults, aResult, lk, Nat.reduceEqDiff, reduceIte] <;> rfl) ?_
  -- leaf: end
  refine ⟨?_, rfl⟩
  rw [hlt]
  congr 1
  rw [decide_eq_decide]; omega

theorem may16_c (h : AHeap) (V : List Vr) (v : Value) (hs : AVs h V v) (hl : V.length ≤ 1000000) (b : Bool) (hb : b = true ↔ Ris V) : FWp Try.prog 31 [v] h fun u h' => u = .bool b ∧ h' = h := by
  have hlen : ∃ a c, v = .slice a V.length c := by cases hs <;> exact ⟨_, _, rfl⟩
  obtain ⟨a, c, rfl⟩ := hlen
  refine W.enter tyOK Try.func31 rfl rfl ?_
  simp only [entry]
  refine W.seq <| W.reg <| OSuf.aopF tyOK rfl (so_assign (by simp only [lk] <;> rfl)) (fun _ => rfl) rfl <| OSuf.nil <| SQ.normal ?_
  refine W.seq <| W.seq <| W.reg <| OSuf.aop tyOK rfl (so_assign (by simp only [lk] <;> rfl)) rfl <| OSuf.nil <| SQ.normal ?_
  -- leaf: loop
  refine W.cut (fun L h' => h' = h ∧ b = true ∧ L = []) (W.block (W.loop (fun m L h' => ∃ i : Nat, 1 ≤ i ∧ m + i = V.length + 1 ∧ h' = h ∧ (∀ (j : Nat) (x y : Vr), j + 1 < i → V[j]? = some x → V[j + 1]? = some y → x.ts < y.ts) ∧ L = [(0, .slice a V.length c), (3, I64 i)]) (n := V.length) ⟨1, by omega, by omega, rfl, fun j x y hj => by omega, rfl⟩ ?_ ?_)) ?_
  · simp [HasA, Tr.get_put]
  · rintro m L h' ⟨i, hi1, hi, rfl, hr, rfl⟩
    simp only [mkA]
    have w2 : IntKind.i64.wrap ((i : Int) + 1) = ((i + 1 : Nat) : Int) := by rw [wrap_i64 (by omega) (by omega)]; omega
    have w3 : IntKind.i64.wrap ((i : Int) - 1) = ((i - 1 : Nat) : Int) := by rw [wrap_i64 (by omega) (by omega)]; omega
    by_cases hlt : (i : Int) < (V.length : Int)
    · obtain ⟨x, hx⟩ : ∃ x, V[i - 1]? = some x := ⟨V[i - 1]'(by omega), by simp⟩
      obtain ⟨y, hy⟩ : ∃ y, V[i]? = some y := ⟨V[i]'(by omega), by simp⟩
      cases hs with
      | nil => simp at hx
      | emp => simp at hx
      | @some _ z off _ vs hne hz hg hc =>
        have b1 : (0 ≤ (i : Int) ∧ (i : Int) < (V.length : Int)) := by omega
        have b2 : (0 ≤ ((i - 1 : Nat) : Int) ∧ ((i - 1 : Nat) : Int) < (V.length : Int)) := by omega
        have g1 := get_of hc hx 0 (by omega)
        have g2 := get_of hc hy 0 (by omega)
        have g1' : vs[off + (i - 1) * 5 + 0]? = some (U64 x.ts) := g1
        have g2' : vs[off + i * 5 + 0]? = some (U64 y.ts) := g2
        have g1'' : vs[off + (i - 1) * 5]? = some (U64 x.ts) := g1
        have g2'' : vs[off + i * 5]? = some (U64 y.ts) := g2
        simp only [rowOf] at hg
        by_cases hxy : x.ts ≥ y.ts
        · refine W.seq <| W.seq <| W.reg <| OSuf.aop tyOK rfl sm rfl <| OSuf.aop tyOK rfl sm rfl <| OSuf.aop tyOK rfl (so_len (by simp only [aopnds, lk] <;> rfl) (by simp (disch := first | assumption | omega | (simp only [nx] <;> omega) | fail) only [aLenOf, ty31, hpl, b1, b2, sb, hg, g1', g2', g1'', g2''] <;> rfl)) rfl <| OSuf.aopT tyOK rfl (so_bin (by simp only [lk] <;> rfl) (by simp only [lk] <;> rfl) bi_lss) (fun _ => rfl) (by first | rfl | assumption | ((simp only [bl, b1, b2, sb, hg, g1', g2', g1'', g2'']) <;> first | done | assumption | omega) | (simp; done) | (simp; omega)) <| OSuf.nil <| SQ.normal ?_
          refine W.yes (by simp only [lk] <;> rfl) <| CWp.skip <| SQ.normal ?_
          refine W.seq <| W.block <| W.seq <| W.regD tyOK mixed (by kernel_rfl) <| SqW.aop rfl sm rfl <| SqW.aop rfl sm rfl <| SqW.aop rfl (so_bin (by simp only [lk] <;> rfl) (by simp only [lk] <;> rfl) (bi_w bi_sub (by first | (simp only [w3] <;> rfl) | rfl))) rfl <| SqW.aop rfl (so_indexAddr (by simp only [lk] <;> rfl) (by simp only [lk] <;> rfl) (by simp (disch := first | assumption | omega | (simp only [nx] <;> omega) | fail) only [aIndexAddr, ty31, ty57, hpl, b1, b2, sb, hg, g1', g2', g1'', g2''] <;> rfl)) rfl <| SqW.aop rfl (so_fieldAddr (by simp only [lk] <;> rfl) (fa_ok (k := 0) ty57 rfl rfl ty27 rfl rfl)) rfl <| SqW.aop rfl (so_load (by simp only [lk] <;> rfl) (by simp (disch := first | assumption | omega | (simp only [nx] <;> omega) | fail) only [aLoad, ty27, rowOf, hpl, b1, b2, sb, hg, g1', g2', g1'', g2''] <;> rfl)) rfl <| SqW.aop rfl sm rfl <| SqW.aop rfl sm rfl <| SqW.aop rfl (so_indexAddr (by simp only [lk] <;> rfl) (by simp only [lk] <;> rfl) (by simp (disch := first | assumption | omega | (simp only [nx] <;> omega) | fail) only [aIndexAddr, ty31, ty57, hpl, b1, b2, sb, hg, g1', g2', g1'', g2''] <;> rfl)) rfl <| SqW.aop rfl (so_fieldAddr (by simp only [lk] <;> rfl) (fa_ok (k := 0) ty57 rfl rfl ty27 rfl rfl)) rfl <| SqW.aop rfl (so_load (by simp only [lk] <;> rfl) (by simp (disch := first | assumption | omega | (simp only [nx] <;> omega) | fail) only [aLoad, ty27, rowOf, hpl, b1, b2, sb, hg, g1', g2', g1'', g2''] <;> rfl)) rfl <| SqW.aopT rfl (so_bin (by simp only [lk] <;> rfl) (by simp only [lk] <;> rfl) bi_geq) (fun _ => rfl) (by first | rfl | assumption | ((simp only [bl, b1, b2, sb, hg, g1', g2', g1'', g2'']) <;> first | done | assumption | omega) | (simp; done) | (simp; omega)) <| SqW.nil <| SQ.normal ?_
          refine W.yes (by simp only [lk] <;> rfl) <| W.seq <| W.reg <| OSuf.aopF tyOK rfl (so_assign (by simp only [lk] <;> rfl)) (fun _ => rfl) rfl <| OSuf.nil <| SQ.normal ?_
          refine CWp.ret <| BQ.ret <| SQ.ret <| LQ.ret <| BQ.ret <| NQ.ret <| SQ.ret <| FQ.ret (by simp only [aRet, Try.f31, aResults, aResult, lk, Nat.reduceEqDiff, reduceIte] <;> rfl) ?_
          -- leaf: end
          have : ¬ b = true := fun e => by
            have := hb.1 e (i - 1) x y hx (by rw [Nat.sub_add_cancel hi1]; exact hy)
            omega
          exact ⟨by rw [Bool.eq_false_iff.2 this], rfl⟩
        · refine W.seq <| W.seq <| W.reg <| OSuf.aop tyOK rfl sm rfl <| OSuf.aop tyOK rfl sm rfl <| OSuf.aop tyOK rfl (so_len (by simp only [aopnds, lk] <;> rfl) (by simp (disch := first | assumption | omega | (simp only [nx] <;> omega) | fail) only [aLenOf, ty31, hpl, b1, b2, sb, hg, g1', g2', g1'', g2''] <;> rfl)) rfl <| OSuf.aopT tyOK rfl (so_bin (by simp only [lk] <;> rfl) (by simp only [lk] <;> rfl) bi_lss) (fun _ => rfl) (by first | rfl | assumption | ((simp only [bl, b1, b2, sb, hg, g1', g2', g1'', g2'']) <;> first | done | assumption | omega) | (simp; done) | (simp; omega)) <| OSuf.nil <| SQ.normal ?_
          refine W.yes (by simp only [lk] <;> rfl) <| CWp.skip <| SQ.normal ?_
          refine W.seq <| W.block <| W.seq <| W.regD tyOK mixed (by kernel_rfl) <| SqW.aop rfl sm rfl <| SqW.aop rfl sm rfl <| SqW.aop rfl (so_bin (by simp only [lk] <;> rfl) (by simp only [lk] <;> rfl) (bi_w bi_sub (by first | (simp only [w2, w3] <;> rfl) | rfl))) rfl <| SqW.aop rfl (so_indexAddr (by simp only [lk] <;> rfl) (by simp only [lk] <;> rfl) (by simp (disch := first | assumption | omega | (simp only [nx] <;> omega) | fail) only [aIndexAddr, ty31, ty57, hpl, b1, b2, sb, hg, g1', g2', g1'', g2''] <;> rfl)) rfl <| SqW.aop rfl (so_fieldAddr (by simp only [lk] <;> rfl) (fa_ok (k := 0) ty57 rfl rfl ty27 rfl rfl)) rfl <| SqW.aop rfl (so_load (by simp only [lk] <;> rfl) (by simp (disch := first | assumption | omega | (simp only [nx] <;> omega) | fail) only [aLoad, ty27, rowOf, hpl, b1, b2, sb, hg, g1', g2', g1'', g2''] <;> rfl)) rfl <| SqW.aop rfl sm rfl <| SqW.aop rfl sm rfl <| SqW.aop rfl (so_indexAddr (by simp only [lk] <;> rfl) (by simp only [lk] <;> rfl) (by simp (disch := first | assumption | omega | (simp only [nx] <;> omega) | fail) only [aIndexAddr, ty31, ty57, hpl, b1, b2, sb, hg, g1', g2', g1'', g2''] <;> rfl)) rfl <| SqW.aop rfl (so_fieldAddr (by simp only [lk] <;> rfl) (fa_ok (k := 0) ty57 rfl rfl ty27 rfl rfl)) rfl <| SqW.aop rfl (so_load (by simp only [lk] <;> rfl) (by simp (disch := first | assumption | omega | (simp only [nx] <;> omega) | fail) only [aLoad, ty27, rowOf, hpl, b1, b2, sb, hg, g1', g2', g1'', g2''] <;> rfl)) rfl <| SqW.aopF rfl (so_bin (by simp only [lk] <;> rfl) (by simp only [lk] <;> rfl) bi_geq) (fun _ => rfl) (by first | rfl | assumption | ((simp only [bl, b1, b2, sb, hg, g1', g2', g1'', g2'']) <;> first | done | assumption | omega) | (simp; done) | (simp; omega)) <| SqW.nil <| SQ.normal ?_
          refine W.no (by simp only [lk] <;> rfl) <| CWp.skip <| BQ.normal <| SQ.normal ?_
          refine W.reg <| OSuf.aop tyOK rfl sm rfl <| OSuf.aop tyOK rfl (so_bin (by simp only [lk] <;> rfl) (by simp only [lk] <;> rfl) (bi_w bi_add (by first | (simp only [w2, w3] <;> rfl) | rfl))) rfl <| OSuf.aop tyOK rfl (so_assign (by simp only [lk] <;> rfl)) rfl <| OSuf.nil <| ?_
          -- leaf: round
          refine LQ.normal (m := m - 1) (L := [(0, .slice (some ⟨z, off, none⟩) V.length c), (3, I64 ((i + 1 : Nat) : Int))]) (by omega) ?_ ⟨i + 1, by omega, by omega, rfl, fun j p q hj hp hq => ?_, rfl⟩
          · simp only [HasA, Tr.get_put, Nat.reduceEqDiff, reduceIte, w2, and_self]
          · by_cases hji : j + 1 < i
            · exact hr j p q hji hp hq
            · obtain rfl : j = i - 1 := by omega
              rw [hx] at hp; cases hp
              rw [Nat.sub_add_cancel hi1, hy] at hq; cases hq
              omega
    · refine W.seq <| W.seq <| W.reg <| OSuf.aop tyOK rfl sm rfl <| OSuf.aop tyOK rfl sm rfl <| OSuf.aop tyOK rfl (so_len (by simp only [aopnds, lk] <;> rfl) (by simp (disch := first | assumption | omega | (simp only [nx] <;> omega) | fail) only [aLenOf, ty31, hpl] <;> rfl)) rfl <| OSuf.aopF tyOK rfl (so_bin (by simp only [lk] <;> rfl) (by simp only [lk] <;> rfl) bi_lss) (fun _ => rfl) (by first | rfl | assumption | ((simp only [bl]) <;> first | done | assumption | omega) | (simp; done) | (simp; omega)) <| OSuf.nil <| SQ.normal ?_
      refine W.no (by simp only [lk] <;> rfl) <| CWp.exit <| SQ.exit <| LQ.exit <| BQ.exit <| ?_
      -- leaf: cut
      refine NQ.normal (L := []) trivial ⟨rfl, hb.2 fun j p q hp hq => hr j p q ?_ hp hq, rfl⟩
      have := (List.getElem?_eq_some_iff.1 hq).1
      omega
  rintro L a' h' ha ⟨rfl, rfl, rfl⟩
  refine SQ.normal <| CWp.known ha ?_
  simp only [mkA]
  refine W.seq <| W.reg <| OSuf.aopT tyOK rfl (so_assign (by simp only [lk] <;> rfl)) (fun _ => rfl) rfl <| OSuf.nil <| SQ.normal ?_
  refine CWp.ret <| FQ.ret (by simp only [aRet, Try.f31, aResults, aResult, lk, Nat.reduceEqDiff, reduceIte] <;> rfl) ?_
  -- leaf: end
  exact ⟨rfl, rfl⟩

/-! Versions that are alike. -/
def eqVb (x y : Vr) : Bool := x.ts == y.ts && (x.lsn == y.lsn && (x.del == y.del && (x.val == y.val && (x.acked == y.acked && true))))
theorem eqV {p q : Operand} (x y : Vr) : aBin Try.prog T .neq 57 p q (.agg #[U64 x.ts, U64 x.lsn, .bool x.del, .string x.val, .bool x.acked]) (.agg #[U64 y.ts, U64 y.lsn, .bool y.del, .string y.val, .bool y.acked]) = some (.bool (!eqVb x y)) := by
  refine bi_sne rfl (by kernel_rfl) (seq_equal Try.underlying57 (by kernel_rfl) ?_)
  refine .cons (by decide) (x := U64 x.ts) (y := U64 y.ts) (by kernel_rfl) (by kernel_rfl) (eq_int Try.underlying27) ?_
  refine .cons (by decide) (x := U64 x.lsn) (y := U64 y.lsn) (by kernel_rfl) (by kernel_rfl) (eq_int Try.underlying27) ?_
  refine .cons (by decide) (x := .bool x.del) (y := .bool y.del) (by kernel_rfl) (by kernel_rfl) (eq_bool Try.underlying4) ?_
  refine .cons (by decide) (x := .string x.val) (y := .string y.val) (by kernel_rfl) (by kernel_rfl) (eq_str Try.underlying9) ?_
  refine .cons (by decide) (x := .bool x.acked) (y := .bool y.acked) (by kernel_rfl) (by kernel_rfl) (eq_bool Try.underlying4) ?_
  exact .nil
theorem ba_self (s : ByteArray) : (s == s) = true := by
  obtain ⟨⟨l⟩⟩ := s
  rw [beq_str]; simp
theorem eqVb_self (x : Vr) : (!eqVb x x) = false := by simp [eqVb, ba_self]
theorem same_c (h : AHeap) (V : List Vr) (v v' : Value) (hs : AVs h V v) (hs' : AVs h V v') (hl : V.length ≤ 1000000) : FWp Try.prog 33 [v, v'] h fun u h' => u = .bool true ∧ h' = h := by
  obtain ⟨a, c, rfl⟩ := avs_form hs
  obtain ⟨a', c', rfl⟩ := avs_form hs'
  have b0 : ((V.length : Int) != (V.length : Int)) = false := by simp
  refine W.enter tyOK Try.func33 rfl rfl ?_
  simp only [entry]
  refine W.seq <| W.reg <| OSuf.aopF tyOK rfl (so_assign (by simp only [lk] <;> rfl)) (fun _ => rfl) rfl <| OSuf.nil <| SQ.normal ?_
  refine W.seq <| W.seq <| W.reg <| OSuf.aop tyOK rfl sm rfl <| OSuf.aop tyOK rfl (so_len (by simp only [aopnds, lk] <;> rfl) (by simp (disch := first | assumption | omega | (simp only [nx] <;> omega) | fail) only [aLenOf, ty31, hpl] <;> rfl)) rfl <| OSuf.aop tyOK rfl sm rfl <| OSuf.aop tyOK rfl (so_len (by simp only [aopnds, lk] <;> rfl) (by simp (disch := first | assumption | omega | (simp only [nx] <;> omega) | fail) only [aLenOf, ty31, hpl] <;> rfl)) rfl <| OSuf.aopF tyOK rfl (so_bin (by simp only [lk] <;> rfl) (by simp only [lk] <;> rfl) bi_neq) (fun _ => rfl) (b0) <| OSuf.nil <| SQ.normal ?_
  refine W.no (by simp only [lk] <;> rfl) <| CWp.skip <| SQ.normal ?_
  refine W.seq <| W.seq <| W.reg <| OSuf.aop tyOK rfl (so_assign (by simp only [lk] <;> rfl)) rfl <| OSuf.nil <| SQ.normal ?_
  -- leaf: loop
  refine W.cut (fun L h' => h' = h ∧ L = []) (W.block (W.loop (fun m L h' => ∃ i : Nat, m + i = V.length ∧ h' = h ∧ L = [(0, .slice a V.length c), (1, .slice a' V.length c'), (5, I64 i)]) (n := V.length) ⟨0, by omega, rfl, rfl⟩ ?_ ?_)) ?_
  · simp [HasA, Tr.get_put]
  · rintro m L h' ⟨i, hi, rfl, rfl⟩
    simp only [mkA]
    have w2 : IntKind.i64.wrap ((i : Int) + 1) = ((i + 1 : Nat) : Int) := by rw [wrap_i64 (by omega) (by omega)]; omega
    by_cases hlt : (i : Int) < (V.length : Int)
    · obtain ⟨x, hx⟩ : ∃ x, V[i]? = some x := ⟨V[i]'(by omega), by simp⟩
      have b1 : (0 ≤ (i : Int) ∧ (i : Int) < (V.length : Int)) := by omega
      cases hs with
      | nil => simp at hx
      | emp => simp at hx
      | @some _ z off _ vs hne hz hg hc =>
        cases hs' with
        | nil => simp at hx
        | emp => simp at hx
        | @some _ z' off' _ vs' hne' hz' hg' hc' =>
          have g1 : cellsOf vs (off + i * 5) 5 = some [U64 x.ts, U64 x.lsn, .bool x.del, .string x.val, .bool x.acked] := cell_of hc hx
          have g2 : cellsOf vs' (off' + i * 5) 5 = some [U64 x.ts, U64 x.lsn, .bool x.del, .string x.val, .bool x.acked] := cell_of hc' hx
          have e1 : [U64 x.ts, U64 x.lsn, .bool x.del, .string x.val, .bool x.acked].toArray = #[U64 x.ts, U64 x.lsn, .bool x.del, .string x.val, .bool x.acked] := rfl
          have b2 := eqVb_self x
          simp only [rowOf] at hg hg'
          refine W.seq <| W.seq <| W.reg <| OSuf.aop tyOK rfl sm rfl <| OSuf.aop tyOK rfl sm rfl <| OSuf.aop tyOK rfl (so_len (by simp only [aopnds, lk] <;> rfl) (by simp (disch := first | assumption | omega | (simp only [nx] <;> omega) | fail) only [aLenOf, ty31, hpl, b1, sb, hg, hg', g1, g2, e1, cond_true, Option.map_some] <;> rfl)) rfl <| OSuf.aopT tyOK rfl (so_bin (by simp only [lk] <;> rfl) (by simp only [lk] <;> rfl) bi_lss) (fun _ => rfl) (by first | rfl | assumption | ((simp only [bl, b1, sb, hg, hg', g1, g2, e1, cond_true, Option.map_some]) <;> first | done | assumption | omega) | (simp; done) | (simp; omega)) <| OSuf.nil <| SQ.normal ?_
          refine W.yes (by simp only [lk] <;> rfl) <| CWp.skip <| SQ.normal ?_
          refine W.seq <| W.block <| W.seq <| W.regD tyOK mixed (by kernel_rfl) <| SqW.aop rfl sm rfl <| SqW.aop rfl sm rfl <| SqW.aop rfl (so_indexAddr (by simp only [lk] <;> rfl) (by simp only [lk] <;> rfl) (by simp (disch := first | assumption | omega | (simp only [nx] <;> omega) | fail) only [aIndexAddr, ty31, ty57, hpl, b1, sb, hg, hg', g1, g2, e1, cond_true, Option.map_some] <;> rfl)) rfl <| SqW.aop rfl (so_load (by simp only [lk] <;> rfl) (by simp (disch := first | assumption | omega | (simp only [nx] <;> omega) | fail) only [aLoad, ty57, rowOf, hpl, b1, sb, hg, hg', g1, g2, e1, cond_true, Option.map_some] <;> rfl)) rfl <| SqW.aop rfl sm rfl <| SqW.aop rfl sm rfl <| SqW.aop rfl (so_indexAddr (by simp only [lk] <;> rfl) (by simp only [lk] <;> rfl) (by simp (disch := first | assumption | omega | (simp only [nx] <;> omega) | fail) only [aIndexAddr, ty31, ty57, hpl, b1, sb, hg, hg', g1, g2, e1, cond_true, Option.map_some] <;> rfl)) rfl <| SqW.aop rfl (so_load (by simp only [lk] <;> rfl) (by simp (disch := first | assumption | omega | (simp only [nx] <;> omega) | fail) only [aLoad, ty57, rowOf, hpl, b1, sb, hg, hg', g1, g2, e1, cond_true, Option.map_some] <;> rfl)) rfl <| SqW.aopF rfl (so_bin (by simp only [lk] <;> rfl) (by simp only [lk] <;> rfl) (eqV x x)) (fun _ => rfl) (b2) <| SqW.nil <| SQ.normal ?_
          refine W.no (by simp only [lk] <;> rfl) <| CWp.skip <| BQ.normal <| SQ.normal ?_
          refine W.reg <| OSuf.aop tyOK rfl sm rfl <| OSuf.aop tyOK rfl (so_bin (by simp only [lk] <;> rfl) (by simp only [lk] <;> rfl) (bi_w bi_add (by first | (simp only [w2] <;> rfl) | rfl))) rfl <| OSuf.aop tyOK rfl (so_assign (by simp only [lk] <;> rfl)) rfl <| OSuf.nil <| ?_
          -- leaf: round
          refine LQ.normal (m := m - 1) (L := [(0, .slice (some ⟨z, off, none⟩) V.length c), (1, .slice (some ⟨z', off', none⟩) V.length c'), (5, I64 ((i + 1 : Nat) : Int))]) (by omega) ?_ ⟨i + 1, by omega, rfl, rfl⟩
          simp only [HasA, Tr.get_put, Nat.reduceEqDiff, reduceIte, w2, and_self]
    · refine W.seq <| W.seq <| W.reg <| OSuf.aop tyOK rfl sm rfl <| OSuf.aop tyOK rfl sm rfl <| OSuf.aop tyOK rfl (so_len (by simp only [aopnds, lk] <;> rfl) (by simp (disch := first | assumption | omega | (simp only [nx] <;> omega) | fail) only [aLenOf, ty31, hpl] <;> rfl)) rfl <| OSuf.aopF tyOK rfl (so_bin (by simp only [lk] <;> rfl) (by simp only [lk] <;> rfl) bi_lss) (fun _ => rfl) (by first | rfl | assumption | ((simp only [bl]) <;> first | done | assumption | omega) | (simp; done) | (simp; omega)) <| OSuf.nil <| SQ.normal ?_
      refine W.no (by simp only [lk] <;> rfl) <| CWp.exit <| SQ.exit <| LQ.exit <| BQ.exit <| ?_
      -- leaf: cut
      exact NQ.normal (L := []) trivial ⟨rfl, rfl⟩
  rintro L a2 h' ha ⟨rfl, rfl⟩
  refine SQ.normal <| CWp.known ha ?_
  simp only [mkA]
  refine W.seq <| W.reg <| OSuf.aopT tyOK rfl (so_assign (by simp only [lk] <;> rfl)) (fun _ => rfl) rfl <| OSuf.nil <| SQ.normal ?_
  refine CWp.ret <| FQ.ret (by simp only [aRet, Try.f33, aResults, aResult, lk, Nat.reduceEqDiff, reduceIte] <;> rfl) ?_
  -- leaf: end
  exact ⟨rfl, rfl⟩

/-! The document's rows. -/
structure RR where
  key : List UInt8
  rts : Int
  here : Bool
  vers : Value
  V : List Vr
def RR.cs (d : RR) : List Value := [encS d.key, U64 d.rts, .bool d.here, d.vers]
def RR.rc (d : RR) : Rec := ⟨d.key, d.rts, d.here, d.V⟩
def flatR : List RR → List Value
  | [] => []
  | d :: l => d.cs ++ flatR l
theorem flatR_length : ∀ l : List RR, (flatR l).length = l.length * 4
  | [] => rfl
  | o :: l => by simp only [flatR, List.length_append, flatR_length l, List.length_cons, RR.cs, List.length_nil]; omega
theorem flatR_append : ∀ l m : List RR, flatR (l ++ m) = flatR l ++ flatR m
  | [], m => rfl
  | o :: l, m => by simp only [flatR, List.cons_append, flatR_append l m, List.append_assoc]
theorem flatR_get {d : RR} (j : Nat) : ∀ {l : List RR} {i : Nat}, l[i]? = some d → j < 4 → (flatR l)[i * 4 + j]? = d.cs[j]?
  | [], i, h, _ => by simp at h
  | x :: l, 0, h, hj => by
    simp at h; subst h
    simp only [flatR]
    rw [List.getElem?_append_left (by simp [RR.cs]; omega)]; simp
  | x :: l, i + 1, h, hj => by
    simp only [List.getElem?_cons_succ] at h
    have e : (i + 1) * 4 + j = i * 4 + j + 4 := by omega
    rw [e, ← flatR_get j h hj]; rfl
theorem flatR_cell : ∀ {D : List RR} {i : Nat} {x : RR}, D[i]? = some x → ((flatR D).drop (i * 4)).take 4 = x.cs
  | [], i, x, h => by simp at h
  | y :: V, 0, x, h => by simp at h; subst h; rfl
  | y :: V, i + 1, x, h => by
    have e : (i + 1) * 4 = i * 4 + 4 := by omega
    simp only [List.getElem?_cons_succ] at h
    rw [e]
    show ((y.cs ++ flatR V).drop (i * 4 + 4)).take 4 = x.cs
    rw [Nat.add_comm, ← List.drop_drop]
    exact flatR_cell h
theorem cellR {D : List RR} {i : Nat} {x : RR} (hx : D[i]? = some x) : cellsOf (flatR D) (i * 4) 4 = some x.cs := by
  have hi := (List.getElem?_eq_some_iff.1 hx).1
  rw [cellsOf_mk (by rw [flatR_length]; omega), flatR_cell hx]
structure RF (h : AHeap) (s : Nat) (x : Option Nat) (fl : Int) (D : List RR) : Prop where
  lt : s < h.next
  ov : ∃ v, h.get s = some (.cells [v, U64 fl] 1) ∧ SV h 4 0 (flatR D) v ∧ svRow v = x
  sx : ∀ y, x = some y → ¬ y = s ∧ y < h.next
  av : ∀ d ∈ D, AVo h d.V d.vers
  sorted : D.Pairwise fun a b => ltStr a.key b.key = true
theorem RF.val {h : AHeap} {s : Nat} {x : Option Nat} {fl : Int} {D : List RR} (hB : RF h s x fl D) : ∃ b, h.get s = some (.cells [.slice b D.length 0, U64 fl] 1) ∧ SV h 4 0 (flatR D) (.slice b D.length 0) ∧ svRow (.slice b D.length 0) = x ∧ (∀ i, i < D.length → ∃ y, b = some ⟨y, 0, none⟩ ∧ y < h.next ∧ ¬ y = s ∧ x = some y ∧ h.get y = some (.cells (flatR D) 4)) := by
  obtain ⟨_, ⟨v, h2, h3, h4⟩, h5⟩ := hB
  obtain ⟨b, e1, e2, e3⟩ := h3.form
  have e4 : vLen v = D.length := by rw [flatR_length] at e2; omega
  rw [e4] at e1
  subst e1
  refine ⟨b, h2, h3, h4, fun i hi => ?_⟩
  obtain ⟨y, rfl, f1, f2, f3, f4⟩ := e3 (fun e => by have := flatR_length D; rw [e] at this; simp at this; omega)
  exact ⟨y, rfl, f3, (h5 y (by rw [← h4]; exact f1)).1, by rw [← h4]; exact f1, f4⟩
/-- What may change of it. -/
structure FrR (h h' : AHeap) (s : Nat) (x x' : Option Nat) : Prop where
  next : h.next ≤ h'.next
  old : ∀ z, z < h.next → ¬ z = s → ¬ x = some z → h'.get z = h.get z
  new : x' = x ∨ ∀ y, x' = some y → h.next ≤ y
theorem FrR.refl (h : AHeap) (s : Nat) (x : Option Nat) : FrR h h s x x := ⟨Nat.le_refl _, fun _ _ _ _ => rfl, .inl rfl⟩
theorem RF.keep {h h' : AHeap} {s : Nat} {x : Option Nat} {fl : Int} {D : List RR} (hB : RF h s x fl D) (hn : h.next ≤ h'.next) (hs : h'.get s = h.get s) (hk : ∀ y, x = some y → h'.get y = h.get y) (hv : ∀ y w, y < h.next → h.get y = some (.cells w 5) → h'.get y = h.get y) : RF h' s x fl D := by
  obtain ⟨h1, ⟨v, h2, h3, h4⟩, h5, h6, h7⟩ := hB
  exact ⟨by omega, ⟨v, by rw [hs]; exact h2, h3.mono hn (fun z _ hz => hk z (by rw [← h4]; exact hz)), h4⟩, fun y hy => ⟨(h5 y hy).1, by have := (h5 y hy).2; omega⟩, fun d hd => avo_mono (h6 d hd) hn hv, h7⟩
theorem RF.mono {h h' : AHeap} {s : Nat} {x : Option Nat} {fl : Int} {D : List RR} (hB : RF h s x fl D) (hn : h.next ≤ h'.next) (hk : ∀ z, z < h.next → h'.get z = h.get z) : RF h' s x fl D :=
  hB.keep hn (hk s hB.lt) (fun y hy => hk y (hB.sx y hy).2) (fun y w hy _ => hk y hy)

/-! find. -/
theorem find_r (h : AHeap) (s : Nat) (x : Option Nat) (fl : Int) (D : List RR) (hB : RF h s x fl D) (k : List UInt8) (hk : k.length < 9223372036854775808) (hD : ∀ d ∈ D, d.key.length < 9223372036854775808) (hl : D.length ≤ 1000000) (at_ : Nat) (is : Bool) (hat : at_ ≤ D.length)
    (h1 : ∀ (j : Nat) (d : RR), j < at_ → D[j]? = some d → ltStr d.key k = true) (h2 : ∀ d, D[at_]? = some d → ltStr d.key k = false) (h3 : is = true ↔ ∃ d, D[at_]? = some d ∧ d.key = k) :
    FWp Try.prog 26 [P0 s, encS k] h fun u h' => u = .tuple #[I64 at_, .bool is] ∧ h' = h := by
  obtain ⟨b, hv, hsv, _, hrow⟩ := hB.val
  refine W.enter tyOK Try.func26 rfl rfl ?_
  simp only [entry]
  refine W.seq <| W.reg <| OSuf.aop tyOK rfl (so_assign (by simp only [lk] <;> rfl)) rfl <| OSuf.aopF tyOK rfl (so_assign (by simp only [lk] <;> rfl)) (fun _ => rfl) rfl <| OSuf.nil <| SQ.normal ?_
  refine W.seq <| W.reg <| OSuf.aop tyOK rfl (so_assign (by simp only [lk] <;> rfl)) rfl <| OSuf.nil <| SQ.normal ?_
  refine W.seq <| ?_
  -- leaf: loop
  refine W.cut (fun L h' => h' = h ∧ L = [(0, P0 s), (1, encS k), (6, I64 at_)]) (W.block (W.loop (fun m L h' => ∃ i : Nat, m + i = at_ ∧ h' = h ∧ L = [(0, P0 s), (1, encS k), (6, I64 i)]) (n := at_) ⟨0, by omega, rfl, rfl⟩ ?_ ?_)) ?_
  · simp [HasA, Tr.get_put]
  · rintro m L h' ⟨i, hi, rfl, rfl⟩
    simp only [mkA]
    have w2 : IntKind.i64.wrap ((i : Int) + 1) = ((i + 1 : Nat) : Int) := by rw [wrap_i64 (by omega) (by omega)]; omega
    by_cases hlt : (i : Int) < (D.length : Int)
    · obtain ⟨d, hd⟩ : ∃ d, D[i]? = some d := ⟨D[i]'(by omega), by simp⟩
      obtain ⟨y, rfl, y1, y2, y3, y4⟩ := hrow i (by omega)
      have hb : (0 ≤ (i : Int) ∧ (i : Int) < (D.length : Int)) := by omega
      have c0 : (flatR D)[i * 4]? = some (encS d.key) := flatR_get 0 hd (by omega)
      have hless := less_c h' d.key k (hD d (List.mem_of_getElem? hd)) hk
      by_cases hia : i < at_
      · rw [h1 i d hia hd] at hless
        refine W.seq <| W.seq <| W.reg <| OSuf.aop tyOK rfl sm rfl <| OSuf.aop tyOK rfl sm rfl <| OSuf.aop tyOK rfl (so_nilCheck (by simp only [lk] <;> rfl)) rfl <| OSuf.aop tyOK rfl (so_fieldAddr (by simp only [lk] <;> rfl) (fa_ok (k := 0) ty29 rfl rfl ty26 rfl rfl)) rfl <| OSuf.aop tyOK rfl (so_load (by simp only [lk] <;> rfl) (by simp (disch := first | assumption | omega | (simp only [nx] <;> omega) | fail) only [aLoad, ty26, rowOf, hpl, hv, hb, sb, y4, c0] <;> rfl)) rfl <| OSuf.aop tyOK rfl (so_len (by simp only [aopnds, lk] <;> rfl) (by simp (disch := first | assumption | omega | (simp only [nx] <;> omega) | fail) only [aLenOf, ty26, hpl, hv, hb, sb, y4, c0] <;> rfl)) rfl <| OSuf.aopT tyOK rfl (so_bin (by simp only [lk] <;> rfl) (by simp only [lk] <;> rfl) bi_lss) (fun _ => rfl) (by first | rfl | assumption | ((simp only [bl, hv, hb, sb, y4, c0]) <;> first | done | assumption | omega) | (simp; done) | (simp; omega)) <| OSuf.aopT tyOK rfl sm (fun _ => rfl) rfl <| OSuf.aop tyOK ag sm rfl <| OSuf.aop tyOK ag (so_nilCheck (by simp only [lk] <;> rfl)) rfl <| OSuf.aop tyOK ag (so_fieldAddr (by simp only [lk] <;> rfl) (fa_ok (k := 0) ty29 rfl rfl ty26 rfl rfl)) rfl <| OSuf.aop tyOK ag (so_load (by simp only [lk] <;> rfl) (by simp (disch := first | assumption | omega | (simp only [nx] <;> omega) | fail) only [aLoad, ty26, rowOf, hpl, hv, hb, sb, y4, c0] <;> rfl)) rfl <| OSuf.aop tyOK ag sm rfl <| OSuf.aop tyOK ag (so_indexAddr (by simp only [lk] <;> rfl) (by simp only [lk] <;> rfl) (by simp (disch := first | assumption | omega | (simp only [nx] <;> omega) | fail) only [aIndexAddr, ty26, ty41, hpl, hv, hb, sb, y4, c0] <;> rfl)) rfl <| OSuf.aop tyOK ag (so_fieldAddr (by simp only [lk] <;> rfl) (fa_ok (k := 0) ty41 rfl rfl ty9 rfl rfl)) rfl <| OSuf.aop tyOK ag (so_load (by simp only [lk] <;> rfl) (by simp (disch := first | assumption | omega | (simp only [nx] <;> omega) | fail) only [aLoad, ty9, rowOf, hpl, hv, hb, sb, y4, c0] <;> rfl)) rfl <| OSuf.aop tyOK ag sm rfl <| OSuf.callD ag (by simp only [aopnds, lk] <;> rfl) en37 (hless) rfl <| OSuf.aopT tyOK rfl (so_pick (by simp only [lk] <;> rfl) (by simp only [lk, cond_true, cond_false] <;> rfl)) (fun _ => rfl) rfl <| OSuf.nil <| SQ.normal ?_
        refine W.yes (by simp only [lk] <;> rfl) <| CWp.skip <| SQ.normal ?_
        refine W.block <| W.reg <| OSuf.aop tyOK rfl sm rfl <| OSuf.aop tyOK rfl (so_bin (by simp only [lk] <;> rfl) (by simp only [lk] <;> rfl) (bi_w bi_add (by first | (simp only [w2] <;> rfl) | rfl))) rfl <| OSuf.aop tyOK rfl (so_assign (by simp only [lk] <;> rfl)) rfl <| OSuf.nil <| BQ.normal <| ?_
        -- leaf: round
        refine LQ.normal (m := m - 1) (L := [(0, P0 s), (1, encS k), (6, I64 ((i + 1 : Nat) : Int))]) (by omega) ?_ ⟨i + 1, by omega, rfl, rfl⟩
        simp only [HasA, Tr.get_put, Nat.reduceEqDiff, reduceIte, w2, and_self]
      · obtain rfl : i = at_ := by omega
        rw [h2 d hd] at hless
        refine W.seq <| W.seq <| W.reg <| OSuf.aop tyOK rfl sm rfl <| OSuf.aop tyOK rfl sm rfl <| OSuf.aop tyOK rfl (so_nilCheck (by simp only [lk] <;> rfl)) rfl <| OSuf.aop tyOK rfl (so_fieldAddr (by simp only [lk] <;> rfl) (fa_ok (k := 0) ty29 rfl rfl ty26 rfl rfl)) rfl <| OSuf.aop tyOK rfl (so_load (by simp only [lk] <;> rfl) (by simp (disch := first | assumption | omega | (simp only [nx] <;> omega) | fail) only [aLoad, ty26, rowOf, hpl, hv, hb, sb, y4, c0] <;> rfl)) rfl <| OSuf.aop tyOK rfl (so_len (by simp only [aopnds, lk] <;> rfl) (by simp (disch := first | assumption | omega | (simp only [nx] <;> omega) | fail) only [aLenOf, ty26, hpl, hv, hb, sb, y4, c0] <;> rfl)) rfl <| OSuf.aopT tyOK rfl (so_bin (by simp only [lk] <;> rfl) (by simp only [lk] <;> rfl) bi_lss) (fun _ => rfl) (by first | rfl | assumption | ((simp only [bl, hv, hb, sb, y4, c0]) <;> first | done | assumption | omega) | (simp; done) | (simp; omega)) <| OSuf.aopT tyOK rfl sm (fun _ => rfl) rfl <| OSuf.aop tyOK ag sm rfl <| OSuf.aop tyOK ag (so_nilCheck (by simp only [lk] <;> rfl)) rfl <| OSuf.aop tyOK ag (so_fieldAddr (by simp only [lk] <;> rfl) (fa_ok (k := 0) ty29 rfl rfl ty26 rfl rfl)) rfl <| OSuf.aop tyOK ag (so_load (by simp only [lk] <;> rfl) (by simp (disch := first | assumption | omega | (simp only [nx] <;> omega) | fail) only [aLoad, ty26, rowOf, hpl, hv, hb, sb, y4, c0] <;> rfl)) rfl <| OSuf.aop tyOK ag sm rfl <| OSuf.aop tyOK ag (so_indexAddr (by simp only [lk] <;> rfl) (by simp only [lk] <;> rfl) (by simp (disch := first | assumption | omega | (simp only [nx] <;> omega) | fail) only [aIndexAddr, ty26, ty41, hpl, hv, hb, sb, y4, c0] <;> rfl)) rfl <| OSuf.aop tyOK ag (so_fieldAddr (by simp only [lk] <;> rfl) (fa_ok (k := 0) ty41 rfl rfl ty9 rfl rfl)) rfl <| OSuf.aop tyOK ag (so_load (by simp only [lk] <;> rfl) (by simp (disch := first | assumption | omega | (simp only [nx] <;> omega) | fail) only [aLoad, ty9, rowOf, hpl, hv, hb, sb, y4, c0] <;> rfl)) rfl <| OSuf.aop tyOK ag sm rfl <| OSuf.callD ag (by simp only [aopnds, lk] <;> rfl) en37 (hless) rfl <| OSuf.aopF tyOK rfl (so_pick (by simp only [lk] <;> rfl) (by simp only [lk, cond_true, cond_false] <;> rfl)) (fun _ => rfl) rfl <| OSuf.nil <| SQ.normal ?_
        refine W.no (by simp only [lk] <;> rfl) <| CWp.exit <| SQ.exit <| LQ.exit <| BQ.exit <| ?_
        -- leaf: cut
        refine NQ.normal (L := [(0, P0 s), (1, encS k), (6, I64 i)]) ?_ ⟨rfl, rfl⟩
        simp only [HasA, Tr.get_put, Nat.reduceEqDiff, reduceIte, and_self]
    · obtain rfl : i = at_ := by omega
      refine W.seq <| W.seq <| W.reg <| OSuf.aop tyOK rfl sm rfl <| OSuf.aop tyOK rfl sm rfl <| OSuf.aop tyOK rfl (so_nilCheck (by simp only [lk] <;> rfl)) rfl <| OSuf.aop tyOK rfl (so_fieldAddr (by simp only [lk] <;> rfl) (fa_ok (k := 0) ty29 rfl rfl ty26 rfl rfl)) rfl <| OSuf.aop tyOK rfl (so_load (by simp only [lk] <;> rfl) (by simp (disch := first | assumption | omega | (simp only [nx] <;> omega) | fail) only [aLoad, ty26, rowOf, hpl, hv] <;> rfl)) rfl <| OSuf.aop tyOK rfl (so_len (by simp only [aopnds, lk] <;> rfl) (by simp (disch := first | assumption | omega | (simp only [nx] <;> omega) | fail) only [aLenOf, ty26, hpl, hv] <;> rfl)) rfl <| OSuf.aopF tyOK rfl (so_bin (by simp only [lk] <;> rfl) (by simp only [lk] <;> rfl) bi_lss) (fun _ => rfl) (by first | rfl | assumption | ((simp only [bl, hv]) <;> first | done | assumption | omega) | (simp; done) | (simp; omega)) <| OSuf.aopF tyOK rfl sm (fun _ => rfl) rfl <| OSuf.pass ag rfl <| OSuf.pass ag rfl <| OSuf.pass ag rfl <| OSuf.pass ag rfl <| OSuf.pass ag rfl <| OSuf.pass ag rfl <| OSuf.pass ag rfl <| OSuf.pass ag rfl <| OSuf.pass ag rfl <| OSuf.pass ag rfl <| OSuf.aopF tyOK rfl (so_pick (by simp only [lk] <;> rfl) (by simp only [lk, cond_true, cond_false] <;> rfl)) (fun _ => rfl) rfl <| OSuf.nil <| SQ.normal ?_
      refine W.no (by simp only [lk] <;> rfl) <| CWp.exit <| SQ.exit <| LQ.exit <| BQ.exit <| ?_
      -- leaf: cut
      refine NQ.normal (L := [(0, P0 s), (1, encS k), (6, I64 i)]) ?_ ⟨rfl, rfl⟩
      simp only [HasA, Tr.get_put, Nat.reduceEqDiff, reduceIte, and_self]
  rintro L a' h' ha ⟨rfl, rfl⟩
  by_cases hlt : (at_ : Int) < (D.length : Int)
  · obtain ⟨d, hd⟩ : ∃ d, D[at_]? = some d := ⟨D[at_]'(by omega), by simp⟩
    obtain ⟨y, rfl, y1, y2, y3, y4⟩ := hrow at_ (by omega)
    have hb : (0 ≤ (at_ : Int) ∧ (at_ : Int) < (D.length : Int)) := by omega
    have c0 : (flatR D)[at_ * 4]? = some (encS d.key) := flatR_get 0 hd (by omega)
    have hb2 : ((ByteArray.toList ⟨⟨d.key⟩⟩) == (ByteArray.toList ⟨⟨k⟩⟩)) = is := by
      rw [str_eq, Bool.eq_iff_iff, h3, decide_eq_true_eq]
      exact ⟨fun e => ⟨d, hd, e⟩, fun ⟨d', e1, e2⟩ => by rw [hd] at e1; cases e1; exact e2⟩
    refine SQ.normal <| CWp.known ha ?_
    simp only [mkA]
    refine W.seq <| W.regD tyOK mixed (by kernel_rfl) <| SqW.aop rfl sm rfl <| SqW.aop rfl sm rfl <| SqW.aop rfl sm rfl <| SqW.aop rfl (so_nilCheck (by simp only [lk] <;> rfl)) rfl <| SqW.aop rfl (so_fieldAddr (by simp only [lk] <;> rfl) (fa_ok (k := 0) ty29 rfl rfl ty26 rfl rfl)) rfl <| SqW.aop rfl (so_load (by simp only [lk] <;> rfl) (by simp (disch := first | assumption | omega | (simp only [nx] <;> omega) | fail) only [aLoad, ty26, rowOf, hpl, hv, hb, sb, y4, c0] <;> rfl)) rfl <| SqW.aop rfl (so_len (by simp only [aopnds, lk] <;> rfl) (by simp (disch := first | assumption | omega | (simp only [nx] <;> omega) | fail) only [aLenOf, ty26, hpl, hv, hb, sb, y4, c0] <;> rfl)) rfl <| SqW.aopT rfl (so_bin (by simp only [lk] <;> rfl) (by simp only [lk] <;> rfl) bi_lss) (fun _ => rfl) (by first | rfl | assumption | ((simp only [bl, hv, hb, sb, y4, c0]) <;> first | done | assumption | omega) | (simp; done) | (simp; omega)) <| SqW.aopT rfl sm (fun _ => rfl) rfl <| SqW.aop ag sm rfl <| SqW.aop ag (so_nilCheck (by simp only [lk] <;> rfl)) rfl <| SqW.aop ag (so_fieldAddr (by simp only [lk] <;> rfl) (fa_ok (k := 0) ty29 rfl rfl ty26 rfl rfl)) rfl <| SqW.aop ag (so_load (by simp only [lk] <;> rfl) (by simp (disch := first | assumption | omega | (simp only [nx] <;> omega) | fail) only [aLoad, ty26, rowOf, hpl, hv, hb, sb, y4, c0] <;> rfl)) rfl <| SqW.aop ag sm rfl <| SqW.aop ag (so_indexAddr (by simp only [lk] <;> rfl) (by simp only [lk] <;> rfl) (by simp (disch := first | assumption | omega | (simp only [nx] <;> omega) | fail) only [aIndexAddr, ty26, ty41, hpl, hv, hb, sb, y4, c0] <;> rfl)) rfl <| SqW.aop ag (so_fieldAddr (by simp only [lk] <;> rfl) (fa_ok (k := 0) ty41 rfl rfl ty9 rfl rfl)) rfl <| SqW.aop ag (so_load (by simp only [lk] <;> rfl) (by simp (disch := first | assumption | omega | (simp only [nx] <;> omega) | fail) only [aLoad, ty9, rowOf, hpl, hv, hb, sb, y4, c0] <;> rfl)) rfl <| SqW.aop ag sm rfl <| SqW.aop ag (so_bin (by simp only [lk] <;> rfl) (by simp only [lk] <;> rfl) bs_eql) rfl <| SqW.aop rfl (so_pick (by simp only [lk] <;> rfl) (by simp only [lk, cond_true, cond_false] <;> rfl)) rfl <| SqW.aop rfl (so_assign (by simp only [lk] <;> rfl)) rfl <| SqW.aop rfl (so_assign (by simp only [lk] <;> rfl)) rfl <| SqW.nil <| SQ.normal ?_
    refine CWp.ret <| FQ.ret (by simp only [aRet, Try.f26, aResults, aResult, lk, Nat.reduceEqDiff, reduceIte] <;> rfl) ?_
    -- leaf: end
    exact ⟨by rw [hb2], rfl⟩
  · have hf : is = false := by
      cases is with
      | false => rfl
      | true =>
        obtain ⟨d, hd, _⟩ := h3.1 rfl
        have := (List.getElem?_eq_some_iff.1 hd).1
        omega
    subst hf
    refine SQ.normal <| CWp.known ha ?_
    simp only [mkA]
    refine W.seq <| W.regD tyOK mixed (by kernel_rfl) <| SqW.aop rfl sm rfl <| SqW.aop rfl sm rfl <| SqW.aop rfl sm rfl <| SqW.aop rfl (so_nilCheck (by simp only [lk] <;> rfl)) rfl <| SqW.aop rfl (so_fieldAddr (by simp only [lk] <;> rfl) (fa_ok (k := 0) ty29 rfl rfl ty26 rfl rfl)) rfl <| SqW.aop rfl (so_load (by simp only [lk] <;> rfl) (by simp (disch := first | assumption | omega | (simp only [nx] <;> omega) | fail) only [aLoad, ty26, rowOf, hpl, hv] <;> rfl)) rfl <| SqW.aop rfl (so_len (by simp only [aopnds, lk] <;> rfl) (by simp (disch := first | assumption | omega | (simp only [nx] <;> omega) | fail) only [aLenOf, ty26, hpl, hv] <;> rfl)) rfl <| SqW.aopF rfl (so_bin (by simp only [lk] <;> rfl) (by simp only [lk] <;> rfl) bi_lss) (fun _ => rfl) (by first | rfl | assumption | ((simp only [bl, hv]) <;> first | done | assumption | omega) | (simp; done) | (simp; omega)) <| SqW.aopF rfl sm (fun _ => rfl) rfl <| SqW.pass ag rfl <| SqW.pass ag rfl <| SqW.pass ag rfl <| SqW.pass ag rfl <| SqW.pass ag rfl <| SqW.pass ag rfl <| SqW.pass ag rfl <| SqW.pass ag rfl <| SqW.pass ag rfl <| SqW.pass ag rfl <| SqW.aopF rfl (so_pick (by simp only [lk] <;> rfl) (by simp only [lk, cond_true, cond_false] <;> rfl)) (fun _ => rfl) rfl <| SqW.aop rfl (so_assign (by simp only [lk] <;> rfl)) rfl <| SqW.aopF rfl (so_assign (by simp only [lk] <;> rfl)) (fun _ => rfl) rfl <| SqW.nil <| SQ.normal ?_
    refine CWp.ret <| FQ.ret (by simp only [aRet, Try.f26, aResults, aResult, lk, Nat.reduceEqDiff, reduceIte] <;> rfl) ?_
    -- leaf: end
    exact ⟨rfl, rfl⟩

theorem lt_irr (a : List UInt8) : ltStr a a = false := by simp only [ltStr, decide_eq_false_iff_not]; exact List.lt_irrefl a
theorem lt_ne {a b : List UInt8} (h : ltStr a b = true) : ¬ a = b := fun e => by rw [e, lt_irr] at h; cases h
/-- The first row that is not below a key. -/
theorem posR (k : List UInt8) : ∀ D : List RR, ∃ at_, at_ ≤ D.length ∧ (∀ (j : Nat) (d : RR), j < at_ → D[j]? = some d → ltStr d.key k = true) ∧ (∀ d, D[at_]? = some d → ltStr d.key k = false)
  | [] => ⟨0, Nat.le_refl _, fun j d hj => by omega, fun d hd => by simp at hd⟩
  | x :: D => by
    cases hx : ltStr x.key k with
    | false => exact ⟨0, Nat.zero_le _, fun j d hj => by omega, fun d hd => by simp at hd; rw [← hd]; exact hx⟩
    | true =>
      obtain ⟨a, h1, h2, h3⟩ := posR k D
      refine ⟨a + 1, by simp; omega, fun j d hj hd => ?_, fun d hd => h3 d (by simpa using hd)⟩
      cases j with
      | zero => simp at hd; rw [← hd]; exact hx
      | succ j => exact h2 j d (by omega) (by simpa using hd)
theorem sorted_get {D : List RR} (hs : D.Pairwise fun a b => ltStr a.key b.key = true) {i j : Nat} {a b : RR} (hij : i < j) (ha : D[i]? = some a) (hb : D[j]? = some b) : ltStr a.key b.key = true := by
  obtain ⟨h1, e1⟩ := List.getElem?_eq_some_iff.1 ha
  obtain ⟨h2, e2⟩ := List.getElem?_eq_some_iff.1 hb
  have := List.pairwise_iff_getElem.1 hs i j h1 h2 hij
  rw [e1, e2] at this; exact this
theorem missR {D : List RR} (hs : D.Pairwise fun a b => ltStr a.key b.key = true) {k : List UInt8} {at_ : Nat} (h1 : ∀ (j : Nat) (d : RR), j < at_ → D[j]? = some d → ltStr d.key k = true) (h2 : ∀ d, D[at_]? = some d → ltStr d.key k = false) (hn : ¬ ∃ d, D[at_]? = some d ∧ d.key = k) :
    (∀ d ∈ D, ¬ d.key = k) ∧ ∀ d ∈ D.drop at_, ltStr k d.key = true := by
  have hi : ∀ (j : Nat) (d : RR), at_ ≤ j → D[j]? = some d → ltStr k d.key = true := fun j d hj hd => by
    have hjl := (List.getElem?_eq_some_iff.1 hd).1
    obtain ⟨e, he⟩ : ∃ e, D[at_]? = some e := ⟨D[at_]'(by omega), by simp⟩
    have h3 := h2 e he
    have h4 : ltStr k e.key = true := by
      cases h5 : ltStr k e.key with
      | true => rfl
      | false =>
        refine absurd ⟨e, he, ?_⟩ hn
        simp only [ltStr, decide_eq_false_iff_not, List.not_lt] at h3 h5
        exact List.le_antisymm h5 h3
    rcases Nat.lt_or_ge at_ j with h6 | h6
    · exact lt_of_lt_le h4 (leS_of_lt (sorted_get hs h6 he hd))
    · obtain rfl : j = at_ := by omega
      rw [he] at hd; cases hd; exact h4
  refine ⟨fun d hd e => ?_, fun d hd => ?_⟩
  · obtain ⟨j, hj⟩ := List.getElem?_of_mem hd
    rcases Nat.lt_or_ge j at_ with h6 | h6
    · exact lt_ne (h1 j d h6 hj) e
    · exact lt_ne (hi j d h6 hj) e.symm
  · obtain ⟨j, hj⟩ := List.getElem?_of_mem hd
    rw [List.getElem?_drop] at hj
    exact hi _ d (by omega) hj
theorem splitR {D : List RR} {i : Nat} {d : RR} (hd : D[i]? = some d) : D = D.take i ++ d :: D.drop (i + 1) := by
  have hi := (List.getElem?_eq_some_iff.1 hd).1
  conv => lhs; rw [← List.take_append_drop i D, List.drop_eq_getElem_cons hi]
  rw [(List.getElem?_eq_some_iff.1 hd).2]
theorem sorted_nodup {D : List RR} (hs : D.Pairwise fun a b => ltStr a.key b.key = true) : ((D.map RR.rc).map Rec.key).Nodup := by
  rw [List.map_map]
  exact (List.pairwise_map.2 (hs.imp fun h => lt_ne h))
theorem hitR {D : List RR} (hs : D.Pairwise fun a b => ltStr a.key b.key = true) {k : List UInt8} {i : Nat} {d : RR} (hd : D[i]? = some d) (hk : d.key = k) : getR k (D.map RR.rc) = some d.rc :=
  find_nodup (sorted_nodup hs) (List.mem_map.2 ⟨d, List.mem_of_getElem? hd, rfl⟩) hk
theorem noR {D : List RR} {k : List UInt8} (hn : ∀ d ∈ D, ¬ d.key = k) : getR k (D.map RR.rc) = none := by
  refine List.find?_eq_none.2 fun x hx => ?_
  obtain ⟨d, hd, rfl⟩ := List.mem_map.1 hx
  simp only [decide_eq_true_eq]; exact hn d hd

theorem SV.low {h : AHeap} {sz lo lo' : Nat} {vs : List Value} {v : Value} (s : SV h sz lo vs v) (hl : lo' ≤ lo) : SV h sz lo' vs v := by
  cases s with
  | nil => exact .nil
  | some a1 a2 a3 a4 a5 => exact .some a1 (by omega) a3 a4 a5
/-! Row. -/
theorem bv_avo {h : AHeap} {V : List Vr} {v : Value} (a : AVo h V v) : ∃ x, VRel (fun _ => some ⟨0, 0, 0, 0⟩) h.next v x := by
  cases a with
  | nil => exact ⟨_, .slice0⟩
  | @emp y c hy =>
    cases c with
    | zero => exact ⟨_, .sliceZ (x := 0) (sp := none) hy rfl⟩
    | succ c => exact ⟨_, .sliceK hy rfl⟩
  | @some V y hne hy hg => exact ⟨_, .sliceU (cap := V.length) hy rfl (Nat.le_refl _) (by simp)⟩
theorem row_r (h : AHeap) (s : Nat) (x : Option Nat) (fl : Int) (D : List RR) (hB : RF h s x fl D) (k : List UInt8) (hk : k.length < 9223372036854775808) (hD : ∀ d ∈ D, d.key.length < 9223372036854775808) (hl : D.length ≤ 1000000) :
    ∃ (y : Rec) (b : Option Addr) (c : Nat), FWp Try.prog 32 [P0 s, encS k] h (fun u h' => u = .tuple #[.agg #[encS y.key, U64 y.rts, .bool y.here, .slice b y.V.length c], .bool (getR k (D.map RR.rc)).isSome] ∧ h' = h) ∧ AVo h y.V (.slice b y.V.length c) ∧ y = (getR k (D.map RR.rc)).getD ⟨[], 0, false, []⟩ := by
  obtain ⟨at_, a1, a2, a3⟩ := posR k D
  have hlt := hB.lt
  have hB1 : RF (h.new (.cells [encS [], U64 0, .bool false, .slice none 0 0] 1)) s x fl D := hB.mono (by simp) fun z hz => AHeap.get_new_ne (by omega)
  by_cases hh : ∃ d, D[at_]? = some d ∧ d.key = k
  · obtain ⟨d, hd, hdk⟩ := hh
    have hf := find_r _ s x fl D hB1 k hk hD hl at_ true a1 a2 a3 (by simp; exact ⟨d, hd, hdk⟩)
    obtain ⟨b, hv, hsv, _, hrow⟩ := hB1.val
    have hal : at_ < D.length := (List.getElem?_eq_some_iff.1 hd).1
    obtain ⟨y, rfl, y1, y2, y3, y4⟩ := hrow at_ hal
    have hav := hB.av d (List.mem_of_getElem? hd)
    obtain ⟨vb, vc, hvv⟩ := avo_form hav
    have hb : (0 ≤ (at_ : Int) ∧ (at_ : Int) < (D.length : Int)) := by omega
    have hcell := cellR hd
    rw [RR.cs, hvv] at hcell
    have e1 : [encS d.key, U64 d.rts, .bool d.here, .slice vb d.V.length vc].toArray = #[encS d.key, U64 d.rts, .bool d.here, .slice vb d.V.length vc] := rfl
    have hgr := hitR hB.sorted hd hdk
    rw [hvv] at hav
    obtain ⟨xx, hxx⟩ := bv_avo hav
    refine ⟨d.rc, vb, vc, ?_, hav, by rw [hgr]; rfl⟩
    rw [hgr]
    refine FWp.gcs ⟨fun _ => some ⟨0, 0, 0, 0⟩, _, .tuple (.cons (.agg (.cons (.string _) (.cons (.int _ _) (.cons (.bool _) (.cons hxx .nil))))) (.cons (.bool _) .nil))⟩ (W.enter tyOK Try.func32 rfl rfl ?_)
    simp only [entry]
    refine W.seq <| W.reg <| OSuf.aop tyOK rfl (so_alloc (by simp only [aAlloc, ty41] <;> rfl)) rfl <| OSuf.aopF tyOK rfl (so_assign (by simp only [lk] <;> rfl)) (fun _ => rfl) rfl <| OSuf.nil <| SQ.normal ?_
    refine W.seq <| W.reg <| OSuf.aop tyOK rfl sm rfl <| OSuf.aop tyOK rfl sm rfl <| OSuf.callD rfl (by simp only [aopnds, lk] <;> rfl) en26 (hf) rfl <| OSuf.aop tyOK rfl sm rfl <| OSuf.aop tyOK rfl (so_extract (by simp only [lk] <;> rfl) (by simp (disch := first | assumption | omega | (simp only [nx] <;> omega) | fail) only [aExtract, hpl, Value.cells, places, ty26, ty29, ty41, hv, hb, sb, y4, hcell, e1, cond_true, Option.map_some] <;> rfl)) rfl <| OSuf.aopT tyOK rfl (so_extract (by simp only [lk] <;> rfl) (by simp (disch := first | assumption | omega | (simp only [nx] <;> omega) | fail) only [aExtract, hpl, Value.cells, places, ty26, ty29, ty41, hv, hb, sb, y4, hcell, e1, cond_true, Option.map_some] <;> rfl)) (fun _ => rfl) (by first | rfl | assumption | ((simp only [bl, Value.cells, places, ty26, ty29, ty41, hv, hb, sb, y4, hcell, e1, cond_true, Option.map_some]) <;> first | done | assumption | omega) | (simp; done) | (simp; omega)) <| OSuf.aop tyOK rfl (so_assign (by simp only [lk] <;> rfl)) rfl <| OSuf.aopT tyOK rfl (so_assign (by simp only [lk] <;> rfl)) (fun _ => rfl) rfl <| OSuf.nil <| SQ.normal ?_
    refine W.seq <| W.seq <| W.reg <| OSuf.aopT tyOK rfl sm (fun _ => rfl) rfl <| OSuf.aopF tyOK rfl (so_not (by simp only [lk] <;> rfl)) (fun _ => rfl) rfl <| OSuf.nil <| SQ.normal ?_
    refine W.no (by simp only [lk] <;> rfl) <| CWp.skip <| SQ.normal ?_
    refine W.seq <| W.reg <| OSuf.aop tyOK rfl sm rfl <| OSuf.aop tyOK rfl (so_nilCheck (by simp only [lk] <;> rfl)) rfl <| OSuf.aop tyOK rfl (so_fieldAddr (by simp only [lk] <;> rfl) (fa_ok (k := 0) ty29 rfl rfl ty26 rfl rfl)) rfl <| OSuf.aop tyOK rfl (so_load (by simp only [lk] <;> rfl) (by simp (disch := first | assumption | omega | (simp only [nx] <;> omega) | fail) only [aLoad, ty26, rowOf, hpl, Value.cells, places, ty26, ty29, ty41, hv, hb, sb, y4, hcell, e1, cond_true, Option.map_some] <;> rfl)) rfl <| OSuf.aop tyOK rfl sm rfl <| OSuf.aop tyOK rfl (so_indexAddr (by simp only [lk] <;> rfl) (by simp only [lk] <;> rfl) (by simp (disch := first | assumption | omega | (simp only [nx] <;> omega) | fail) only [aIndexAddr, ty26, ty41, hpl, Value.cells, places, ty26, ty29, ty41, hv, hb, sb, y4, hcell, e1, cond_true, Option.map_some] <;> rfl)) rfl <| OSuf.aop tyOK rfl (so_load (by simp only [lk] <;> rfl) (by simp (disch := first | assumption | omega | (simp only [nx] <;> omega) | fail) only [aLoad, ty41, rowOf, hpl, Value.cells, places, ty26, ty29, ty41, hv, hb, sb, y4, hcell, e1, cond_true, Option.map_some] <;> rfl)) rfl <| OSuf.aop tyOK rfl (so_store (by simp only [lk] <;> rfl) (by simp only [lk] <;> rfl) (by simp (disch := first | assumption | omega | (simp only [nx] <;> omega) | fail) only [aStore, ty41, writeRow, hpl, Value.cells, places, ty26, ty29, ty41, hv, hb, sb, y4, hcell, e1, cond_true, Option.map_some] <;> rfl)) rfl <| OSuf.aopT tyOK rfl (so_assign (by simp only [lk] <;> rfl)) (fun _ => rfl) rfl <| OSuf.nil <| SQ.normal ?_
    refine CWp.ret <| FQ.ret (by simp (disch := first | assumption | omega | (simp only [nx] <;> omega) | fail) only [aRet, Try.f32, aResults, aResult, lk, Nat.reduceEqDiff, reduceIte, aLoad, rowOf, hpl, Value.cells, places, ty26, ty29, ty41, hv, hb, sb, y4, hcell, e1, cond_true, Option.map_some] <;> rfl) ?_
    -- leaf: end
    exact ⟨rfl, fun z o hz ho => by simp (disch := first | assumption | omega | (simp only [nx] <;> omega) | fail) only [hpl]; exact ho⟩
  · have hf := find_r _ s x fl D hB1 k hk hD hl at_ false a1 a2 a3 (by simp; intro d hd e; exact hh ⟨d, hd, e⟩)
    have hgr := noR (missR hB.sorted a2 a3 hh).1
    refine ⟨⟨[], 0, false, []⟩, none, 0, ?_, .nil, by rw [hgr]; rfl⟩
    rw [hgr]
    refine FWp.gcs ⟨fun _ => none, _, .tuple (.cons (.agg (.cons (.string _) (.cons (.int _ _) (.cons (.bool _) (.cons .slice0 .nil))))) (.cons (.bool _) .nil))⟩ (W.enter tyOK Try.func32 rfl rfl ?_)
    simp only [entry]
    refine W.seq <| W.reg <| OSuf.aop tyOK rfl (so_alloc (by simp only [aAlloc, ty41] <;> rfl)) rfl <| OSuf.aopF tyOK rfl (so_assign (by simp only [lk] <;> rfl)) (fun _ => rfl) rfl <| OSuf.nil <| SQ.normal ?_
    refine W.seq <| W.reg <| OSuf.aop tyOK rfl sm rfl <| OSuf.aop tyOK rfl sm rfl <| OSuf.callD rfl (by simp only [aopnds, lk] <;> rfl) en26 (hf) rfl <| OSuf.aop tyOK rfl sm rfl <| OSuf.aop tyOK rfl (so_extract (by simp only [lk] <;> rfl) (by simp (disch := first | assumption | omega | (simp only [nx] <;> omega) | fail) only [aExtract, hpl, Value.cells, places, ty26, ty29, ty41] <;> rfl)) rfl <| OSuf.aopF tyOK rfl (so_extract (by simp only [lk] <;> rfl) (by simp (disch := first | assumption | omega | (simp only [nx] <;> omega) | fail) only [aExtract, hpl, Value.cells, places, ty26, ty29, ty41] <;> rfl)) (fun _ => rfl) (by first | rfl | assumption | ((simp only [bl, Value.cells, places, ty26, ty29, ty41]) <;> first | done | assumption | omega) | (simp; done) | (simp; omega)) <| OSuf.aop tyOK rfl (so_assign (by simp only [lk] <;> rfl)) rfl <| OSuf.aopF tyOK rfl (so_assign (by simp only [lk] <;> rfl)) (fun _ => rfl) rfl <| OSuf.nil <| SQ.normal ?_
    refine W.seq <| W.seq <| W.reg <| OSuf.aopF tyOK rfl sm (fun _ => rfl) rfl <| OSuf.aopT tyOK rfl (so_not (by simp only [lk] <;> rfl)) (fun _ => rfl) rfl <| OSuf.nil <| SQ.normal ?_
    refine W.yes (by simp only [lk] <;> rfl) <| W.seq <| W.reg <| OSuf.aop tyOK rfl (so_build (by simp only [aparts, lk] <;> rfl) (by simp (disch := first | assumption | omega | (simp only [nx] <;> omega) | fail) only [aBuild, ty41, hpl, Value.cells, places, ty26, ty29, ty41] <;> rfl)) rfl <| OSuf.aop tyOK rfl (so_store (by simp only [lk] <;> rfl) (by simp only [lk] <;> rfl) (by simp (disch := first | assumption | omega | (simp only [nx] <;> omega) | fail) only [aStore, ty41, writeRow, hpl, Value.cells, places, ty26, ty29, ty41] <;> rfl)) rfl <| OSuf.aopF tyOK rfl (so_assign (by simp only [lk] <;> rfl)) (fun _ => rfl) rfl <| OSuf.nil <| SQ.normal ?_
    refine CWp.ret <| SQ.ret <| FQ.ret (by simp (disch := first | assumption | omega | (simp only [nx] <;> omega) | fail) only [aRet, Try.f32, aResults, aResult, lk, Nat.reduceEqDiff, reduceIte, aLoad, rowOf, hpl, Value.cells, places, ty26, ty29, ty41] <;> rfl) ?_
    -- leaf: end
    exact ⟨rfl, fun z o hz ho => by simp (disch := first | assumption | omega | (simp only [nx] <;> omega) | fail) only [hpl]; exact ho⟩

/-! Parts of lists that are appended. -/
theorem flatV_one : ∀ V : List Vr, oneCells (flatV V) = true
  | [] => rfl
  | v :: V => by
    have := flatV_one V
    simp only [flatV, Vr.cs, oneCells, List.all_append, List.all_cons, List.all_nil, Bool.and_true, Bool.and_eq_true] at this ⊢
    exact ⟨⟨rfl, rfl, rfl, rfl, rfl⟩, this⟩
theorem flatR_one : ∀ D : List RR, (∀ d ∈ D, ∃ b n c, d.vers = .slice b n c) → oneCells (flatR D) = true
  | [], _ => rfl
  | d :: D, h => by
    have := flatR_one D fun e he => h e (List.mem_cons_of_mem _ he)
    obtain ⟨b, n, c, e⟩ := h d List.mem_cons_self
    simp only [flatR, RR.cs, e, oneCells, List.all_append, List.all_cons, List.all_nil, Bool.and_true, Bool.and_eq_true] at this ⊢
    exact ⟨⟨rfl, rfl, rfl, rfl⟩, this⟩
theorem flatR_take : ∀ (D : List RR) (i : Nat), (flatR D).take (i * 4) = flatR (D.take i)
  | [], i => by simp [flatR]
  | q :: l, 0 => by simp [flatR]
  | q :: l, i + 1 => by
    have e : (i + 1) * 4 = i * 4 + 4 := by omega
    rw [e, List.take_succ_cons]
    show List.take (i * 4 + 4) (q.cs ++ flatR l) = q.cs ++ flatR (l.take i)
    rw [← flatR_take l i]; rfl
theorem flatR_drop : ∀ (D : List RR) (i : Nat), (flatR D).drop (i * 4) = flatR (D.drop i)
  | [], i => by simp [flatR]
  | q :: l, 0 => by simp [flatR]
  | q :: l, i + 1 => by
    have e : (i + 1) * 4 = i * 4 + 4 := by omega
    rw [e]
    show List.drop (i * 4 + 4) (q.cs ++ flatR l) = flatR (l.drop i)
    rw [← flatR_drop l i]; rfl
theorem partR_hi {h : AHeap} {D : List RR} {b : Option Addr} {lo k : Nat} (s : SV h 4 lo (flatR D) (.slice b D.length 0)) (hk : k ≤ D.length) : ∃ sv, aSlice T 26 (.slice b D.length 0) none (some (.int .i64 (k : Int))) none h = some sv ∧ aLen sv = some k ∧ aCells h 4 k sv = some (flatR (D.take k)) := by
  by_cases hD : D = []
  · subst hD
    have := s.empty rfl
    injection this with e1 e2 _
    subst e1
    have : k = 0 := by simpa using hk
    subst this
    exact ⟨_, sl_0 ty26 rfl ty41 (bounds_hi (Nat.le_refl _)), rfl, rfl⟩
  · obtain ⟨b', e1, e2, e3⟩ := s.form
    obtain ⟨y, rfl, _, _, h3, h4⟩ := e3 (fun e => hD (by have := flatR_length D; rw [e] at this; simp at this; exact List.length_eq_zero_iff.1 (by omega)))
    injection e1 with e4 _ _
    subst e4
    refine ⟨_, sl_u ty26 rfl ty41 (bounds_hi hk) h4, rfl, ?_⟩
    refine aCells_of (vs := flatR D) (by simp only [rowOf, h4]) (by omega) ?_
    rw [← flatR_take]
    have := cellsOf_mk (vs := flatR D) (off := 0) (n := k * 4) (by rw [flatR_length]; omega)
    simpa using this
theorem partR_lo {h : AHeap} {D : List RR} {b : Option Addr} {lo k : Nat} (s : SV h 4 lo (flatR D) (.slice b D.length 0)) (hk : k ≤ D.length) : ∃ sv, aSlice T 26 (.slice b D.length 0) (some (.int .i64 (k : Int))) none none h = some sv ∧ aLen sv = some (D.length - k) ∧ aCells h 4 (D.length - k) sv = some (flatR (D.drop k)) := by
  by_cases hD : D = []
  · subst hD
    have := s.empty rfl
    injection this with e1 e2 _
    subst e1
    have : k = 0 := by simpa using hk
    subst this
    exact ⟨_, sl_0 ty26 rfl ty41 (bounds_lo (Nat.le_refl _)), rfl, rfl⟩
  · obtain ⟨b', e1, e2, e3⟩ := s.form
    obtain ⟨y, rfl, _, _, h3, h4⟩ := e3 (fun e => hD (by have := flatR_length D; rw [e] at this; simp at this; exact List.length_eq_zero_iff.1 (by omega)))
    injection e1 with e4 _ _
    subst e4
    refine ⟨_, sl_u ty26 rfl ty41 (bounds_lo hk) h4, rfl, ?_⟩
    refine aCells_of (vs := flatR D) (by simp only [rowOf, h4]) (Nat.le_refl _) ?_
    rw [← flatR_drop]
    have h9 := flatR_length D
    have := cellsOf_mk (vs := flatR D) (off := k * 4) (n := (D.length - k) * 4) (by omega)
    rw [List.take_of_length_le (by simp; omega)] at this
    simpa using this
theorem mayKey_c (h : AHeap) (k : List UInt8) : FWp Try.prog 25 [encS k] h fun u h' => u = .bool (decide (okKey k)) ∧ h' = h := by
  have e0 : (ByteArray.mk ⟨k⟩).size = k.length := rfl
  refine W.enter tyOK Try.func25 rfl rfl ?_
  simp only [entry]
  by_cases h1 : (k.length : Int) ≥ 1
  · have e1 : decide ((k.length : Int) ≥ 1) = true := decide_eq_true h1
    have e2 : decide ((k.length : Int) ≤ 16) = decide (okKey k) := by
      rw [decide_eq_decide]; exact ⟨fun h9 => ⟨by omega, by omega⟩, fun h9 => by have := h9.2; omega⟩
    refine W.seq <| W.reg <| OSuf.aopF tyOK rfl (so_assign (by simp only [lk] <;> rfl)) (fun _ => rfl) rfl <| OSuf.nil <| SQ.normal ?_
    refine W.seq <| W.reg <| OSuf.aop tyOK rfl sm rfl <| OSuf.aop tyOK rfl (so_len (by simp only [aopnds, lk] <;> rfl) (by simp (disch := first | assumption | omega | (simp only [nx] <;> omega) | fail) only [aLenOf, ty9, hpl, e0] <;> rfl)) rfl <| OSuf.aopT tyOK rfl (so_bin (by simp only [lk] <;> rfl) (by simp only [lk] <;> rfl) bi_geq) (fun _ => rfl) (e1) <| OSuf.aopT tyOK rfl sm (fun _ => rfl) rfl <| OSuf.aop tyOK ag sm rfl <| OSuf.aop tyOK ag (so_len (by simp only [aopnds, lk] <;> rfl) (by simp (disch := first | assumption | omega | (simp only [nx] <;> omega) | fail) only [aLenOf, ty9, hpl, e0] <;> rfl)) rfl <| OSuf.aop tyOK ag (so_bin (by simp only [lk] <;> rfl) (by simp only [lk] <;> rfl) bi_leq) rfl <| OSuf.aop tyOK rfl (so_pick (by simp only [lk] <;> rfl) (by simp only [lk, cond_true, cond_false] <;> rfl)) rfl <| OSuf.aop tyOK rfl (so_assign (by simp only [lk] <;> rfl)) rfl <| OSuf.nil <| SQ.normal ?_
    refine CWp.ret <| FQ.ret (by simp only [aRet, Try.f25, aResults, aResult, lk, Nat.reduceEqDiff, reduceIte] <;> rfl) ?_
    -- leaf: end
    exact ⟨by rw [← e2], rfl⟩
  · have e1 : decide ((k.length : Int) ≥ 1) = false := decide_eq_false h1
    have e2 : decide (okKey k) = false := decide_eq_false (fun h9 => h1 (by have := h9.1; omega))
    refine W.seq <| W.reg <| OSuf.aopF tyOK rfl (so_assign (by simp only [lk] <;> rfl)) (fun _ => rfl) rfl <| OSuf.nil <| SQ.normal ?_
    refine W.seq <| W.reg <| OSuf.aop tyOK rfl sm rfl <| OSuf.aop tyOK rfl (so_len (by simp only [aopnds, lk] <;> rfl) (by simp (disch := first | assumption | omega | (simp only [nx] <;> omega) | fail) only [aLenOf, ty9, hpl, e0] <;> rfl)) rfl <| OSuf.aopF tyOK rfl (so_bin (by simp only [lk] <;> rfl) (by simp only [lk] <;> rfl) bi_geq) (fun _ => rfl) (e1) <| OSuf.aopF tyOK rfl sm (fun _ => rfl) rfl <| OSuf.pass ag rfl <| OSuf.pass ag rfl <| OSuf.pass ag rfl <| OSuf.aopF tyOK rfl (so_pick (by simp only [lk] <;> rfl) (by simp only [lk, cond_true, cond_false] <;> rfl)) (fun _ => rfl) rfl <| OSuf.aopF tyOK rfl (so_assign (by simp only [lk] <;> rfl)) (fun _ => rfl) rfl <| OSuf.nil <| SQ.normal ?_
    refine CWp.ret <| FQ.ret (by simp only [aRet, Try.f25, aResults, aResult, lk, Nat.reduceEqDiff, reduceIte] <;> rfl) ?_
    -- leaf: end
    exact ⟨by rw [e2], rfl⟩

/-- Versions that are copied behind none. -/
theorem own_x {h : AHeap} {V : List Vr} {v : Value} (hv : AVs h V v) (hl : V.length ≤ 1000000) : ∃ v' H, (∀ ats A', appT T ats = some A' → A'.size = 5 → A'.bytes ≤ 100 → aAppend T ats (.slice none 0 0) v h = some (v', H)) ∧ AVo H V v' ∧ h.next ≤ H.next ∧ (∀ z, z < h.next → H.get z = h.get z) ∧ ∃ b, v' = .slice b V.length 0 := by
  obtain ⟨a, c, rfl⟩ := avs_form hv
  have hx : aCells h 5 V.length (.slice a V.length c) = some (flatV V) := by
    cases hv with
    | nil => rfl
    | emp => rfl
    | some hne hy hg hc => exact aCells_of hg (Nat.le_refl _) hc
  obtain ⟨v', H, a1, a2, a3, a4, a5, a6, a7⟩ := ap_any (sz := 5) (lo := 0) (A := []) (v := .slice none 0 0) .nil (rfl : aLen (.slice a V.length c) = some V.length) hx (flatV_length V) (flatV_one V) (by simp only [vLen]; omega) (Nat.zero_le _)
  rw [List.nil_append] at a2
  have a8 : vLen v' = V.length := by rw [a7]; show 0 + V.length = _; omega
  refine ⟨v', H, a1, ?_, a3, fun z hz => a5 z hz (by simp [svRow]), ?_⟩
  · obtain ⟨b, e1, e2, e3⟩ := a2.form
    rw [a8] at e1
    subst e1
    by_cases hV : V = []
    · subst hV
      have := a2.empty rfl
      rw [this]; exact .nil
    · obtain ⟨y, rfl, _, _, f3, f4⟩ := e3 (fun e => hV (by have := flatV_length V; rw [e] at this; simp at this; exact List.length_eq_zero_iff.1 (by omega)))
      exact .some hV f3 f4
  · obtain ⟨b, e1, _, _⟩ := a2.form
    rw [a8] at e1
    exact ⟨b, e1⟩
theorem setr_arg (h : AHeap) (s : Nat) (k : List UInt8) (rts : Int) (here : Bool) (V : List Vr) (v : Value) (hv : AVs h V v) (hl : V.length ≤ 1000000) (hbad : ¬ (okKey k ∧ Ris V)) :
    FWp Try.prog 15 [P0 s, .agg #[encS k, U64 rts, .bool here, v]] h fun u h' => u = I64 2 ∧ h' = h := by
  obtain ⟨a, c, rfl⟩ := avs_form hv
  refine FWp.gcs (.flat rfl) (W.enter tyOK Try.func15 rfl rfl ?_)
  simp only [entry]
  have hm := mayKey_c (h.new (.cells [encS k, U64 rts, .bool here, .slice a V.length c] 1)) k
  by_cases hk : okKey k
  · have hr : ¬ Ris V := fun e => hbad ⟨hk, e⟩
    rw [decide_eq_true hk] at hm
    have hve := may16_c (h.new (.cells [encS k, U64 rts, .bool here, .slice a V.length c] 1)) V _ (avs_mono hv (by simp) fun z hz => AHeap.get_new_ne (by omega)) hl false (by simp [hr])
    refine W.seq <| W.reg <| OSuf.aop tyOK rfl (so_box (by simp only [lk] <;> rfl)) rfl <| OSuf.aop tyOK rfl (so_assign (by simp only [lk] <;> rfl)) rfl <| OSuf.nil <| SQ.normal ?_
    refine W.seq <| W.seq <| W.reg <| OSuf.aop tyOK rfl (so_fieldAddr (by simp only [lk] <;> rfl) (fa_ok (k := 0) ty41 rfl rfl ty9 rfl rfl)) rfl <| OSuf.aop tyOK rfl (so_load (by simp only [lk] <;> rfl) (by simp (disch := first | assumption | omega | (simp only [nx] <;> omega) | fail) only [aLoad, ty9, rowOf, hpl, Value.cells, places, ty26, ty29, ty31, ty41, ty57, ty9] <;> rfl)) rfl <| OSuf.callD rfl (by simp only [aopnds, lk] <;> rfl) en25 (hm) rfl <| OSuf.aopF tyOK rfl (so_not (by simp only [lk] <;> rfl)) (fun _ => rfl) rfl <| OSuf.aopF tyOK rfl sm (fun _ => rfl) rfl <| OSuf.aop tyOK ag (so_fieldAddr (by simp only [lk] <;> rfl) (fa_ok (k := 3) ty41 rfl rfl ty31 rfl rfl)) rfl <| OSuf.aop tyOK ag (so_load (by simp only [lk] <;> rfl) (by simp (disch := first | assumption | omega | (simp only [nx] <;> omega) | fail) only [aLoad, ty31, rowOf, hpl, Value.cells, places, ty26, ty29, ty31, ty41, ty57, ty9] <;> rfl)) rfl <| OSuf.callD ag (by simp only [aopnds, lk] <;> rfl) en31 (hve) rfl <| OSuf.aopT tyOK ag (so_not (by simp only [lk] <;> rfl)) (fun _ => rfl) rfl <| OSuf.aopT tyOK rfl (so_pick (by simp only [lk] <;> rfl) (by simp only [lk, cond_true, cond_false] <;> rfl)) (fun _ => rfl) rfl <| OSuf.nil <| SQ.normal ?_
    refine W.yes (by simp only [lk] <;> rfl) <| W.seq <| W.reg <| OSuf.aop tyOK rfl (so_assign (by simp only [lk] <;> rfl)) rfl <| OSuf.nil <| SQ.normal ?_
    refine CWp.ret <| SQ.ret <| FQ.ret (by simp only [aRet, Try.f15, aResults, aResult, lk, Nat.reduceEqDiff, reduceIte] <;> rfl) ?_
    -- leaf: end
    refine ⟨rfl, fun z o hz ho => ?_⟩
    simp (disch := first | assumption | omega | (simp only [nx] <;> omega) | fail) only [hpl]; exact ho
  · rw [decide_eq_false hk] at hm
    refine W.seq <| W.reg <| OSuf.aop tyOK rfl (so_box (by simp only [lk] <;> rfl)) rfl <| OSuf.aop tyOK rfl (so_assign (by simp only [lk] <;> rfl)) rfl <| OSuf.nil <| SQ.normal ?_
    refine W.seq <| W.seq <| W.reg <| OSuf.aop tyOK rfl (so_fieldAddr (by simp only [lk] <;> rfl) (fa_ok (k := 0) ty41 rfl rfl ty9 rfl rfl)) rfl <| OSuf.aop tyOK rfl (so_load (by simp only [lk] <;> rfl) (by simp (disch := first | assumption | omega | (simp only [nx] <;> omega) | fail) only [aLoad, ty9, rowOf, hpl, Value.cells, places, ty26, ty29, ty31, ty41, ty57, ty9] <;> rfl)) rfl <| OSuf.callD rfl (by simp only [aopnds, lk] <;> rfl) en25 (hm) rfl <| OSuf.aopT tyOK rfl (so_not (by simp only [lk] <;> rfl)) (fun _ => rfl) rfl <| OSuf.aopT tyOK rfl sm (fun _ => rfl) rfl <| OSuf.pass ag rfl <| OSuf.pass ag rfl <| OSuf.pass ag rfl <| OSuf.pass ag rfl <| OSuf.aopT tyOK rfl (so_pick (by simp only [lk] <;> rfl) (by simp only [lk, cond_true, cond_false] <;> rfl)) (fun _ => rfl) rfl <| OSuf.nil <| SQ.normal ?_
    refine W.yes (by simp only [lk] <;> rfl) <| W.seq <| W.reg <| OSuf.aop tyOK rfl (so_assign (by simp only [lk] <;> rfl)) rfl <| OSuf.nil <| SQ.normal ?_
    refine CWp.ret <| SQ.ret <| FQ.ret (by simp only [aRet, Try.f15, aResults, aResult, lk, Nat.reduceEqDiff, reduceIte] <;> rfl) ?_
    -- leaf: end
    refine ⟨rfl, fun z o hz ho => ?_⟩
    simp (disch := first | assumption | omega | (simp only [nx] <;> omega) | fail) only [hpl]; exact ho
theorem flatR_set {D : List RR} {i : Nat} {d d' : RR} (hd : D[i]? = some d) : ∀ xs, xs = d'.cs → splice (flatR D) (i * 4) xs = flatR (D.set i d') := by
  rintro _ rfl
  have e := splitR hd
  have hi := (List.getElem?_eq_some_iff.1 hd).1
  have e1 : flatR D = flatR (D.take i) ++ (d.cs ++ flatR (D.drop (i + 1))) := by (conv => lhs; rw [e, flatR_append]); rfl
  have e2 : flatR (D.set i d') = flatR (D.take i) ++ (d'.cs ++ flatR (D.drop (i + 1))) := by rw [List.set_eq_take_append_cons_drop, if_pos hi, flatR_append]; rfl
  rw [e1, e2]
  have hl : (flatR (D.take i)).length = i * 4 := by rw [flatR_length, List.length_take]; omega
  have := splice_app (flatR (D.take i)) d.cs (flatR (D.drop (i + 1))) d'.cs rfl
  rw [hl] at this; exact this
theorem set_sorted {D : List RR} (hs : D.Pairwise fun a b => ltStr a.key b.key = true) {i : Nat} {d d' : RR} (hd : D[i]? = some d) (hk : d'.key = d.key) : (D.set i d').Pairwise fun a b => ltStr a.key b.key = true := by
  have e := splitR hd
  have hi := (List.getElem?_eq_some_iff.1 hd).1
  rw [List.set_eq_take_append_cons_drop, if_pos hi]
  rw [e] at hs
  rw [List.pairwise_append, List.pairwise_cons] at hs ⊢
  refine ⟨hs.1, ⟨fun a ha => by rw [hk]; exact hs.2.1.1 a ha, hs.2.1.2⟩, fun a ha b hb => ?_⟩
  rcases List.mem_cons.1 hb with h9 | h9
  · rw [h9, hk]; exact hs.2.2 a ha d List.mem_cons_self
  · exact hs.2.2 a ha b (List.mem_cons_of_mem _ h9)
theorem set_permR {D : List RR} (hs : D.Pairwise fun a b => ltStr a.key b.key = true) {i : Nat} {d d' : RR} (hd : D[i]? = some d) (hk : d'.key = d.key) : ((D.set i d').map RR.rc).Perm (setR d'.rc (D.map RR.rc)) := by
  have e := splitR hd
  have hi := (List.getElem?_eq_some_iff.1 hd).1
  have hn := sorted_nodup hs
  have p1 : (D.map RR.rc).Perm (d.rc :: (D.take i ++ D.drop (i + 1)).map RR.rc) := by
    conv => lhs; rw [e]
    rw [List.map_append, List.map_cons, List.map_append]
    exact List.perm_middle
  have p2 : ((D.set i d').map RR.rc).Perm (d'.rc :: (D.take i ++ D.drop (i + 1)).map RR.rc) := by
    rw [List.set_eq_take_append_cons_drop, if_pos hi, List.map_append, List.map_cons, List.map_append]
    exact List.perm_middle
  have hB := rest_ne ((p1.map Rec.key).nodup_iff.1 hn)
  refine p2.trans (setR_perm (y := d.rc) hn p1 (by show d.key = d'.key; exact hk.symm) fun z hz => ?_)
  show ¬ z.key = d'.key
  rw [hk]; exact hB z hz
theorem ins_sortedR {D : List RR} (hs : D.Pairwise fun a b => ltStr a.key b.key = true) {at_ : Nat} {d : RR} (h1 : ∀ (j : Nat) (e : RR), j < at_ → D[j]? = some e → ltStr e.key d.key = true) (h2 : ∀ e ∈ D.drop at_, ltStr d.key e.key = true) : (D.take at_ ++ d :: D.drop at_).Pairwise fun a b => ltStr a.key b.key = true := by
  have hs2 := hs
  rw [← List.take_append_drop at_ D, List.pairwise_append] at hs2
  rw [List.pairwise_append, List.pairwise_cons]
  refine ⟨hs2.1, ⟨h2, hs2.2.1⟩, fun a ha b hb => ?_⟩
  obtain ⟨j, hj⟩ := List.getElem?_of_mem ha
  rw [List.getElem?_take] at hj
  split at hj
  · rcases List.mem_cons.1 hb with h9 | h9
    · rw [h9]; exact h1 j a (by assumption) hj
    · exact hs2.2.2 a ha b h9
  · cases hj
theorem set_r (h : AHeap) (s : Nat) (x : Option Nat) (fl : Int) (D : List RR) (hB : RF h s x fl D) (k : List UInt8) (rts : Int) (here : Bool) (V : List Vr) (v : Value) (hv : AVs h V v) (hVl : V.length ≤ 1000000) (hk : okKey k) (hr : Ris V) (hD : ∀ d ∈ D, d.key.length < 9223372036854775808) (hl : D.length ≤ 100000) :
    ∃ H x' D', FWp Try.prog 15 [P0 s, .agg #[encS k, U64 rts, .bool here, v]] h (fun u h' => u = I64 0 ∧ h' = H) ∧ RF H s x' fl D' ∧ (D'.map RR.rc).Perm (setR ⟨k, rts, here, V⟩ (D.map RR.rc)) ∧ FrR h H s x x' := by
  obtain ⟨a, c0, rfl⟩ := avs_form hv
  have hlt := hB.lt
  have hk9 : k.length < 9223372036854775808 := by have := hk.2; omega
  have hm := mayKey_c (h.new (.cells [encS k, U64 rts, .bool here, .slice a V.length c0] 1)) k
  rw [decide_eq_true hk] at hm
  have hv1 : AVs (h.new (.cells [encS k, U64 rts, .bool here, .slice a V.length c0] 1)) V (.slice a V.length c0) := avs_mono hv (by simp) fun z hz => AHeap.get_new_ne (by omega)
  have hve := may16_c (h.new (.cells [encS k, U64 rts, .bool here, .slice a V.length c0] 1)) V _ hv1 hVl true (by simp [hr])
  obtain ⟨v', H1, o1, o2, o3, o4, vb, rfl⟩ := own_x hv1 hVl
  have hcn' : h.next + 1 ≤ H1.next := by simpa using o3
  have z1 : H1.get h.next = some (.cells [encS k, U64 rts, .bool here, .slice a V.length c0] 1) := by rw [o4 _ (by simp)]; exact AHeap.get_new_same _ _
  have hold1 : ∀ z, z < h.next → H1.get z = h.get z := fun z hz => by rw [o4 z (by simp; omega)]; exact AHeap.get_new_ne (by omega)
  obtain ⟨H2, hH2⟩ : ∃ H2, H2 = H1.set h.next (.cells [encS k, U64 rts, .bool here, .slice vb V.length 0] 1) := ⟨_, rfl⟩
  have n2 : h.next + 1 ≤ H2.next := by rw [hH2]; exact hcn'
  have hold2 : ∀ z, z < h.next → H2.get z = h.get z := fun z hz => by rw [hH2, AHeap.get_set_ne (by omega)]; exact hold1 z hz
  have z2 : H2.get h.next = some (.cells [encS k, U64 rts, .bool here, .slice vb V.length 0] 1) := by rw [hH2]; exact AHeap.get_set_same _ _ _
  have hav2 : AVo H2 V (.slice vb V.length 0) := avo_mono o2 (by rw [hH2]; simp) fun y w hy hg => by
    have : ¬ h.next = y := fun e => by rw [← e, z1] at hg; simp at hg
    rw [hH2, AHeap.get_set_ne this]
  have hB2 : RF H2 s x fl D := hB.mono (by omega) hold2
  have e5 : cellsOf [encS k, U64 rts, .bool here, .slice vb V.length 0] 0 4 = some [encS k, U64 rts, .bool here, .slice vb V.length 0] := rfl
  obtain ⟨at_, a1, a2, a3⟩ := posR k D
  obtain ⟨b, hsv, hSV, hxx, hrow⟩ := hB2.val
  have hforms : ∀ d ∈ D, ∃ b n c, d.vers = .slice b n c := fun d hd => by obtain ⟨b, c, e⟩ := avo_form (hB.av d hd); exact ⟨b, _, c, e⟩
  have hs1 : H1.get s = some (.cells [.slice b D.length 0, U64 fl] 1) := by
    have := hsv
    rw [hH2, AHeap.get_set_ne (by omega)] at this; exact this
  obtain ⟨d', hd'⟩ : ∃ d' : RR, d' = ⟨k, rts, here, .slice vb V.length 0, V⟩ := ⟨_, rfl⟩
  have hdV : d'.V = V := by rw [hd']
  have hdv : d'.vers = .slice vb V.length 0 := by rw [hd']
  by_cases hh : ∃ d, D[at_]? = some d ∧ d.key = k
  · obtain ⟨d, hd, hdk⟩ := hh
    have hf := find_r H2 s x fl D hB2 k hk9 hD (by omega) at_ true a1 a2 a3 (by simp; exact ⟨d, hd, hdk⟩)
    have hal : at_ < D.length := (List.getElem?_eq_some_iff.1 hd).1
    obtain ⟨y, rfl, y1, y2, y3, y4⟩ := hrow at_ hal
    have hyh : y < h.next := (hB.sx y y3).2
    have y41 : H1.get y = some (.cells (flatR D) 4) := by
      have := y4
      rw [hH2, AHeap.get_set_ne (by omega)] at this; exact this
    have hb : (0 ≤ (at_ : Int) ∧ (at_ : Int) < (D.length : Int)) := by omega
    have hbl : Nat.ble (at_ * 4 + 4) (flatR D).length = true := Nat.ble_eq_true_of_le (by rw [flatR_length]; omega)
    have hsp := flatR_set (d' := d') hd [encS k, U64 rts, .bool here, .slice vb V.length 0] (by rw [hd']; rfl)
    refine ⟨H2.set y (.cells (flatR (D.set at_ d')) 4), x, D.set at_ d', ?_, ?_, ?_, ⟨by simp only [nx]; omega, fun z hz hzs hzx => ?_, .inl rfl⟩⟩
    · subst hH2
      rw [← hsp]
      refine W.enter tyOK Try.func15 rfl rfl ?_
      simp only [entry]
      refine W.seq <| W.reg <| OSuf.aop tyOK rfl (so_box (by simp only [lk] <;> rfl)) rfl <| OSuf.aop tyOK rfl (so_assign (by simp only [lk] <;> rfl)) rfl <| OSuf.nil <| SQ.normal ?_
      refine W.seq <| W.seq <| W.reg <| OSuf.aop tyOK rfl (so_fieldAddr (by simp only [lk] <;> rfl) (fa_ok (k := 0) ty41 rfl rfl ty9 rfl rfl)) rfl <| OSuf.aop tyOK rfl (so_load (by simp only [lk] <;> rfl) (by simp (disch := first | assumption | omega | (simp only [nx] <;> omega) | fail) only [aLoad, ty9, rowOf, hpl, Value.cells, places, ty26, ty29, ty31, ty41, ty57, ty9, z1, e5, Option.map_some, cond_true, hs1, y41, hb, sb, hbl, List.length_cons, List.length_nil] <;> rfl)) rfl <| OSuf.callD rfl (by simp only [aopnds, lk] <;> rfl) en25 (hm) rfl <| OSuf.aopF tyOK rfl (so_not (by simp only [lk] <;> rfl)) (fun _ => rfl) rfl <| OSuf.aopF tyOK rfl sm (fun _ => rfl) rfl <| OSuf.aop tyOK ag (so_fieldAddr (by simp only [lk] <;> rfl) (fa_ok (k := 3) ty41 rfl rfl ty31 rfl rfl)) rfl <| OSuf.aop tyOK ag (so_load (by simp only [lk] <;> rfl) (by simp (disch := first | assumption | omega | (simp only [nx] <;> omega) | fail) only [aLoad, ty31, rowOf, hpl, Value.cells, places, ty26, ty29, ty31, ty41, ty57, ty9, z1, e5, Option.map_some, cond_true, hs1, y41, hb, sb, hbl, List.length_cons, List.length_nil] <;> rfl)) rfl <| OSuf.callD ag (by simp only [aopnds, lk] <;> rfl) en31 (hve) rfl <| OSuf.aopF tyOK ag (so_not (by simp only [lk] <;> rfl)) (fun _ => rfl) rfl <| OSuf.aopF tyOK rfl (so_pick (by simp only [lk] <;> rfl) (by simp only [lk, cond_true, cond_false] <;> rfl)) (fun _ => rfl) rfl <| OSuf.nil <| SQ.normal ?_
      refine W.no (by simp only [lk] <;> rfl) <| CWp.skip <| SQ.normal ?_
      refine W.seq <| W.reg <| OSuf.aop tyOK rfl (so_assign (by simp only [lk] <;> rfl)) rfl <| OSuf.nil <| SQ.normal ?_
      refine W.seq <| W.reg <| OSuf.aop tyOK rfl sm rfl <| OSuf.aop tyOK rfl (so_fieldAddr (by simp only [lk] <;> rfl) (fa_ok (k := 3) ty41 rfl rfl ty31 rfl rfl)) rfl <| OSuf.aop tyOK rfl (so_load (by simp only [lk] <;> rfl) (by simp (disch := first | assumption | omega | (simp only [nx] <;> omega) | fail) only [aLoad, ty31, rowOf, hpl, Value.cells, places, ty26, ty29, ty31, ty41, ty57, ty9, z1, e5, Option.map_some, cond_true, hs1, y41, hb, sb, hbl, List.length_cons, List.length_nil] <;> rfl)) rfl <| OSuf.aop tyOK rfl (so_append (by simp only [aopnds, lk] <;> rfl) (o1 _ _ (by simp only [appT, ty31, ty57] <;> rfl) rfl (by decide))) rfl <| OSuf.aop tyOK rfl (so_fieldAddr (by simp only [lk] <;> rfl) (fa_ok (k := 3) ty41 rfl rfl ty31 rfl rfl)) rfl <| OSuf.aop tyOK rfl (so_store (by simp only [lk] <;> rfl) (by simp only [lk] <;> rfl) (by simp (disch := first | assumption | omega | (simp only [nx] <;> omega) | fail) only [aStore, ty31, writeRow, hpl, Value.cells, places, ty26, ty29, ty31, ty41, ty57, ty9, z1, e5, Option.map_some, cond_true, hs1, y41, hb, sb, hbl, List.length_cons, List.length_nil] <;> rfl)) rfl <| OSuf.nil <| SQ.normal ?_
      refine W.seq <| W.reg <| OSuf.aop tyOK rfl sm rfl <| OSuf.aop tyOK rfl (so_fieldAddr (by simp only [lk] <;> rfl) (fa_ok (k := 0) ty41 rfl rfl ty9 rfl rfl)) rfl <| OSuf.aop tyOK rfl (so_load (by simp only [lk] <;> rfl) (by simp (disch := first | assumption | omega | (simp only [nx] <;> omega) | fail) only [aLoad, ty9, rowOf, hpl, Value.cells, places, ty26, ty29, ty31, ty41, ty57, ty9, z1, e5, Option.map_some, cond_true, hs1, y41, hb, sb, hbl, List.length_cons, List.length_nil] <;> rfl)) rfl <| OSuf.callD rfl (by simp only [aopnds, lk] <;> rfl) en26 (hf) rfl <| OSuf.aop tyOK rfl sm rfl <| OSuf.aop tyOK rfl (so_extract (by simp only [lk] <;> rfl) (by simp (disch := first | assumption | omega | (simp only [nx] <;> omega) | fail) only [aExtract, hpl, Value.cells, places, ty26, ty29, ty31, ty41, ty57, ty9, z1, e5, Option.map_some, cond_true, hs1, y41, hb, sb, hbl, List.length_cons, List.length_nil] <;> rfl)) rfl <| OSuf.aopT tyOK rfl (so_extract (by simp only [lk] <;> rfl) (by simp (disch := first | assumption | omega | (simp only [nx] <;> omega) | fail) only [aExtract, hpl, Value.cells, places, ty26, ty29, ty31, ty41, ty57, ty9, z1, e5, Option.map_some, cond_true, hs1, y41, hb, sb, hbl, List.length_cons, List.length_nil] <;> rfl)) (fun _ => rfl) (by first | rfl | assumption | ((simp only [bl, Value.cells, places, ty26, ty29, ty31, ty41, ty57, ty9, z1, e5, Option.map_some, cond_true, hs1, y41, hb, sb, hbl, List.length_cons, List.length_nil]) <;> first | done | assumption | omega) | (simp; done) | (simp; omega)) <| OSuf.aop tyOK rfl (so_assign (by simp only [lk] <;> rfl)) rfl <| OSuf.aopT tyOK rfl (so_assign (by simp only [lk] <;> rfl)) (fun _ => rfl) rfl <| OSuf.nil <| SQ.normal ?_
      refine W.seq <| W.seq <| W.reg <| OSuf.aopT tyOK rfl sm (fun _ => rfl) rfl <| OSuf.nil <| SQ.normal ?_
      refine W.yes (by simp only [lk] <;> rfl) <| W.seq <| W.regD tyOK mixed (by kernel_rfl) <| SqW.aop rfl sm rfl <| SqW.aop rfl (so_nilCheck (by simp only [lk] <;> rfl)) rfl <| SqW.aop rfl (so_fieldAddr (by simp only [lk] <;> rfl) (fa_ok (k := 0) ty29 rfl rfl ty26 rfl rfl)) rfl <| SqW.aop rfl (so_load (by simp only [lk] <;> rfl) (by simp (disch := first | assumption | omega | (simp only [nx] <;> omega) | fail) only [aLoad, ty26, rowOf, hpl, Value.cells, places, ty26, ty29, ty31, ty41, ty57, ty9, z1, e5, Option.map_some, cond_true, hs1, y41, hb, sb, hbl, List.length_cons, List.length_nil] <;> rfl)) rfl <| SqW.aop rfl sm rfl <| SqW.aop rfl (so_load (by simp only [lk] <;> rfl) (by simp (disch := first | assumption | omega | (simp only [nx] <;> omega) | fail) only [aLoad, ty41, rowOf, hpl, Value.cells, places, ty26, ty29, ty31, ty41, ty57, ty9, z1, e5, Option.map_some, cond_true, hs1, y41, hb, sb, hbl, List.length_cons, List.length_nil] <;> rfl)) rfl <| SqW.aop rfl (so_indexAddr (by simp only [lk] <;> rfl) (by simp only [lk] <;> rfl) (by simp (disch := first | assumption | omega | (simp only [nx] <;> omega) | fail) only [aIndexAddr, ty26, ty41, hpl, Value.cells, places, ty26, ty29, ty31, ty41, ty57, ty9, z1, e5, Option.map_some, cond_true, hs1, y41, hb, sb, hbl, List.length_cons, List.length_nil] <;> rfl)) rfl <| SqW.aop rfl (so_store (by simp only [lk] <;> rfl) (by simp only [lk] <;> rfl) (by simp (disch := first | assumption | omega | (simp only [nx] <;> omega) | fail) only [aStore, ty41, writeRow, hpl, Value.cells, places, ty26, ty29, ty31, ty41, ty57, ty9, z1, e5, Option.map_some, cond_true, hs1, y41, hb, sb, hbl, List.length_cons, List.length_nil] <;> rfl)) rfl <| SqW.nil <| SQ.normal ?_
      refine W.seq <| W.reg <| OSuf.aop tyOK rfl (so_assign (by simp only [lk] <;> rfl)) rfl <| OSuf.nil <| SQ.normal ?_
      refine CWp.ret <| SQ.ret <| FQ.ret (by simp only [aRet, Try.f15, aResults, aResult, lk, Nat.reduceEqDiff, reduceIte] <;> rfl) ?_
      -- leaf: end
      exact ⟨rfl, rfl⟩
    · refine ⟨by simp only [nx]; omega, ⟨_, ?_, ?_, hxx⟩, fun z hz => ⟨(hB.sx z hz).1, by simp only [nx]; have := (hB.sx z hz).2; omega⟩, fun e he => ?_, set_sorted hB.sorted hd (by rw [hd', hdk])⟩
      · rw [AHeap.get_set_ne y2]; exact hsv
      · have e1 : (D.set at_ d').length = D.length := by simp
        have hl2 := flatR_length (D.set at_ d')
        rw [e1] at hl2
        have hne : flatR (D.set at_ d') ≠ [] := fun e => by rw [e] at hl2; simp at hl2; omega
        exact .some hl2 (Nat.zero_le _) (by simpa using y1) (AHeap.get_set_same _ _ _) hne
      · have hkp : ∀ z w, z < H2.next → H2.get z = some (.cells w 5) → (H2.set y (.cells (flatR (D.set at_ d')) 4)).get z = H2.get z := fun z w hz hg => AHeap.get_set_ne fun e => by (rw [← e, y4] at hg; simp at hg)
        rcases List.mem_or_eq_of_mem_set he with h9 | h9
        · exact avo_mono (hB2.av e h9) (by simp) hkp
        · rw [h9, hdV, hdv]; exact avo_mono hav2 (by simp) hkp
    · have := set_permR hB.sorted hd (d' := d') (by rw [hd', hdk])
      rw [hd'] at this ⊢; exact this
    · have q : ¬ y = z := fun e => hzx (by rw [y3, e])
      rw [AHeap.get_set_ne q]; exact hold2 z hz
  · have hf := find_r H2 s x fl D hB2 k hk9 hD (by omega) at_ false a1 a2 a3 (by simp; intro d hd e; exact hh ⟨d, hd, e⟩)
    obtain ⟨m1, m2⟩ := missR hB.sorted a2 a3 hh
    -- the first part
    obtain ⟨s1, p1, p2, p3⟩ := partR_hi hSV a1
    obtain ⟨v1, G1, q1, q2, q3, q4, q5, q6, q7⟩ := ap_any (sz := 4) (lo := h.next) (A := []) (v := .slice none 0 0) .nil p2 p3 (by rw [flatR_length, List.length_take]; omega) (flatR_one _ fun d hd => hforms d (List.mem_of_mem_take hd)) (by simp only [vLen]; omega) (by omega)
    rw [List.nil_append] at q2
    have q5' : ∀ z, z < H2.next → G1.get z = H2.get z := fun z hz => q5 z hz (by simp [svRow])
    have q7' : vLen v1 = at_ := by simpa [vLen] using q7
    -- the row
    obtain ⟨G1', hG1'⟩ : ∃ G, G = G1.new (.cells [encS k, U64 rts, .bool here, .slice vb V.length 0] 4) := ⟨_, rfl⟩
    have g1n : G1'.next = G1.next + 1 := by rw [hG1']; rfl
    have g1o : ∀ z, z < G1.next → G1'.get z = G1.get z := fun z hz => by rw [hG1', AHeap.get_new_ne (by omega)]
    have q2' : SV G1' 4 h.next (flatR (D.take at_)) v1 := q2.mono (by omega) fun z hz _ => g1o z hz
    obtain ⟨v2, G2, r1, r2, r3, r4, r5, r6, r7⟩ := ap_any (k := 1) (x := .slice (some ⟨G1.next, 0, none⟩) 1 2) q2' rfl (B := [encS k, U64 rts, .bool here, .slice vb V.length 0]) (aCells_of (vs := [encS k, U64 rts, .bool here, .slice vb V.length 0]) (by rw [hG1']; simp only [rowOf, AHeap.get_new_same]) (Nat.le_refl _) rfl) rfl rfl (by omega) (by omega)
    have lo1 : ∀ z, svRow v1 = some z → H2.next ≤ z := fun z hz => by
      rcases q6 with ⟨h9, _⟩ | h9
      · rw [h9] at hz; simp [svRow] at hz
      · rw [h9] at hz; cases hz; omega
    have r5' : ∀ z, z < H2.next → G2.get z = H2.get z := fun z hz => by
      rw [r5 z (by omega) (fun e => by have := lo1 z e; omega), g1o z (by omega), q5' z hz]
    have lo2 : ∀ z, svRow v2 = some z → H2.next ≤ z := fun z hz => by
      rcases r6 with ⟨h9, h8⟩ | h9
      · cases h8
      · rw [h9] at hz; cases hz; omega
    -- the rest
    have hSV2 : SV G2 4 0 (flatR D) (.slice b D.length 0) := hSV.mono (by omega) fun z hz _ => r5' z hz
    obtain ⟨s2, t1, t2, t3⟩ := partR_lo hSV2 a1
    obtain ⟨v3, G3, u1, u2, u3, u4, u5, u6, u7⟩ := ap_any (sz := 4) r2 t2 t3 (by rw [flatR_length, List.length_drop]) (flatR_one _ fun d hd => hforms d (List.mem_of_mem_drop hd)) (by omega) (by omega)
    have u5' : ∀ z, z < H2.next → G3.get z = H2.get z := fun z hz => by
      rw [u5 z (by omega) (fun e => by have := lo2 z e; omega), r5' z hz]
    have lo3 : ∀ z, svRow v3 = some z → H2.next ≤ z ∧ z < G3.next := fun z hz => by
      refine ⟨?_, (u2.row hz).2.1⟩
      rcases u6 with ⟨h9, _⟩ | h9
      · rw [h9] at hz; exact lo2 z hz
      · rw [h9] at hz; cases hz; omega
    obtain ⟨b3, e3, _, _⟩ := u2.form
    obtain ⟨n3, hn3⟩ : ∃ n, n = vLen v3 := ⟨_, rfl⟩
    rw [← hn3] at e3
    subst e3
    have hfl : flatR (D.take at_) ++ [encS k, U64 rts, .bool here, .slice vb V.length 0] ++ flatR (D.drop at_) = flatR (D.take at_ ++ d' :: D.drop at_) := by
      rw [flatR_append, List.append_assoc, hd']; rfl
    rw [hfl] at u2
    have hs3 : G3.get s = some (.cells [.slice b D.length 0, U64 fl] 1) := by rw [u5' s (by omega)]; exact hsv
    have hs2 : G2.get s = some (.cells [.slice b D.length 0, U64 fl] 1) := by rw [r5' s (by omega)]; exact hsv
    have hsG1 : G1.get s = some (.cells [.slice b D.length 0, U64 fl] 1) := by rw [q5' s (by omega)]; exact hsv
    have hbx : G1.get h.next = some (.cells [encS k, U64 rts, .bool here, .slice vb V.length 0] 1) := by rw [q5' _ (by omega)]; exact z2
    refine ⟨G3.set s (.cells [.slice b3 n3 0, U64 fl] 1), svRow (.slice b3 n3 0), D.take at_ ++ d' :: D.drop at_, ?_, ?_, ?_, ⟨by simp only [nx]; omega, fun z hz hzs hzx => ?_, .inr fun z hz => by have := (lo3 z hz).1; omega⟩⟩
    · subst hH2 hG1'
      refine W.enter tyOK Try.func15 rfl rfl ?_
      simp only [entry]
      refine W.seq <| W.reg <| OSuf.aop tyOK rfl (so_box (by simp only [lk] <;> rfl)) rfl <| OSuf.aop tyOK rfl (so_assign (by simp only [lk] <;> rfl)) rfl <| OSuf.nil <| SQ.normal ?_
      refine W.seq <| W.seq <| W.reg <| OSuf.aop tyOK rfl (so_fieldAddr (by simp only [lk] <;> rfl) (fa_ok (k := 0) ty41 rfl rfl ty9 rfl rfl)) rfl <| OSuf.aop tyOK rfl (so_load (by simp only [lk] <;> rfl) (by simp (disch := first | assumption | omega | (simp only [nx] <;> omega) | fail) only [aLoad, ty9, rowOf, hpl, Value.cells, places, ty26, ty29, ty31, ty41, ty57, ty9, z1, e5, Option.map_some, cond_true, hs1, hsG1, hs2, hs3, hbx, sb, List.length_cons, List.length_nil] <;> rfl)) rfl <| OSuf.callD rfl (by simp only [aopnds, lk] <;> rfl) en25 (hm) rfl <| OSuf.aopF tyOK rfl (so_not (by simp only [lk] <;> rfl)) (fun _ => rfl) rfl <| OSuf.aopF tyOK rfl sm (fun _ => rfl) rfl <| OSuf.aop tyOK ag (so_fieldAddr (by simp only [lk] <;> rfl) (fa_ok (k := 3) ty41 rfl rfl ty31 rfl rfl)) rfl <| OSuf.aop tyOK ag (so_load (by simp only [lk] <;> rfl) (by simp (disch := first | assumption | omega | (simp only [nx] <;> omega) | fail) only [aLoad, ty31, rowOf, hpl, Value.cells, places, ty26, ty29, ty31, ty41, ty57, ty9, z1, e5, Option.map_some, cond_true, hs1, hsG1, hs2, hs3, hbx, sb, List.length_cons, List.length_nil] <;> rfl)) rfl <| OSuf.callD ag (by simp only [aopnds, lk] <;> rfl) en31 (hve) rfl <| OSuf.aopF tyOK ag (so_not (by simp only [lk] <;> rfl)) (fun _ => rfl) rfl <| OSuf.aopF tyOK rfl (so_pick (by simp only [lk] <;> rfl) (by simp only [lk, cond_true, cond_false] <;> rfl)) (fun _ => rfl) rfl <| OSuf.nil <| SQ.normal ?_
      refine W.no (by simp only [lk] <;> rfl) <| CWp.skip <| SQ.normal ?_
      refine W.seq <| W.reg <| OSuf.aop tyOK rfl (so_assign (by simp only [lk] <;> rfl)) rfl <| OSuf.nil <| SQ.normal ?_
      refine W.seq <| W.reg <| OSuf.aop tyOK rfl sm rfl <| OSuf.aop tyOK rfl (so_fieldAddr (by simp only [lk] <;> rfl) (fa_ok (k := 3) ty41 rfl rfl ty31 rfl rfl)) rfl <| OSuf.aop tyOK rfl (so_load (by simp only [lk] <;> rfl) (by simp (disch := first | assumption | omega | (simp only [nx] <;> omega) | fail) only [aLoad, ty31, rowOf, hpl, Value.cells, places, ty26, ty29, ty31, ty41, ty57, ty9, z1, e5, Option.map_some, cond_true, hs1, hsG1, hs2, hs3, hbx, sb, List.length_cons, List.length_nil] <;> rfl)) rfl <| OSuf.aop tyOK rfl (so_append (by simp only [aopnds, lk] <;> rfl) (o1 _ _ (by simp only [appT, ty31, ty57] <;> rfl) rfl (by decide))) rfl <| OSuf.aop tyOK rfl (so_fieldAddr (by simp only [lk] <;> rfl) (fa_ok (k := 3) ty41 rfl rfl ty31 rfl rfl)) rfl <| OSuf.aop tyOK rfl (so_store (by simp only [lk] <;> rfl) (by simp only [lk] <;> rfl) (by simp (disch := first | assumption | omega | (simp only [nx] <;> omega) | fail) only [aStore, ty31, writeRow, hpl, Value.cells, places, ty26, ty29, ty31, ty41, ty57, ty9, z1, e5, Option.map_some, cond_true, hs1, hsG1, hs2, hs3, hbx, sb, List.length_cons, List.length_nil] <;> rfl)) rfl <| OSuf.nil <| SQ.normal ?_
      refine W.seq <| W.reg <| OSuf.aop tyOK rfl sm rfl <| OSuf.aop tyOK rfl (so_fieldAddr (by simp only [lk] <;> rfl) (fa_ok (k := 0) ty41 rfl rfl ty9 rfl rfl)) rfl <| OSuf.aop tyOK rfl (so_load (by simp only [lk] <;> rfl) (by simp (disch := first | assumption | omega | (simp only [nx] <;> omega) | fail) only [aLoad, ty9, rowOf, hpl, Value.cells, places, ty26, ty29, ty31, ty41, ty57, ty9, z1, e5, Option.map_some, cond_true, hs1, hsG1, hs2, hs3, hbx, sb, List.length_cons, List.length_nil] <;> rfl)) rfl <| OSuf.callD rfl (by simp only [aopnds, lk] <;> rfl) en26 (hf) rfl <| OSuf.aop tyOK rfl sm rfl <| OSuf.aop tyOK rfl (so_extract (by simp only [lk] <;> rfl) (by simp (disch := first | assumption | omega | (simp only [nx] <;> omega) | fail) only [aExtract, hpl, Value.cells, places, ty26, ty29, ty31, ty41, ty57, ty9, z1, e5, Option.map_some, cond_true, hs1, hsG1, hs2, hs3, hbx, sb, List.length_cons, List.length_nil] <;> rfl)) rfl <| OSuf.aopF tyOK rfl (so_extract (by simp only [lk] <;> rfl) (by simp (disch := first | assumption | omega | (simp only [nx] <;> omega) | fail) only [aExtract, hpl, Value.cells, places, ty26, ty29, ty31, ty41, ty57, ty9, z1, e5, Option.map_some, cond_true, hs1, hsG1, hs2, hs3, hbx, sb, List.length_cons, List.length_nil] <;> rfl)) (fun _ => rfl) (by first | rfl | assumption | ((simp only [bl, Value.cells, places, ty26, ty29, ty31, ty41, ty57, ty9, z1, e5, Option.map_some, cond_true, hs1, hsG1, hs2, hs3, hbx, sb, List.length_cons, List.length_nil]) <;> first | done | assumption | omega) | (simp; done) | (simp; omega)) <| OSuf.aop tyOK rfl (so_assign (by simp only [lk] <;> rfl)) rfl <| OSuf.aopF tyOK rfl (so_assign (by simp only [lk] <;> rfl)) (fun _ => rfl) rfl <| OSuf.nil <| SQ.normal ?_
      refine W.seq <| W.seq <| W.reg <| OSuf.aopF tyOK rfl sm (fun _ => rfl) rfl <| OSuf.nil <| SQ.normal ?_
      refine W.no (by simp only [lk] <;> rfl) <| CWp.skip <| SQ.normal ?_
      refine W.seq <| W.reg <| OSuf.aop tyOK rfl (so_assign (by simp only [lk] <;> rfl)) rfl <| OSuf.nil <| SQ.normal ?_
      refine W.seq <| W.reg <| OSuf.aop tyOK rfl sm rfl <| OSuf.aop tyOK rfl sm rfl <| OSuf.aop tyOK rfl (so_nilCheck (by simp only [lk] <;> rfl)) rfl <| OSuf.aop tyOK rfl (so_fieldAddr (by simp only [lk] <;> rfl) (fa_ok (k := 0) ty29 rfl rfl ty26 rfl rfl)) rfl <| OSuf.aop tyOK rfl (so_load (by simp only [lk] <;> rfl) (by simp (disch := first | assumption | omega | (simp only [nx] <;> omega) | fail) only [aLoad, ty26, rowOf, hpl, Value.cells, places, ty26, ty29, ty31, ty41, ty57, ty9, z1, e5, Option.map_some, cond_true, hs1, hsG1, hs2, hs3, hbx, sb, List.length_cons, List.length_nil] <;> rfl)) rfl <| OSuf.aop tyOK rfl sm rfl <| OSuf.aop tyOK rfl (so_slice (by simp only [lk] <;> rfl) (by simp only [oopnd, lk] <;> rfl) (by simp only [oopnd, lk] <;> rfl) (by simp only [oopnd, lk] <;> rfl) (p1)) rfl <| OSuf.aop tyOK rfl (so_append (by simp only [aopnds, lk] <;> rfl) (q1 _ _ (by simp only [appT, ty26, ty41] <;> rfl) rfl (by decide))) rfl <| OSuf.aop tyOK rfl (so_assign (by simp only [lk] <;> rfl)) rfl <| OSuf.nil <| SQ.normal ?_
      refine W.seq <| W.reg <| OSuf.aop tyOK rfl sm rfl <| OSuf.aop tyOK rfl (so_load (by simp only [lk] <;> rfl) (by simp (disch := first | assumption | omega | (simp only [nx] <;> omega) | fail) only [aLoad, ty41, rowOf, hpl, Value.cells, places, ty26, ty29, ty31, ty41, ty57, ty9, z1, e5, Option.map_some, cond_true, hs1, hsG1, hs2, hs3, hbx, sb, List.length_cons, List.length_nil] <;> rfl)) rfl <| OSuf.aop tyOK rfl (so_buildSlice (by simp only [aparts, lk] <;> rfl) (by simp (disch := first | assumption | omega | (simp only [nx] <;> omega) | fail) only [aBuildSlice, ty26, ty41, hpl, Value.cells, places, ty26, ty29, ty31, ty41, ty57, ty9, z1, e5, Option.map_some, cond_true, hs1, hsG1, hs2, hs3, hbx, sb, List.length_cons, List.length_nil] <;> rfl)) rfl <| OSuf.aop tyOK rfl (so_append (by simp only [aopnds, lk] <;> rfl) (r1 _ _ (by simp only [appT, ty26, ty41] <;> rfl) rfl (by decide))) rfl <| OSuf.aop tyOK rfl (so_assign (by simp only [lk] <;> rfl)) rfl <| OSuf.nil <| SQ.normal ?_
      refine W.seq <| W.reg <| OSuf.aop tyOK rfl sm rfl <| OSuf.aop tyOK rfl sm rfl <| OSuf.aop tyOK rfl sm rfl <| OSuf.aop tyOK rfl (so_nilCheck (by simp only [lk] <;> rfl)) rfl <| OSuf.aop tyOK rfl (so_fieldAddr (by simp only [lk] <;> rfl) (fa_ok (k := 0) ty29 rfl rfl ty26 rfl rfl)) rfl <| OSuf.aop tyOK rfl (so_load (by simp only [lk] <;> rfl) (by simp (disch := first | assumption | omega | (simp only [nx] <;> omega) | fail) only [aLoad, ty26, rowOf, hpl, Value.cells, places, ty26, ty29, ty31, ty41, ty57, ty9, z1, e5, Option.map_some, cond_true, hs1, hsG1, hs2, hs3, hbx, sb, List.length_cons, List.length_nil] <;> rfl)) rfl <| OSuf.aop tyOK rfl sm rfl <| OSuf.aop tyOK rfl (so_slice (by simp only [lk] <;> rfl) (by simp only [oopnd, lk] <;> rfl) (by simp only [oopnd, lk] <;> rfl) (by simp only [oopnd, lk] <;> rfl) (t1)) rfl <| OSuf.aop tyOK rfl (so_append (by simp only [aopnds, lk] <;> rfl) (u1 _ _ (by simp only [appT, ty26, ty41] <;> rfl) rfl (by decide))) rfl <| OSuf.aop tyOK rfl (so_nilCheck (by simp only [lk] <;> rfl)) rfl <| OSuf.aop tyOK rfl (so_fieldAddr (by simp only [lk] <;> rfl) (fa_ok (k := 0) ty29 rfl rfl ty26 rfl rfl)) rfl <| OSuf.aop tyOK rfl (so_store (by simp only [lk] <;> rfl) (by simp only [lk] <;> rfl) (by simp (disch := first | assumption | omega | (simp only [nx] <;> omega) | fail) only [aStore, ty26, writeRow, hpl, Value.cells, places, ty26, ty29, ty31, ty41, ty57, ty9, z1, e5, Option.map_some, cond_true, hs1, hsG1, hs2, hs3, hbx, sb, List.length_cons, List.length_nil] <;> rfl)) rfl <| OSuf.nil <| SQ.normal ?_
      refine W.seq <| W.reg <| OSuf.aop tyOK rfl (so_assign (by simp only [lk] <;> rfl)) rfl <| OSuf.nil <| SQ.normal ?_
      refine CWp.ret <| FQ.ret (by simp only [aRet, Try.f15, aResults, aResult, lk, Nat.reduceEqDiff, reduceIte] <;> rfl) ?_
      -- leaf: end
      exact ⟨rfl, rfl⟩
    · refine ⟨by simp only [nx]; omega, ⟨_, AHeap.get_set_same _ _ _, ?_, rfl⟩, fun z hz => ⟨by have := (lo3 z hz).1; omega, by simp only [nx]; exact (lo3 z hz).2⟩, fun e he => ?_, ins_sortedR hB.sorted (by rw [hd']; exact a2) (by rw [hd']; exact m2)⟩
      · refine (u2.mono (h' := G3.set s (.cells [.slice b3 n3 0, U64 fl] 1)) (by simp) fun z hz hv => AHeap.get_set_ne ?_).low (Nat.zero_le _)
        have := (lo3 z hv).1; omega
      · have hkp : ∀ z w, z < H2.next → H2.get z = some (.cells w 5) → (G3.set s (.cells [.slice b3 n3 0, U64 fl] 1)).get z = H2.get z := fun z w hz hg => by
          rw [AHeap.get_set_ne (fun e => by (rw [← e, hsv] at hg; simp at hg)), u5' z hz]
        have hmm : e ∈ D ∨ e = d' := by
          simp only [List.mem_append, List.mem_cons] at he
          rcases he with h9 | h9 | h9
          · exact .inl (List.mem_of_mem_take h9)
          · exact .inr h9
          · exact .inl (List.mem_of_mem_drop h9)
        rcases hmm with h9 | h9
        · exact avo_mono (hB2.av e h9) (by simp only [nx]; omega) hkp
        · rw [h9, hdV, hdv]; exact avo_mono hav2 (by simp only [nx]; omega) hkp
    · have hg := noR m1
      rw [setR, hg]
      show ((D.take at_ ++ d' :: D.drop at_).map RR.rc).Perm (_ :: D.map RR.rc)
      rw [List.map_append, List.map_cons]
      refine List.perm_middle.trans ?_
      rw [← List.map_append, List.take_append_drop, hd']
      exact .refl _
    · rw [AHeap.get_set_ne (fun e => hzs e.symm), u5' z (by omega)]; exact hold2 z hz

theorem flatR_rts {D : List RR} {i : Nat} {d : RR} (hd : D[i]? = some d) (n : Int) : splice (flatR D) (i * 4 + 1) [U64 n] = flatR (D.set i { d with rts := n }) := by
  have e := splitR hd
  have hi := (List.getElem?_eq_some_iff.1 hd).1
  have e1 : flatR D = (flatR (D.take i) ++ [encS d.key]) ++ ([U64 d.rts] ++ ([.bool d.here, d.vers] ++ flatR (D.drop (i + 1)))) := by
    (conv => lhs; rw [e, flatR_append])
    simp [flatR, RR.cs]
  have e2 : flatR (D.set i { d with rts := n }) = (flatR (D.take i) ++ [encS d.key]) ++ ([U64 n] ++ ([.bool d.here, d.vers] ++ flatR (D.drop (i + 1)))) := by
    rw [List.set_eq_take_append_cons_drop, if_pos hi, flatR_append]
    simp [flatR, RR.cs]
  rw [e1, e2]
  have hl : (flatR (D.take i) ++ [encS d.key]).length = i * 4 + 1 := by simp [flatR_length]; omega
  have := splice_app (flatR (D.take i) ++ [encS d.key]) [U64 d.rts] ([.bool d.here, d.vers] ++ flatR (D.drop (i + 1))) [U64 n] rfl
  rw [hl] at this; exact this
theorem touch_r (h : AHeap) (s : Nat) (x : Option Nat) (fl : Int) (D : List RR) (hB : RF h s x fl D) (k : List UInt8) (hk9 : k.length < 9223372036854775808) (ts : Int) (hok : ∀ d ∈ D, okKey d.key) (hl : D.length ≤ 100000) :
    ∃ H x' D', FWp Try.prog 11 [P0 s, encS k, U64 ts] h (fun u h' => u = .tuple #[] ∧ h' = H) ∧ RF H s x' fl D' ∧ (D'.map RR.rc).Perm (touchR k ts fl (D.map RR.rc)) ∧ FrR h H s x x' := by
  have hD : ∀ d ∈ D, d.key.length < 9223372036854775808 := fun d hd => by have := (hok d hd).2; omega
  have hm := mayKey_c h k
  have hlt := hB.lt
  obtain ⟨at_, a1, a2, a3⟩ := posR k D
  obtain ⟨b, hsv, hSV, hxx, hrow⟩ := hB.val
  by_cases hk : okKey k
  · rw [decide_eq_true hk] at hm
    by_cases hh : ∃ d, D[at_]? = some d ∧ d.key = k
    · obtain ⟨d, hd, hdk⟩ := hh
      have hf := find_r h s x fl D hB k hk9 hD (by omega) at_ true a1 a2 a3 (by simp; exact ⟨d, hd, hdk⟩)
      have hal : at_ < D.length := (List.getElem?_eq_some_iff.1 hd).1
      obtain ⟨y, rfl, y1, y2, y3, y4⟩ := hrow at_ hal
      have hb : (0 ≤ (at_ : Int) ∧ (at_ : Int) < (D.length : Int)) := by omega
      have hbl : Nat.ble (at_ * 4 + 1 + 1) (flatR D).length = true := Nat.ble_eq_true_of_le (by rw [flatR_length]; omega)
      have hsp := flatR_rts hd (if ts > d.rts then ts else d.rts)
      have hc1 : (flatR D)[at_ * 4 + 1]? = some (U64 d.rts) := flatR_get 1 hd (by omega)
      have hgr := hitR hB.sorted hd hdk
      refine ⟨h.set y (.cells (flatR (D.set at_ { d with rts := if ts > d.rts then ts else d.rts })) 4), x, D.set at_ { d with rts := if ts > d.rts then ts else d.rts }, ?_, ?_, ?_, ⟨by simp, fun z hz hzs hzx => ?_, .inl rfl⟩⟩
      · rw [← hsp]
        refine W.enter tyOK Try.func11 rfl rfl ?_
        simp only [entry]
        refine W.seq <| W.seq <| W.reg <| OSuf.aop tyOK rfl sm rfl <| OSuf.callD rfl (by simp only [aopnds, lk] <;> rfl) en25 (hm) rfl <| OSuf.aopF tyOK rfl (so_not (by simp only [lk] <;> rfl)) (fun _ => rfl) rfl <| OSuf.nil <| SQ.normal ?_
        refine W.no (by simp only [lk] <;> rfl) <| CWp.skip <| SQ.normal ?_
        refine W.seq <| W.reg <| OSuf.aop tyOK rfl sm rfl <| OSuf.aop tyOK rfl sm rfl <| OSuf.callD rfl (by simp only [aopnds, lk] <;> rfl) en26 (hf) rfl <| OSuf.aop tyOK rfl sm rfl <| OSuf.aop tyOK rfl (so_extract (by simp only [lk] <;> rfl) (by simp (disch := first | assumption | omega | (simp only [nx] <;> omega) | fail) only [aExtract, hpl, Value.cells, places, ty26, ty27, ty29, ty41, hsv, y4, hb, sb, hbl, hc1, List.length_cons, List.length_nil] <;> rfl)) rfl <| OSuf.aopT tyOK rfl (so_extract (by simp only [lk] <;> rfl) (by simp (disch := first | assumption | omega | (simp only [nx] <;> omega) | fail) only [aExtract, hpl, Value.cells, places, ty26, ty27, ty29, ty41, hsv, y4, hb, sb, hbl, hc1, List.length_cons, List.length_nil] <;> rfl)) (fun _ => rfl) (by first | rfl | assumption | ((simp only [bl, Value.cells, places, ty26, ty27, ty29, ty41, hsv, y4, hb, sb, hbl, hc1, List.length_cons, List.length_nil]) <;> first | done | assumption | omega) | (simp; done) | (simp; omega)) <| OSuf.aop tyOK rfl (so_assign (by simp only [lk] <;> rfl)) rfl <| OSuf.aopT tyOK rfl (so_assign (by simp only [lk] <;> rfl)) (fun _ => rfl) rfl <| OSuf.nil <| SQ.normal ?_
        refine W.seq <| W.seq <| W.reg <| OSuf.aopT tyOK rfl sm (fun _ => rfl) rfl <| OSuf.nil <| SQ.normal ?_
        refine W.yes (by simp only [lk] <;> rfl) <| W.seq <| W.regD tyOK mixed (by kernel_rfl) <| SqW.aop rfl sm rfl <| SqW.aop rfl (so_nilCheck (by simp only [lk] <;> rfl)) rfl <| SqW.aop rfl (so_fieldAddr (by simp only [lk] <;> rfl) (fa_ok (k := 0) ty29 rfl rfl ty26 rfl rfl)) rfl <| SqW.aop rfl (so_load (by simp only [lk] <;> rfl) (by simp (disch := first | assumption | omega | (simp only [nx] <;> omega) | fail) only [aLoad, ty26, rowOf, hpl, Value.cells, places, ty26, ty27, ty29, ty41, hsv, y4, hb, sb, hbl, hc1, List.length_cons, List.length_nil] <;> rfl)) rfl <| SqW.aop rfl sm rfl <| SqW.aop rfl sm rfl <| SqW.aop rfl (so_nilCheck (by simp only [lk] <;> rfl)) rfl <| SqW.aop rfl (so_fieldAddr (by simp only [lk] <;> rfl) (fa_ok (k := 0) ty29 rfl rfl ty26 rfl rfl)) rfl <| SqW.aop rfl (so_load (by simp only [lk] <;> rfl) (by simp (disch := first | assumption | omega | (simp only [nx] <;> omega) | fail) only [aLoad, ty26, rowOf, hpl, Value.cells, places, ty26, ty27, ty29, ty41, hsv, y4, hb, sb, hbl, hc1, List.length_cons, List.length_nil] <;> rfl)) rfl <| SqW.aop rfl sm rfl <| SqW.aop rfl (so_indexAddr (by simp only [lk] <;> rfl) (by simp only [lk] <;> rfl) (by simp (disch := first | assumption | omega | (simp only [nx] <;> omega) | fail) only [aIndexAddr, ty26, ty41, hpl, Value.cells, places, ty26, ty27, ty29, ty41, hsv, y4, hb, sb, hbl, hc1, List.length_cons, List.length_nil] <;> rfl)) rfl <| SqW.aop rfl (so_fieldAddr (by simp only [lk] <;> rfl) (fa_ok (k := 1) ty41 rfl rfl ty27 rfl rfl)) rfl <| SqW.aop rfl (so_load (by simp only [lk] <;> rfl) (by simp (disch := first | assumption | omega | (simp only [nx] <;> omega) | fail) only [aLoad, ty27, rowOf, hpl, Value.cells, places, ty26, ty27, ty29, ty41, hsv, y4, hb, sb, hbl, hc1, List.length_cons, List.length_nil] <;> rfl)) rfl <| SqW.aop rfl sm rfl <| SqW.aop rfl (so_max (by simp only [aopnds, lk] <;> rfl)) rfl <| SqW.aop rfl (so_indexAddr (by simp only [lk] <;> rfl) (by simp only [lk] <;> rfl) (by simp (disch := first | assumption | omega | (simp only [nx] <;> omega) | fail) only [aIndexAddr, ty26, ty41, hpl, Value.cells, places, ty26, ty27, ty29, ty41, hsv, y4, hb, sb, hbl, hc1, List.length_cons, List.length_nil] <;> rfl)) rfl <| SqW.aop rfl (so_fieldAddr (by simp only [lk] <;> rfl) (fa_ok (k := 1) ty41 rfl rfl ty27 rfl rfl)) rfl <| SqW.aop rfl (so_store (by simp only [lk] <;> rfl) (by simp only [lk] <;> rfl) (by simp (disch := first | assumption | omega | (simp only [nx] <;> omega) | fail) only [aStore, ty27, writeRow, hpl, Value.cells, places, ty26, ty27, ty29, ty41, hsv, y4, hb, sb, hbl, hc1, List.length_cons, List.length_nil] <;> rfl)) rfl <| SqW.nil <| SQ.normal ?_
        refine CWp.ret <| SQ.ret <| FQ.ret (by simp only [aRet, Try.f11, aResults, aResult, lk, Nat.reduceEqDiff, reduceIte] <;> rfl) ?_
        -- leaf: end
        exact ⟨rfl, rfl⟩
      · refine ⟨by simpa using hlt, ⟨_, ?_, ?_, hxx⟩, fun z hz => ⟨(hB.sx z hz).1, by simpa using (hB.sx z hz).2⟩, fun e he => ?_, set_sorted hB.sorted hd rfl⟩
        · rw [AHeap.get_set_ne y2]; exact hsv
        · have e1 : (D.set at_ { d with rts := if ts > d.rts then ts else d.rts }).length = D.length := by simp
          have hl2 := flatR_length (D.set at_ { d with rts := if ts > d.rts then ts else d.rts })
          rw [e1] at hl2
          have hne : flatR (D.set at_ { d with rts := if ts > d.rts then ts else d.rts }) ≠ [] := fun e => by rw [e] at hl2; simp at hl2; omega
          exact .some hl2 (Nat.zero_le _) (by simpa using y1) (AHeap.get_set_same _ _ _) hne
        · have hkp : ∀ z w, z < h.next → h.get z = some (.cells w 5) → (h.set y (.cells (flatR (D.set at_ { d with rts := if ts > d.rts then ts else d.rts })) 4)).get z = h.get z := fun z w hz hg => AHeap.get_set_ne fun e => by (rw [← e, y4] at hg; simp at hg)
          rcases List.mem_or_eq_of_mem_set he with h9 | h9
          · exact avo_mono (hB.av e h9) (by simp) hkp
          · rw [h9]; exact avo_mono (hB.av d (List.mem_of_getElem? hd)) (by simp) hkp
      · have := set_permR hB.sorted hd (d' := { d with rts := if ts > d.rts then ts else d.rts }) rfl
        rw [touchR, hgr]
        exact this
      · have q : ¬ y = z := fun e => hzx (by rw [y3, e])
        rw [AHeap.get_set_ne q]
    · have hf := find_r h s x fl D hB k hk9 hD (by omega) at_ false a1 a2 a3 (by simp; intro d hd e; exact hh ⟨d, hd, e⟩)
      obtain ⟨m1, m2⟩ := missR hB.sorted a2 a3 hh
      have hgr := noR m1
      obtain ⟨H, x', D', g1, g2, g3, g4⟩ := set_r h s x fl D hB k (mx fl ts) false [] (.slice none 0 0) .nil (by simp) hk ris_nil hD hl
      refine ⟨H, x', D', ?_, g2, ?_, g4⟩
      · refine W.enter tyOK Try.func11 rfl rfl ?_
        simp only [entry]
        refine W.seq <| W.seq <| W.reg <| OSuf.aop tyOK rfl sm rfl <| OSuf.callD rfl (by simp only [aopnds, lk] <;> rfl) en25 (hm) rfl <| OSuf.aopF tyOK rfl (so_not (by simp only [lk] <;> rfl)) (fun _ => rfl) rfl <| OSuf.nil <| SQ.normal ?_
        refine W.no (by simp only [lk] <;> rfl) <| CWp.skip <| SQ.normal ?_
        refine W.seq <| W.reg <| OSuf.aop tyOK rfl sm rfl <| OSuf.aop tyOK rfl sm rfl <| OSuf.callD rfl (by simp only [aopnds, lk] <;> rfl) en26 (hf) rfl <| OSuf.aop tyOK rfl sm rfl <| OSuf.aop tyOK rfl (so_extract (by simp only [lk] <;> rfl) (by simp (disch := first | assumption | omega | (simp only [nx] <;> omega) | fail) only [aExtract, hpl, Value.cells, places, ty26, ty27, ty29, ty41, hsv] <;> rfl)) rfl <| OSuf.aopF tyOK rfl (so_extract (by simp only [lk] <;> rfl) (by simp (disch := first | assumption | omega | (simp only [nx] <;> omega) | fail) only [aExtract, hpl, Value.cells, places, ty26, ty27, ty29, ty41, hsv] <;> rfl)) (fun _ => rfl) (by first | rfl | assumption | ((simp only [bl, Value.cells, places, ty26, ty27, ty29, ty41, hsv]) <;> first | done | assumption | omega) | (simp; done) | (simp; omega)) <| OSuf.aop tyOK rfl (so_assign (by simp only [lk] <;> rfl)) rfl <| OSuf.aopF tyOK rfl (so_assign (by simp only [lk] <;> rfl)) (fun _ => rfl) rfl <| OSuf.nil <| SQ.normal ?_
        refine W.seq <| W.seq <| W.reg <| OSuf.aopF tyOK rfl sm (fun _ => rfl) rfl <| OSuf.nil <| SQ.normal ?_
        refine W.no (by simp only [lk] <;> rfl) <| CWp.skip <| SQ.normal ?_
        refine W.reg <| OSuf.aop tyOK rfl sm rfl <| OSuf.aop tyOK rfl sm rfl <| OSuf.aop tyOK rfl sm rfl <| OSuf.aop tyOK rfl (so_nilCheck (by simp only [lk] <;> rfl)) rfl <| OSuf.aop tyOK rfl (so_fieldAddr (by simp only [lk] <;> rfl) (fa_ok (k := 1) ty29 rfl rfl ty27 rfl rfl)) rfl <| OSuf.aop tyOK rfl (so_load (by simp only [lk] <;> rfl) (by simp (disch := first | assumption | omega | (simp only [nx] <;> omega) | fail) only [aLoad, ty27, rowOf, hpl, Value.cells, places, ty26, ty27, ty29, ty41, hsv] <;> rfl)) rfl <| OSuf.aop tyOK rfl sm rfl <| OSuf.aop tyOK rfl (so_max (by simp only [aopnds, lk] <;> rfl)) rfl <| OSuf.aop tyOK rfl (so_build (by simp only [aparts, lk] <;> rfl) (by simp (disch := first | assumption | omega | (simp only [nx] <;> omega) | fail) only [aBuild, ty41, hpl, Value.cells, places, ty26, ty27, ty29, ty41, hsv] <;> rfl)) rfl <| OSuf.callD rfl (by simp only [aopnds, lk] <;> rfl) en15 (g1) rfl <| OSuf.nil <| FQ.normal (by simp only [aRet, Try.f11, aResults, aResult, lk, Nat.reduceEqDiff, reduceIte] <;> rfl) ?_
        -- leaf: end
        exact ⟨rfl, rfl⟩
      · rw [touchR, hgr]; simp only [if_pos hk]; exact g3
  · rw [decide_eq_false hk] at hm
    have hgr : getR k (D.map RR.rc) = none := noR fun d hd e => hk (by rw [← e]; exact hok d hd)
    refine ⟨h, x, D, ?_, hB, ?_, FrR.refl _ _ _⟩
    · refine W.enter tyOK Try.func11 rfl rfl ?_
      simp only [entry]
      refine W.seq <| W.seq <| W.reg <| OSuf.aop tyOK rfl sm rfl <| OSuf.callD rfl (by simp only [aopnds, lk] <;> rfl) en25 (hm) rfl <| OSuf.aopT tyOK rfl (so_not (by simp only [lk] <;> rfl)) (fun _ => rfl) rfl <| OSuf.nil <| SQ.normal ?_
      refine W.yes (by simp only [lk] <;> rfl) <| CWp.ret <| SQ.ret <| FQ.ret (by simp only [aRet, Try.f11, aResults, aResult, lk, Nat.reduceEqDiff, reduceIte] <;> rfl) ?_
      -- leaf: end
      exact ⟨rfl, rfl⟩
    · rw [touchR, hgr]; simp only [if_neg hk]; exact .refl _
theorem evict_r (h : AHeap) (s : Nat) (x : Option Nat) (fl : Int) (D : List RR) (hB : RF h s x fl D) (k : List UInt8) (hk9 : k.length < 9223372036854775808) (hok : ∀ d ∈ D, okKey d.key) (hl : D.length ≤ 100000) :
    ∃ H x' D', FWp Try.prog 13 [P0 s, encS k] h (fun u h' => u = I64 (evCode k (D.map RR.rc)) ∧ h' = H) ∧ RF H s x' (evFl fl k (D.map RR.rc)) D' ∧ (D'.map RR.rc).Perm (delR k (D.map RR.rc)) ∧ FrR h H s x x' := by
  have hD : ∀ d ∈ D, d.key.length < 9223372036854775808 := fun d hd => by have := (hok d hd).2; omega
  have hlt := hB.lt
  obtain ⟨at_, a1, a2, a3⟩ := posR k D
  obtain ⟨b, hsv, hSV, hxx, hrow⟩ := hB.val
  have hforms : ∀ d ∈ D, ∃ b n c, d.vers = .slice b n c := fun d hd => by obtain ⟨b, c, e⟩ := avo_form (hB.av d hd); exact ⟨b, _, c, e⟩
  by_cases hh : ∃ d, D[at_]? = some d ∧ d.key = k
  · obtain ⟨d, hd, hdk⟩ := hh
    have hf := find_r h s x fl D hB k hk9 hD (by omega) at_ true a1 a2 a3 (by simp; exact ⟨d, hd, hdk⟩)
    have hal : at_ < D.length := (List.getElem?_eq_some_iff.1 hd).1
    obtain ⟨y, rfl, y1, y2, y3, y4⟩ := hrow at_ hal
    have hb : (0 ≤ (at_ : Int) ∧ (at_ : Int) < (D.length : Int)) := by omega
    have hc1 : (flatR D)[at_ * 4 + 1]? = some (U64 d.rts) := flatR_get 1 hd (by omega)
    have hgr := hitR hB.sorted hd hdk
    have ec : evCode k (D.map RR.rc) = 0 := by rw [evCode, hgr]
    have ef : evFl fl k (D.map RR.rc) = (if d.rts > fl then d.rts else fl) := by rw [evFl, hgr]; rfl
    rw [ec, ef]
    obtain ⟨h1, hh1⟩ : ∃ h1, h1 = h.set s (.cells [.slice (some ⟨y, 0, none⟩) D.length 0, U64 (if d.rts > fl then d.rts else fl)] 1) := ⟨_, rfl⟩
    have n1 : h1.next = h.next := by rw [hh1]; rfl
    have o1 : ∀ z, z < h.next → ¬ z = s → h1.get z = h.get z := fun z hz hzs => by rw [hh1, AHeap.get_set_ne fun e => hzs e.symm]
    have s1 : h1.get s = some (.cells [.slice (some ⟨y, 0, none⟩) D.length 0, U64 (if d.rts > fl then d.rts else fl)] 1) := by rw [hh1]; exact AHeap.get_set_same _ _ _
    have hSV1 : SV h1 4 0 (flatR D) (.slice (some ⟨y, 0, none⟩) D.length 0) := hSV.mono (by omega) fun z hz hv => o1 z hz fun e => y2 (by simp [svRow] at hv; rw [hv, e])
    have w1 : IntKind.i64.wrap ((at_ : Int) + 1) = ((at_ + 1 : Nat) : Int) := by rw [wrap_i64 (by omega) (by omega)]; omega
    obtain ⟨sv1, p1, p2, p3⟩ := partR_hi hSV1 a1
    obtain ⟨v1, G1, q1, q2, q3, q4, q5, q6, q7⟩ := ap_any (sz := 4) (lo := h.next) (A := []) (v := .slice none 0 0) .nil p2 p3 (by rw [flatR_length, List.length_take]; omega) (flatR_one _ fun d hd => hforms d (List.mem_of_mem_take hd)) (by simp only [vLen]; omega) (by omega)
    rw [List.nil_append] at q2
    have q5' : ∀ z, z < h.next → G1.get z = h1.get z := fun z hz => q5 z (by omega) (by simp [svRow])
    have q7' : vLen v1 = at_ := by rw [q7]; show 0 + at_ = at_; omega
    have lo1 : ∀ z, svRow v1 = some z → h.next ≤ z := fun z hz => by
      rcases q6 with ⟨h9, _⟩ | h9
      · rw [h9] at hz; simp [svRow] at hz
      · rw [h9] at hz; cases hz; omega
    have hSV2 : SV G1 4 0 (flatR D) (.slice (some ⟨y, 0, none⟩) D.length 0) := hSV1.mono (by omega) fun z hz _ => q5' z (by omega)
    obtain ⟨sv2, t1, t2, t3⟩ := partR_lo hSV2 (k := at_ + 1) (by omega)
    obtain ⟨v3, G3, u1, u2, u3, u4, u5, u6, u7⟩ := ap_any (sz := 4) q2 t2 t3 (by rw [flatR_length, List.length_drop]) (flatR_one _ fun d hd => hforms d (List.mem_of_mem_drop hd)) (by omega) (by omega)
    have u5' : ∀ z, z < h.next → G3.get z = h1.get z := fun z hz => by
      rw [u5 z (by omega) (fun e => by have := lo1 z e; omega), q5' z hz]
    have lo3 : ∀ z, svRow v3 = some z → h.next ≤ z ∧ z < G3.next := fun z hz => by
      refine ⟨?_, (u2.row hz).2.1⟩
      rcases u6 with ⟨h9, _⟩ | h9
      · rw [h9] at hz; exact lo1 z hz
      · rw [h9] at hz; cases hz; omega
    obtain ⟨b3, e3, _, _⟩ := u2.form
    obtain ⟨n3, hn3⟩ : ∃ n, n = vLen v3 := ⟨_, rfl⟩
    rw [← hn3] at e3
    subst e3
    rw [← flatR_append] at u2
    have sG1 : G1.get s = some (.cells [.slice (some ⟨y, 0, none⟩) D.length 0, U64 (if d.rts > fl then d.rts else fl)] 1) := by rw [q5' s hlt]; exact s1
    have sG3 : G3.get s = some (.cells [.slice (some ⟨y, 0, none⟩) D.length 0, U64 (if d.rts > fl then d.rts else fl)] 1) := by rw [u5' s hlt]; exact s1
    have esp := splitR hd
    have hsrt : (D.take at_ ++ D.drop (at_ + 1)).Pairwise fun a b => ltStr a.key b.key = true := by
      refine hB.sorted.sublist ?_
      (conv => rhs; rw [esp])
      exact List.Sublist.append (List.Sublist.refl _) (List.sublist_cons_self _ _)
    refine ⟨G3.set s (.cells [.slice b3 n3 0, U64 (if d.rts > fl then d.rts else fl)] 1), svRow (.slice b3 n3 0), D.take at_ ++ D.drop (at_ + 1), ?_, ?_, ?_, ⟨by simp only [nx]; omega, fun z hz hzs hzx => ?_, .inr fun z hz => (lo3 z hz).1⟩⟩
    · subst hh1
      refine W.enter tyOK Try.func13 rfl rfl ?_
      simp only [entry]
      refine W.seq <| W.reg <| OSuf.aop tyOK rfl (so_assign (by simp only [lk] <;> rfl)) rfl <| OSuf.nil <| SQ.normal ?_
      refine W.seq <| W.reg <| OSuf.aop tyOK rfl sm rfl <| OSuf.aop tyOK rfl sm rfl <| OSuf.callD rfl (by simp only [aopnds, lk] <;> rfl) en26 (hf) rfl <| OSuf.aop tyOK rfl sm rfl <| OSuf.aop tyOK rfl (so_extract (by simp only [lk] <;> rfl) (by simp (disch := first | assumption | omega | (simp only [nx] <;> omega) | fail) only [aExtract, hpl, Value.cells, places, ty26, ty27, ty29, ty41, hsv, y4, hb, sb, hc1, sG1, sG3, List.length_cons, List.length_nil] <;> rfl)) rfl <| OSuf.aopT tyOK rfl (so_extract (by simp only [lk] <;> rfl) (by simp (disch := first | assumption | omega | (simp only [nx] <;> omega) | fail) only [aExtract, hpl, Value.cells, places, ty26, ty27, ty29, ty41, hsv, y4, hb, sb, hc1, sG1, sG3, List.length_cons, List.length_nil] <;> rfl)) (fun _ => rfl) (by first | rfl | assumption | ((simp only [bl, Value.cells, places, ty26, ty27, ty29, ty41, hsv, y4, hb, sb, hc1, sG1, sG3, List.length_cons, List.length_nil]) <;> first | done | assumption | omega) | (simp; done) | (simp; omega)) <| OSuf.aop tyOK rfl (so_assign (by simp only [lk] <;> rfl)) rfl <| OSuf.aopT tyOK rfl (so_assign (by simp only [lk] <;> rfl)) (fun _ => rfl) rfl <| OSuf.nil <| SQ.normal ?_
      refine W.seq <| W.seq <| W.reg <| OSuf.aopT tyOK rfl sm (fun _ => rfl) rfl <| OSuf.aopF tyOK rfl (so_not (by simp only [lk] <;> rfl)) (fun _ => rfl) rfl <| OSuf.nil <| SQ.normal ?_
      refine W.no (by simp only [lk] <;> rfl) <| CWp.skip <| SQ.normal ?_
      refine W.seq <| W.regD tyOK mixed (by kernel_rfl) <| SqW.aop rfl sm rfl <| SqW.aop rfl sm rfl <| SqW.aop rfl (so_nilCheck (by simp only [lk] <;> rfl)) rfl <| SqW.aop rfl (so_fieldAddr (by simp only [lk] <;> rfl) (fa_ok (k := 1) ty29 rfl rfl ty27 rfl rfl)) rfl <| SqW.aop rfl (so_load (by simp only [lk] <;> rfl) (by simp (disch := first | assumption | omega | (simp only [nx] <;> omega) | fail) only [aLoad, ty27, rowOf, hpl, Value.cells, places, ty26, ty27, ty29, ty41, hsv, y4, hb, sb, hc1, sG1, sG3, List.length_cons, List.length_nil] <;> rfl)) rfl <| SqW.aop rfl sm rfl <| SqW.aop rfl (so_nilCheck (by simp only [lk] <;> rfl)) rfl <| SqW.aop rfl (so_fieldAddr (by simp only [lk] <;> rfl) (fa_ok (k := 0) ty29 rfl rfl ty26 rfl rfl)) rfl <| SqW.aop rfl (so_load (by simp only [lk] <;> rfl) (by simp (disch := first | assumption | omega | (simp only [nx] <;> omega) | fail) only [aLoad, ty26, rowOf, hpl, Value.cells, places, ty26, ty27, ty29, ty41, hsv, y4, hb, sb, hc1, sG1, sG3, List.length_cons, List.length_nil] <;> rfl)) rfl <| SqW.aop rfl sm rfl <| SqW.aop rfl (so_indexAddr (by simp only [lk] <;> rfl) (by simp only [lk] <;> rfl) (by simp (disch := first | assumption | omega | (simp only [nx] <;> omega) | fail) only [aIndexAddr, ty26, ty41, hpl, Value.cells, places, ty26, ty27, ty29, ty41, hsv, y4, hb, sb, hc1, sG1, sG3, List.length_cons, List.length_nil] <;> rfl)) rfl <| SqW.aop rfl (so_fieldAddr (by simp only [lk] <;> rfl) (fa_ok (k := 1) ty41 rfl rfl ty27 rfl rfl)) rfl <| SqW.aop rfl (so_load (by simp only [lk] <;> rfl) (by simp (disch := first | assumption | omega | (simp only [nx] <;> omega) | fail) only [aLoad, ty27, rowOf, hpl, Value.cells, places, ty26, ty27, ty29, ty41, hsv, y4, hb, sb, hc1, sG1, sG3, List.length_cons, List.length_nil] <;> rfl)) rfl <| SqW.aop rfl (so_max (by simp only [aopnds, lk] <;> rfl)) rfl <| SqW.aop rfl (so_nilCheck (by simp only [lk] <;> rfl)) rfl <| SqW.aop rfl (so_fieldAddr (by simp only [lk] <;> rfl) (fa_ok (k := 1) ty29 rfl rfl ty27 rfl rfl)) rfl <| SqW.aop rfl (so_store (by simp only [lk] <;> rfl) (by simp only [lk] <;> rfl) (by simp (disch := first | assumption | omega | (simp only [nx] <;> omega) | fail) only [aStore, ty27, writeRow, hpl, Value.cells, places, ty26, ty27, ty29, ty41, hsv, y4, hb, sb, hc1, sG1, sG3, List.length_cons, List.length_nil] <;> rfl)) rfl <| SqW.nil <| SQ.normal ?_
      refine W.seq <| W.reg <| OSuf.aop tyOK rfl (so_assign (by simp only [lk] <;> rfl)) rfl <| OSuf.nil <| SQ.normal ?_
      refine W.seq <| W.reg <| OSuf.aop tyOK rfl sm rfl <| OSuf.aop tyOK rfl sm rfl <| OSuf.aop tyOK rfl (so_nilCheck (by simp only [lk] <;> rfl)) rfl <| OSuf.aop tyOK rfl (so_fieldAddr (by simp only [lk] <;> rfl) (fa_ok (k := 0) ty29 rfl rfl ty26 rfl rfl)) rfl <| OSuf.aop tyOK rfl (so_load (by simp only [lk] <;> rfl) (by simp (disch := first | assumption | omega | (simp only [nx] <;> omega) | fail) only [aLoad, ty26, rowOf, hpl, Value.cells, places, ty26, ty27, ty29, ty41, hsv, y4, hb, sb, hc1, sG1, sG3, List.length_cons, List.length_nil] <;> rfl)) rfl <| OSuf.aop tyOK rfl sm rfl <| OSuf.aop tyOK rfl (so_slice (by simp only [lk] <;> rfl) (by simp only [oopnd, lk] <;> rfl) (by simp only [oopnd, lk] <;> rfl) (by simp only [oopnd, lk] <;> rfl) (p1)) rfl <| OSuf.aop tyOK rfl (so_append (by simp only [aopnds, lk] <;> rfl) (q1 _ _ (by simp only [appT, ty26, ty41] <;> rfl) rfl (by decide))) rfl <| OSuf.aop tyOK rfl (so_assign (by simp only [lk] <;> rfl)) rfl <| OSuf.nil <| SQ.normal ?_
      refine W.seq <| W.reg <| OSuf.aop tyOK rfl sm rfl <| OSuf.aop tyOK rfl sm rfl <| OSuf.aop tyOK rfl sm rfl <| OSuf.aop tyOK rfl (so_nilCheck (by simp only [lk] <;> rfl)) rfl <| OSuf.aop tyOK rfl (so_fieldAddr (by simp only [lk] <;> rfl) (fa_ok (k := 0) ty29 rfl rfl ty26 rfl rfl)) rfl <| OSuf.aop tyOK rfl (so_load (by simp only [lk] <;> rfl) (by simp (disch := first | assumption | omega | (simp only [nx] <;> omega) | fail) only [aLoad, ty26, rowOf, hpl, Value.cells, places, ty26, ty27, ty29, ty41, hsv, y4, hb, sb, hc1, sG1, sG3, List.length_cons, List.length_nil] <;> rfl)) rfl <| OSuf.aop tyOK rfl sm rfl <| OSuf.aop tyOK rfl (so_bin (by simp only [lk] <;> rfl) (by simp only [lk] <;> rfl) (bi_w bi_add (by first | (simp only [w1] <;> rfl) | rfl))) rfl <| OSuf.aop tyOK rfl (so_slice (by simp only [lk] <;> rfl) (by simp only [oopnd, lk] <;> rfl) (by simp only [oopnd, lk] <;> rfl) (by simp only [oopnd, lk] <;> rfl) (t1)) rfl <| OSuf.aop tyOK rfl (so_append (by simp only [aopnds, lk] <;> rfl) (u1 _ _ (by simp only [appT, ty26, ty41] <;> rfl) rfl (by decide))) rfl <| OSuf.aop tyOK rfl (so_nilCheck (by simp only [lk] <;> rfl)) rfl <| OSuf.aop tyOK rfl (so_fieldAddr (by simp only [lk] <;> rfl) (fa_ok (k := 0) ty29 rfl rfl ty26 rfl rfl)) rfl <| OSuf.aop tyOK rfl (so_store (by simp only [lk] <;> rfl) (by simp only [lk] <;> rfl) (by simp (disch := first | assumption | omega | (simp only [nx] <;> omega) | fail) only [aStore, ty26, writeRow, hpl, Value.cells, places, ty26, ty27, ty29, ty41, hsv, y4, hb, sb, hc1, sG1, sG3, List.length_cons, List.length_nil] <;> rfl)) rfl <| OSuf.nil <| SQ.normal ?_
      refine W.seq <| W.reg <| OSuf.aop tyOK rfl (so_assign (by simp only [lk] <;> rfl)) rfl <| OSuf.nil <| SQ.normal ?_
      refine CWp.ret <| FQ.ret (by simp only [aRet, Try.f13, aResults, aResult, lk, Nat.reduceEqDiff, reduceIte] <;> rfl) ?_
      -- leaf: end
      exact ⟨rfl, rfl⟩
    · refine ⟨by simp only [nx]; omega, ⟨_, AHeap.get_set_same _ _ _, ?_, rfl⟩, fun z hz => ⟨by have := (lo3 z hz).1; omega, by simp only [nx]; exact (lo3 z hz).2⟩, fun e he => ?_, hsrt⟩
      · refine (u2.mono (h' := G3.set s (.cells [.slice b3 n3 0, U64 (if d.rts > fl then d.rts else fl)] 1)) (by simp) fun z hz hv => AHeap.get_set_ne ?_).low (Nat.zero_le _)
        have := (lo3 z hv).1; omega
      · have he2 : e ∈ D := by
          rcases List.mem_append.1 he with h9 | h9
          · exact List.mem_of_mem_take h9
          · exact List.mem_of_mem_drop h9
        refine avo_mono (hB.av e he2) (by simp only [nx]; omega) fun z w hz hg => ?_
        have q : ¬ z = s := fun e => by (rw [e, hsv] at hg; simp at hg)
        rw [AHeap.get_set_ne (fun e => q e.symm), u5' z hz, o1 z hz q]
    · have p1 : (D.map RR.rc).Perm (d.rc :: (D.take at_ ++ D.drop (at_ + 1)).map RR.rc) := by
        (conv => lhs; rw [esp])
        rw [List.map_append, List.map_cons, List.map_append]
        exact List.perm_middle
      have hB9 := rest_ne ((p1.map Rec.key).nodup_iff.1 (sorted_nodup hB.sorted))
      exact delR_perm p1 (by show d.key = k; exact hdk) fun z hz => by have := hB9 z hz; rw [← hdk]; exact this
    · rw [AHeap.get_set_ne (fun e => hzs e.symm), u5' z hz, o1 z hz hzs]
  · have hf := find_r h s x fl D hB k hk9 hD (by omega) at_ false a1 a2 a3 (by simp; intro d hd e; exact hh ⟨d, hd, e⟩)
    obtain ⟨m1, m2⟩ := missR hB.sorted a2 a3 hh
    have hgr := noR m1
    have ec : evCode k (D.map RR.rc) = 5 := by rw [evCode, hgr]
    have ef : evFl fl k (D.map RR.rc) = fl := by rw [evFl, hgr]
    have ed : delR k (D.map RR.rc) = D.map RR.rc := del_ne fun y hy => by obtain ⟨d, hd, rfl⟩ := List.mem_map.1 hy; exact m1 d hd
    rw [ec, ef, ed]
    refine ⟨h, x, D, ?_, hB, .refl _, FrR.refl _ _ _⟩
    refine W.enter tyOK Try.func13 rfl rfl ?_
    simp only [entry]
    refine W.seq <| W.reg <| OSuf.aop tyOK rfl (so_assign (by simp only [lk] <;> rfl)) rfl <| OSuf.nil <| SQ.normal ?_
    refine W.seq <| W.reg <| OSuf.aop tyOK rfl sm rfl <| OSuf.aop tyOK rfl sm rfl <| OSuf.callD rfl (by simp only [aopnds, lk] <;> rfl) en26 (hf) rfl <| OSuf.aop tyOK rfl sm rfl <| OSuf.aop tyOK rfl (so_extract (by simp only [lk] <;> rfl) (by simp (disch := first | assumption | omega | (simp only [nx] <;> omega) | fail) only [aExtract, hpl, Value.cells, places, ty26, ty27, ty29, ty41] <;> rfl)) rfl <| OSuf.aopF tyOK rfl (so_extract (by simp only [lk] <;> rfl) (by simp (disch := first | assumption | omega | (simp only [nx] <;> omega) | fail) only [aExtract, hpl, Value.cells, places, ty26, ty27, ty29, ty41] <;> rfl)) (fun _ => rfl) (by first | rfl | assumption | ((simp only [bl, Value.cells, places, ty26, ty27, ty29, ty41]) <;> first | done | assumption | omega) | (simp; done) | (simp; omega)) <| OSuf.aop tyOK rfl (so_assign (by simp only [lk] <;> rfl)) rfl <| OSuf.aopF tyOK rfl (so_assign (by simp only [lk] <;> rfl)) (fun _ => rfl) rfl <| OSuf.nil <| SQ.normal ?_
    refine W.seq <| W.seq <| W.reg <| OSuf.aopF tyOK rfl sm (fun _ => rfl) rfl <| OSuf.aopT tyOK rfl (so_not (by simp only [lk] <;> rfl)) (fun _ => rfl) rfl <| OSuf.nil <| SQ.normal ?_
    refine W.yes (by simp only [lk] <;> rfl) <| W.seq <| W.reg <| OSuf.aop tyOK rfl (so_assign (by simp only [lk] <;> rfl)) rfl <| OSuf.nil <| SQ.normal ?_
    refine CWp.ret <| SQ.ret <| FQ.ret (by simp only [aRet, Try.f13, aResults, aResult, lk, Nat.reduceEqDiff, reduceIte] <;> rfl) ?_
    -- leaf: end
    exact ⟨rfl, rfl⟩
end Go.Proofs.Ytldhcjfhlfgleaa
