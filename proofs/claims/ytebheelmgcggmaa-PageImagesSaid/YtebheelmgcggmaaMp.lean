/-
  Merged: RhA, RhB, RhC, RhD, RhG, RhH, RhI, RhJ.
-/
import Derived.Test.YtebheelmgcggmaaMf
import Derived.Test.YtebheelmgcggmaaAb41
set_option linter.unusedSimpArgs false
set_option linter.unusedVariables false
set_option maxRecDepth 10000
set_option maxHeartbeats 8000000
namespace Go.Proofs.Ytebheelmgcggmaa
open Go.Ab Go.Sort
def rdA : Nat → List UInt8 → Option (Nat × List UInt8)
  | _, [] => none
  | i, c :: l => if 10 ≤ i ∨ (0 < i ∧ c.toNat = 0) ∨ (i = 9 ∧ 1 < c.toNat) then none else if c.toNat < 128 then some (c.toNat, l) else (rdA (i + 1) l).map fun x => (c.toNat - 128 + 128 * x.1, x.2)
theorem of_nat {n : Nat} (h : n < 256) : (UInt8.ofNat n).toNat = n := by
  have := of_lt h; omega
theorem rd_num : ∀ (n i : Nat) (r : List UInt8), i ≤ 9 → n < 2 ^ (64 - 7 * i) → (0 < i → 0 < n) → rdA i (num n ++ r) = some (n, r) := by
  intro n
  induction n using Nat.strongRecOn with
  | _ n ih =>
    intro i r hi hn h0
    by_cases hm : n < 128
    · rw [num_lo hm]
      have hc : (UInt8.ofNat n).toNat = n := of_nat (by omega)
      have h9 : i = 9 → n < 2 := fun e => by subst e; simpa using hn
      simp only [List.cons_append, List.nil_append, rdA, hc]
      rw [if_neg (by omega), if_pos hm]
    · rw [num_hi hm]
      have hc : (UInt8.ofNat (128 + n % 128)).toNat = 128 + n % 128 := of_nat (by omega)
      have h9 : i ≤ 8 := by
        by_cases c : i ≤ 8
        · exact c
        · have e : i = 9 := by omega
          subst e; simp at hn; omega
      simp only [List.cons_append, rdA, hc]
      have e2 : 2 ^ (64 - 7 * i) = 2 ^ (64 - 7 * (i + 1)) * 128 := by
        rw [show 64 - 7 * i = (64 - 7 * (i + 1)) + 7 by omega, Nat.pow_add]
      rw [if_neg (by omega), if_neg (by omega), ih (n / 128) (by omega) (i + 1) r (by omega) (by omega) (by omega)]
      simp only [Option.map_some, Option.some.injEq, Prod.mk.injEq, and_true]
      omega
theorem rd_inv : ∀ (l : List UInt8) (i n : Nat) (r : List UInt8), rdA i l = some (n, r) → i ≤ 9 ∧ l = num n ++ r ∧ n < 2 ^ (64 - 7 * i) ∧ (0 < i → 0 < n)
  | [], i, n, r, h => by cases h
  | c :: l, i, n, r, h => by
    simp only [rdA] at h
    split at h
    · cases h
    · rename_i hc
      have hi : i ≤ 9 := by omega
      have hl := c.toNat_lt
      split at h
      · rename_i hm
        simp only [Option.some.injEq, Prod.mk.injEq] at h
        obtain ⟨rfl, rfl⟩ := h
        refine ⟨hi, ?_, ?_, by omega⟩
        · rw [num_lo hm, UInt8.ofNat_toNat]; rfl
        · by_cases e : i = 9
          · subst e; simp; omega
          · have : 2 ^ 7 ≤ 2 ^ (64 - 7 * i) := Nat.pow_le_pow_right (by decide) (by omega)
            omega
      · rename_i hm
        cases hx : rdA (i + 1) l with
        | none => rw [hx] at h; cases h
        | some x =>
          rw [hx] at h
          obtain ⟨n', r'⟩ := x
          obtain ⟨h1, h2, h3, h4⟩ := rd_inv l (i + 1) n' r' hx
          simp only [Option.map_some, Option.some.injEq, Prod.mk.injEq] at h
          obtain ⟨rfl, rfl⟩ := h
          have h5 := h4 (by omega)
          have e2 : 2 ^ (64 - 7 * i) = 2 ^ (64 - 7 * (i + 1)) * 128 := by
            rw [show 64 - 7 * i = (64 - 7 * (i + 1)) + 7 by omega, Nat.pow_add]
          refine ⟨hi, ?_, by omega, by omega⟩
          rw [num_hi (by omega), h2, show (c.toNat - 128 + 128 * n') % 128 = c.toNat - 128 by omega, show (c.toNat - 128 + 128 * n') / 128 = n' by omega, show 128 + (c.toNat - 128) = c.toNat by omega, UInt8.ofNat_toNat]; rfl
abbrev Rdr := Option (List UInt8)
def rc : Rdr → List Value
  | none => [encS [], .bool true]
  | some l => [encS l, .bool false]
def numS : Rdr → Nat × Rdr
  | none => (0, none)
  | some l => match rdA 0 l with
    | some (n, r) => (n, some r)
    | none => (0, none)
def textS (s : Rdr) : List UInt8 × Rdr :=
  match (numS s).2 with
  | none => ([], none)
  | some l => if l.length < (numS s).1 then ([], none) else (l.take (numS s).1, some (l.drop (numS s).1))
def endS : Rdr → Bool
  | some [] => true
  | _ => false
def okS (s : Rdr) : Bool := s.isSome
def lenS (s : Rdr) : Nat := match s with
  | none => 0
  | some l => l.length
theorem rd_le {i : Nat} {l r : List UInt8} {n : Nat} (h : rdA i l = some (n, r)) : r.length ≤ l.length := by
  obtain ⟨_, h2, _⟩ := rd_inv _ _ _ _ h
  rw [h2]; simp
theorem numS_le (s : Rdr) : lenS (numS s).2 ≤ lenS s := by
  cases s with
  | none => simp [numS, lenS]
  | some l =>
    simp only [numS]
    split
    · rename_i n r h; exact rd_le h
    · simp [lenS]
theorem numS_lt (s : Rdr) : (numS s).1 < 18446744073709551616 := by
  cases s with
  | none => simp [numS]
  | some l =>
    simp only [numS]
    split
    · rename_i n r h; have := (rd_inv _ _ _ _ h).2.2.1; simpa using this
    · simp
theorem textS_le (s : Rdr) : lenS (textS s).2 ≤ lenS s := by
  have h1 := numS_le s
  unfold textS
  split
  · simp [lenS]
  · rename_i l e
    rw [e] at h1
    split
    · simp [lenS]
    · simp [lenS] at h1 ⊢; omega
theorem textS_len (s : Rdr) : (textS s).1.length ≤ lenS s := by
  have h1 := numS_le s
  unfold textS
  split
  · simp
  · rename_i l e
    rw [e] at h1
    split
    · simp
    · simp [lenS] at h1 ⊢; omega
end Go.Proofs.Ytebheelmgcggmaa
namespace Go.Proofs.Ytebheelmgcggmaa
open Go.Ab Go.Sort
theorem bi_oru {t : TypeId} {x y : Operand} {k : IntKind} {m n : Int} : aBin Try.prog T .or t x y (.int k m) (.int k n) = some (.int k (k.wrap ((BitVec.ofInt k.bits m ||| BitVec.ofInt k.bits n).toNat : Nat))) := by simp [aBin, flat, flat1, eqGuard, binOp, Op.intBits, pureRun_pure]
theorem bi_andn {t : TypeId} {x y : Operand} {k : IntKind} {m n : Int} : aBin Try.prog T .andNot t x y (.int k m) (.int k n) = some (.int k (k.wrap ((BitVec.ofInt k.bits m &&& ~~~ BitVec.ofInt k.bits n).toNat : Nat))) := by simp [aBin, flat, flat1, eqGuard, binOp, Op.intBits, pureRun_pure]
theorem rdok_c (h : AHeap) (r : Nat) (s : Rdr) (hr : h.get r = some (.cells (rc s) 1)) : FWp Try.prog 89 [P0 r] h fun u h' => u = .bool (okS s) ∧ h' = h := by
  refine W.enter tyOK Try.func89 rfl rfl ?_
  simp only [entry]
  cases s with
  | none =>
    simp only [rc] at hr
    refine Wr <| Of rfl za rfl rfl <| On ?_
    refine Wr <| Oa rfl sm rfl <| Ot rfl (zb (hv := bi_nnil ⟨_, _, ty99, rfl⟩)) rfl rfl <| Ot rfl sm rfl rfl <| Oa ag sm rfl <| Oa ag (so_nilCheck (by simp only [lk] <;> rfl)) rfl <| Oa ag (zf (hv := fa_ok (k := 1) ty123 rfl rfl ty4 rfl rfl)) rfl <| Oa ag (zl (hv := by simp (disch := first | omega | simp only [nx]; omega) only [aLoad, ty4, rowOf, hpl, hr] <;> rfl)) rfl <| Oa ag Zt rfl <| Oa rfl Zp rfl <| Oa rfl za rfl <| On ?_
    refine CWp.ret <| FQ.ret (by simp only [aRet, Try.f89, aResults, aResult, lk, Nat.reduceEqDiff, reduceIte] <;> rfl) ?_
    exact ⟨rfl, rfl⟩
  | some l =>
    simp only [rc] at hr
    refine Wr <| Of rfl za rfl rfl <| On ?_
    refine Wr <| Oa rfl sm rfl <| Ot rfl (zb (hv := bi_nnil ⟨_, _, ty99, rfl⟩)) rfl rfl <| Ot rfl sm rfl rfl <| Oa ag sm rfl <| Oa ag (so_nilCheck (by simp only [lk] <;> rfl)) rfl <| Oa ag (zf (hv := fa_ok (k := 1) ty123 rfl rfl ty4 rfl rfl)) rfl <| Oa ag (zl (hv := by simp (disch := first | omega | simp only [nx]; omega) only [aLoad, ty4, rowOf, hpl, hr] <;> rfl)) rfl <| Oa ag Zt rfl <| Oa rfl Zp rfl <| Oa rfl za rfl <| On ?_
    refine CWp.ret <| FQ.ret (by simp only [aRet, Try.f89, aResults, aResult, lk, Nat.reduceEqDiff, reduceIte] <;> rfl) ?_
    exact ⟨rfl, rfl⟩
theorem rdfail_c (h : AHeap) (r : Nat) (s : Rdr) (hr : h.get r = some (.cells (rc s) 1)) : FWp Try.prog 90 [P0 r] h fun u h' => u = .tuple #[] ∧ h' = h.set r (.cells (rc none) 1) := by
  refine W.enter tyOK Try.func90 rfl rfl ?_
  simp only [entry]
  obtain ⟨a, b, e⟩ : ∃ a b, rc s = [a, b] := by cases s <;> exact ⟨_, _, rfl⟩
  rw [e] at hr
  refine Wr <| Oa rfl sm rfl <| Ot rfl (zb (hv := bi_nnil ⟨_, _, ty99, rfl⟩)) rfl rfl <| On ?_
  refine Wy <| W.reg <| Oa rfl sm rfl <| Oa rfl sm rfl <| Oa rfl (so_nilCheck (by simp only [lk] <;> rfl)) rfl <| Oa rfl (zf (hv := fa_ok (k := 0) ty123 rfl rfl ty9 rfl rfl)) rfl <| Oa rfl (zs (hv := by simp (disch := first | omega | simp only [nx]; omega) only [aStore, ty9, writeRow, hpl, hr, AHeap.set_set] <;> rfl)) rfl <| Oa rfl (so_nilCheck (by simp only [lk] <;> rfl)) rfl <| Oa rfl (zf (hv := fa_ok (k := 1) ty123 rfl rfl ty4 rfl rfl)) rfl <| Oa rfl (zs (hv := by simp (disch := first | omega | simp only [nx]; omega) only [aStore, ty4, writeRow, hpl, hr, AHeap.set_set] <;> rfl)) rfl <| OSuf.nil <| FQ.normal (by simp only [aRet, Try.f90, aResults, aResult, lk, Nat.reduceEqDiff, reduceIte] <;> rfl) ?_
  exact ⟨rfl, rfl⟩
theorem rdend_c (h : AHeap) (r : Nat) (s : Rdr) (hr : h.get r = some (.cells (rc s) 1)) : FWp Try.prog 69 [P0 r] h fun u h' => u = .bool (endS s) ∧ h' = h := by
  refine W.enter tyOK Try.func69 rfl rfl ?_
  simp only [entry]
  have ho := rdok_c h r s hr
  cases s with
  | none =>
    simp only [rc] at hr
    refine Wr <| Of rfl za rfl rfl <| On ?_
    refine Wr <| Oa rfl sm rfl <| OSuf.callD rfl (by simp only [aopnds, lk] <;> rfl) en89 (ho) rfl <| Of rfl sm rfl rfl <| Pa ag rfl <| Pa ag rfl <| Pa ag rfl <| Pa ag rfl <| Pa ag rfl <| Of rfl Zp rfl rfl <| Of rfl za rfl rfl <| On ?_
    refine CWp.ret <| FQ.ret (by simp only [aRet, Try.f69, aResults, aResult, lk, Nat.reduceEqDiff, reduceIte] <;> rfl) ?_
    exact ⟨rfl, rfl⟩
  | some l =>
    simp only [rc] at hr
    refine Wr <| Of rfl za rfl rfl <| On ?_
    refine Wr <| Oa rfl sm rfl <| OSuf.callD rfl (by simp only [aopnds, lk] <;> rfl) en89 (ho) rfl <| Ot rfl sm rfl rfl <| Oa ag sm rfl <| Oa ag (so_nilCheck (by simp only [lk] <;> rfl)) rfl <| Oa ag (zf (hv := fa_ok (k := 0) ty123 rfl rfl ty9 rfl rfl)) rfl <| Oa ag (zl (hv := by simp (disch := first | omega | simp only [nx]; omega) only [aLoad, ty9, rowOf, hpl, hr] <;> rfl)) rfl <| Oa ag (zb (hv := bs_eql)) rfl <| Oa rfl Zp rfl <| Oa rfl za rfl <| On ?_
    refine CWp.ret <| FQ.ret (by simp only [aRet, Try.f69, aResults, aResult, lk, Nat.reduceEqDiff, reduceIte] <;> rfl) ?_
    refine ⟨?_, rfl⟩
    cases l <;> simp [endS]
def odd (i : Nat) (c : UInt8) : Bool := decide ((0 < i ∧ c.toNat = 0) ∨ (i = 9 ∧ 1 < c.toNat))
theorem odd_c (h : AHeap) (i : Nat) (c : UInt8) : FWp Try.prog 91 [I64 i, u8v c] h fun u h' => u = .bool (odd i c) ∧ h' = h := by
  refine W.enter tyOK Try.func91 rfl rfl ?_
  simp only [entry]
  by_cases h1 : (0 : Int) < (i : Int)
  · by_cases h2 : c.toNat = 0
    · refine Wr <| Of rfl za rfl rfl <| On ?_
      refine Wr <| Oa rfl sm rfl <| Ot rfl (zb (hv := bi_gtr)) rfl (by first | rfl | assumption | ((simp only [bl, h1]) <;> first | done | assumption | omega) | (simp; done) | (simp; omega)) <| Ot rfl sm rfl rfl <| Oa ag sm rfl <| Ot ag (zb (hv := bi_eql)) rfl (by simp [h2]) <| Ot rfl Zp rfl rfl <| Ot rfl sm rfl rfl <| Pa ag rfl <| Pa ag rfl <| Pa ag rfl <| Pa (aguard_un rfl rfl (by simp only [lk] <;> rfl)) rfl <| Pa (aguard_un rfl rfl (by simp only [lk] <;> rfl)) rfl <| Pa ag rfl <| Ot rfl Zp rfl rfl <| Ot rfl za rfl rfl <| On ?_
      refine CWp.ret <| FQ.ret (by simp only [aRet, Try.f91, aResults, aResult, lk, Nat.reduceEqDiff, reduceIte] <;> rfl) ?_
      exact ⟨by rw [show odd i c = true from decide_eq_true (.inl ⟨by omega, h2⟩)], rfl⟩
    · by_cases h3 : i = 9
      · refine Wr <| Of rfl za rfl rfl <| On ?_
        refine Wr <| Oa rfl sm rfl <| Ot rfl (zb (hv := bi_gtr)) rfl (by first | rfl | assumption | ((simp only [bl, h1]) <;> first | done | assumption | omega) | (simp; done) | (simp; omega)) <| Ot rfl sm rfl rfl <| Oa ag sm rfl <| Of ag (zb (hv := bi_eql)) rfl (by simp; omega) <| Of rfl Zp rfl rfl <| Of rfl sm rfl rfl <| Oa ag sm rfl <| Ot ag (zb (hv := bi_eql)) rfl (by simp [h3]) <| Ot ag sm rfl rfl <| Oa ag sm rfl <| Oa ag (zb (hv := bi_gtr)) rfl <| Oa ag Zp rfl <| Oa rfl Zp rfl <| Oa rfl za rfl <| On ?_
        refine CWp.ret <| FQ.ret (by simp only [aRet, Try.f91, aResults, aResult, lk, Nat.reduceEqDiff, reduceIte] <;> rfl) ?_
        exact ⟨by rw [show odd i c = decide ((c.toNat : Int) > 1) from decide_eq_decide.2 (by omega)], rfl⟩
      · refine Wr <| Of rfl za rfl rfl <| On ?_
        refine Wr <| Oa rfl sm rfl <| Ot rfl (zb (hv := bi_gtr)) rfl (by first | rfl | assumption | ((simp only [bl, h1]) <;> first | done | assumption | omega) | (simp; done) | (simp; omega)) <| Ot rfl sm rfl rfl <| Oa ag sm rfl <| Of ag (zb (hv := bi_eql)) rfl (by simp; omega) <| Of rfl Zp rfl rfl <| Of rfl sm rfl rfl <| Oa ag sm rfl <| Of ag (zb (hv := bi_eql)) rfl (by simp; omega) <| Of ag sm rfl rfl <| Pa ag rfl <| Pa ag rfl <| Of ag Zp rfl rfl <| Of rfl Zp rfl rfl <| Of rfl za rfl rfl <| On ?_
        refine CWp.ret <| FQ.ret (by simp only [aRet, Try.f91, aResults, aResult, lk, Nat.reduceEqDiff, reduceIte] <;> rfl) ?_
        exact ⟨by rw [show odd i c = false from decide_eq_false (by omega)], rfl⟩
  · refine Wr <| Of rfl za rfl rfl <| On ?_
    refine Wr <| Oa rfl sm rfl <| Of rfl (zb (hv := bi_gtr)) rfl (by first | rfl | assumption | ((simp only [bl, h1]) <;> first | done | assumption | omega) | (simp; done) | (simp; omega)) <| Of rfl sm rfl rfl <| Pa ag rfl <| Pa ag rfl <| Of rfl Zp rfl rfl <| Of rfl sm rfl rfl <| Oa ag sm rfl <| Of ag (zb (hv := bi_eql)) rfl (by simp; omega) <| Of ag sm rfl rfl <| Pa ag rfl <| Pa ag rfl <| Of ag Zp rfl rfl <| Of rfl Zp rfl rfl <| Of rfl za rfl rfl <| On ?_
    refine CWp.ret <| FQ.ret (by simp only [aRet, Try.f91, aResults, aResult, lk, Nat.reduceEqDiff, reduceIte] <;> rfl) ?_
    exact ⟨by rw [show odd i c = false from decide_eq_false (by omega)], rfl⟩
end Go.Proofs.Ytebheelmgcggmaa
namespace Go.Proofs.Ytebheelmgcggmaa
open Go.Ab Go.Sort
theorem wr_u64 {n : Nat} (h : n < 18446744073709551616) : IntKind.u64.wrap (n : Int) = (n : Int) := by
  simp only [IntKind.wrap, IntKind.bits, IntKind.signed]; simp; omega
theorem wr_or {a c k : Nat} (ha : a < 2 ^ k) (h : a + c * 2 ^ k < 18446744073709551616) : IntKind.u64.wrap ((BitVec.ofInt IntKind.u64.bits (a : Int) ||| BitVec.ofInt IntKind.u64.bits ((c * 2 ^ k : Nat) : Int)).toNat : Nat) = ((a + c * 2 ^ k : Nat) : Int) := by
  have e : ∀ x : Nat, x < 18446744073709551616 → (BitVec.ofInt 64 (x : Int)).toNat = x := fun x hx => by
    rw [BitVec.toNat_ofInt]; omega
  have h1 : (BitVec.ofInt 64 (a : Int) ||| BitVec.ofInt 64 ((c * 2 ^ k : Nat) : Int)).toNat = a + c * 2 ^ k := by
    rw [BitVec.toNat_or, e _ (by omega), e _ (by omega), Nat.or_comm, Nat.mul_comm c, ← Nat.two_pow_add_eq_or_of_lt ha, Nat.add_comm]
  show IntKind.u64.wrap ((BitVec.ofInt 64 (a : Int) ||| BitVec.ofInt 64 ((c * 2 ^ k : Nat) : Int)).toNat : Nat) = _
  rw [h1, wr_u64 h]
theorem wr_andn (c : UInt8) (h : 128 ≤ c.toNat) : IntKind.u8.wrap ((BitVec.ofInt IntKind.u8.bits (c.toNat : Int) &&& ~~~ BitVec.ofInt IntKind.u8.bits 128).toNat : Nat) = ((c.toNat - 128 : Nat) : Int) := by
  have hl := c.toNat_lt
  have e : (BitVec.ofInt 8 (c.toNat : Int)).toNat = c.toNat := by rw [BitVec.toNat_ofInt]; omega
  have h1 : (BitVec.ofInt 8 (c.toNat : Int) &&& ~~~ BitVec.ofInt 8 128).toNat = c.toNat - 128 := by
    rw [BitVec.toNat_and, e, show (~~~ BitVec.ofInt 8 128).toNat = 2 ^ 7 - 1 from rfl, Nat.and_two_pow_sub_one_eq_mod]; omega
  show IntKind.u8.wrap ((BitVec.ofInt 8 (c.toNat : Int) &&& ~~~ BitVec.ofInt 8 128).toNat : Nat) = _
  rw [h1]
  simp only [IntKind.wrap, IntKind.bits, IntKind.signed]; simp; omega
theorem rd_step {l : List UInt8} {i : Nat} {c : UInt8} (hc : l[i]? = some c) (hi : i < 10) (ho : odd i c = false) : rdA i (l.drop i) = if c.toNat < 128 then some (c.toNat, l.drop (i + 1)) else (rdA (i + 1) (l.drop (i + 1))).map fun x => (c.toNat - 128 + 128 * x.1, x.2) := by
  have h1 : l.drop i = c :: l.drop (i + 1) := by
    obtain ⟨h, e⟩ := List.getElem?_eq_some_iff.1 hc
    rw [List.drop_eq_getElem_cons h, e]
  have h2 := of_decide_eq_false ho
  rw [h1]
  simp only [rdA]
  rw [if_neg (by omega)]
theorem rd_odd {l : List UInt8} {i : Nat} {c : UInt8} (hc : l[i]? = some c) (ho : odd i c = true) : rdA i (l.drop i) = none := by
  have h1 : l.drop i = c :: l.drop (i + 1) := by
    obtain ⟨h, e⟩ := List.getElem?_eq_some_iff.1 hc
    rw [List.drop_eq_getElem_cons h, e]
  have h2 := of_decide_eq_true ho
  rw [h1]
  simp only [rdA]
  rw [if_pos (by omega)]
theorem rd_over {l : List UInt8} {i : Nat} (h : l.length ≤ i ∨ 10 ≤ i) : rdA i (l.drop i) = none := by
  cases hl : l.drop i with
  | nil => rfl
  | cons c t =>
    have : 0 < (l.drop i).length := by rw [hl]; simp
    simp only [List.length_drop] at this
    simp only [rdA]
    rw [if_pos (by omega)]
def Rdd (l : List UInt8) (i acc : Nat) : Prop := acc < 2 ^ (7 * i) ∧ rdA 0 l = (rdA i (l.drop i)).map fun x => (acc + 2 ^ (7 * i) * x.1, x.2)
theorem Rdd.zero (l : List UInt8) : Rdd l 0 0 := ⟨by simp, by simp⟩
theorem pow7 (i : Nat) : 2 ^ (7 * (i + 1)) = 2 ^ (7 * i) * 128 := by rw [show 7 * (i + 1) = 7 * i + 7 by omega, Nat.pow_add]
theorem Rdd.step {l : List UInt8} {i acc : Nat} {c : UInt8} (h : Rdd l i acc) (hc : l[i]? = some c) (hi : i < 10) (ho : odd i c = false) (hm : ¬ c.toNat < 128) : Rdd l (i + 1) (acc + (c.toNat - 128) * 2 ^ (7 * i)) := by
  obtain ⟨h1, h2⟩ := h
  have hl := c.toNat_lt
  have h3 : (c.toNat - 128) * 2 ^ (7 * i) ≤ 127 * 2 ^ (7 * i) := Nat.mul_le_mul_right _ (by omega)
  refine ⟨by rw [pow7]; omega, ?_⟩
  rw [h2, rd_step hc hi ho, if_neg hm, Option.map_map]
  congr 1
  funext x
  simp only [Function.comp, Prod.mk.injEq, and_true]
  rw [pow7, Nat.mul_add, Nat.mul_assoc, Nat.mul_comm (2 ^ (7 * i)) (c.toNat - 128)]; omega
theorem Rdd.last {l : List UInt8} {i acc : Nat} {c : UInt8} (h : Rdd l i acc) (hc : l[i]? = some c) (hi : i < 10) (ho : odd i c = false) (hm : c.toNat < 128) : rdA 0 l = some (acc + c.toNat * 2 ^ (7 * i), l.drop (i + 1)) := by
  rw [h.2, rd_step hc hi ho, if_pos hm, Option.map_some, Nat.mul_comm]
theorem Rdd.none {l : List UInt8} {i acc : Nat} (h : Rdd l i acc) (hn : rdA i (l.drop i) = none) : rdA 0 l = none := by
  rw [h.2, hn]; rfl
theorem Rdd.lt {l : List UInt8} {i acc : Nat} {c : UInt8} (h : Rdd l i acc) (hi : i < 10) (ho : odd i c = false) : acc + (c.toNat % 128) * 2 ^ (7 * i) < 18446744073709551616 := by
  have h2 := of_decide_eq_false ho
  obtain ⟨h1, _⟩ := h
  by_cases e : i = 9
  · subst e
    have : c.toNat ≤ 1 := by omega
    have h3 : (c.toNat % 128) * 2 ^ (7 * 9) ≤ 1 * 2 ^ (7 * 9) := Nat.mul_le_mul_right _ (by omega)
    simp at h1 h3 ⊢; omega
  · have h3 : (c.toNat % 128) * 2 ^ (7 * i) ≤ 127 * 2 ^ (7 * i) := Nat.mul_le_mul_right _ (by omega)
    have h4 : 2 ^ (7 * i) ≤ 2 ^ 56 := Nat.pow_le_pow_right (by decide) (by omega)
    omega
theorem sl_str {t : TypeId} {ti : TI} {h : AHeap} {l : List UInt8} {k : IntKind} {n : Nat} (ht : T.get t = some ti) (hu : ti.und = .string) (hn : n ≤ l.length) : aSlice T t (encS l) (some (.int k n)) none none h = some (encS (l.drop n)) := by
  simp only [aSlice, ht, hu, encS]
  have e : (ByteArray.mk ⟨l⟩).size = l.length := rfl
  rw [e, bounds_lo hn]
  simp only [Option.some.injEq, Value.string.injEq]
  apply ByteArray.ext
  apply Array.ext'
  simp [ByteArray.data_extract]
  rw [List.take_of_length_le (by simp)]
theorem sl_strh {t : TypeId} {ti : TI} {h : AHeap} {l : List UInt8} {k : IntKind} {n : Nat} (ht : T.get t = some ti) (hu : ti.und = .string) (hn : n ≤ l.length) : aSlice T t (encS l) none (some (.int k n)) none h = some (encS (l.take n)) := by
  simp only [aSlice, ht, hu, encS]
  have e : (ByteArray.mk ⟨l⟩).size = l.length := rfl
  rw [e, bounds_hi hn]
  simp only [Option.some.injEq, Value.string.injEq]
  apply ByteArray.ext
  apply Array.ext'
  simp [ByteArray.data_extract]
end Go.Proofs.Ytebheelmgcggmaa
namespace Go.Proofs.Ytebheelmgcggmaa
open Go.Ab Go.Sort
theorem rdnum_c (h : AHeap) (r : Nat) (s : Rdr) (hr : h.get r = some (.cells (rc s) 1)) (hl : lenS s ≤ 1000000) : FWp Try.prog 67 [P0 r] h fun u h' => u = U64 (numS s).1 ∧ h'.get r = some (.cells (rc (numS s).2) 1) ∧ h'.next = h.next ∧ ∀ z, ¬ z = r → h'.get z = h.get z := by
  have ho := rdok_c h r s hr
  refine W.enter tyOK Try.func67 rfl rfl ?_
  simp only [entry]
  cases s with
  | none =>
    refine Wr <| Oa rfl za rfl <| On ?_
    refine CWp.scope <| W.seq <| Wr <| Oa rfl sm rfl <| OSuf.callD rfl (by simp only [aopnds, lk] <;> rfl) en89 (ho) rfl <| Ot rfl Zt rfl rfl <| On ?_
    refine Wy <| Wr <| Oa rfl za rfl <| On ?_
    refine CWp.ret <| SQ.ret <| FQ.ret (by simp only [aRet, Try.f67, aResults, aResult, lk, Nat.reduceEqDiff, reduceIte] <;> rfl) ?_
    exact ⟨rfl, hr, rfl, fun _ _ => rfl⟩
  | some l =>
    simp only [lenS] at hl
    have hr' := hr
    simp only [rc] at hr
    have e0 : (ByteArray.mk ⟨l⟩).size = l.length := rfl
    refine Wr <| Oa rfl za rfl <| On ?_
    refine CWp.scope <| W.seq <| Wr <| Oa rfl sm rfl <| OSuf.callD rfl (by simp only [aopnds, lk] <;> rfl) en89 (ho) rfl <| Of rfl Zt rfl rfl <| On ?_
    refine Wn <| CWp.skip <| SQ.normal ?_
    refine Wr <| Oa rfl za rfl <| On ?_
    refine Wr <| Oa rfl za rfl <| On ?_
    refine W.seq <| CWp.label <| SQ.normal ?_
    refine W.seq <| Wr <| Oa rfl sm rfl <| Oa rfl (so_nilCheck (by simp only [lk] <;> rfl)) rfl <| Oa rfl (zf (hv := fa_ok (k := 0) ty123 rfl rfl ty9 rfl rfl)) rfl <| Oa rfl (zl (hv := by simp (disch := first | omega | simp only [nx]; omega) only [aLoad, ty9, rowOf, hpl, hr, e0] <;> rfl)) rfl <| Oa rfl (Zn (hv := by simp (disch := first | omega | simp only [nx]; omega) only [aLenOf, ty9, hpl, hr, e0] <;> rfl)) rfl <| Oa rfl (so_min (by simp only [aopnds, lk] <;> rfl)) rfl <| Oa rfl sm rfl <| On ?_
    obtain ⟨M, hM, hM2⟩ : ∃ M : Nat, (if (10 : Int) < (l.length : Int) then 10 else (l.length : Int)) = (M : Int) ∧ M = min l.length 10 := by
      refine ⟨min l.length 10, ?_, rfl⟩
      split <;> omega
    refine W.cut (fun L g => g = h ∧ rdA 0 l = none ∧ L = [(0, P0 r)]) (W.block (W.loop (fun n L g => ∃ i acc : Nat, n + i = 10 ∧ i ≤ M ∧ Rdd l i acc ∧ g = h ∧ L = [(0, P0 r), (3, U64 acc), (4, .func (.func 91) #[] #[]), (15, I64 M), (16, I64 i)]) (n := 10) (L := [(0, P0 r), (3, U64 ((0 : Nat) : Int)), (4, .func (.func 91) #[] #[]), (15, I64 M), (16, I64 ((0 : Nat) : Int))]) ⟨0, 0, rfl, by omega, Rdd.zero l, rfl, rfl⟩ ?_ ?_)) ?_
    · simp [HasA, Tr.get_put, ← hM]
    · rintro n L g ⟨i, acc, hn, hi, hd, rfl, rfl⟩
      simp only [mkA]
      by_cases h1 : (i : Int) < (M : Int)
      · have hi10 : i < 10 := by omega
        have hil : i < l.length := by omega
        obtain ⟨c, hc⟩ : ∃ c, l[i]? = some c := ⟨l[i]'hil, by simp⟩
        have hc' : (ByteArray.mk ⟨l⟩).data.toList[i]? = some c := hc
        have w2 : IntKind.i64.wrap ((i : Int) + 1) = ((i + 1 : Nat) : Int) := by rw [wrap_i64 (by omega) (by omega)]; omega
        have hod := fun G : AHeap => VWp.func (P := Try.prog) (first := #[]) (cap := #[]) (vs := [I64 i, u8v c]) en91 (by simpa using odd_c G i c)
        cases hoc : odd i c with
        | true =>
          rw [hoc] at hod
          refine Wr <| Ot rfl (zb (hv := bi_lss)) rfl (by first | rfl | assumption | ((simp only [bl, hr, e0]) <;> first | done | assumption | omega) | (simp; done) | (simp; omega)) <| On ?_
          refine W.seq <| Wy <| CWp.skip <| SQ.normal ?_
          refine W.seq <| W.block <| Wr <| Oa rfl sm rfl <| Oa rfl za rfl <| On ?_
          refine Wr <| Oa rfl sm rfl <| Oa rfl (so_nilCheck (by simp only [lk] <;> rfl)) rfl <| Oa rfl (zf (hv := fa_ok (k := 0) ty123 rfl rfl ty9 rfl rfl)) rfl <| Oa rfl (zl (hv := by simp (disch := first | omega | simp only [nx]; omega) only [aLoad, ty9, rowOf, hpl, hr, e0] <;> rfl)) rfl <| Oa rfl sm rfl <| Oa rfl (so_index (by simp only [lk] <;> rfl) (by simp only [lk] <;> rfl) (ix_str ty9 rfl hc')) rfl <| Oa rfl za rfl <| On ?_
          refine W.seq <| W.block <| Wr <| Oa rfl sm rfl <| Oa rfl sm rfl <| Oa rfl sm rfl <| OSuf.vcallD rfl (by simp only [lk] <;> rfl) (by simp only [aopnds, lk] <;> rfl) (hod _) rfl <| Ot rfl za rfl rfl <| On ?_
          refine Wy <| CWp.exit <| BQ.out rfl <| SQ.exit <| BQ.out rfl <| SQ.exit <| LQ.exit <| BQ.exit <| ?_
          refine NQ.normal (L := [(0, P0 r)]) ?_ ⟨rfl, hd.none (rd_odd hc hoc), rfl⟩
          simp only [HasA, Tr.get_put, Nat.reduceEqDiff, reduceIte, and_self]
        | false =>
          rw [hoc] at hod
          have hlt := hd.lt hi10 hoc
          have hcl := c.toNat_lt
          have v1 : IntKind.i64.wrap (7 * (i : Int)) = ((7 * i : Nat) : Int) := by rw [wrap_i64 (by omega) (by omega)]; omega
          have e1 : min ((7 * i : Nat) : Int).toNat IntKind.u64.bits = 7 * i := by simp only [Int.toNat_natCast, IntKind.bits]; omega
          have hle : c.toNat % 128 * 2 ^ (7 * i) < 18446744073709551616 := by omega
          by_cases hm : c.toNat < 128
          · have hmod : c.toNat % 128 = c.toNat := by omega
            rw [hmod] at hlt hle
            have v0 : IntKind.u64.wrap (c.toNat : Int) = (c.toNat : Int) := wr_u64 (by omega)
            have v2 : IntKind.u64.wrap ((c.toNat : Int) * 2 ^ min ((7 * i : Nat) : Int).toNat IntKind.u64.bits) = ((c.toNat * 2 ^ (7 * i) : Nat) : Int) := by
              rw [e1, show (c.toNat : Int) * 2 ^ (7 * i) = ((c.toNat * 2 ^ (7 * i) : Nat) : Int) by simp, wr_u64 hle]
            have v3 := wr_or hd.1 hlt
            refine Wr <| Ot rfl (zb (hv := bi_lss)) rfl (by first | rfl | assumption | ((simp only [bl, hr, e0]) <;> first | done | assumption | omega) | (simp; done) | (simp; omega)) <| On ?_
            refine W.seq <| Wy <| CWp.skip <| SQ.normal ?_
            refine W.seq <| W.block <| Wr <| Oa rfl sm rfl <| Oa rfl za rfl <| On ?_
            refine Wr <| Oa rfl sm rfl <| Oa rfl (so_nilCheck (by simp only [lk] <;> rfl)) rfl <| Oa rfl (zf (hv := fa_ok (k := 0) ty123 rfl rfl ty9 rfl rfl)) rfl <| Oa rfl (zl (hv := by simp (disch := first | omega | simp only [nx]; omega) only [aLoad, ty9, rowOf, hpl, hr, e0] <;> rfl)) rfl <| Oa rfl sm rfl <| Oa rfl (so_index (by simp only [lk] <;> rfl) (by simp only [lk] <;> rfl) (ix_str ty9 rfl hc')) rfl <| Oa rfl za rfl <| On ?_
            refine W.seq <| W.block <| Wr <| Oa rfl sm rfl <| Oa rfl sm rfl <| Oa rfl sm rfl <| OSuf.vcallD rfl (by simp only [lk] <;> rfl) (by simp only [aopnds, lk] <;> rfl) (hod _) rfl <| Of rfl za rfl rfl <| On ?_
            refine Wn <| Wr <| Oa rfl sm rfl <| Ot rfl (zb (hv := bi_lss)) rfl (by simp; omega) <| Ot rfl za rfl rfl <| On ?_
            refine Wy <| Wr <| Oa rfl sm rfl <| Oa rfl sm rfl <| Oa rfl (so_nilCheck (by simp only [lk] <;> rfl)) rfl <| Oa rfl (zf (hv := fa_ok (k := 0) ty123 rfl rfl ty9 rfl rfl)) rfl <| Oa rfl (zl (hv := by simp (disch := first | omega | simp only [nx]; omega) only [aLoad, ty9, rowOf, hpl, hr, e0] <;> rfl)) rfl <| Oa rfl sm rfl <| Oa rfl (zb (hv := bi_w bi_add (by first | (simp only [w2, v0, v1, v2, v3] <;> rfl) | rfl))) rfl <| Oa rfl (so_slice (by simp only [lk] <;> rfl) (by simp only [oopnd, lk] <;> rfl) (by simp only [oopnd, lk] <;> rfl) (by simp only [oopnd, lk] <;> rfl) (sl_str ty9 rfl (by omega))) rfl <| Oa rfl (so_nilCheck (by simp only [lk] <;> rfl)) rfl <| Oa rfl (zf (hv := fa_ok (k := 0) ty123 rfl rfl ty9 rfl rfl)) rfl <| Oa rfl (zs (hv := by simp (disch := first | omega | simp only [nx]; omega) only [aStore, ty9, writeRow, hpl, hr, e0] <;> rfl)) rfl <| On ?_
            refine Wr <| Oa rfl sm rfl <| Oa rfl sm rfl <| Oa rfl (so_conw (so_conv tyOK (by simp only [lk] <;> rfl) ty5 ⟨_, rfl⟩ ty25 rfl) (by first | (simp only [w2, v0, v1, v2, v3] <;> rfl) | rfl)) rfl <| Oa rfl sm rfl <| Oa rfl (zb (hv := bi_w bi_mul (by first | (simp only [w2, v0, v1, v2, v3] <;> rfl) | rfl))) rfl <| Oa rfl (zb (hv := bi_w (bi_shl (by omega)) (by first | (simp only [w2, v0, v1, v2, v3] <;> rfl) | rfl))) rfl <| Oa rfl (zb (hv := bi_w bi_oru (by first | (simp only [w2, v0, v1, v2, v3] <;> rfl) | rfl))) rfl <| Oa rfl za rfl <| On ?_
            refine CWp.ret <| BQ.ret <| SQ.ret <| BQ.ret <| SQ.ret <| LQ.ret <| BQ.ret <| NQ.ret <| SQ.ret <| FQ.ret (by simp only [aRet, Try.f67, aResults, aResult, lk, Nat.reduceEqDiff, reduceIte] <;> rfl) ?_
            have hdl := hd.last hc hi10 hoc hm
            refine ⟨by simp only [numS, hdl], ?_, by simp only [nx], fun z hz => by simp (disch := first | omega | simp only [nx]; omega) only [hpl]⟩
            simp only [numS, hdl, rc]
            exact zP
          · have hmod : c.toNat % 128 = c.toNat - 128 := by omega
            rw [hmod] at hlt hle
            have v0 := wr_andn c (by omega)
            have v00 : IntKind.u64.wrap ((c.toNat - 128 : Nat) : Int) = ((c.toNat - 128 : Nat) : Int) := wr_u64 (by omega)
            have v2 : IntKind.u64.wrap (((c.toNat - 128 : Nat) : Int) * 2 ^ min ((7 * i : Nat) : Int).toNat IntKind.u64.bits) = (((c.toNat - 128) * 2 ^ (7 * i) : Nat) : Int) := by
              rw [e1, show ((c.toNat - 128 : Nat) : Int) * 2 ^ (7 * i) = (((c.toNat - 128) * 2 ^ (7 * i) : Nat) : Int) by simp, wr_u64 hle]
            have v3 := wr_or hd.1 hlt
            refine Wr <| Ot rfl (zb (hv := bi_lss)) rfl (by first | rfl | assumption | ((simp only [bl, hr, e0]) <;> first | done | assumption | omega) | (simp; done) | (simp; omega)) <| On ?_
            refine W.seq <| Wy <| CWp.skip <| SQ.normal ?_
            refine W.seq <| W.block <| Wr <| Oa rfl sm rfl <| Oa rfl za rfl <| On ?_
            refine Wr <| Oa rfl sm rfl <| Oa rfl (so_nilCheck (by simp only [lk] <;> rfl)) rfl <| Oa rfl (zf (hv := fa_ok (k := 0) ty123 rfl rfl ty9 rfl rfl)) rfl <| Oa rfl (zl (hv := by simp (disch := first | omega | simp only [nx]; omega) only [aLoad, ty9, rowOf, hpl, hr, e0] <;> rfl)) rfl <| Oa rfl sm rfl <| Oa rfl (so_index (by simp only [lk] <;> rfl) (by simp only [lk] <;> rfl) (ix_str ty9 rfl hc')) rfl <| Oa rfl za rfl <| On ?_
            refine W.seq <| W.block <| Wr <| Oa rfl sm rfl <| Oa rfl sm rfl <| Oa rfl sm rfl <| OSuf.vcallD rfl (by simp only [lk] <;> rfl) (by simp only [aopnds, lk] <;> rfl) (hod _) rfl <| Of rfl za rfl rfl <| On ?_
            refine Wn <| Wr <| Oa rfl sm rfl <| Of rfl (zb (hv := bi_lss)) rfl (by simp; omega) <| Of rfl za rfl rfl <| On ?_
            refine Wn <| CWp.skip <| BQ.normal <| SQ.normal ?_
            refine W.reg <| Oa rfl sm rfl <| Oa rfl sm rfl <| Oa rfl (zb (hv := bi_w bi_andn (by first | (simp only [w2, v0, v00, v1, v2, v3] <;> rfl) | rfl))) rfl <| Oa rfl (so_conw (so_conv tyOK (by simp only [lk] <;> rfl) ty5 ⟨_, rfl⟩ ty25 rfl) (by first | (simp only [w2, v0, v00, v1, v2, v3] <;> rfl) | rfl)) rfl <| Oa rfl sm rfl <| Oa rfl (zb (hv := bi_w bi_mul (by first | (simp only [w2, v0, v00, v1, v2, v3] <;> rfl) | rfl))) rfl <| Oa rfl (zb (hv := bi_w (bi_shl (by omega)) (by first | (simp only [w2, v0, v00, v1, v2, v3] <;> rfl) | rfl))) rfl <| Oa rfl (zb (hv := bi_w bi_oru (by first | (simp only [w2, v0, v00, v1, v2, v3] <;> rfl) | rfl))) rfl <| Oa rfl za rfl <| OSuf.nil <| BQ.normal <| SQ.normal ?_
            refine W.reg <| Oa rfl (zb (hv := bi_w bi_add (by first | (simp only [w2, v0, v00, v1, v2, v3] <;> rfl) | rfl))) rfl <| Oa rfl sm rfl <| OSuf.nil <| ?_
            refine LQ.normal (m := n - 1) (L := [(0, P0 r), (3, U64 ((acc + (c.toNat - 128) * 2 ^ (7 * i) : Nat) : Int)), (4, .func (.func 91) #[] #[]), (15, I64 M), (16, I64 ((i + 1 : Nat) : Int))]) (by omega) ?_ ⟨i + 1, _, by omega, by omega, hd.step hc hi10 hoc hm, rfl, rfl⟩
            simp only [HasA, Tr.get_put, Nat.reduceEqDiff, reduceIte, and_self]
      · refine Wr <| Ofb rfl (zb (hv := bi_lss)) rfl <| On ?_
        refine W.seq <| Wn <| CWp.exit <| SQ.exit <| LQ.exit <| BQ.exit <| ?_
        refine NQ.normal (L := [(0, P0 r)]) ?_ ⟨rfl, hd.none (rd_over (by omega)), rfl⟩
        simp only [HasA, Tr.get_put, Nat.reduceEqDiff, reduceIte, and_self]
    rintro L a' g ha ⟨rfl, hnone, rfl⟩
    refine SQ.normal <| CWp.known ha ?_
    simp only [mkA]
    refine Wr <| Oa rfl sm rfl <| OSuf.call rfl (by simp only [aopnds, lk] <;> rfl) en90 (rdfail_c _ _ _ hr') ?_
    rintro _ _ ⟨rfl, rfl⟩
    refine ⟨_, rfl, ?_⟩
    refine On ?_
    refine Wr <| Oa rfl za rfl <| On ?_
    refine CWp.ret <| FQ.ret (by simp only [aRet, Try.f67, aResults, aResult, lk, Nat.reduceEqDiff, reduceIte] <;> rfl) ?_
    have e2 : numS (some l) = (0, none) := by simp only [numS, hnone]
    rw [e2]
    exact ⟨rfl, zP, by simp only [nx], fun z hz => by simp (disch := first | omega | simp only [nx]; omega) only [hpl]⟩
theorem rdtext_c (h : AHeap) (r : Nat) (s : Rdr) (hr : h.get r = some (.cells (rc s) 1)) (hl : lenS s ≤ 1000000) : FWp Try.prog 66 [P0 r] h fun u h' => u = encS (textS s).1 ∧ h'.get r = some (.cells (rc (textS s).2) 1) ∧ h'.next = h.next ∧ ∀ z, ¬ z = r → h'.get z = h.get z := by
  have hnl := numS_le s
  have hlt := numS_lt s
  refine W.enter tyOK Try.func66 rfl rfl ?_
  simp only [entry]
  have hnum := rdnum_c h r s hr hl
  cases hs : (numS s).2 with
  | none =>
    rw [hs] at hnum
    refine Wr <| Oa rfl za rfl <| On ?_
    refine Wr <| Oa rfl sm rfl <| OSuf.call rfl (by simp only [aopnds, lk] <;> rfl) en67 (hnum) ?_
    rintro _ g ⟨rfl, g1, g2, g3⟩
    have ok := rdok_c g r _ g1
    have fl := rdfail_c g r _ g1
    refine ⟨_, rfl, ?_⟩
    refine Oa rfl za rfl <| On ?_
    refine W.seq <| Wr <| Oa rfl sm rfl <| OSuf.callD rfl (by simp only [aopnds, lk] <;> rfl) en89 (ok) rfl <| Ot rfl Zt rfl rfl <| Ot rfl sm rfl rfl <| Pa ag rfl <| Pa ag rfl <| Pa ag rfl <| Pa ag rfl <| Pa ag rfl <| Pa ag rfl <| Pa ag rfl <| Pa ag rfl <| Ot rfl Zp rfl rfl <| On ?_
    refine Wy <| Wr <| Oa rfl sm rfl <| OSuf.call rfl (by simp only [aopnds, lk] <;> rfl) en90 (fl) ?_
    rintro _ _ ⟨rfl, rfl⟩
    refine ⟨_, rfl, ?_⟩
    refine On ?_
    refine Wr <| Oa rfl za rfl <| On ?_
    refine CWp.ret <| SQ.ret <| FQ.ret (by simp only [aRet, Try.f66, aResults, aResult, lk, Nat.reduceEqDiff, reduceIte] <;> rfl) ?_
    have e : textS s = ([], none) := by unfold textS; rw [hs]
    rw [e]
    exact ⟨rfl, zP, by simp only [nx, g2], fun z hz => by simp (disch := first | omega | simp only [nx]; omega) only [hpl]; exact g3 z hz⟩
  | some l =>
    rw [hs] at hnum hnl
    have hll : l.length ≤ 1000000 := Nat.le_trans hnl hl
    have e0 : (ByteArray.mk ⟨l⟩).size = l.length := rfl
    have w1 : IntKind.u64.wrap (l.length : Int) = (l.length : Int) := wr_u64 (by omega)
    by_cases hc : ((numS s).1 : Int) > (l.length : Int)
    · refine Wr <| Oa rfl za rfl <| On ?_
      refine Wr <| Oa rfl sm rfl <| OSuf.call rfl (by simp only [aopnds, lk] <;> rfl) en67 (hnum) ?_
      rintro _ g ⟨rfl, g1, g2, g3⟩
      have ok := rdok_c g r _ g1
      have fl := rdfail_c g r _ g1
      simp only [rc] at g1
      refine ⟨_, rfl, ?_⟩
      refine Oa rfl za rfl <| On ?_
      refine W.seq <| Wr <| Oa rfl sm rfl <| OSuf.callD rfl (by simp only [aopnds, lk] <;> rfl) en89 (ok) rfl <| Of rfl Zt rfl rfl <| Of rfl sm rfl rfl <| Oa ag sm rfl <| Oa ag sm rfl <| Oa ag (so_nilCheck (by simp only [lk] <;> rfl)) rfl <| Oa ag (zf (hv := fa_ok (k := 0) ty123 rfl rfl ty9 rfl rfl)) rfl <| Oa ag (zl (hv := by simp (disch := first | omega | simp only [nx]; omega) only [aLoad, ty9, rowOf, hpl, e0, g1] <;> rfl)) rfl <| Oa ag (Zn (hv := by simp (disch := first | omega | simp only [nx]; omega) only [aLenOf, ty9, hpl, e0, g1] <;> rfl)) rfl <| Oa ag (so_conw (so_conv tyOK (by simp only [lk] <;> rfl) ty3 ⟨_, rfl⟩ ty25 rfl) (by first | (simp only [w1] <;> rfl) | rfl)) rfl <| Ot ag (zb (hv := bi_gtr)) rfl (by first | rfl | assumption | ((simp only [bl, e0, g1]) <;> first | done | assumption | omega) | (simp; done) | (simp; omega)) <| Ot rfl Zp rfl rfl <| On ?_
      refine Wy <| Wr <| Oa rfl sm rfl <| OSuf.call rfl (by simp only [aopnds, lk] <;> rfl) en90 (fl) ?_
      rintro _ _ ⟨rfl, rfl⟩
      refine ⟨_, rfl, ?_⟩
      refine On ?_
      refine Wr <| Oa rfl za rfl <| On ?_
      refine CWp.ret <| SQ.ret <| FQ.ret (by simp only [aRet, Try.f66, aResults, aResult, lk, Nat.reduceEqDiff, reduceIte] <;> rfl) ?_
      have e : textS s = ([], none) := by unfold textS; simp only [hs]; rw [if_pos (by omega)]
      rw [e]
      exact ⟨rfl, zP, by simp only [nx, g2], fun z hz => by simp (disch := first | omega | simp only [nx]; omega) only [hpl]; exact g3 z hz⟩
    · refine Wr <| Oa rfl za rfl <| On ?_
      refine Wr <| Oa rfl sm rfl <| OSuf.call rfl (by simp only [aopnds, lk] <;> rfl) en67 (hnum) ?_
      rintro _ g ⟨rfl, g1, g2, g3⟩
      have ok := rdok_c g r _ g1
      simp only [rc] at g1
      refine ⟨_, rfl, ?_⟩
      refine Oa rfl za rfl <| On ?_
      refine W.seq <| Wr <| Oa rfl sm rfl <| OSuf.callD rfl (by simp only [aopnds, lk] <;> rfl) en89 (ok) rfl <| Of rfl Zt rfl rfl <| Of rfl sm rfl rfl <| Oa ag sm rfl <| Oa ag sm rfl <| Oa ag (so_nilCheck (by simp only [lk] <;> rfl)) rfl <| Oa ag (zf (hv := fa_ok (k := 0) ty123 rfl rfl ty9 rfl rfl)) rfl <| Oa ag (zl (hv := by simp (disch := first | omega | simp only [nx]; omega) only [aLoad, ty9, rowOf, hpl, e0, g1] <;> rfl)) rfl <| Oa ag (Zn (hv := by simp (disch := first | omega | simp only [nx]; omega) only [aLenOf, ty9, hpl, e0, g1] <;> rfl)) rfl <| Oa ag (so_conw (so_conv tyOK (by simp only [lk] <;> rfl) ty3 ⟨_, rfl⟩ ty25 rfl) (by first | (simp only [w1] <;> rfl) | rfl)) rfl <| Of ag (zb (hv := bi_gtr)) rfl (by first | rfl | assumption | ((simp only [bl, e0, g1]) <;> first | done | assumption | omega) | (simp; done) | (simp; omega)) <| Of rfl Zp rfl rfl <| On ?_
      refine Wn <| CWp.skip <| SQ.normal ?_
      refine Wr <| Oa rfl sm rfl <| Oa rfl (so_nilCheck (by simp only [lk] <;> rfl)) rfl <| Oa rfl (zf (hv := fa_ok (k := 0) ty123 rfl rfl ty9 rfl rfl)) rfl <| Oa rfl (zl (hv := by simp (disch := first | omega | simp only [nx]; omega) only [aLoad, ty9, rowOf, hpl, e0, g1] <;> rfl)) rfl <| Oa rfl sm rfl <| Oa rfl (so_slice (by simp only [lk] <;> rfl) (by simp only [oopnd, lk] <;> rfl) (by simp only [oopnd, lk] <;> rfl) (by simp only [oopnd, lk] <;> rfl) (sl_strh ty9 rfl (by omega))) rfl <| Oa rfl za rfl <| On ?_
      refine Wr <| Oa rfl sm rfl <| Oa rfl sm rfl <| Oa rfl (so_nilCheck (by simp only [lk] <;> rfl)) rfl <| Oa rfl (zf (hv := fa_ok (k := 0) ty123 rfl rfl ty9 rfl rfl)) rfl <| Oa rfl (zl (hv := by simp (disch := first | omega | simp only [nx]; omega) only [aLoad, ty9, rowOf, hpl, e0, g1] <;> rfl)) rfl <| Oa rfl sm rfl <| Oa rfl (so_slice (by simp only [lk] <;> rfl) (by simp only [oopnd, lk] <;> rfl) (by simp only [oopnd, lk] <;> rfl) (by simp only [oopnd, lk] <;> rfl) (sl_str ty9 rfl (by omega))) rfl <| Oa rfl (so_nilCheck (by simp only [lk] <;> rfl)) rfl <| Oa rfl (zf (hv := fa_ok (k := 0) ty123 rfl rfl ty9 rfl rfl)) rfl <| Oa rfl (zs (hv := by simp (disch := first | omega | simp only [nx]; omega) only [aStore, ty9, writeRow, hpl, e0, g1] <;> rfl)) rfl <| On ?_
      refine Wr <| Oa rfl sm rfl <| Oa rfl za rfl <| On ?_
      refine CWp.ret <| FQ.ret (by simp only [aRet, Try.f66, aResults, aResult, lk, Nat.reduceEqDiff, reduceIte] <;> rfl) ?_
      have e : textS s = (l.take (numS s).1, some (l.drop (numS s).1)) := by unfold textS; simp only [hs]; rw [if_neg (by omega)]
      rw [e]
      exact ⟨rfl, zP, by simp only [nx, g2], fun z hz => by simp (disch := first | omega | simp only [nx]; omega) only [hpl]; exact g3 z hz⟩
theorem rdnew_c (h : AHeap) (l : List UInt8) : FWp Try.prog 65 [encS l] h fun u h' => u = P0 h.next ∧ h' = h.new (.cells (rc (some l)) 1) := by
  refine W.enter tyOK Try.func65 rfl rfl ?_
  simp only [entry]
  refine Wr <| Oa rfl za rfl <| On ?_
  refine Wr <| Oa rfl sm rfl <| Oa rfl (so_build (by simp only [aparts, lk] <;> rfl) (by simp only [aBuild, ty123, Value.cells, places] <;> rfl)) rfl <| Oa rfl Zx rfl <| Oa rfl za rfl <| On ?_
  refine CWp.ret <| FQ.ret (by simp only [aRet, Try.f65, aResults, aResult, lk, Nat.reduceEqDiff, reduceIte] <;> rfl) ?_
  exact ⟨rfl, rfl⟩
theorem rdtext_e {h : AHeap} {r : Nat} {s s' : Rdr} {t : List UInt8} (hr : h.get r = some (.cells (rc s) 1)) (hl : lenS s ≤ 400000) (e : textS s = (t, s')) : FWp Try.prog 66 [P0 r] h fun u h' => u = encS t ∧ h'.get r = some (.cells (rc s') 1) ∧ h'.next = h.next ∧ ∀ z, ¬ z = r → h'.get z = h.get z := by
  have := rdtext_c h r s hr (by omega); rw [e] at this; exact this
theorem rdnum_e {h : AHeap} {r : Nat} {s s' : Rdr} {n : Nat} (hr : h.get r = some (.cells (rc s) 1)) (hl : lenS s ≤ 400000) (e : numS s = (n, s')) : FWp Try.prog 67 [P0 r] h fun u h' => u = U64 n ∧ h'.get r = some (.cells (rc s') 1) ∧ h'.next = h.next ∧ ∀ z, ¬ z = r → h'.get z = h.get z := by
  have := rdnum_c h r s hr (by omega); rw [e] at this; exact this
end Go.Proofs.Ytebheelmgcggmaa
namespace Go.Proofs.Ytebheelmgcggmaa
open Go.Ab Go.Sort
def recS (s : Rdr) : Nat × Rec × Rdr :=
  let k := textS s
  let n := numS k.2
  let d := numS n.2
  let v := textS d.2
  (d.1, ⟨k.1, n.1, ((d.1 : Int) == 1), v.1⟩, v.2)
def recsS : Nat → Rdr → List (Nat × Rec) × Rdr
  | 0, s => ([], s)
  | n + 1, s => let x := recS s; let y := recsS n x.2.2; ((x.1, x.2.1) :: y.1, y.2)
def headS (s : Rdr) : List UInt8 × List UInt8 × Nat × Nat × Rdr :=
  let a := textS s
  let b := textS a.2
  let f := numS b.2
  let n := numS f.2
  (a.1, b.1, f.1, n.1, n.2)
theorem recsS_snoc : ∀ (n : Nat) (s : Rdr), recsS (n + 1) s = ((recsS n s).1 ++ [((recS (recsS n s).2).1, (recS (recsS n s).2).2.1)], (recS (recsS n s).2).2.2)
  | 0, s => rfl
  | n + 1, s => by
    rw [recsS, recsS_snoc n]
    simp only [recsS, List.cons_append]
theorem recsS_len : ∀ (n : Nat) (s : Rdr), (recsS n s).1.length = n
  | 0, s => rfl
  | n + 1, s => by simp only [recsS, List.length_cons, recsS_len n]
theorem recsS_mem : ∀ (i n : Nat) (s : Rdr), i ≤ n → ∀ x ∈ (recsS i s).1, x ∈ (recsS n s).1
  | 0, _, s, _, x, hx => by cases hx
  | i + 1, 0, s, h, x, hx => by omega
  | i + 1, n + 1, s, h, x, hx => by
    simp only [recsS, List.mem_cons] at hx ⊢
    rcases hx with hx | hx
    · exact .inl hx
    · exact .inr (recsS_mem i n _ (by omega) x hx)
theorem recS_le (s : Rdr) : lenS (recS s).2.2 ≤ lenS s := by
  simp only [recS]
  exact Nat.le_trans (textS_le _) (Nat.le_trans (numS_le _) (Nat.le_trans (numS_le _) (textS_le _)))
theorem recsS_le : ∀ (n : Nat) (s : Rdr), lenS (recsS n s).2 ≤ lenS s
  | 0, s => Nat.le_refl _
  | n + 1, s => Nat.le_trans (recsS_le n _) (recS_le s)
theorem headS_le (s : Rdr) : lenS (headS s).2.2.2.2 ≤ lenS s := by
  simp only [headS]
  exact Nat.le_trans (numS_le _) (Nat.le_trans (numS_le _) (Nat.le_trans (textS_le _) (textS_le _)))
def leafS (l : List UInt8) : Lf := let a := headS (some l); ⟨a.1, a.2.1, a.2.2.1, (recsS a.2.2.2.1 a.2.2.2.2).1.map (·.2), []⟩
def readOK (l : List UInt8) : Bool :=
  let a := headS (some l)
  let b := recsS a.2.2.2.1 a.2.2.2.2
  decide (a.2.2.2.1 ≤ 64) && b.1.all (fun x => decide (x.1 ≤ 1)) && (endS b.2 && chk (leafS l))
def WR : Value := .iface 82 (.agg #[])
theorem must_p (h : AHeap) (b : Bool) : FWpP Try.prog 68 [.bool b] h (fun u h' => b = true ∧ u = .tuple #[] ∧ h' = h) fun pv h' => b = false ∧ pv = WR ∧ h' = h := by
  refine V.enter tyOK Try.func68 rfl rfl ?_
  simp only [entry]
  cases b with
  | true =>
    refine V.seq <| V.reg <| Otb rfl sm rfl <| Of rfl Zt rfl rfl <| OSuf.nil <| SQP.normal ?_
    refine V.no (by simp only [lk] <;> rfl) <| CWpP.skip <| FQ.normal (by simp only [aRet, Try.f68, aResults, aResult, lk, Nat.reduceEqDiff, reduceIte] <;> rfl) ?_
    exact ⟨rfl, rfl, rfl⟩
  | false =>
    refine V.seq <| V.reg <| Of rfl sm rfl rfl <| Ot rfl Zt rfl rfl <| OSuf.nil <| SQP.normal ?_
    refine V.yes (by simp only [lk] <;> rfl) <| V.regP ?_
    refine OSufP.aop tyOK rfl (so_build (by simp only [aparts, lk] <;> rfl) (by simp only [aBuild, ty82] <;> rfl)) rfl ?_
    refine OSufP.aop tyOK rfl (so_makeInterface (by simp only [lk] <;> rfl) ty82 rfl) rfl ?_
    exact OSufP.panic (pv := .agg #[]) (t := 82) (by simp only [lk] <;> rfl) rfl rfl ⟨rfl, rfl, rfl⟩
end Go.Proofs.Ytebheelmgcggmaa
namespace Go.Proofs.Ytebheelmgcggmaa
open Go.Ab Go.Sort
structure RX (h g : AHeap) (low high : List UInt8) (full : Nat) (s4 : Rdr) (i : Nat) (bv : Value) : Prop where
  q : g.get (h.next + 1) = some (.cells (rc (recsS i s4).2) 1)
  p : g.get (h.next + 2) = some (LR ⟨low, high, full, [], []⟩ bv (.slice none 0 0))
  r : g.get h.next = some (.cells zlf 1)
  s : SV g 4 (h.next + 3) (fl ((recsS i s4).1.map (·.2))) bv
  n : h.next + 3 ≤ g.next
  o : ∀ z, z < h.next → g.get z = h.get z
  d : (recsS i s4).1.all (fun x => decide (x.1 ≤ 1)) = true
theorem read_p (h : AHeap) (l : List UInt8) (hl : l.length ≤ 400000) : FWpP Try.prog 44 [encS l] h (fun u g => readOK l = true ∧ (∃ bv, u = LV (leafS l) bv (.slice none 0 0) ∧ SV g 4 (h.next + 3) (fl (leafS l).base) bv) ∧ h.next ≤ g.next ∧ ∀ z, z < h.next → g.get z = h.get z)
    fun pv g => readOK l = false ∧ pv = WR ∧ h.next ≤ g.next ∧ ∀ z, z < h.next → g.get z = h.get z := by
  have tb44 := And.intro ty26 (And.intro ty28 (And.intro ty33 (And.intro ty4 (ty9))))
  obtain ⟨low, s1, e1⟩ : ∃ a b, textS (some l) = (a, b) := ⟨_, _, rfl⟩
  obtain ⟨high, s2, e2⟩ : ∃ a b, textS s1 = (a, b) := ⟨_, _, rfl⟩
  obtain ⟨full, s3, e3⟩ : ∃ a b, numS s2 = (a, b) := ⟨_, _, rfl⟩
  obtain ⟨n, s4, e4⟩ : ∃ a b, numS s3 = (a, b) := ⟨_, _, rfl⟩
  have eH : headS (some l) = (low, high, full, n, s4) := by simp only [headS, e1, e2, e3, e4]
  have l0 : lenS (some l) ≤ 400000 := hl
  have l1 : lenS s1 ≤ 400000 := by have := textS_le (some l); rw [e1] at this; exact Nat.le_trans this l0
  have l2 : lenS s2 ≤ 400000 := by have := textS_le s1; rw [e2] at this; exact Nat.le_trans this l1
  have l3 : lenS s3 ≤ 400000 := by have := numS_le s2; rw [e3] at this; exact Nat.le_trans this l2
  have l4 : lenS s4 ≤ 400000 := by have := numS_le s3; rw [e4] at this; exact Nat.le_trans this l3
  refine V.enter tyOK Try.func44 rfl rfl ?_
  simp only [entry]
  refine V.seq <| V.reg <| Oa rfl (so_alloc (by simp only [aAlloc, ty28] <;> rfl)) rfl <| OSuf.nil <| SQP.normal ?_
  refine V.seq <| V.reg <| Oa rfl sm rfl <| OSuf.call rfl (by simp only [aopnds, lk] <;> rfl) en65 (rdnew_c _ l) ?_
  rintro _ _ ⟨rfl, rfl⟩
  refine ⟨_, rfl, ?_⟩
  refine Oa rfl za rfl <| OSuf.nil <| SQP.normal ?_
  refine V.seq <| V.reg <| Oa rfl sm rfl <| OSuf.call rfl (by simp only [aopnds, lk] <;> rfl) en66 (rdtext_e (s := some l) (zQ) l0 e1) ?_
  rintro _ g1 ⟨rfl, q1, n1, k1⟩
  refine ⟨_, rfl, ?_⟩
  refine Oa rfl sm rfl <| OSuf.call rfl (by simp only [aopnds, lk] <;> rfl) en66 (rdtext_e q1 l1 e2) ?_
  rintro _ g2 ⟨rfl, q2, n2, k2⟩
  refine ⟨_, rfl, ?_⟩
  refine Oa rfl sm rfl <| OSuf.call rfl (by simp only [aopnds, lk] <;> rfl) en67 (rdnum_e q2 l2 e3) ?_
  rintro _ g3 ⟨rfl, q3, n3, k3⟩
  simp only [nx] at n1 n2 n3 k1 k2 k3 q3
  have n3' : g3.next = h.next + 2 := by omega
  have r3 : g3.get h.next = some (.cells zlf 1) := (by rw [k3 _ (by omega), k2 _ (by omega), k1 _ (by omega)]; simp (disch := first | omega | simp only [nx]; omega) only [hpl] <;> rfl)
  have o3 : ∀ z, z < h.next → g3.get z = h.get z := fun z hz => (by rw [k3 _ (by omega), k2 _ (by omega), k1 _ (by omega)]; simp (disch := first | omega | simp only [nx]; omega) only [hpl])
  clear k1 k2 k3
  refine ⟨_, rfl, ?_⟩
  refine Oa rfl (so_build (by simp only [aparts, lk] <;> rfl) (by simp only [aBuild, ty28, Value.cells, places, tb44] <;> rfl)) rfl <| Oa rfl (so_alloc (by simp only [aAlloc, ty28] <;> rfl)) rfl <| Oa rfl (zs (hv := by simp (disch := first | omega | simp only [nx]; omega) only [aStore, ty28, writeRow, hpl, Value.cells] <;> rfl)) rfl <| OSuf.nil <| SQP.normal ?_
  refine V.seq <| V.reg <| Oa rfl sm rfl <| OSuf.call rfl (by simp only [aopnds, lk] <;> rfl) en67 (rdnum_e (by simp (disch := first | omega | simp only [nx]; omega) only [hpl]; exact q3) l3 e4) ?_
  rintro _ g4 ⟨rfl, q4, n4, k4⟩
  simp only [nx] at n4 k4 q4
  have n4' : g4.next = h.next + 3 := by omega
  have p4 : g4.get (h.next + 2) = some (LR ⟨low, high, full, [], []⟩ (.slice none 0 0) (.slice none 0 0)) := (by rw [k4 _ (by omega), show h.next + 2 = g3.next by omega]; simp (disch := first | omega | simp only [nx]; omega) only [hpl] <;> rfl)
  have r4 : g4.get h.next = some (.cells zlf 1) := (by rw [k4 _ (by omega)]; simp (disch := first | omega | simp only [nx]; omega) only [hpl]; exact r3)
  have o4 : ∀ z, z < h.next → g4.get z = h.get z := fun z hz => (by rw [k4 _ (by omega)]; simp (disch := first | omega | simp only [nx]; omega) only [hpl]; exact o3 z hz)
  clear k4 o3 r3
  refine ⟨_, rfl, ?_⟩
  refine Oa rfl za rfl <| OSuf.nil <| SQP.normal ?_
  refine V.seq <| V.regP <| OSufP.aop tyOK rfl sm rfl <| OSufP.aop tyOK rfl (zb (hv := bi_leq)) rfl <| OSufP.callP rfl (by simp only [aopnds, lk] <;> rfl) en68 ((must_p _ _).monoJ (by rintro pv g ⟨hb, rfl, rfl⟩; exact ⟨(by simp only [decide_eq_false_iff_not] at hb; simp only [readOK, eH]; rw [decide_eq_false (by omega)]; rfl), rfl, by omega, o4⟩)) ?_
  rintro _ _ ⟨hb, rfl, rfl⟩
  refine ⟨_, rfl, ?_⟩
  refine OSufP.nil <| SQP.normal ?_
  refine V.seq <| V.seq <| V.reg <| Oa rfl sm rfl <| Oa rfl sm rfl <| OSuf.nil <| SQP.normal ?_
  have hn : n ≤ 64 := by simp only [decide_eq_true_eq] at hb; omega
  have hle := recsS_len
  refine V.cut (fun L g => ∃ bv, RX h g low high full s4 n bv ∧ L = [(2, P0 h.next), (3, P0 (h.next + 1)), (4, P0 (h.next + 2))]) (V.block (V.loop (fun m L g => ∃ (i : Nat) (bv : Value), m + i = n ∧ RX h g low high full s4 i bv ∧ L = [(2, P0 h.next), (3, P0 (h.next + 1)), (4, P0 (h.next + 2)), (22, U64 n), (23, U64 i)]) (n := n) (L := [(2, P0 h.next), (3, P0 (h.next + 1)), (4, P0 (h.next + 2)), (22, U64 n), (23, U64 ((0 : Nat) : Int))]) ⟨0, .slice none 0 0, rfl, ⟨q4, p4, r4, .nil, by omega, o4, rfl⟩, rfl⟩ ?_ ?_)) ?_
  · simp [HasA, Tr.get_put, n3']
  · rintro m L g ⟨i, bv, hm, X, rfl⟩
    simp only [mkA]
    obtain ⟨x1, x2, x3, x4, x5, x6, x7⟩ := X
    by_cases hi : (i : Int) < (n : Int)
    · have hi' : i < n := by omega
      obtain ⟨b, rfl⟩ := sv_form x4
      generalize hst : (recsS i s4).2 = st at x1
      obtain ⟨key, ra, ek⟩ : ∃ a b, textS st = (a, b) := ⟨_, _, rfl⟩
      obtain ⟨lsn, rb, en⟩ : ∃ a b, numS ra = (a, b) := ⟨_, _, rfl⟩
      obtain ⟨del, rd, ed⟩ : ∃ a b, numS rb = (a, b) := ⟨_, _, rfl⟩
      obtain ⟨val, re, ev⟩ : ∃ a b, textS rd = (a, b) := ⟨_, _, rfl⟩
      have m0 : lenS st ≤ 400000 := by rw [← hst]; exact Nat.le_trans (recsS_le i s4) l4
      have m1 : lenS ra ≤ 400000 := by have := textS_le st; rw [ek] at this; exact Nat.le_trans this m0
      have m2 : lenS rb ≤ 400000 := by have := numS_le ra; rw [en] at this; exact Nat.le_trans this m1
      have m3 : lenS rd ≤ 400000 := by have := numS_le rb; rw [ed] at this; exact Nat.le_trans this m2
      have eR : recS st = (del, ⟨key, lsn, ((del : Int) == 1), val⟩, re) := by simp only [recS, ek, en, ed, ev]
      have eS : recsS (i + 1) s4 = ((recsS i s4).1 ++ [(del, ⟨key, lsn, ((del : Int) == 1), val⟩)], re) := by rw [recsS_snoc, hst, eR]
      have w2 : IntKind.u64.wrap ((i : Int) + 1) = ((i + 1 : Nat) : Int) := by
        have := wr_u64 (n := i + 1) (by omega); simpa using this
      have hbad : 1 < del → readOK l = false := fun h9 => by
        have hmem : (recsS n s4).1.all (fun x => decide (x.1 ≤ 1)) = false := by
          rw [← Bool.not_eq_true, List.all_eq_true]
          intro hall
          have := recsS_mem (i + 1) n s4 (by omega) (del, ⟨key, lsn, ((del : Int) == 1), val⟩) (by rw [eS]; simp)
          have := hall _ this
          simp only [decide_eq_true_eq] at this; omega
        simp only [readOK, eH]; rw [hmem]; simp
      refine V.seq <| V.reg <| Ot rfl (zb (hv := bi_lss)) rfl (by first | rfl | assumption | ((simp only [bl, Value.cells, places, tb44]) <;> first | done | assumption | omega) | (simp; done) | (simp; omega)) <| OSuf.nil <| SQP.normal ?_
      refine V.seq <| V.yes (by simp only [lk] <;> rfl) <| CWpP.skip <| SQP.normal ?_
      refine V.seq <| V.block <| V.seq <| V.reg <| Oa rfl sm rfl <| OSuf.call rfl (by simp only [aopnds, lk] <;> rfl) en66 (rdtext_e x1 m0 ek) ?_
      rintro _ f1 ⟨rfl, a1, c1, j1⟩
      refine ⟨_, rfl, ?_⟩
      refine Oa rfl sm rfl <| OSuf.call rfl (by simp only [aopnds, lk] <;> rfl) en67 (rdnum_e a1 m1 en) ?_
      rintro _ f2 ⟨rfl, a2, c2, j2⟩
      refine ⟨_, rfl, ?_⟩
      refine Oa rfl (so_build (by simp only [aparts, lk] <;> rfl) (by simp only [aBuild, ty33, Value.cells, places, tb44] <;> rfl)) rfl <| Oa rfl (so_alloc (by simp only [aAlloc, ty33] <;> rfl)) rfl <| Oa rfl (zs (hv := by simp (disch := first | omega | simp only [nx]; omega) only [aStore, ty33, writeRow, hpl, Value.cells] <;> rfl)) rfl <| OSuf.nil <| SQP.normal ?_
      refine V.seq <| V.reg <| Oa rfl sm rfl <| OSuf.call rfl (by simp only [aopnds, lk] <;> rfl) en67 (rdnum_e (by simp (disch := first | omega | simp only [nx]; omega) only [hpl]; exact a2) m2 ed) ?_
      rintro _ f3 ⟨rfl, a3, c3, j3⟩
      simp only [nx] at c3
      have y3 : f3.get f2.next = some (.cells [encS key, U64 lsn, .bool false, encS [] ] 1) := (by rw [j3 _ (by omega)]; simp (disch := first | omega | simp only [nx]; omega) only [hpl] <;> rfl)
      have p3 : ∀ z, z < h.next → f3.get z = h.get z := fun z hz => (by rw [j3 _ (by omega)]; simp (disch := first | omega | simp only [nx]; omega) only [hpl]; rw [j2 _ (by omega), j1 _ (by omega)]; exact x6 z hz)
      refine ⟨_, rfl, ?_⟩
      refine Oa rfl za rfl <| OSuf.nil <| SQP.normal ?_
      refine V.seq <| V.regP <| OSufP.aop tyOK rfl sm rfl <| OSufP.aop tyOK rfl (zb (hv := bi_leq)) rfl <| OSufP.callP rfl (by simp only [aopnds, lk] <;> rfl) en68 ((must_p _ _).monoJ (by rintro pv g9 ⟨hb, rfl, rfl⟩; exact ⟨hbad (by simp only [decide_eq_false_iff_not] at hb; omega), rfl, by omega, p3⟩)) ?_
      rintro _ _ ⟨hb, rfl, rfl⟩
      refine ⟨_, rfl, ?_⟩
      refine OSufP.nil <| SQP.normal ?_
      refine V.seq <| V.reg <| Oa rfl sm rfl <| Oa rfl (zb (hv := bi_eql)) rfl <| Oa rfl sm rfl <| OSuf.call rfl (by simp only [aopnds, lk] <;> rfl) en66 (rdtext_e a3 m3 ev) ?_
      rintro _ f4 ⟨rfl, a4, c4, j4⟩
      have y4 : f4.get f2.next = some (.cells [encS key, U64 lsn, .bool false, encS [] ] 1) := (by rw [j4 _ (by omega)]; exact y3)
      have z2 : f4.get (h.next + 2) = some (LR ⟨low, high, full, [], []⟩ (.slice b ((recsS i s4).1.map (·.2)).length 0) (.slice none 0 0)) := (by rw [j4 _ (by omega), j3 _ (by omega)]; simp (disch := first | omega | simp only [nx]; omega) only [hpl]; rw [j2 _ (by omega), j1 _ (by omega)]; exact x2)
      have zk : ∀ z, z < g.next → ¬ z = h.next + 1 → f4.get z = g.get z := fun z hz hne => (by rw [j4 _ hne, j3 _ hne]; simp (disch := first | omega | simp only [nx]; omega) only [hpl]; rw [j2 _ hne, j1 _ hne])
      obtain ⟨v', G, ap1, ap2, ap3, ap4, ap5⟩ := sv_oneR (g := (f4.set f2.next (.cells [encS key, U64 lsn, .bool ((del : Int) == 1), encS [] ] 1)).set f2.next (.cells [encS key, U64 lsn, .bool ((del : Int) == 1), encS val] 1)) (x4.mono (by simp only [nx]; omega) (fun z hz he => by have := x4.row he; simp (disch := first | omega | simp only [nx]; omega) only [hpl]; exact zk z hz (by omega))) ⟨key, lsn, ((del : Int) == 1), val⟩ (by simp [recsS_len]; omega) (by simp only [nx]; omega)
      obtain ⟨b', rfl⟩ := sv_form ap2
      simp only [nx] at ap3 ap4
      have nv : ∀ z, z < h.next + 3 → ¬ svRow (.slice b ((recsS i s4).1.map (·.2)).length 0) = some z := fun z hz e => (by have := x4.row e; omega)
      have Gz2 : G.get (h.next + 2) = some (LR ⟨low, high, full, [], []⟩ (.slice b ((recsS i s4).1.map (·.2)).length 0) (.slice none 0 0)) := (by rw [ap4 _ (by omega) (nv _ (by omega))]; simp (disch := first | omega | simp only [nx]; omega) only [hpl]; exact z2)
      refine ⟨_, rfl, ?_⟩
      refine Oa rfl (zf (hv := fa_ok (k := 2) ty33 rfl rfl ty4 rfl rfl)) rfl <| Oa rfl (zs (hv := by simp (disch := first | omega | simp only [nx]; omega) only [aStore, ty4, writeRow, hpl, Value.cells, y4, z2, Gz2, rcl] <;> rfl)) rfl <| Oa rfl (zf (hv := fa_ok (k := 3) ty33 rfl rfl ty9 rfl rfl)) rfl <| Oa rfl (zs (hv := by simp (disch := first | omega | simp only [nx]; omega) only [aStore, ty9, writeRow, hpl, Value.cells, y4, z2, Gz2, rcl] <;> rfl)) rfl <| OSuf.nil <| SQP.normal ?_
      refine V.reg <| Oa rfl (zf (hv := fa_ok (k := 3) ty28 rfl rfl ty26 rfl rfl)) rfl <| Oa rfl (zl (hv := by simp (disch := first | omega | simp only [nx]; omega) only [aLoad, ty26, rowOf, hpl, Value.cells, y4, z2, Gz2, rcl] <;> rfl)) rfl <| Oa rfl (zl (hv := by simp (disch := first | omega | simp only [nx]; omega) only [aLoad, ty33, rowOf, hpl, Value.cells, y4, z2, Gz2, rcl] <;> rfl)) rfl <| Oa rfl (so_buildSlice (by simp only [aparts, lk] <;> rfl) (by simp only [aBuildSlice, ty26, ty33, Value.cells, places, tb44, y4, z2, Gz2, rcl] <;> rfl)) rfl <| Oa rfl (so_append (by simp only [aopnds, lk] <;> rfl) (ap1 _ _ (by simp only [appT, ty26, ty33] <;> rfl) rfl (by decide))) rfl <| Oa rfl (zf (hv := fa_ok (k := 3) ty28 rfl rfl ty26 rfl rfl)) rfl <| Oa rfl (zs (hv := by simp (disch := first | omega | simp only [nx]; omega) only [aStore, ty26, writeRow, hpl, Value.cells, y4, z2, Gz2, rcl] <;> rfl)) rfl <| OSuf.nil <| BQ.normal <| SQP.normal ?_
      refine V.reg <| Oa rfl (zb (hv := bi_w bi_add (by first | (simp only [w2] <;> rfl) | rfl))) rfl <| Oa rfl sm rfl <| OSuf.nil <| ?_
      have hdel : del ≤ 1 := by simp only [decide_eq_true_eq] at hb; omega
      refine LQ.normal (m := m - 1) (L := [(2, P0 h.next), (3, P0 (h.next + 1)), (4, P0 (h.next + 2)), (22, U64 n), (23, U64 ((i + 1 : Nat) : Int))]) (by omega) ?_ ⟨i + 1, .slice b' _ 0, by omega, ⟨?_, zP, ?_, ?_, by simp only [nx]; omega, fun z hz => ?_, ?_⟩, rfl⟩
      · simp only [HasA, Tr.get_put, Nat.reduceEqDiff, reduceIte, and_self]
      · rw [eS, zS (by omega), ap4 _ (by omega) (nv _ (by omega))]; simp (disch := first | omega | simp only [nx]; omega) only [hpl]; exact a4
      · rw [zS (by omega), ap4 _ (by omega) (nv _ (by omega))]; simp (disch := first | omega | simp only [nx]; omega) only [hpl]; rw [zk _ (by omega) (by omega)]; exact x3
      · rw [eS, List.map_append]
        exact ap2.mono (by simp only [nx]; omega) (fun z hz he => zS (by have := ap2.row he; omega))
      · rw [zS (by omega), ap4 _ (by omega) (nv _ (by omega))]; simp (disch := first | omega | simp only [nx]; omega) only [hpl]; rw [zk _ (by omega) (by omega)]; exact x6 z hz
      · rw [eS, List.all_append, x7]; simp [hdel]
    · have : i = n := by omega
      subst this
      refine V.seq <| V.reg <| Ofb rfl (zb (hv := bi_lss)) rfl <| OSuf.nil <| SQP.normal ?_
      refine V.seq <| V.no (by simp only [lk] <;> rfl) <| CWpP.exit <| SQP.exit <| LQ.exit <| BQ.exit <| ?_
      refine NQ.normal (L := [(2, P0 h.next), (3, P0 (h.next + 1)), (4, P0 (h.next + 2))]) ?_ ⟨bv, ⟨x1, x2, x3, x4, x5, x6, x7⟩, rfl⟩
      simp only [HasA, Tr.get_put, Nat.reduceEqDiff, reduceIte, and_self]
  rintro L a' g ha ⟨bv, ⟨x1, x2, x3, x4, x5, x6, x7⟩, rfl⟩
  have ee := rdend_c g _ _ x1
  have hL : leafS l = ⟨low, high, full, (recsS n s4).1.map (·.2), []⟩ := by simp only [leafS, eH]
  have hR : readOK l = (endS (recsS n s4).2 && chk (leafS l)) := by simp only [readOK, eH]; rw [x7, decide_eq_true hn]; rfl
  obtain ⟨b, rfl⟩ := sv_form x4
  cases he : endS (recsS n s4).2 with
  | false =>
    rw [he] at ee hR
    refine SQP.normal <| CWpP.known ha ?_
    simp only [mkA]
    refine V.seq <| V.regP <| OSufP.aop tyOK rfl sm rfl <| OSufP.callD rfl (by simp only [aopnds, lk] <;> rfl) en69 (ee) rfl <| OSufP.aopF tyOK rfl sm (fun _ => rfl) rfl <| OSufP.pass ag rfl <| OSufP.pass ag rfl <| OSufP.aopF tyOK rfl Zp (fun _ => rfl) rfl <| OSufP.callP rfl (by simp only [aopnds, lk] <;> rfl) en68 ((must_p _ _).monoJ (by rintro pv g ⟨hb, rfl, rfl⟩; exact ⟨by rw [hR]; rfl, rfl, by omega, x6⟩)) ?_
    rintro _ _ ⟨hb, rfl, rfl⟩
    refine ⟨_, rfl, ?_⟩
    refine OSufP.nil <| SQP.normal ?_
    refine V.seq <| V.reg <| Oa rfl (zl (hv := by simp (disch := first | omega | simp only [nx]; omega) only [aLoad, ty28, rowOf, hpl, x2, x3, Value.cells] <;> rfl)) rfl <| Oa rfl (zs (hv := by simp (disch := first | omega | simp only [nx]; omega) only [aStore, ty28, writeRow, hpl, x2, x3, Value.cells] <;> rfl)) rfl <| OSuf.nil <| SQP.normal ?_
    refine CWpP.ret <| FQ.ret (by simp (disch := first | omega | simp only [nx]; omega) only [aRet, Try.f44, aResults, aResult, lk, Nat.reduceEqDiff, reduceIte, aLoad, rowOf, hpl, x2, x3, Value.cells, places, tb44] <;> rfl) ?_
    cases hb
  | true =>
    rw [he] at ee hR
    have hmay := may'_c g (leafS l) (.slice b ((recsS n s4).1.map (·.2)).length 0) (.slice none 0 0) (by rw [hL]; exact sv_rs x4) ⟨⟨_, _, by rw [hL]; rfl, .inl ⟨rfl, by rw [hL]; rfl, rfl⟩⟩⟩ (by rw [hL]; simp [recsS_len]; omega) (by rw [hL]; simp)
    have x2' : g.get (h.next + 2) = some (LR (leafS l) (.slice b ((recsS n s4).1.map (·.2)).length 0) (.slice none 0 0)) := by rw [hL]; exact x2
    have x3' : g.get h.next = some (.cells [encS [], encS [], U64 0, .slice none 0 0, .slice none 0 0] 1) := x3
    refine SQP.normal <| CWpP.known ha ?_
    simp only [mkA]
    refine V.seq <| V.regP <| OSufP.aop tyOK rfl sm rfl <| OSufP.callD rfl (by simp only [aopnds, lk] <;> rfl) en69 (ee) rfl <| OSufP.aopT tyOK rfl sm (fun _ => rfl) rfl <| OSufP.aop tyOK ag (zl (hv := by simp (disch := first | omega | simp only [nx]; omega) only [aLoad, ty28, rowOf, hpl, x2', x3', Value.cells] <;> rfl)) rfl <| OSufP.callD ag (by simp only [aopnds, lk] <;> rfl) en25 (hmay) rfl <| OSufP.aop tyOK rfl Zp rfl <| OSufP.callP rfl (by simp only [aopnds, lk] <;> rfl) en68 ((must_p _ _).monoJ (by rintro pv g ⟨hb, rfl, rfl⟩; exact ⟨by rw [hR, hb]; rfl, rfl, by omega, x6⟩)) ?_
    rintro _ _ ⟨hb, rfl, rfl⟩
    refine ⟨_, rfl, ?_⟩
    refine OSufP.nil <| SQP.normal ?_
    refine V.seq <| V.reg <| Oa rfl (zl (hv := by simp (disch := first | omega | simp only [nx]; omega) only [aLoad, ty28, rowOf, hpl, x2', x3', Value.cells] <;> rfl)) rfl <| Oa rfl (zs (hv := by simp (disch := first | omega | simp only [nx]; omega) only [aStore, ty28, writeRow, hpl, x2', x3', Value.cells] <;> rfl)) rfl <| OSuf.nil <| SQP.normal ?_
    refine CWpP.ret <| FQ.ret (by simp (disch := first | omega | simp only [nx]; omega) only [aRet, Try.f44, aResults, aResult, lk, Nat.reduceEqDiff, reduceIte, aLoad, rowOf, hpl, x2', x3', Value.cells, places, tb44] <;> rfl) ?_
    refine ⟨by rw [hR, hb]; rfl, ⟨_, rfl, ?_⟩, by simp only [nx]; omega, fun z hz => by simp (disch := first | omega | simp only [nx]; omega) only [hpl]; exact x6 z hz⟩
    rw [hL]
    exact x4.mono (by simp) (fun z hz he => zS (by have := x4.row he; omega))
end Go.Proofs.Ytebheelmgcggmaa
namespace Go.Proofs.Ytebheelmgcggmaa
open Go.Ab Go.Sort
section
variable {ρ : Operand → Option Value} {dst : Option Tmp} {ty : TypeId} {pos : String} {af : Array Edge} {g : Option (Nat × Bool)} {x y : Operand} {h : AHeap} {t : TypeId} {v : Value}
theorem op_neqi (hx : ρ x = some (.iface t v)) (hv : flat v = true) (hy : ρ y = some .nilIface) : OpWp Try.prog ⟨dst, .binOp .neq 20 x y 20, ty, pos, af, g⟩ ρ h fun u h' => u = .bool true ∧ h' = h := by
  intro μ ρ' w c cs hρ st
  have e1 : ρ' x = .iface t v := by
    have := hρ x _ hx
    cases hz : ρ' x <;> rw [hz] at this <;> cases this
    rename_i h2; rw [h2.flat_eq hv]
  have e2 : ρ' y = .nilIface := by
    have := hρ y _ hy
    cases hz : ρ' y <;> rw [hz] at this <;> first | rfl | cases this
  refine ⟨.value (.bool true), w, _, .bool true, .bool true, h, μ, w, ?_, rfl, .refl _ _, ⟨rfl, rfl⟩, Ext.refl st, .bool true⟩
  have hu := Go.Ab.run_underlying tyOK ty20 w
  have h1 : (eqGuard .neq 20 x y (.iface t v) .nilIface).run Try.prog w = .ok () w := rfl
  have h2 : (Op.equal 20 (.iface t v) .nilIface).run Try.prog w = .ok false w := by
    show (Op.equalIn (Op.maxDepth - 1 + 1) 20 (.iface t v) .nilIface).run Try.prog w = .ok false w
    rw [Op.equalIn]
    simp only [Sem.run_bind, hu, Result.andThen_ok]
    rfl
  have h3 : (binOp .neq 20 (.iface t v) .nilIface).run Try.prog w = .ok (.bool true) w := by
    show (do pure (.bool (!(← Op.equal 20 (.iface t v) .nilIface))) : Sem Value).run Try.prog w = _
    simp only [Sem.run_bind, h2, Result.andThen_ok, Sem.run_pure]; rfl
  show (do pure (.value (← (do eqGuard .neq 20 x y (ρ' x) (ρ' y); binOp .neq 20 (ρ' x) (ρ' y)))) : Sem Next).run Try.prog w = _
  simp only [e1, e2, Sem.run_bind, h1, h3, Result.andThen_ok, Sem.run_pure]
theorem op_ta {ti : TI} (hx : ρ x = some (.iface t v)) (hv : flat v = true) (ht : T.get t = some ti) (hi : isIface ti.und = false) {t0 : TypeId} : OpWp Try.prog ⟨dst, .typeAssert x t0 t true, ty, pos, af, g⟩ ρ h fun u h' => u = .tuple #[v, .bool true] ∧ h' = h := by
  intro μ ρ' w c cs hρ st
  have e1 : ρ' x = .iface t v := by
    have := hρ x _ hx
    cases hz : ρ' x <;> rw [hz] at this <;> cases this
    rename_i h2; rw [h2.flat_eq hv]
  refine ⟨.value (.tuple #[v, .bool true]), w, _, .tuple #[v, .bool true], .tuple #[v, .bool true], h, μ, w, ?_, rfl, .refl _ _, ⟨rfl, rfl⟩, Ext.refl st, .tuple (.cons (.of_flat _ _ hv) (.cons (.bool true) .nil))⟩
  have hu := Go.Ab.run_underlying tyOK ht w
  have : (Instr.typeAssert (.iface t v) t0 t true).run Try.prog w = .ok (.tuple #[v, .bool true]) w := by
    unfold Instr.typeAssert
    simp only [Sem.run_bind, hu, Result.andThen_ok]
    cases hd : ti.und <;> rw [hd] at hi <;> first | (cases hi; done) | simp
  simp [execOp, e1, this]
end
theorem GWp.ofa {P : Program} {b : Frame} {D : List Deferred} {nt : Nat} {J : Tr Value → Value → AHeap → Prop} {ops : Array Oper} {o : Oper} {os : List Oper} {a a1 : Tr Value} {h : AHeap} {v : Value} {R : Tr Value → AHeap → Prop} (hg : aguard ops a o = some true) (ho : OpWp P o (aopnd a) h fun u h' => u = v ∧ h' = h) (hp : aput nt a o.dst v = some a1) (t : GSuf P b D nt J ops os a1 h R) : GSuf P b D nt J ops (o :: os) a h R :=
  GSuf.op hg (.of (ho.mono fun u h' hk => by obtain ⟨rfl, rfl⟩ := hk; exact ⟨a1, hp, t⟩))
theorem st_nil (h : AHeap) : aStore T 82 (P0 h.next) (.agg #[]) (h.new (.cells [] 1)) = some ((h.new (.cells [] 1)).set h.next (.cells [] 1)) := by
  have e : (bif Nat.beq (Value.cells (.agg #[])).size 0 then writeRow (h.new (.cells [] 1)) h.next 0 (Value.cells (.agg #[])).toList else none) = some ((h.new (.cells [] 1)).set h.next (.cells [] 1)) := by
    show writeRow (h.new (.cells [] 1)) h.next 0 [] = _
    simp only [writeRow, AHeap.get_new_same]
    rfl
  simp only [aStore, ty82]
  exact e
theorem DefWp.mono {P : Program} {g : FuncId} {caps : List Value} {h : AHeap} {u u' : FrameMode} {K K' : AHeap → Prop} (hd : DefWp P g caps h u u' K) (hk : ∀ g, K g → K' g) : DefWp P g caps h u u' K' :=
  fun μ c' w h1 h2 c cs hu => let ⟨v, h', μ', w', fr, a, r⟩ := hd μ c' w h1 h2 c cs hu; ⟨v, h', μ', w', fr, hk _ a, r⟩
theorem SV.low {h : AHeap} {sz lo lo' : Nat} {vs : List Value} {v : Value} (s : SV h sz lo vs v) (hl : lo' ≤ lo) : SV h sz lo' vs v := by
  cases s with
  | nil => exact .nil
  | some h1 h2 h3 h4 h5 => exact .some h1 (by omega) h3 h4 h5
theorem rec_no (h : AHeap) (q1 q2 : Value) : DefWp Try.prog 43 [q1, q2] h .returning .returning fun g => g = h := by
  refine DefWp.code (rv := .nilIface) Try.func43 rfl rfl (Nat.le_of_ble_eq_true rfl) (by decide) (by decide) (.inl ⟨rfl, rfl, rfl⟩) fun b => ?_
  simp only [entry]
  refine GWp.seq <| GWp.reg <| GSuf.aop tyOK rfl sm rfl <| GSuf.aop tyOK rfl (v := .bool false) (zb (hv := by simp only [aBin] <;> rfl)) rfl <| GSuf.nil ?_
  refine GWp.cond (t := false) (by simp only [lk] <;> rfl) <| GWp.skip rfl
theorem rec_yes (h : AHeap) (p q : Nat) (vs : List Value) (e : Value) (hp : h.get p = some (.cells vs 1)) (hv : vs.length = 5) (hq : h.get q = some (.cells [e] 1)) (hpq : ¬ p = q) (hp1 : p < h.next) (hq1 : q < h.next) :
    DefWp Try.prog 43 [P0 p, P0 q] h (.panicking (pe WR)) (.panicking [{ v := WR, recovered := true }]) fun g => g.get p = some (.cells zlf 1) ∧ g.get q = some (.cells [I64 4] 1) ∧ g.next = h.next + 1 ∧ ∀ z, z < h.next → ¬ z = p → ¬ z = q → g.get z = h.get z := by
  refine DefWp.code (rv := WR) Try.func43 rfl rfl (Nat.le_of_ble_eq_true rfl) (by decide) (by decide) (.inr ⟨_, _, rfl, rfl, rfl, rfl⟩) fun b => ?_
  simp only [entry, WR]
  refine GWp.seq <| GWp.reg <| GSuf.aop tyOK rfl sm rfl <| GWp.ofa rfl (op_neqi (by simp only [lk] <;> rfl) rfl (by simp only [lk] <;> rfl)) rfl <| GSuf.nil ?_
  refine GWp.cond (t := true) (by simp only [lk] <;> rfl) ?_
  refine GWp.seq <| GWp.seq <| GWp.reg ?_
  refine GSuf.aop tyOK rfl sm rfl ?_
  refine GWp.ofa rfl (op_ta (by simp only [lk] <;> rfl) rfl ty82 rfl) rfl ?_
  refine GSuf.aop tyOK rfl sm rfl ?_
  refine GSuf.aop tyOK rfl (ze (hv := rfl)) rfl ?_
  refine GSuf.aop tyOK rfl (ze (hv := rfl)) rfl ?_
  refine GSuf.aop tyOK rfl (so_alloc (by simp only [aAlloc, ty82] <;> rfl)) rfl ?_
  refine GSuf.aop tyOK rfl (zs (hv := st_nil h)) rfl ?_
  refine GSuf.aop tyOK rfl za rfl <| GSuf.nil <| GWp.seq <| GWp.reg <| GSuf.aop tyOK rfl sm rfl <| GSuf.aop tyOK rfl Zt rfl <| GSuf.nil ?_
  refine GWp.cond (t := false) (by simp only [lk] <;> rfl) <| GWp.skip <| GWp.reg ?_
  have n1 : ((h.new (.cells [] 1)).set h.next (.cells [] 1)).get p = some (.cells vs 1) := by simp (disch := first | omega | simp only [nx]; omega) only [hpl]; exact hp
  obtain ⟨v1, v2, v3, v4, v5, rfl⟩ : ∃ a b c d e, vs = [a, b, c, d, e] := by
    match vs, hv with
    | [a, b, c, d, e], _ => exact ⟨a, b, c, d, e, rfl⟩
  refine GSuf.aop tyOK rfl (so_build (by simp only [aparts, lk] <;> rfl) (by simp only [aBuild, ty28] <;> rfl)) rfl ?_
  refine GSuf.aop tyOK rfl (zs (hv := by simp (disch := first | omega | simp only [nx]; omega) only [aStore, ty28, writeRow, n1, Value.cells] <;> rfl)) rfl ?_
  have n2 : ∀ o, (((h.new (.cells [] 1)).set h.next (.cells [] 1)).set p o).get q = some (.cells [e] 1) := fun o => by simp (disch := first | omega | simp only [nx]; omega) only [hpl]; exact hq
  refine GSuf.aop tyOK rfl (zs (hv := by simp (disch := first | omega | simp only [nx]; omega) only [aStore, ty41, writeRow, n2, Value.cells] <;> rfl)) rfl <| GSuf.nil ?_
  refine ⟨?_, zP, by simp only [nx], fun z hz h1 h2 => by simp (disch := first | omega | simp only [nx]; omega) only [hpl]⟩
  rw [zS (by omega)]
  exact zP
end Go.Proofs.Ytebheelmgcggmaa
namespace Go.Proofs.Ytebheelmgcggmaa
open Go.Ab Go.Sort
abbrev LZ : Value := .agg #[encS [], encS [], U64 0, .slice none 0 0, .slice none 0 0]
theorem parse_c (h : AHeap) (l : List UInt8) (hl : l.length ≤ 400000) : FWp Try.prog 19 [encS l] h fun u g =>
    ((readOK l = true ∧ ∃ bv, u = .tuple #[LV (leafS l) bv (.slice none 0 0), I64 0] ∧ SV g 4 h.next (fl (leafS l).base) bv) ∨ (readOK l = false ∧ u = .tuple #[LZ, I64 4])) ∧ h.next ≤ g.next ∧ ∀ z, z < h.next → g.get z = h.get z := by
  refine FWp.guard tyOK Try.func19 rfl en43 (Nat.le_of_ble_eq_true rfl) (by decide) fun b => ?_
  simp only [entry]
  refine GWp.reg <| GSuf.aop tyOK rfl (so_alloc (by simp only [aAlloc, ty28] <;> rfl)) rfl <| GSuf.aop tyOK rfl (so_alloc (by simp only [aAlloc, ty41] <;> rfl)) rfl <| GSuf.nil ⟨_, (by simp only [aopnds, lk] <;> rfl), fun D => ?_⟩
  refine GWp.reg <| GSuf.aop tyOK rfl sm rfl ?_
  have hr := read_p ((h.new (.cells (Value.cells LZ).toList 1)).new (.cells (Value.cells (I64 0)).toList 1)) l hl
  refine GSuf.op rfl ((OpWpP.fcall rfl (by simp only [aopnds, lk] <;> rfl) en44 (hr.monoJ ?_)).mono ?_)
  · rintro pv g ⟨h1, rfl, h2, h3⟩
    simp only [nx] at h2 h3
    refine DefWp.mono (rec_yes g h.next (h.next + 1) _ _ (by rw [h3 _ (by omega)]; simp (disch := first | omega | simp only [nx]; omega) only [hpl] <;> rfl) rfl (by rw [h3 _ (by omega)]; simp (disch := first | omega | simp only [nx]; omega) only [hpl] <;> rfl) (by omega) (by omega) (by omega)) ?_
    rintro g4 ⟨k1, k2, k3, k4⟩
    have k1' : g4.get h.next = some (.cells [encS [], encS [], U64 0, .slice none 0 0, .slice none 0 0] 1) := k1
    refine ⟨_, (by simp (disch := first | omega | simp only [nx]; omega) only [aRet, Try.f19, aResults, aResult, lk, Nat.reduceEqDiff, reduceIte, aLoad, rowOf, hpl, k1', k2, ty28, ty41, Value.cells] <;> rfl), .inr ⟨h1, rfl⟩, by omega, fun z hz => ?_⟩
    rw [k4 z (by omega) (by omega) (by omega), h3 z (by omega)]; simp (disch := first | omega | simp only [nx]; omega) only [hpl]
  · rintro u g ⟨h1, ⟨bv, rfl, hs⟩, h2, h3⟩
    simp only [nx] at h2 h3 hs
    refine ⟨_, rfl, ?_⟩
    have k1 : g.get h.next = some (.cells [encS [], encS [], U64 0, .slice none 0 0, .slice none 0 0] 1) := by rw [h3 _ (by omega)]; simp (disch := first | omega | simp only [nx]; omega) only [hpl] <;> rfl
    have k2 : g.get (h.next + 1) = some (.cells [I64 0] 1) := by rw [h3 _ (by omega)]; simp (disch := first | omega | simp only [nx]; omega) only [hpl] <;> rfl
    obtain ⟨b, rfl⟩ := sv_form hs
    refine GSuf.aop tyOK rfl (zs (hv := by simp (disch := first | omega | simp only [nx]; omega) only [aStore, ty28, writeRow, k1, Value.cells] <;> rfl)) rfl ?_
    have k2' : ∀ o, (g.set h.next o).get (h.next + 1) = some (.cells [I64 0] 1) := fun o => by simp (disch := first | omega | simp only [nx]; omega) only [hpl]; exact k2
    refine GSuf.aop tyOK rfl (zs (hv := by simp (disch := first | omega | simp only [nx]; omega) only [aStore, ty41, writeRow, nx, k2', Value.cells] <;> rfl)) rfl <| GSuf.nil ?_
    refine DefWp.mono (rec_no _ _ _) ?_
    rintro g4 rfl
    refine ⟨_, (by simp (disch := first | omega | simp only [nx]; omega) only [aRet, Try.f19, aResults, aResult, lk, Nat.reduceEqDiff, reduceIte, aLoad, rowOf, hpl, ty28, ty41, Value.cells] <;> rfl), .inl ⟨h1, _, rfl, ?_⟩, by simp only [nx]; omega, fun z hz => ?_⟩
    · exact (SV.low hs (by omega)).mono (by simp only [nx]; omega) (fun z hz he => by have := hs.row he; simp (disch := first | omega | simp only [nx]; omega) only [hpl])
    · simp (disch := first | omega | simp only [nx]; omega) only [hpl]; rw [h3 z (by omega)]; simp (disch := first | omega | simp only [nx]; omega) only [hpl]
end Go.Proofs.Ytebheelmgcggmaa
