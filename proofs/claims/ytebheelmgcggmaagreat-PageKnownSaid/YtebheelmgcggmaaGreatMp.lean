/-
  Merged: RhA, RhB, RhC, RhD, RhG.
-/
import Derived.Test.YtebheelmgcggmaaGreatMf
import Derived.Test.YtebheelmgcggmaaGreatAb41
namespace Go.Proofs.YtebheelmgcggmaaGreat
open Go.Ab Go.Sort
noncomputable def rdA : Nat → List UInt8 → Option (Nat × List UInt8)
  | _, [] => none
  | i, c :: l => if 10 ≤ i ∨ (0 < i ∧ c.toNat = 0) ∨ (i = 9 ∧ 1 < c.toNat) then none else if c.toNat < 128 then some (c.toNat, l) else (rdA (i + 1) l).map fun x => (c.toNat - 128 + 128 * x.1, x.2)
theorem rd_inv : ∀ (l : List UInt8) (i n : Nat) (r : List UInt8), rdA i l = some (n, r) → i ≤ 9 ∧ l = num n ++ r ∧ n < 2 ^ (64 - 7 * i) ∧ (0 < i → 0 < n)
  | [], i, n, r, h => by cases h
  | c :: l, i, n, r, h => by
    simp only [rdA] at h
    split at h
    · cases h
    · rename_i hc
      have hi : i ≤ 9 := by omega
      have hl := c.toNat_lt
      split at h
      · rename_i hm
        simp only [Option.some.injEq, Prod.mk.injEq] at h
        obtain ⟨rfl, rfl⟩ := h
        refine ⟨hi, ?_, ?_, by omega⟩
        · rw [num_lo hm, UInt8.ofNat_toNat]; rfl
        · by_cases e : i = 9
          · subst e; simp; omega
          · have : 2 ^ 7 ≤ 2 ^ (64 - 7 * i) := Nat.pow_le_pow_right (by decide) (by omega)
            omega
      · rename_i hm
        cases hx : rdA (i + 1) l with
        | none => rw [hx] at h; cases h
        | some x =>
          rw [hx] at h
          obtain ⟨n', r'⟩ := x
          obtain ⟨h1, h2, h3, h4⟩ := rd_inv l (i + 1) n' r' hx
          simp only [Option.map_some, Option.some.injEq, Prod.mk.injEq] at h
          obtain ⟨rfl, rfl⟩ := h
          have h5 := h4 (by omega)
          have e2 : 2 ^ (64 - 7 * i) = 2 ^ (64 - 7 * (i + 1)) * 128 := by
            rw [show 64 - 7 * i = (64 - 7 * (i + 1)) + 7 by omega, Nat.pow_add]
          refine ⟨hi, ?_, by omega, by omega⟩
          rw [num_hi (by omega), h2, show (c.toNat - 128 + 128 * n') % 128 = c.toNat - 128 by omega, show (c.toNat - 128 + 128 * n') / 128 = n' by omega, show 128 + (c.toNat - 128) = c.toNat by omega, UInt8.ofNat_toNat]; rfl
noncomputable abbrev Rdr := Option (List UInt8)
noncomputable def rc : Rdr → List Value
  | none => [encS [], .bool true]
  | some l => [encS l, .bool false]
noncomputable def numS : Rdr → Nat × Rdr
  | none => (0, none)
  | some l => match rdA 0 l with
    | some (n, r) => (n, some r)
    | none => (0, none)
noncomputable def textS (s : Rdr) : List UInt8 × Rdr :=
  match (numS s).2 with
  | none => ([], none)
  | some l => if l.length < (numS s).1 then ([], none) else (l.take (numS s).1, some (l.drop (numS s).1))
noncomputable def endS : Rdr → Bool
  | some [] => true
  | _ => false
noncomputable def okS (s : Rdr) : Bool := s.isSome
noncomputable def lenS (s : Rdr) : Nat := match s with
  | none => 0
  | some l => l.length
theorem rd_le {i : Nat} {l r : List UInt8} {n : Nat} (h : rdA i l = some (n, r)) : r.length ≤ l.length := by
  obtain ⟨_, h2, _⟩ := rd_inv _ _ _ _ h
  rw [h2]; simp
theorem numS_le (s : Rdr) : lenS (numS s).2 ≤ lenS s := by
  cases s with
  | none => simp [numS, lenS]
  | some l =>
    simp only [numS]
    split
    · rename_i n r h; exact rd_le h
    · simp [lenS]
theorem numS_lt (s : Rdr) : (numS s).1 < 18446744073709551616 := by
  cases s with
  | none => simp [numS]
  | some l =>
    simp only [numS]
    split
    · rename_i n r h; have := (rd_inv _ _ _ _ h).2.2.1; simpa using this
    · simp
theorem textS_le (s : Rdr) : lenS (textS s).2 ≤ lenS s := by
  have h1 := numS_le s
  unfold textS
  split
  · simp [lenS]
  · rename_i l e
    rw [e] at h1
    split
    · simp [lenS]
    · simp [lenS] at h1 ⊢; omega
end Go.Proofs.YtebheelmgcggmaaGreat
namespace Go.Proofs.YtebheelmgcggmaaGreat
open Go.Ab Go.Sort
set_option linter.unusedSimpArgs false
set_option linter.unusedVariables false
set_option maxRecDepth 10000
set_option maxHeartbeats 4000000
theorem bi_oru {t : TypeId} {x y : Operand} {k : IntKind} {m n : Int} : aBin Tryz.prog T .or t x y (.int k m) (.int k n) = some (.int k (k.wrap ((BitVec.ofInt k.bits m ||| BitVec.ofInt k.bits n).toNat : Nat))) := by simp [aBin, flat, flat1, eqGuard, binOp, Op.intBits, pureRun_pure]
theorem bi_andn {t : TypeId} {x y : Operand} {k : IntKind} {m n : Int} : aBin Tryz.prog T .andNot t x y (.int k m) (.int k n) = some (.int k (k.wrap ((BitVec.ofInt k.bits m &&& ~~~ BitVec.ofInt k.bits n).toNat : Nat))) := by simp [aBin, flat, flat1, eqGuard, binOp, Op.intBits, pureRun_pure]
theorem rdok_c (h : AHeap) (r : Nat) (s : Rdr) (hr : h.get r = some (.cells (rc s) 1)) : FWp Tryz.prog 117 [P0 r] h fun u h' => u = .bool (okS s) ∧ h' = h := by
  refine W.enter tyOK Tryz.func117 rfl rfl ?_
  simp only [entry]
  cases s with
  | none =>
    simp only [rc] at hr
    refine W.seq <| W.reg <| OSuf.aopF tyOK rfl za (fun _ => rfl) rfl <| OSuf.nil <| SQ.normal ?_
    refine W.seq <| W.reg <| OSuf.aop tyOK rfl sm rfl <| OSuf.aopT tyOK rfl (zb (hv := bi_nnil ⟨_, _, ty100, rfl⟩)) (fun _ => rfl) rfl <| OSuf.aopT tyOK rfl sm (fun _ => rfl) rfl <| OSuf.aop tyOK ag sm rfl <| OSuf.aop tyOK ag (so_nilCheck (by simp only [lk] <;> rfl)) rfl <| OSuf.aop tyOK ag (zf (hv := fa_ok (k := 1) ty122 rfl rfl ty4 rfl rfl)) rfl <| OSuf.aop tyOK ag (zl (hv := by simp (disch := first | assumption | omega | (simp only [nx] <;> omega) | fail) only [aLoad, ty4, rowOf, hpl, hr] <;> rfl)) rfl <| OSuf.aop tyOK ag (so_not (by simp only [lk] <;> rfl)) rfl <| OSuf.aop tyOK rfl (so_pick (by simp only [lk] <;> rfl) (by simp only [lk, cond_true, cond_false] <;> rfl)) rfl <| OSuf.aop tyOK rfl za rfl <| OSuf.nil <| SQ.normal ?_
    refine CWp.ret <| FQ.ret (by simp only [aRet, Tryz.f117, aResults, aResult, lk, Nat.reduceEqDiff, reduceIte] <;> first | rfl | (simp only [tyall] <;> rfl) | (simp [tyall] <;> rfl)) ?_
    -- leaf: end
    exact ⟨rfl, rfl⟩
  | some l =>
    simp only [rc] at hr
    refine W.seq <| W.reg <| OSuf.aopF tyOK rfl za (fun _ => rfl) rfl <| OSuf.nil <| SQ.normal ?_
    refine W.seq <| W.reg <| OSuf.aop tyOK rfl sm rfl <| OSuf.aopT tyOK rfl (zb (hv := bi_nnil ⟨_, _, ty100, rfl⟩)) (fun _ => rfl) rfl <| OSuf.aopT tyOK rfl sm (fun _ => rfl) rfl <| OSuf.aop tyOK ag sm rfl <| OSuf.aop tyOK ag (so_nilCheck (by simp only [lk] <;> rfl)) rfl <| OSuf.aop tyOK ag (zf (hv := fa_ok (k := 1) ty122 rfl rfl ty4 rfl rfl)) rfl <| OSuf.aop tyOK ag (zl (hv := by simp (disch := first | assumption | omega | (simp only [nx] <;> omega) | fail) only [aLoad, ty4, rowOf, hpl, hr] <;> rfl)) rfl <| OSuf.aop tyOK ag (so_not (by simp only [lk] <;> rfl)) rfl <| OSuf.aop tyOK rfl (so_pick (by simp only [lk] <;> rfl) (by simp only [lk, cond_true, cond_false] <;> rfl)) rfl <| OSuf.aop tyOK rfl za rfl <| OSuf.nil <| SQ.normal ?_
    refine CWp.ret <| FQ.ret (by simp only [aRet, Tryz.f117, aResults, aResult, lk, Nat.reduceEqDiff, reduceIte] <;> first | rfl | (simp only [tyall] <;> rfl) | (simp [tyall] <;> rfl)) ?_
    -- leaf: end
    exact ⟨rfl, rfl⟩
theorem rdfail_c (h : AHeap) (r : Nat) (s : Rdr) (hr : h.get r = some (.cells (rc s) 1)) : FWp Tryz.prog 118 [P0 r] h fun u h' => u = .tuple #[] ∧ h' = h.set r (.cells (rc none) 1) := by
  refine W.enter tyOK Tryz.func118 rfl rfl ?_
  simp only [entry]
  obtain ⟨a, b, e⟩ : ∃ a b, rc s = [a, b] := by cases s <;> exact ⟨_, _, rfl⟩
  rw [e] at hr
  refine W.seq <| W.reg <| OSuf.aop tyOK rfl sm rfl <| OSuf.aopT tyOK rfl (zb (hv := bi_nnil ⟨_, _, ty100, rfl⟩)) (fun _ => rfl) rfl <| OSuf.nil <| SQ.normal ?_
  refine W.yes (by simp only [lk] <;> rfl) <| W.reg <| OSuf.aop tyOK rfl sm rfl <| OSuf.aop tyOK rfl sm rfl <| OSuf.aop tyOK rfl (so_nilCheck (by simp only [lk] <;> rfl)) rfl <| OSuf.aop tyOK rfl (zf (hv := fa_ok (k := 0) ty122 rfl rfl ty9 rfl rfl)) rfl <| OSuf.aop tyOK rfl (zs (hv := by simp (disch := first | assumption | omega | (simp only [nx] <;> omega) | fail) only [aStore, ty9, writeRow, hpl, hr, AHeap.set_set] <;> rfl)) rfl <| OSuf.aop tyOK rfl (so_nilCheck (by simp only [lk] <;> rfl)) rfl <| OSuf.aop tyOK rfl (zf (hv := fa_ok (k := 1) ty122 rfl rfl ty4 rfl rfl)) rfl <| OSuf.aop tyOK rfl (zs (hv := by simp (disch := first | assumption | omega | (simp only [nx] <;> omega) | fail) only [aStore, ty4, writeRow, hpl, hr, AHeap.set_set] <;> rfl)) rfl <| OSuf.nil <| FQ.normal (by simp only [aRet, Tryz.f118, aResults, aResult, lk, Nat.reduceEqDiff, reduceIte] <;> first | rfl | (simp only [tyall] <;> rfl) | (simp [tyall] <;> rfl)) ?_
  -- leaf: end
  exact ⟨rfl, rfl⟩
theorem rdend_c (h : AHeap) (r : Nat) (s : Rdr) (hr : h.get r = some (.cells (rc s) 1)) : FWp Tryz.prog 96 [P0 r] h fun u h' => u = .bool (endS s) ∧ h' = h := by
  refine W.enter tyOK Tryz.func96 rfl rfl ?_
  simp only [entry]
  have ho := rdok_c h r s hr
  cases s with
  | none =>
    simp only [rc] at hr
    refine W.seq <| W.reg <| OSuf.aopF tyOK rfl za (fun _ => rfl) rfl <| OSuf.nil <| SQ.normal ?_
    refine W.seq <| W.reg <| OSuf.aop tyOK rfl sm rfl <| OSuf.callD rfl (by simp only [aopnds, lk] <;> rfl) en117 (ho) rfl <| OSuf.aopF tyOK rfl sm (fun _ => rfl) rfl <| OSuf.pass ag rfl <| OSuf.pass ag rfl <| OSuf.pass ag rfl <| OSuf.pass ag rfl <| OSuf.pass ag rfl <| OSuf.aopF tyOK rfl (so_pick (by simp only [lk] <;> rfl) (by simp only [lk, cond_true, cond_false] <;> rfl)) (fun _ => rfl) rfl <| OSuf.aopF tyOK rfl za (fun _ => rfl) rfl <| OSuf.nil <| SQ.normal ?_
    refine CWp.ret <| FQ.ret (by simp only [aRet, Tryz.f96, aResults, aResult, lk, Nat.reduceEqDiff, reduceIte] <;> first | rfl | (simp only [tyall] <;> rfl) | (simp [tyall] <;> rfl)) ?_
    -- leaf: end
    exact ⟨rfl, rfl⟩
  | some l =>
    simp only [rc] at hr
    refine W.seq <| W.reg <| OSuf.aopF tyOK rfl za (fun _ => rfl) rfl <| OSuf.nil <| SQ.normal ?_
    refine W.seq <| W.reg <| OSuf.aop tyOK rfl sm rfl <| OSuf.callD rfl (by simp only [aopnds, lk] <;> rfl) en117 (ho) rfl <| OSuf.aopT tyOK rfl sm (fun _ => rfl) rfl <| OSuf.aop tyOK ag sm rfl <| OSuf.aop tyOK ag (so_nilCheck (by simp only [lk] <;> rfl)) rfl <| OSuf.aop tyOK ag (zf (hv := fa_ok (k := 0) ty122 rfl rfl ty9 rfl rfl)) rfl <| OSuf.aop tyOK ag (zl (hv := by simp (disch := first | assumption | omega | (simp only [nx] <;> omega) | fail) only [aLoad, ty9, rowOf, hpl, hr] <;> rfl)) rfl <| OSuf.aop tyOK ag (zb (hv := bs_eql)) rfl <| OSuf.aop tyOK rfl (so_pick (by simp only [lk] <;> rfl) (by simp only [lk, cond_true, cond_false] <;> rfl)) rfl <| OSuf.aop tyOK rfl za rfl <| OSuf.nil <| SQ.normal ?_
    refine CWp.ret <| FQ.ret (by simp only [aRet, Tryz.f96, aResults, aResult, lk, Nat.reduceEqDiff, reduceIte] <;> first | rfl | (simp only [tyall] <;> rfl) | (simp [tyall] <;> rfl)) ?_
    -- leaf: end
    refine ⟨?_, rfl⟩
    cases l <;> simp [endS]
noncomputable def odd (i : Nat) (c : UInt8) : Bool := decide ((0 < i ∧ c.toNat = 0) ∨ (i = 9 ∧ 1 < c.toNat))
theorem odd_c (h : AHeap) (i : Nat) (c : UInt8) : FWp Tryz.prog 119 [I64 i, u8v c] h fun u h' => u = .bool (odd i c) ∧ h' = h := by
  refine W.enter tyOK Tryz.func119 rfl rfl ?_
  simp only [entry]
  by_cases h1 : (0 : Int) < (i : Int)
  · by_cases h2 : c.toNat = 0
    · refine W.seq <| W.reg <| OSuf.aopF tyOK rfl za (fun _ => rfl) rfl <| OSuf.nil <| SQ.normal ?_
      refine W.seq <| W.reg <| OSuf.aop tyOK rfl sm rfl <| OSuf.aopT tyOK rfl (zb (hv := bi_gtr)) (fun _ => rfl) (by first | rfl | assumption | ((simp only [bl, h1]) <;> first | done | assumption | omega) | (simp; done) | (simp; omega)) <| OSuf.aopT tyOK rfl sm (fun _ => rfl) rfl <| OSuf.aop tyOK ag sm rfl <| OSuf.aopT tyOK ag (zb (hv := bi_eql)) (fun _ => rfl) (by simp [h2]) <| OSuf.aopT tyOK rfl (so_pick (by simp only [lk] <;> rfl) (by simp only [lk, cond_true, cond_false] <;> rfl)) (fun _ => rfl) rfl <| OSuf.aopT tyOK rfl sm (fun _ => rfl) rfl <| OSuf.pass ag rfl <| OSuf.pass ag rfl <| OSuf.pass ag rfl <| OSuf.pass (aguard_un rfl rfl (by simp only [lk] <;> rfl)) rfl <| OSuf.pass (aguard_un rfl rfl (by simp only [lk] <;> rfl)) rfl <| OSuf.pass ag rfl <| OSuf.aopT tyOK rfl (so_pick (by simp only [lk] <;> rfl) (by simp only [lk, cond_true, cond_false] <;> rfl)) (fun _ => rfl) rfl <| OSuf.aopT tyOK rfl za (fun _ => rfl) rfl <| OSuf.nil <| SQ.normal ?_
      refine CWp.ret <| FQ.ret (by simp only [aRet, Tryz.f119, aResults, aResult, lk, Nat.reduceEqDiff, reduceIte] <;> first | rfl | (simp only [tyall] <;> rfl) | (simp [tyall] <;> rfl)) ?_
      -- leaf: end
      exact ⟨by rw [show odd i c = true from decide_eq_true (.inl ⟨by omega, h2⟩)], rfl⟩
    · by_cases h3 : i = 9
      · refine W.seq <| W.reg <| OSuf.aopF tyOK rfl za (fun _ => rfl) rfl <| OSuf.nil <| SQ.normal ?_
        refine W.seq <| W.reg <| OSuf.aop tyOK rfl sm rfl <| OSuf.aopT tyOK rfl (zb (hv := bi_gtr)) (fun _ => rfl) (by first | rfl | assumption | ((simp only [bl, h1]) <;> first | done | assumption | omega) | (simp; done) | (simp; omega)) <| OSuf.aopT tyOK rfl sm (fun _ => rfl) rfl <| OSuf.aop tyOK ag sm rfl <| OSuf.aopF tyOK ag (zb (hv := bi_eql)) (fun _ => rfl) (by simp; omega) <| OSuf.aopF tyOK rfl (so_pick (by simp only [lk] <;> rfl) (by simp only [lk, cond_true, cond_false] <;> rfl)) (fun _ => rfl) rfl <| OSuf.aopF tyOK rfl sm (fun _ => rfl) rfl <| OSuf.aop tyOK ag sm rfl <| OSuf.aopT tyOK ag (zb (hv := bi_eql)) (fun _ => rfl) (by simp [h3]) <| OSuf.aopT tyOK ag sm (fun _ => rfl) rfl <| OSuf.aop tyOK ag sm rfl <| OSuf.aop tyOK ag (zb (hv := bi_gtr)) rfl <| OSuf.aop tyOK ag (so_pick (by simp only [lk] <;> rfl) (by simp only [lk, cond_true, cond_false] <;> rfl)) rfl <| OSuf.aop tyOK rfl (so_pick (by simp only [lk] <;> rfl) (by simp only [lk, cond_true, cond_false] <;> rfl)) rfl <| OSuf.aop tyOK rfl za rfl <| OSuf.nil <| SQ.normal ?_
        refine CWp.ret <| FQ.ret (by simp only [aRet, Tryz.f119, aResults, aResult, lk, Nat.reduceEqDiff, reduceIte] <;> first | rfl | (simp only [tyall] <;> rfl) | (simp [tyall] <;> rfl)) ?_
        -- leaf: end
        exact ⟨by rw [show odd i c = decide ((c.toNat : Int) > 1) from decide_eq_decide.2 (by omega)], rfl⟩
      · refine W.seq <| W.reg <| OSuf.aopF tyOK rfl za (fun _ => rfl) rfl <| OSuf.nil <| SQ.normal ?_
        refine W.seq <| W.reg <| OSuf.aop tyOK rfl sm rfl <| OSuf.aopT tyOK rfl (zb (hv := bi_gtr)) (fun _ => rfl) (by first | rfl | assumption | ((simp only [bl, h1]) <;> first | done | assumption | omega) | (simp; done) | (simp; omega)) <| OSuf.aopT tyOK rfl sm (fun _ => rfl) rfl <| OSuf.aop tyOK ag sm rfl <| OSuf.aopF tyOK ag (zb (hv := bi_eql)) (fun _ => rfl) (by simp; omega) <| OSuf.aopF tyOK rfl (so_pick (by simp only [lk] <;> rfl) (by simp only [lk, cond_true, cond_false] <;> rfl)) (fun _ => rfl) rfl <| OSuf.aopF tyOK rfl sm (fun _ => rfl) rfl <| OSuf.aop tyOK ag sm rfl <| OSuf.aopF tyOK ag (zb (hv := bi_eql)) (fun _ => rfl) (by simp; omega) <| OSuf.aopF tyOK ag sm (fun _ => rfl) rfl <| OSuf.pass ag rfl <| OSuf.pass ag rfl <| OSuf.aopF tyOK ag (so_pick (by simp only [lk] <;> rfl) (by simp only [lk, cond_true, cond_false] <;> rfl)) (fun _ => rfl) rfl <| OSuf.aopF tyOK rfl (so_pick (by simp only [lk] <;> rfl) (by simp only [lk, cond_true, cond_false] <;> rfl)) (fun _ => rfl) rfl <| OSuf.aopF tyOK rfl za (fun _ => rfl) rfl <| OSuf.nil <| SQ.normal ?_
        refine CWp.ret <| FQ.ret (by simp only [aRet, Tryz.f119, aResults, aResult, lk, Nat.reduceEqDiff, reduceIte] <;> first | rfl | (simp only [tyall] <;> rfl) | (simp [tyall] <;> rfl)) ?_
        -- leaf: end
        exact ⟨by rw [show odd i c = false from decide_eq_false (by omega)], rfl⟩
  · refine W.seq <| W.reg <| OSuf.aopF tyOK rfl za (fun _ => rfl) rfl <| OSuf.nil <| SQ.normal ?_
    refine W.seq <| W.reg <| OSuf.aop tyOK rfl sm rfl <| OSuf.aopF tyOK rfl (zb (hv := bi_gtr)) (fun _ => rfl) (by first | rfl | assumption | ((simp only [bl, h1]) <;> first | done | assumption | omega) | (simp; done) | (simp; omega)) <| OSuf.aopF tyOK rfl sm (fun _ => rfl) rfl <| OSuf.pass ag rfl <| OSuf.pass ag rfl <| OSuf.aopF tyOK rfl (so_pick (by simp only [lk] <;> rfl) (by simp only [lk, cond_true, cond_false] <;> rfl)) (fun _ => rfl) rfl <| OSuf.aopF tyOK rfl sm (fun _ => rfl) rfl <| OSuf.aop tyOK ag sm rfl <| OSuf.aopF tyOK ag (zb (hv := bi_eql)) (fun _ => rfl) (by simp; omega) <| OSuf.aopF tyOK ag sm (fun _ => rfl) rfl <| OSuf.pass ag rfl <| OSuf.pass ag rfl <| OSuf.aopF tyOK ag (so_pick (by simp only [lk] <;> rfl) (by simp only [lk, cond_true, cond_false] <;> rfl)) (fun _ => rfl) rfl <| OSuf.aopF tyOK rfl (so_pick (by simp only [lk] <;> rfl) (by simp only [lk, cond_true, cond_false] <;> rfl)) (fun _ => rfl) rfl <| OSuf.aopF tyOK rfl za (fun _ => rfl) rfl <| OSuf.nil <| SQ.normal ?_
    refine CWp.ret <| FQ.ret (by simp only [aRet, Tryz.f119, aResults, aResult, lk, Nat.reduceEqDiff, reduceIte] <;> first | rfl | (simp only [tyall] <;> rfl) | (simp [tyall] <;> rfl)) ?_
    -- leaf: end
    exact ⟨by rw [show odd i c = false from decide_eq_false (by omega)], rfl⟩
end Go.Proofs.YtebheelmgcggmaaGreat
namespace Go.Proofs.YtebheelmgcggmaaGreat
open Go.Ab Go.Sort
set_option linter.unusedSimpArgs false
set_option linter.unusedVariables false
set_option maxRecDepth 10000
set_option maxHeartbeats 4000000
theorem wr_u64 {n : Nat} (h : n < 18446744073709551616) : IntKind.u64.wrap (n : Int) = (n : Int) := by
  simp only [IntKind.wrap, IntKind.bits, IntKind.signed]; simp; omega
theorem wr_or {a c k : Nat} (ha : a < 2 ^ k) (h : a + c * 2 ^ k < 18446744073709551616) : IntKind.u64.wrap ((BitVec.ofInt IntKind.u64.bits (a : Int) ||| BitVec.ofInt IntKind.u64.bits ((c * 2 ^ k : Nat) : Int)).toNat : Nat) = ((a + c * 2 ^ k : Nat) : Int) := by
  have e : ∀ x : Nat, x < 18446744073709551616 → (BitVec.ofInt 64 (x : Int)).toNat = x := fun x hx => by
    rw [BitVec.toNat_ofInt]; omega
  have h1 : (BitVec.ofInt 64 (a : Int) ||| BitVec.ofInt 64 ((c * 2 ^ k : Nat) : Int)).toNat = a + c * 2 ^ k := by
    rw [BitVec.toNat_or, e _ (by omega), e _ (by omega), Nat.or_comm, Nat.mul_comm c, ← Nat.two_pow_add_eq_or_of_lt ha, Nat.add_comm]
  show IntKind.u64.wrap ((BitVec.ofInt 64 (a : Int) ||| BitVec.ofInt 64 ((c * 2 ^ k : Nat) : Int)).toNat : Nat) = _
  rw [h1, wr_u64 h]
theorem wr_andn (c : UInt8) (h : 128 ≤ c.toNat) : IntKind.u8.wrap ((BitVec.ofInt IntKind.u8.bits (c.toNat : Int) &&& ~~~ BitVec.ofInt IntKind.u8.bits 128).toNat : Nat) = ((c.toNat - 128 : Nat) : Int) := by
  have hl := c.toNat_lt
  have e : (BitVec.ofInt 8 (c.toNat : Int)).toNat = c.toNat := by rw [BitVec.toNat_ofInt]; omega
  have h1 : (BitVec.ofInt 8 (c.toNat : Int) &&& ~~~ BitVec.ofInt 8 128).toNat = c.toNat - 128 := by
    rw [BitVec.toNat_and, e, show (~~~ BitVec.ofInt 8 128).toNat = 2 ^ 7 - 1 from rfl, Nat.and_two_pow_sub_one_eq_mod]; omega
  show IntKind.u8.wrap ((BitVec.ofInt 8 (c.toNat : Int) &&& ~~~ BitVec.ofInt 8 128).toNat : Nat) = _
  rw [h1]
  simp only [IntKind.wrap, IntKind.bits, IntKind.signed]; simp; omega
theorem rd_step {l : List UInt8} {i : Nat} {c : UInt8} (hc : l[i]? = some c) (hi : i < 10) (ho : odd i c = false) : rdA i (l.drop i) = if c.toNat < 128 then some (c.toNat, l.drop (i + 1)) else (rdA (i + 1) (l.drop (i + 1))).map fun x => (c.toNat - 128 + 128 * x.1, x.2) := by
  have h1 : l.drop i = c :: l.drop (i + 1) := by
    obtain ⟨h, e⟩ := List.getElem?_eq_some_iff.1 hc
    rw [List.drop_eq_getElem_cons h, e]
  have h2 := of_decide_eq_false ho
  rw [h1]
  simp only [rdA]
  rw [if_neg (by omega)]
theorem rd_odd {l : List UInt8} {i : Nat} {c : UInt8} (hc : l[i]? = some c) (ho : odd i c = true) : rdA i (l.drop i) = none := by
  have h1 : l.drop i = c :: l.drop (i + 1) := by
    obtain ⟨h, e⟩ := List.getElem?_eq_some_iff.1 hc
    rw [List.drop_eq_getElem_cons h, e]
  have h2 := of_decide_eq_true ho
  rw [h1]
  simp only [rdA]
  rw [if_pos (by omega)]
theorem rd_over {l : List UInt8} {i : Nat} (h : l.length ≤ i ∨ 10 ≤ i) : rdA i (l.drop i) = none := by
  cases hl : l.drop i with
  | nil => rfl
  | cons c t =>
    have : 0 < (l.drop i).length := by rw [hl]; simp
    simp only [List.length_drop] at this
    simp only [rdA]
    rw [if_pos (by omega)]
noncomputable def Rdd (l : List UInt8) (i acc : Nat) : Prop := acc < 2 ^ (7 * i) ∧ rdA 0 l = (rdA i (l.drop i)).map fun x => (acc + 2 ^ (7 * i) * x.1, x.2)
theorem Rdd.zero (l : List UInt8) : Rdd l 0 0 := ⟨by simp, by simp⟩
theorem pow7 (i : Nat) : 2 ^ (7 * (i + 1)) = 2 ^ (7 * i) * 128 := by rw [show 7 * (i + 1) = 7 * i + 7 by omega, Nat.pow_add]
theorem Rdd.step {l : List UInt8} {i acc : Nat} {c : UInt8} (h : Rdd l i acc) (hc : l[i]? = some c) (hi : i < 10) (ho : odd i c = false) (hm : ¬ c.toNat < 128) : Rdd l (i + 1) (acc + (c.toNat - 128) * 2 ^ (7 * i)) := by
  obtain ⟨h1, h2⟩ := h
  have hl := c.toNat_lt
  have h3 : (c.toNat - 128) * 2 ^ (7 * i) ≤ 127 * 2 ^ (7 * i) := Nat.mul_le_mul_right _ (by omega)
  refine ⟨by rw [pow7]; omega, ?_⟩
  rw [h2, rd_step hc hi ho, if_neg hm, Option.map_map]
  congr 1
  funext x
  simp only [Function.comp, Prod.mk.injEq, and_true]
  rw [pow7, Nat.mul_add, Nat.mul_assoc, Nat.mul_comm (2 ^ (7 * i)) (c.toNat - 128)]; omega
theorem Rdd.last {l : List UInt8} {i acc : Nat} {c : UInt8} (h : Rdd l i acc) (hc : l[i]? = some c) (hi : i < 10) (ho : odd i c = false) (hm : c.toNat < 128) : rdA 0 l = some (acc + c.toNat * 2 ^ (7 * i), l.drop (i + 1)) := by
  rw [h.2, rd_step hc hi ho, if_pos hm, Option.map_some, Nat.mul_comm]
theorem Rdd.none {l : List UInt8} {i acc : Nat} (h : Rdd l i acc) (hn : rdA i (l.drop i) = none) : rdA 0 l = none := by
  rw [h.2, hn]; rfl
theorem Rdd.lt {l : List UInt8} {i acc : Nat} {c : UInt8} (h : Rdd l i acc) (hi : i < 10) (ho : odd i c = false) : acc + (c.toNat % 128) * 2 ^ (7 * i) < 18446744073709551616 := by
  have h2 := of_decide_eq_false ho
  obtain ⟨h1, _⟩ := h
  by_cases e : i = 9
  · subst e
    have : c.toNat ≤ 1 := by omega
    have h3 : (c.toNat % 128) * 2 ^ (7 * 9) ≤ 1 * 2 ^ (7 * 9) := Nat.mul_le_mul_right _ (by omega)
    simp at h1 h3 ⊢; omega
  · have h3 : (c.toNat % 128) * 2 ^ (7 * i) ≤ 127 * 2 ^ (7 * i) := Nat.mul_le_mul_right _ (by omega)
    have h4 : 2 ^ (7 * i) ≤ 2 ^ 56 := Nat.pow_le_pow_right (by decide) (by omega)
    omega
theorem sl_str {t : TypeId} {ti : TI} {h : AHeap} {l : List UInt8} {k : IntKind} {n : Nat} (ht : T.get t = some ti) (hu : ti.und = .string) (hn : n ≤ l.length) : aSlice T t (encS l) (some (.int k n)) none none h = some (encS (l.drop n)) := by
  simp only [aSlice, ht, hu, encS]
  have e : (ByteArray.mk ⟨l⟩).size = l.length := rfl
  rw [e, bounds_lo hn]
  simp only [Option.some.injEq, Value.string.injEq]
  apply ByteArray.ext
  apply Array.ext'
  simp [ByteArray.data_extract]
  rw [List.take_of_length_le (by simp)]
theorem sl_strh {t : TypeId} {ti : TI} {h : AHeap} {l : List UInt8} {k : IntKind} {n : Nat} (ht : T.get t = some ti) (hu : ti.und = .string) (hn : n ≤ l.length) : aSlice T t (encS l) none (some (.int k n)) none h = some (encS (l.take n)) := by
  simp only [aSlice, ht, hu, encS]
  have e : (ByteArray.mk ⟨l⟩).size = l.length := rfl
  rw [e, bounds_hi hn]
  simp only [Option.some.injEq, Value.string.injEq]
  apply ByteArray.ext
  apply Array.ext'
  simp [ByteArray.data_extract]
end Go.Proofs.YtebheelmgcggmaaGreat
namespace Go.Proofs.YtebheelmgcggmaaGreat
open Go.Ab Go.Sort
set_option linter.unusedSimpArgs false
set_option linter.unusedVariables false
set_option maxRecDepth 10000
set_option maxHeartbeats 4000000
theorem rdnum_c (h : AHeap) (r : Nat) (s : Rdr) (hr : h.get r = some (.cells (rc s) 1)) (hl : lenS s ≤ 1000000) : FWp Tryz.prog 94 [P0 r] h fun u h' => u = U64 (numS s).1 ∧ h'.get r = some (.cells (rc (numS s).2) 1) ∧ h'.next = h.next ∧ ∀ z, ¬ z = r → h'.get z = h.get z := by
  have ho := rdok_c h r s hr
  refine W.enter tyOK Tryz.func94 rfl rfl ?_
  simp only [entry]
  cases s with
  | none =>
    refine W.seq <| W.reg <| OSuf.aop tyOK rfl za rfl <| OSuf.nil <| SQ.normal ?_
    refine CWp.scope <| W.seq <| W.seq <| W.reg <| OSuf.aop tyOK rfl sm rfl <| OSuf.callD rfl (by simp only [aopnds, lk] <;> rfl) en117 (ho) rfl <| OSuf.aopT tyOK rfl (so_not (by simp only [lk] <;> rfl)) (fun _ => rfl) rfl <| OSuf.nil <| SQ.normal ?_
    refine W.yes (by simp only [lk] <;> rfl) <| W.seq <| W.reg <| OSuf.aop tyOK rfl za rfl <| OSuf.nil <| SQ.normal ?_
    refine CWp.ret <| SQ.ret <| FQ.ret (by simp only [aRet, Tryz.f94, aResults, aResult, lk, Nat.reduceEqDiff, reduceIte] <;> first | rfl | (simp only [tyall] <;> rfl) | (simp [tyall] <;> rfl)) ?_
    -- leaf: end
    exact ⟨rfl, hr, rfl, fun _ _ => rfl⟩
  | some l =>
    simp only [lenS] at hl
    have hr' := hr
    simp only [rc] at hr
    have e0 : (ByteArray.mk ⟨l⟩).size = l.length := rfl
    refine W.seq <| W.reg <| OSuf.aop tyOK rfl za rfl <| OSuf.nil <| SQ.normal ?_
    refine CWp.scope <| W.seq <| W.seq <| W.reg <| OSuf.aop tyOK rfl sm rfl <| OSuf.callD rfl (by simp only [aopnds, lk] <;> rfl) en117 (ho) rfl <| OSuf.aopF tyOK rfl (so_not (by simp only [lk] <;> rfl)) (fun _ => rfl) rfl <| OSuf.nil <| SQ.normal ?_
    refine W.no (by simp only [lk] <;> rfl) <| CWp.skip <| SQ.normal ?_
    refine W.seq <| W.reg <| OSuf.aop tyOK rfl za rfl <| OSuf.nil <| SQ.normal ?_
    refine W.seq <| W.reg <| OSuf.aop tyOK rfl za rfl <| OSuf.nil <| SQ.normal ?_
    refine W.seq <| CWp.label <| SQ.normal ?_
    refine W.seq <| W.seq <| W.reg <| OSuf.aop tyOK rfl sm rfl <| OSuf.aop tyOK rfl (so_nilCheck (by simp only [lk] <;> rfl)) rfl <| OSuf.aop tyOK rfl (zf (hv := fa_ok (k := 0) ty122 rfl rfl ty9 rfl rfl)) rfl <| OSuf.aop tyOK rfl (zl (hv := by simp (disch := first | assumption | omega | (simp only [nx] <;> omega) | fail) only [aLoad, ty9, rowOf, hpl, hr, e0] <;> rfl)) rfl <| OSuf.aop tyOK rfl (so_len (by simp only [aopnds, lk] <;> rfl) (by simp (disch := first | assumption | omega | (simp only [nx] <;> omega) | fail) only [aLenOf, ty9, hpl, hr, e0] <;> rfl)) rfl <| OSuf.aop tyOK rfl (so_min (by simp only [aopnds, lk] <;> rfl)) rfl <| OSuf.aop tyOK rfl sm rfl <| OSuf.nil <| SQ.normal ?_
    -- leaf: loop
    obtain ⟨M, hM, hM2⟩ : ∃ M : Nat, (if (10 : Int) < (l.length : Int) then 10 else (l.length : Int)) = (M : Int) ∧ M = min l.length 10 := by
      refine ⟨min l.length 10, ?_, rfl⟩
      split <;> omega
    refine W.cut (fun L g => g = h ∧ rdA 0 l = none ∧ L = [(0, P0 r)]) (W.block (W.loop (fun n L g => ∃ i acc : Nat, n + i = 10 ∧ i ≤ M ∧ Rdd l i acc ∧ g = h ∧ L = [(0, P0 r), (3, U64 acc), (4, .func (.func 119) #[] #[]), (15, I64 M), (16, I64 i)]) (n := 10) (L := [(0, P0 r), (3, U64 ((0 : Nat) : Int)), (4, .func (.func 119) #[] #[]), (15, I64 M), (16, I64 ((0 : Nat) : Int))]) ⟨0, 0, rfl, by omega, Rdd.zero l, rfl, rfl⟩ ?_ ?_)) ?_
    · simp [HasA, Tr.get_put, ← hM]
    · rintro n L g ⟨i, acc, hn, hi, hd, rfl, rfl⟩
      simp only [mkA]
      by_cases h1 : (i : Int) < (M : Int)
      · have hi10 : i < 10 := by omega
        have hil : i < l.length := by omega
        obtain ⟨c, hc⟩ : ∃ c, l[i]? = some c := ⟨l[i]'hil, by simp⟩
        have hc' : (ByteArray.mk ⟨l⟩).data.toList[i]? = some c := hc
        have w2 : IntKind.i64.wrap ((i : Int) + 1) = ((i + 1 : Nat) : Int) := by rw [wrap_i64 (by omega) (by omega)]; omega
        have hod := fun G : AHeap => VWp.func (P := Tryz.prog) (first := #[]) (cap := #[]) (vs := [I64 i, u8v c]) en119 (by simpa using odd_c G i c)
        cases hoc : odd i c with
        | true =>
          rw [hoc] at hod
          refine W.seq <| W.reg <| OSuf.aopT tyOK rfl (zb (hv := bi_lss)) (fun _ => rfl) (by first | rfl | assumption | ((simp only [bl, hr, e0]) <;> first | done | assumption | omega) | (simp; done) | (simp; omega)) <| OSuf.nil <| SQ.normal ?_
          refine W.seq <| W.yes (by simp only [lk] <;> rfl) <| CWp.skip <| SQ.normal ?_
          refine W.seq <| W.block <| W.seq <| W.reg <| OSuf.aop tyOK rfl sm rfl <| OSuf.aop tyOK rfl za rfl <| OSuf.nil <| SQ.normal ?_
          refine W.seq <| W.reg <| OSuf.aop tyOK rfl sm rfl <| OSuf.aop tyOK rfl (so_nilCheck (by simp only [lk] <;> rfl)) rfl <| OSuf.aop tyOK rfl (zf (hv := fa_ok (k := 0) ty122 rfl rfl ty9 rfl rfl)) rfl <| OSuf.aop tyOK rfl (zl (hv := by simp (disch := first | assumption | omega | (simp only [nx] <;> omega) | fail) only [aLoad, ty9, rowOf, hpl, hr, e0] <;> rfl)) rfl <| OSuf.aop tyOK rfl sm rfl <| OSuf.aop tyOK rfl (so_index (by simp only [lk] <;> rfl) (by simp only [lk] <;> rfl) (ix_str ty9 rfl hc')) rfl <| OSuf.aop tyOK rfl za rfl <| OSuf.nil <| SQ.normal ?_
          refine W.seq <| W.block <| W.seq <| W.reg <| OSuf.aop tyOK rfl sm rfl <| OSuf.aop tyOK rfl sm rfl <| OSuf.aop tyOK rfl sm rfl <| OSuf.vcallD rfl (by simp only [lk] <;> rfl) (by simp only [aopnds, lk] <;> rfl) (hod _) rfl <| OSuf.aopT tyOK rfl za (fun _ => rfl) rfl <| OSuf.nil <| SQ.normal ?_
          refine W.yes (by simp only [lk] <;> rfl) <| CWp.exit <| BQ.out rfl <| SQ.exit <| BQ.out rfl <| SQ.exit <| LQ.exit <| BQ.exit <| ?_
          -- leaf: cut
          refine NQ.normal (L := [(0, P0 r)]) ?_ ⟨rfl, hd.none (rd_odd hc hoc), rfl⟩
          simp only [HasA, Tr.get_put, Nat.reduceEqDiff, reduceIte, and_self]
        | false =>
          rw [hoc] at hod
          have hlt := hd.lt hi10 hoc
          have hcl := c.toNat_lt
          have v1 : IntKind.i64.wrap (7 * (i : Int)) = ((7 * i : Nat) : Int) := by rw [wrap_i64 (by omega) (by omega)]; omega
          have e1 : min ((7 * i : Nat) : Int).toNat IntKind.u64.bits = 7 * i := by simp only [Int.toNat_natCast, IntKind.bits]; omega
          have hle : c.toNat % 128 * 2 ^ (7 * i) < 18446744073709551616 := by omega
          by_cases hm : c.toNat < 128
          · have hmod : c.toNat % 128 = c.toNat := by omega
            rw [hmod] at hlt hle
            have v0 : IntKind.u64.wrap (c.toNat : Int) = (c.toNat : Int) := wr_u64 (by omega)
            have v2 : IntKind.u64.wrap ((c.toNat : Int) * 2 ^ min ((7 * i : Nat) : Int).toNat IntKind.u64.bits) = ((c.toNat * 2 ^ (7 * i) : Nat) : Int) := by
              rw [e1, show (c.toNat : Int) * 2 ^ (7 * i) = ((c.toNat * 2 ^ (7 * i) : Nat) : Int) by simp, wr_u64 hle]
            have v3 := wr_or hd.1 hlt
            refine W.seq <| W.reg <| OSuf.aopT tyOK rfl (zb (hv := bi_lss)) (fun _ => rfl) (by first | rfl | assumption | ((simp only [bl, hr, e0]) <;> first | done | assumption | omega) | (simp; done) | (simp; omega)) <| OSuf.nil <| SQ.normal ?_
            refine W.seq <| W.yes (by simp only [lk] <;> rfl) <| CWp.skip <| SQ.normal ?_
            refine W.seq <| W.block <| W.seq <| W.reg <| OSuf.aop tyOK rfl sm rfl <| OSuf.aop tyOK rfl za rfl <| OSuf.nil <| SQ.normal ?_
            refine W.seq <| W.reg <| OSuf.aop tyOK rfl sm rfl <| OSuf.aop tyOK rfl (so_nilCheck (by simp only [lk] <;> rfl)) rfl <| OSuf.aop tyOK rfl (zf (hv := fa_ok (k := 0) ty122 rfl rfl ty9 rfl rfl)) rfl <| OSuf.aop tyOK rfl (zl (hv := by simp (disch := first | assumption | omega | (simp only [nx] <;> omega) | fail) only [aLoad, ty9, rowOf, hpl, hr, e0] <;> rfl)) rfl <| OSuf.aop tyOK rfl sm rfl <| OSuf.aop tyOK rfl (so_index (by simp only [lk] <;> rfl) (by simp only [lk] <;> rfl) (ix_str ty9 rfl hc')) rfl <| OSuf.aop tyOK rfl za rfl <| OSuf.nil <| SQ.normal ?_
            refine W.seq <| W.block <| W.seq <| W.reg <| OSuf.aop tyOK rfl sm rfl <| OSuf.aop tyOK rfl sm rfl <| OSuf.aop tyOK rfl sm rfl <| OSuf.vcallD rfl (by simp only [lk] <;> rfl) (by simp only [aopnds, lk] <;> rfl) (hod _) rfl <| OSuf.aopF tyOK rfl za (fun _ => rfl) rfl <| OSuf.nil <| SQ.normal ?_
            refine W.no (by simp only [lk] <;> rfl) <| W.seq <| W.reg <| OSuf.aop tyOK rfl sm rfl <| OSuf.aopT tyOK rfl (zb (hv := bi_lss)) (fun _ => rfl) (by simp; omega) <| OSuf.aopT tyOK rfl za (fun _ => rfl) rfl <| OSuf.nil <| SQ.normal ?_
            refine W.yes (by simp only [lk] <;> rfl) <| W.seq <| W.reg <| OSuf.aop tyOK rfl sm rfl <| OSuf.aop tyOK rfl sm rfl <| OSuf.aop tyOK rfl (so_nilCheck (by simp only [lk] <;> rfl)) rfl <| OSuf.aop tyOK rfl (zf (hv := fa_ok (k := 0) ty122 rfl rfl ty9 rfl rfl)) rfl <| OSuf.aop tyOK rfl (zl (hv := by simp (disch := first | assumption | omega | (simp only [nx] <;> omega) | fail) only [aLoad, ty9, rowOf, hpl, hr, e0] <;> rfl)) rfl <| OSuf.aop tyOK rfl sm rfl <| OSuf.aop tyOK rfl (zb (hv := bi_w bi_add (by first | (simp only [w2, v0, v1, v2, v3] <;> rfl) | rfl))) rfl <| OSuf.aop tyOK rfl (so_slice (by simp only [lk] <;> rfl) (by simp only [oopnd, lk] <;> rfl) (by simp only [oopnd, lk] <;> rfl) (by simp only [oopnd, lk] <;> rfl) (sl_str ty9 rfl (by omega))) rfl <| OSuf.aop tyOK rfl (so_nilCheck (by simp only [lk] <;> rfl)) rfl <| OSuf.aop tyOK rfl (zf (hv := fa_ok (k := 0) ty122 rfl rfl ty9 rfl rfl)) rfl <| OSuf.aop tyOK rfl (zs (hv := by simp (disch := first | assumption | omega | (simp only [nx] <;> omega) | fail) only [aStore, ty9, writeRow, hpl, hr, e0] <;> rfl)) rfl <| OSuf.nil <| SQ.normal ?_
            refine W.seq <| W.reg <| OSuf.aop tyOK rfl sm rfl <| OSuf.aop tyOK rfl sm rfl <| OSuf.aop tyOK rfl (so_conw (so_conv tyOK (by simp only [lk] <;> rfl) ty5 ⟨_, rfl⟩ ty22 rfl) (by first | (simp only [w2, v0, v1, v2, v3] <;> rfl) | rfl)) rfl <| OSuf.aop tyOK rfl sm rfl <| OSuf.aop tyOK rfl (zb (hv := bi_w bi_mul (by first | (simp only [w2, v0, v1, v2, v3] <;> rfl) | rfl))) rfl <| OSuf.aop tyOK rfl (zb (hv := bi_w (bi_shl (by omega)) (by first | (simp only [w2, v0, v1, v2, v3] <;> rfl) | rfl))) rfl <| OSuf.aop tyOK rfl (zb (hv := bi_w bi_oru (by first | (simp only [w2, v0, v1, v2, v3] <;> rfl) | rfl))) rfl <| OSuf.aop tyOK rfl za rfl <| OSuf.nil <| SQ.normal ?_
            refine CWp.ret <| BQ.ret <| SQ.ret <| BQ.ret <| SQ.ret <| LQ.ret <| BQ.ret <| NQ.ret <| SQ.ret <| FQ.ret (by simp only [aRet, Tryz.f94, aResults, aResult, lk, Nat.reduceEqDiff, reduceIte] <;> first | rfl | (simp only [tyall] <;> rfl) | (simp [tyall] <;> rfl)) ?_
            -- leaf: end
            have hdl := hd.last hc hi10 hoc hm
            refine ⟨by simp only [numS, hdl], ?_, by simp only [nx], fun z hz => by simp (disch := first | assumption | omega | (simp only [nx] <;> omega) | fail) only [hpl]⟩
            simp only [numS, hdl, rc]
            exact AHeap.get_set_same _ _ _
          · have hmod : c.toNat % 128 = c.toNat - 128 := by omega
            rw [hmod] at hlt hle
            have v0 := wr_andn c (by omega)
            have v00 : IntKind.u64.wrap ((c.toNat - 128 : Nat) : Int) = ((c.toNat - 128 : Nat) : Int) := wr_u64 (by omega)
            have v2 : IntKind.u64.wrap (((c.toNat - 128 : Nat) : Int) * 2 ^ min ((7 * i : Nat) : Int).toNat IntKind.u64.bits) = (((c.toNat - 128) * 2 ^ (7 * i) : Nat) : Int) := by
              rw [e1, show ((c.toNat - 128 : Nat) : Int) * 2 ^ (7 * i) = (((c.toNat - 128) * 2 ^ (7 * i) : Nat) : Int) by simp, wr_u64 hle]
            have v3 := wr_or hd.1 hlt
            refine W.seq <| W.reg <| OSuf.aopT tyOK rfl (zb (hv := bi_lss)) (fun _ => rfl) (by first | rfl | assumption | ((simp only [bl, hr, e0]) <;> first | done | assumption | omega) | (simp; done) | (simp; omega)) <| OSuf.nil <| SQ.normal ?_
            refine W.seq <| W.yes (by simp only [lk] <;> rfl) <| CWp.skip <| SQ.normal ?_
            refine W.seq <| W.block <| W.seq <| W.reg <| OSuf.aop tyOK rfl sm rfl <| OSuf.aop tyOK rfl za rfl <| OSuf.nil <| SQ.normal ?_
            refine W.seq <| W.reg <| OSuf.aop tyOK rfl sm rfl <| OSuf.aop tyOK rfl (so_nilCheck (by simp only [lk] <;> rfl)) rfl <| OSuf.aop tyOK rfl (zf (hv := fa_ok (k := 0) ty122 rfl rfl ty9 rfl rfl)) rfl <| OSuf.aop tyOK rfl (zl (hv := by simp (disch := first | assumption | omega | (simp only [nx] <;> omega) | fail) only [aLoad, ty9, rowOf, hpl, hr, e0] <;> rfl)) rfl <| OSuf.aop tyOK rfl sm rfl <| OSuf.aop tyOK rfl (so_index (by simp only [lk] <;> rfl) (by simp only [lk] <;> rfl) (ix_str ty9 rfl hc')) rfl <| OSuf.aop tyOK rfl za rfl <| OSuf.nil <| SQ.normal ?_
            refine W.seq <| W.block <| W.seq <| W.reg <| OSuf.aop tyOK rfl sm rfl <| OSuf.aop tyOK rfl sm rfl <| OSuf.aop tyOK rfl sm rfl <| OSuf.vcallD rfl (by simp only [lk] <;> rfl) (by simp only [aopnds, lk] <;> rfl) (hod _) rfl <| OSuf.aopF tyOK rfl za (fun _ => rfl) rfl <| OSuf.nil <| SQ.normal ?_
            refine W.no (by simp only [lk] <;> rfl) <| W.seq <| W.reg <| OSuf.aop tyOK rfl sm rfl <| OSuf.aopF tyOK rfl (zb (hv := bi_lss)) (fun _ => rfl) (by simp; omega) <| OSuf.aopF tyOK rfl za (fun _ => rfl) rfl <| OSuf.nil <| SQ.normal ?_
            refine W.no (by simp only [lk] <;> rfl) <| CWp.skip <| BQ.normal <| SQ.normal ?_
            refine W.reg <| OSuf.aop tyOK rfl sm rfl <| OSuf.aop tyOK rfl sm rfl <| OSuf.aop tyOK rfl (zb (hv := bi_w bi_andn (by first | (simp only [w2, v0, v00, v1, v2, v3] <;> rfl) | rfl))) rfl <| OSuf.aop tyOK rfl (so_conw (so_conv tyOK (by simp only [lk] <;> rfl) ty5 ⟨_, rfl⟩ ty22 rfl) (by first | (simp only [w2, v0, v00, v1, v2, v3] <;> rfl) | rfl)) rfl <| OSuf.aop tyOK rfl sm rfl <| OSuf.aop tyOK rfl (zb (hv := bi_w bi_mul (by first | (simp only [w2, v0, v00, v1, v2, v3] <;> rfl) | rfl))) rfl <| OSuf.aop tyOK rfl (zb (hv := bi_w (bi_shl (by omega)) (by first | (simp only [w2, v0, v00, v1, v2, v3] <;> rfl) | rfl))) rfl <| OSuf.aop tyOK rfl (zb (hv := bi_w bi_oru (by first | (simp only [w2, v0, v00, v1, v2, v3] <;> rfl) | rfl))) rfl <| OSuf.aop tyOK rfl za rfl <| OSuf.nil <| BQ.normal <| SQ.normal ?_
            refine W.reg <| OSuf.aop tyOK rfl (zb (hv := bi_w bi_add (by first | (simp only [w2, v0, v00, v1, v2, v3] <;> rfl) | rfl))) rfl <| OSuf.aop tyOK rfl sm rfl <| OSuf.nil <| ?_
            -- leaf: round
            refine LQ.normal (m := n - 1) (L := [(0, P0 r), (3, U64 ((acc + (c.toNat - 128) * 2 ^ (7 * i) : Nat) : Int)), (4, .func (.func 119) #[] #[]), (15, I64 M), (16, I64 ((i + 1 : Nat) : Int))]) (by omega) ?_ ⟨i + 1, _, by omega, by omega, hd.step hc hi10 hoc hm, rfl, rfl⟩
            simp only [HasA, Tr.get_put, Nat.reduceEqDiff, reduceIte, and_self]
      · refine W.seq <| W.reg <| OSuf.aopF tyOK rfl (zb (hv := bi_lss)) (fun _ => rfl) (by first | rfl | assumption | ((simp only [bl]) <;> first | done | assumption | omega) | (simp; done) | (simp; omega)) <| OSuf.nil <| SQ.normal ?_
        refine W.seq <| W.no (by simp only [lk] <;> rfl) <| CWp.exit <| SQ.exit <| LQ.exit <| BQ.exit <| ?_
        -- leaf: cut
        refine NQ.normal (L := [(0, P0 r)]) ?_ ⟨rfl, hd.none (rd_over (by omega)), rfl⟩
        simp only [HasA, Tr.get_put, Nat.reduceEqDiff, reduceIte, and_self]
    rintro L a' g ha ⟨rfl, hnone, rfl⟩
    refine SQ.normal <| CWp.known ha ?_
    simp only [mkA]
    refine W.seq <| W.reg <| OSuf.aop tyOK rfl sm rfl <| OSuf.call rfl (by simp only [aopnds, lk] <;> rfl) en118 (rdfail_c _ _ _ hr') ?_
    rintro _ _ ⟨rfl, rfl⟩
    refine ⟨_, rfl, ?_⟩
    refine OSuf.nil <| SQ.normal ?_
    refine W.seq <| W.reg <| OSuf.aop tyOK rfl za rfl <| OSuf.nil <| SQ.normal ?_
    refine CWp.ret <| FQ.ret (by simp only [aRet, Tryz.f94, aResults, aResult, lk, Nat.reduceEqDiff, reduceIte] <;> first | rfl | (simp only [tyall] <;> rfl) | (simp [tyall] <;> rfl)) ?_
    -- leaf: end
    have e2 : numS (some l) = (0, none) := by simp only [numS, hnone]
    rw [e2]
    exact ⟨rfl, AHeap.get_set_same _ _ _, by simp only [nx], fun z hz => by simp (disch := first | assumption | omega | (simp only [nx] <;> omega) | fail) only [hpl]⟩
theorem rdtext_c (h : AHeap) (r : Nat) (s : Rdr) (hr : h.get r = some (.cells (rc s) 1)) (hl : lenS s ≤ 1000000) : FWp Tryz.prog 93 [P0 r] h fun u h' => u = encS (textS s).1 ∧ h'.get r = some (.cells (rc (textS s).2) 1) ∧ h'.next = h.next ∧ ∀ z, ¬ z = r → h'.get z = h.get z := by
  have hnl := numS_le s
  have hlt := numS_lt s
  refine W.enter tyOK Tryz.func93 rfl rfl ?_
  simp only [entry]
  have hnum := rdnum_c h r s hr hl
  cases hs : (numS s).2 with
  | none =>
    rw [hs] at hnum
    refine W.seq <| W.reg <| OSuf.aop tyOK rfl za rfl <| OSuf.nil <| SQ.normal ?_
    refine W.seq <| W.reg <| OSuf.aop tyOK rfl sm rfl <| OSuf.call rfl (by simp only [aopnds, lk] <;> rfl) en94 (hnum) ?_
    rintro _ g ⟨rfl, g1, g2, g3⟩
    have ok := rdok_c g r _ g1
    have fl := rdfail_c g r _ g1
    refine ⟨_, rfl, ?_⟩
    refine OSuf.aop tyOK rfl za rfl <| OSuf.nil <| SQ.normal ?_
    refine W.seq <| W.seq <| W.reg <| OSuf.aop tyOK rfl sm rfl <| OSuf.callD rfl (by simp only [aopnds, lk] <;> rfl) en117 (ok) rfl <| OSuf.aopT tyOK rfl (so_not (by simp only [lk] <;> rfl)) (fun _ => rfl) rfl <| OSuf.aopT tyOK rfl sm (fun _ => rfl) rfl <| OSuf.pass ag rfl <| OSuf.pass ag rfl <| OSuf.pass ag rfl <| OSuf.pass ag rfl <| OSuf.pass ag rfl <| OSuf.pass ag rfl <| OSuf.pass ag rfl <| OSuf.pass ag rfl <| OSuf.aopT tyOK rfl (so_pick (by simp only [lk] <;> rfl) (by simp only [lk, cond_true, cond_false] <;> rfl)) (fun _ => rfl) rfl <| OSuf.nil <| SQ.normal ?_
    refine W.yes (by simp only [lk] <;> rfl) <| W.seq <| W.reg <| OSuf.aop tyOK rfl sm rfl <| OSuf.call rfl (by simp only [aopnds, lk] <;> rfl) en118 (fl) ?_
    rintro _ _ ⟨rfl, rfl⟩
    refine ⟨_, rfl, ?_⟩
    refine OSuf.nil <| SQ.normal ?_
    refine W.seq <| W.reg <| OSuf.aop tyOK rfl za rfl <| OSuf.nil <| SQ.normal ?_
    refine CWp.ret <| SQ.ret <| FQ.ret (by simp only [aRet, Tryz.f93, aResults, aResult, lk, Nat.reduceEqDiff, reduceIte] <;> first | rfl | (simp only [tyall] <;> rfl) | (simp [tyall] <;> rfl)) ?_
    -- leaf: end
    have e : textS s = ([], none) := by unfold textS; rw [hs]
    rw [e]
    exact ⟨rfl, AHeap.get_set_same _ _ _, by simp only [nx, g2], fun z hz => by simp (disch := first | assumption | omega | (simp only [nx] <;> omega) | fail) only [hpl]; exact g3 z hz⟩
  | some l =>
    rw [hs] at hnum hnl
    have hll : l.length ≤ 1000000 := Nat.le_trans hnl hl
    have e0 : (ByteArray.mk ⟨l⟩).size = l.length := rfl
    have w1 : IntKind.u64.wrap (l.length : Int) = (l.length : Int) := wr_u64 (by omega)
    by_cases hc : ((numS s).1 : Int) > (l.length : Int)
    · refine W.seq <| W.reg <| OSuf.aop tyOK rfl za rfl <| OSuf.nil <| SQ.normal ?_
      refine W.seq <| W.reg <| OSuf.aop tyOK rfl sm rfl <| OSuf.call rfl (by simp only [aopnds, lk] <;> rfl) en94 (hnum) ?_
      rintro _ g ⟨rfl, g1, g2, g3⟩
      have ok := rdok_c g r _ g1
      have fl := rdfail_c g r _ g1
      simp only [rc] at g1
      refine ⟨_, rfl, ?_⟩
      refine OSuf.aop tyOK rfl za rfl <| OSuf.nil <| SQ.normal ?_
      refine W.seq <| W.seq <| W.reg <| OSuf.aop tyOK rfl sm rfl <| OSuf.callD rfl (by simp only [aopnds, lk] <;> rfl) en117 (ok) rfl <| OSuf.aopF tyOK rfl (so_not (by simp only [lk] <;> rfl)) (fun _ => rfl) rfl <| OSuf.aopF tyOK rfl sm (fun _ => rfl) rfl <| OSuf.aop tyOK ag sm rfl <| OSuf.aop tyOK ag sm rfl <| OSuf.aop tyOK ag (so_nilCheck (by simp only [lk] <;> rfl)) rfl <| OSuf.aop tyOK ag (zf (hv := fa_ok (k := 0) ty122 rfl rfl ty9 rfl rfl)) rfl <| OSuf.aop tyOK ag (zl (hv := by simp (disch := first | assumption | omega | (simp only [nx] <;> omega) | fail) only [aLoad, ty9, rowOf, hpl, e0, g1] <;> rfl)) rfl <| OSuf.aop tyOK ag (so_len (by simp only [aopnds, lk] <;> rfl) (by simp (disch := first | assumption | omega | (simp only [nx] <;> omega) | fail) only [aLenOf, ty9, hpl, e0, g1] <;> rfl)) rfl <| OSuf.aop tyOK ag (so_conw (so_conv tyOK (by simp only [lk] <;> rfl) ty3 ⟨_, rfl⟩ ty22 rfl) (by first | (simp only [w1] <;> rfl) | rfl)) rfl <| OSuf.aopT tyOK ag (zb (hv := bi_gtr)) (fun _ => rfl) (by first | rfl | assumption | ((simp only [bl, e0, g1]) <;> first | done | assumption | omega) | (simp; done) | (simp; omega)) <| OSuf.aopT tyOK rfl (so_pick (by simp only [lk] <;> rfl) (by simp only [lk, cond_true, cond_false] <;> rfl)) (fun _ => rfl) rfl <| OSuf.nil <| SQ.normal ?_
      refine W.yes (by simp only [lk] <;> rfl) <| W.seq <| W.reg <| OSuf.aop tyOK rfl sm rfl <| OSuf.call rfl (by simp only [aopnds, lk] <;> rfl) en118 (fl) ?_
      rintro _ _ ⟨rfl, rfl⟩
      refine ⟨_, rfl, ?_⟩
      refine OSuf.nil <| SQ.normal ?_
      refine W.seq <| W.reg <| OSuf.aop tyOK rfl za rfl <| OSuf.nil <| SQ.normal ?_
      refine CWp.ret <| SQ.ret <| FQ.ret (by simp only [aRet, Tryz.f93, aResults, aResult, lk, Nat.reduceEqDiff, reduceIte] <;> first | rfl | (simp only [tyall] <;> rfl) | (simp [tyall] <;> rfl)) ?_
      -- leaf: end
      have e : textS s = ([], none) := by unfold textS; simp only [hs]; rw [if_pos (by omega)]
      rw [e]
      exact ⟨rfl, AHeap.get_set_same _ _ _, by simp only [nx, g2], fun z hz => by simp (disch := first | assumption | omega | (simp only [nx] <;> omega) | fail) only [hpl]; exact g3 z hz⟩
    · refine W.seq <| W.reg <| OSuf.aop tyOK rfl za rfl <| OSuf.nil <| SQ.normal ?_
      refine W.seq <| W.reg <| OSuf.aop tyOK rfl sm rfl <| OSuf.call rfl (by simp only [aopnds, lk] <;> rfl) en94 (hnum) ?_
      rintro _ g ⟨rfl, g1, g2, g3⟩
      have ok := rdok_c g r _ g1
      simp only [rc] at g1
      refine ⟨_, rfl, ?_⟩
      refine OSuf.aop tyOK rfl za rfl <| OSuf.nil <| SQ.normal ?_
      refine W.seq <| W.seq <| W.reg <| OSuf.aop tyOK rfl sm rfl <| OSuf.callD rfl (by simp only [aopnds, lk] <;> rfl) en117 (ok) rfl <| OSuf.aopF tyOK rfl (so_not (by simp only [lk] <;> rfl)) (fun _ => rfl) rfl <| OSuf.aopF tyOK rfl sm (fun _ => rfl) rfl <| OSuf.aop tyOK ag sm rfl <| OSuf.aop tyOK ag sm rfl <| OSuf.aop tyOK ag (so_nilCheck (by simp only [lk] <;> rfl)) rfl <| OSuf.aop tyOK ag (zf (hv := fa_ok (k := 0) ty122 rfl rfl ty9 rfl rfl)) rfl <| OSuf.aop tyOK ag (zl (hv := by simp (disch := first | assumption | omega | (simp only [nx] <;> omega) | fail) only [aLoad, ty9, rowOf, hpl, e0, g1] <;> rfl)) rfl <| OSuf.aop tyOK ag (so_len (by simp only [aopnds, lk] <;> rfl) (by simp (disch := first | assumption | omega | (simp only [nx] <;> omega) | fail) only [aLenOf, ty9, hpl, e0, g1] <;> rfl)) rfl <| OSuf.aop tyOK ag (so_conw (so_conv tyOK (by simp only [lk] <;> rfl) ty3 ⟨_, rfl⟩ ty22 rfl) (by first | (simp only [w1] <;> rfl) | rfl)) rfl <| OSuf.aopF tyOK ag (zb (hv := bi_gtr)) (fun _ => rfl) (by first | rfl | assumption | ((simp only [bl, e0, g1]) <;> first | done | assumption | omega) | (simp; done) | (simp; omega)) <| OSuf.aopF tyOK rfl (so_pick (by simp only [lk] <;> rfl) (by simp only [lk, cond_true, cond_false] <;> rfl)) (fun _ => rfl) rfl <| OSuf.nil <| SQ.normal ?_
      refine W.no (by simp only [lk] <;> rfl) <| CWp.skip <| SQ.normal ?_
      refine W.seq <| W.reg <| OSuf.aop tyOK rfl sm rfl <| OSuf.aop tyOK rfl (so_nilCheck (by simp only [lk] <;> rfl)) rfl <| OSuf.aop tyOK rfl (zf (hv := fa_ok (k := 0) ty122 rfl rfl ty9 rfl rfl)) rfl <| OSuf.aop tyOK rfl (zl (hv := by simp (disch := first | assumption | omega | (simp only [nx] <;> omega) | fail) only [aLoad, ty9, rowOf, hpl, e0, g1] <;> rfl)) rfl <| OSuf.aop tyOK rfl sm rfl <| OSuf.aop tyOK rfl (so_slice (by simp only [lk] <;> rfl) (by simp only [oopnd, lk] <;> rfl) (by simp only [oopnd, lk] <;> rfl) (by simp only [oopnd, lk] <;> rfl) (sl_strh ty9 rfl (by omega))) rfl <| OSuf.aop tyOK rfl za rfl <| OSuf.nil <| SQ.normal ?_
      refine W.seq <| W.reg <| OSuf.aop tyOK rfl sm rfl <| OSuf.aop tyOK rfl sm rfl <| OSuf.aop tyOK rfl (so_nilCheck (by simp only [lk] <;> rfl)) rfl <| OSuf.aop tyOK rfl (zf (hv := fa_ok (k := 0) ty122 rfl rfl ty9 rfl rfl)) rfl <| OSuf.aop tyOK rfl (zl (hv := by simp (disch := first | assumption | omega | (simp only [nx] <;> omega) | fail) only [aLoad, ty9, rowOf, hpl, e0, g1] <;> rfl)) rfl <| OSuf.aop tyOK rfl sm rfl <| OSuf.aop tyOK rfl (so_slice (by simp only [lk] <;> rfl) (by simp only [oopnd, lk] <;> rfl) (by simp only [oopnd, lk] <;> rfl) (by simp only [oopnd, lk] <;> rfl) (sl_str ty9 rfl (by omega))) rfl <| OSuf.aop tyOK rfl (so_nilCheck (by simp only [lk] <;> rfl)) rfl <| OSuf.aop tyOK rfl (zf (hv := fa_ok (k := 0) ty122 rfl rfl ty9 rfl rfl)) rfl <| OSuf.aop tyOK rfl (zs (hv := by simp (disch := first | assumption | omega | (simp only [nx] <;> omega) | fail) only [aStore, ty9, writeRow, hpl, e0, g1] <;> rfl)) rfl <| OSuf.nil <| SQ.normal ?_
      refine W.seq <| W.reg <| OSuf.aop tyOK rfl sm rfl <| OSuf.aop tyOK rfl za rfl <| OSuf.nil <| SQ.normal ?_
      refine CWp.ret <| FQ.ret (by simp only [aRet, Tryz.f93, aResults, aResult, lk, Nat.reduceEqDiff, reduceIte] <;> first | rfl | (simp only [tyall] <;> rfl) | (simp [tyall] <;> rfl)) ?_
      -- leaf: end
      have e : textS s = (l.take (numS s).1, some (l.drop (numS s).1)) := by unfold textS; simp only [hs]; rw [if_neg (by omega)]
      rw [e]
      exact ⟨rfl, AHeap.get_set_same _ _ _, by simp only [nx, g2], fun z hz => by simp (disch := first | assumption | omega | (simp only [nx] <;> omega) | fail) only [hpl]; exact g3 z hz⟩
theorem rdnew_c (h : AHeap) (l : List UInt8) : FWp Tryz.prog 92 [encS l] h fun u h' => u = P0 h.next ∧ h' = h.new (.cells (rc (some l)) 1) := by
  refine W.enter tyOK Tryz.func92 rfl rfl ?_
  simp only [entry]
  refine W.seq <| W.reg <| OSuf.aop tyOK rfl za rfl <| OSuf.nil <| SQ.normal ?_
  refine W.seq <| W.reg <| OSuf.aop tyOK rfl sm rfl <| OSuf.aop tyOK rfl (so_build (by simp only [aparts, lk] <;> rfl) (by simp only [aBuild, ty122, Value.cells, places, ty122] <;> first | rfl | (simp only [tyall] <;> rfl) | (simp [tyall] <;> rfl))) rfl <| OSuf.aop tyOK rfl (so_box (by simp only [lk] <;> rfl)) rfl <| OSuf.aop tyOK rfl za rfl <| OSuf.nil <| SQ.normal ?_
  refine CWp.ret <| FQ.ret (by simp only [aRet, Tryz.f92, aResults, aResult, lk, Nat.reduceEqDiff, reduceIte] <;> first | rfl | (simp only [tyall] <;> rfl) | (simp [tyall] <;> rfl)) ?_
  -- leaf: end
  exact ⟨rfl, rfl⟩
theorem rdtext_e {h : AHeap} {r : Nat} {s s' : Rdr} {t : List UInt8} (hr : h.get r = some (.cells (rc s) 1)) (hl : lenS s ≤ 400000) (e : textS s = (t, s')) : FWp Tryz.prog 93 [P0 r] h fun u h' => u = encS t ∧ h'.get r = some (.cells (rc s') 1) ∧ h'.next = h.next ∧ ∀ z, ¬ z = r → h'.get z = h.get z := by
  have := rdtext_c h r s hr (by omega); rw [e] at this; exact this
theorem rdnum_e {h : AHeap} {r : Nat} {s s' : Rdr} {n : Nat} (hr : h.get r = some (.cells (rc s) 1)) (hl : lenS s ≤ 400000) (e : numS s = (n, s')) : FWp Tryz.prog 94 [P0 r] h fun u h' => u = U64 n ∧ h'.get r = some (.cells (rc s') 1) ∧ h'.next = h.next ∧ ∀ z, ¬ z = r → h'.get z = h.get z := by
  have := rdnum_c h r s hr (by omega); rw [e] at this; exact this
end Go.Proofs.YtebheelmgcggmaaGreat
namespace Go.Proofs.YtebheelmgcggmaaGreat
open Go.Ab Go.Sort
set_option linter.unusedSimpArgs false
set_option linter.unusedVariables false
set_option maxRecDepth 10000
set_option maxHeartbeats 4000000
noncomputable def recS (s : Rdr) : Nat × Rec × Rdr :=
  let k := textS s
  let n := numS k.2
  let d := numS n.2
  let v := textS d.2
  (d.1, ⟨k.1, n.1, ((d.1 : Int) == 1), v.1⟩, v.2)
noncomputable def recsS : Nat → Rdr → List (Nat × Rec) × Rdr
  | 0, s => ([], s)
  | n + 1, s => let x := recS s; let y := recsS n x.2.2; ((x.1, x.2.1) :: y.1, y.2)
noncomputable def headS (s : Rdr) : List UInt8 × List UInt8 × Nat × Nat × Rdr :=
  let a := textS s
  let b := textS a.2
  let f := numS b.2
  let n := numS f.2
  (a.1, b.1, f.1, n.1, n.2)
theorem recsS_snoc : ∀ (n : Nat) (s : Rdr), recsS (n + 1) s = ((recsS n s).1 ++ [((recS (recsS n s).2).1, (recS (recsS n s).2).2.1)], (recS (recsS n s).2).2.2)
  | 0, s => rfl
  | n + 1, s => by
    rw [recsS, recsS_snoc n]
    simp only [recsS, List.cons_append]
theorem recsS_len : ∀ (n : Nat) (s : Rdr), (recsS n s).1.length = n
  | 0, s => rfl
  | n + 1, s => by simp only [recsS, List.length_cons, recsS_len n]
theorem recsS_mem : ∀ (i n : Nat) (s : Rdr), i ≤ n → ∀ x ∈ (recsS i s).1, x ∈ (recsS n s).1
  | 0, _, s, _, x, hx => by cases hx
  | i + 1, 0, s, h, x, hx => by omega
  | i + 1, n + 1, s, h, x, hx => by
    simp only [recsS, List.mem_cons] at hx ⊢
    rcases hx with hx | hx
    · exact .inl hx
    · exact .inr (recsS_mem i n _ (by omega) x hx)
theorem recS_le (s : Rdr) : lenS (recS s).2.2 ≤ lenS s := by
  simp only [recS]
  exact Nat.le_trans (textS_le _) (Nat.le_trans (numS_le _) (Nat.le_trans (numS_le _) (textS_le _)))
theorem recsS_le : ∀ (n : Nat) (s : Rdr), lenS (recsS n s).2 ≤ lenS s
  | 0, s => Nat.le_refl _
  | n + 1, s => Nat.le_trans (recsS_le n _) (recS_le s)
noncomputable def leafS (l : List UInt8) : Lf := let a := headS (some l); ⟨a.1, a.2.1, a.2.2.1, (recsS a.2.2.2.1 a.2.2.2.2).1.map (·.2), []⟩
noncomputable def readOK (l : List UInt8) : Bool :=
  let a := headS (some l)
  let b := recsS a.2.2.2.1 a.2.2.2.2
  decide (a.2.2.2.1 ≤ 64) && b.1.all (fun x => decide (x.1 ≤ 1)) && (endS b.2 && chk (leafS l))
noncomputable def WR : Value := .iface 77 (.agg #[])
theorem must_p (h : AHeap) (b : Bool) : FWpP Tryz.prog 95 [.bool b] h (fun u h' => b = true ∧ u = .tuple #[] ∧ h' = h) fun pv h' => b = false ∧ pv = WR ∧ h' = h := by
  refine V.enter tyOK Tryz.func95 rfl rfl ?_
  simp only [entry]
  cases b with
  | true =>
    refine V.seq <| V.reg <| OSuf.aopT tyOK rfl sm (fun _ => rfl) (by first | rfl | assumption | ((simp only [bl]) <;> first | done | assumption | omega) | (simp; done) | (simp; omega)) <| OSuf.aopF tyOK rfl (so_not (by simp only [lk] <;> rfl)) (fun _ => rfl) rfl <| OSuf.nil <| SQP.normal ?_
    refine V.no (by simp only [lk] <;> rfl) <| CWpP.skip <| FQ.normal (by simp only [aRet, Tryz.f95, aResults, aResult, lk, Nat.reduceEqDiff, reduceIte] <;> first | rfl | (simp only [tyall] <;> rfl) | (simp [tyall] <;> rfl)) ?_
    -- leaf: end
    exact ⟨rfl, rfl, rfl⟩
  | false =>
    refine V.seq <| V.reg <| OSuf.aopF tyOK rfl sm (fun _ => rfl) rfl <| OSuf.aopT tyOK rfl (so_not (by simp only [lk] <;> rfl)) (fun _ => rfl) rfl <| OSuf.nil <| SQP.normal ?_
    refine V.yes (by simp only [lk] <;> rfl) <| V.regP ?_
    refine OSufP.aop tyOK rfl (so_build (by simp only [aparts, lk] <;> rfl) (by simp only [aBuild, ty77] <;> first | rfl | (simp only [tyall] <;> rfl) | (simp [tyall] <;> rfl))) rfl ?_
    refine OSufP.aop tyOK rfl (so_makeInterface (by simp only [lk] <;> rfl) ty77 rfl) rfl ?_
    exact OSufP.panic (pv := .agg #[]) (t := 77) (by simp only [lk] <;> rfl) rfl rfl ⟨rfl, rfl, rfl⟩
end Go.Proofs.YtebheelmgcggmaaGreat
