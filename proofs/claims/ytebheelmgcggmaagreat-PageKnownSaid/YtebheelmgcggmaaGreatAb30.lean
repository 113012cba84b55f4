/-
  More words for walks: slices of slices, clearing, calls in regions whose order counts, closed calls in any heap.
-/
import Derived.Test.YtebheelmgcggmaaGreatAb29
namespace Go.Ab
set_option linter.unusedSimpArgs false
set_option linter.unusedVariables false
section
variable {P : Program} {T : Tr TI} {h : AHeap}
theorem bi_w {op : BinOp} {t : TypeId} {x y : Operand} {u w : Value} {k : IntKind} {m n : Int} (hv : aBin P T op t x y u w = some (.int k m)) (e : m = n) : aBin P T op t x y u w = some (.int k n) := by rw [hv, e]
theorem so_conw {o : Oper} {ρ : Operand → Option Value} {h' : AHeap} {k : IntKind} {m n : Int} (hv : aop P T o ρ h = some (.int k m, h')) (e : m = n) : aop P T o ρ h = some (.int k n, h') := by rw [hv, e]
theorem bounds_lo {len n : Nat} {k : IntKind} (hn : n ≤ len) : bounds len len (some (.int k n)) none none = some (n, len, len) := by
  simp only [bounds, bnd]; rw [if_pos (by omega)]; simp
theorem bounds_hi {len n : Nat} {k : IntKind} (hn : n ≤ len) : bounds len len none (some (.int k n)) none = some (0, n, len) := by
  simp only [bounds, bnd]; rw [if_pos (by omega)]; simp
theorem FWp.ofClosed {f : FuncId} {v : Value} (hf : flat v = true) (hc : ∀ w, Calls P f #[] w fun e w' => e = .returned v ∧ Kept w w') : FWp P f [] h fun u h' => u = v ∧ h' = h := by
  intro μ args' w hl st
  have e : args' = #[] := by
    cases hargs : args'.toList with
    | nil => exact Array.toList_inj.1 hargs
    | cons x l => rw [hargs] at hl; cases hl
  subst e
  refine (hc w).mono ?_
  rintro e w' ⟨rfl, hk⟩
  refine ⟨v, v, h, μ, rfl, ⟨rfl, rfl⟩, ⟨Nat.le_refl _, Agree.refl _ _, hk.size, hk.os, hk.output, fun b hb hfr => ⟨hk.heap b hb, hfr⟩, fun b hb hfr => hfr, ⟨fun r o hr => ?_, st.apart⟩⟩, .of_flat _ _ hf⟩
  obtain ⟨h1, e, c, h2, h3, h4⟩ := st.live r o hr
  exact ⟨h1, e, c, h2, by rw [hk.heap _ (lt_of_heap h3)]; exact h3, h4⟩
end
theorem wrap_u64 {n : Int} (h0 : 0 ≤ n) (h1 : n < 18446744073709551616) : IntKind.u64.wrap n = n := by
  simp only [IntKind.wrap, IntKind.bits, IntKind.signed]
  simp
  omega
theorem wrap_i64 {n : Int} (h0 : -9223372036854775808 ≤ n) (h1 : n < 9223372036854775808) : IntKind.i64.wrap n = n := by
  simp only [IntKind.wrap, IntKind.bits, IntKind.signed]
  simp only [Bool.true_and, decide_eq_true_eq, ge_iff_le]
  split <;> omega
theorem wrap_u8 {n : Int} (h0 : 0 ≤ n) (h1 : n < 256) : IntKind.u8.wrap n = n := by
  simp only [IntKind.wrap, IntKind.bits, IntKind.signed]
  simp
  omega
theorem RdV.int {P : Program} {h : AHeap} {n : Nat} {t : TypeId} {v : Value} {k : IntKind} (ht : P.underlying t = some (.int k)) (hr : RdV P h (n + 1) t v) : ∃ i, v = .int k i ∧ (Lit.int k i).wf = true := by
  unfold RdV at hr
  rw [ht] at hr
  simp only at hr
  unfold Rd at hr
  rw [ht] at hr
  simp only at hr
  obtain ⟨i, h1, h2⟩ := hr
  exact ⟨i, by simpa using h1, h2⟩
theorem RdV.bool {P : Program} {h : AHeap} {n : Nat} {t : TypeId} {v : Value} (ht : P.underlying t = some .bool) (hr : RdV P h (n + 1) t v) : ∃ b, v = .bool b := by
  unfold RdV at hr
  rw [ht] at hr
  simp only at hr
  unfold Rd at hr
  rw [ht] at hr
  simp only at hr
  obtain ⟨i, h1⟩ := hr
  exact ⟨i, by simpa using h1⟩
theorem Rd.bytes {P : Program} {h : AHeap} {n : Nat} {t e : TypeId} {v : Value} {k : IntKind} (ht : P.underlying t = some (.slice e)) (he : P.underlying e = some (.int k)) (hr : RdV P h (n + 2) t v) :
    v = .slice none 0 0 ∨ ∃ (r : Nat) (zs : List Int), v = .slice (some ⟨r, 0, none⟩) zs.length 0 ∧ zs.length ≤ maxLen ∧ r < h.next ∧ (zs ≠ [] → h.get r = some (.ro (zs.map (Value.int k)))) ∧ ∀ z ∈ zs, (Lit.int k z).wf = true := by
  unfold RdV at hr
  rw [ht] at hr
  simp only at hr
  unfold Rd at hr
  rw [ht] at hr
  simp only at hr
  rcases hr with h1 | ⟨r, vss, h1, h2, h3, h4, h5⟩
  · exact .inl (by simpa using h1)
  · right
    have key : ∃ zs : List Int, vss = zs.map (fun z => [Value.int k z]) ∧ ∀ z ∈ zs, (Lit.int k z).wf = true := by
      clear h1 h2 h3 h4
      induction vss with
      | nil => exact ⟨[], rfl, fun z hz => by cases hz⟩
      | cons v vss ih =>
        obtain ⟨zs, e1, e2⟩ := ih fun x hx => h5 x (List.mem_cons_of_mem _ hx)
        obtain ⟨_, g⟩ := h5 v List.mem_cons_self
        unfold Rd at g
        rw [he] at g
        simp only at g
        obtain ⟨i, rfl, hw⟩ := g
        exact ⟨i :: zs, by rw [e1]; rfl, fun z hz => by cases hz with | head => exact hw | tail _ hm => exact e2 z hm⟩
    obtain ⟨zs, rfl, hw⟩ := key
    refine ⟨r, zs, by simpa using h1, by simpa using h2, h3, fun hne => ?_, hw⟩
    have := h4 (by simpa using hne)
    rw [this]
    congr 2
    have : ∀ l : List Int, (l.map fun z => [Value.int k z]).flatten = l.map (Value.int k) := by
      intro l; induction l with
      | nil => rfl
      | cons x l ih => simp [ih]
    exact this zs
end Go.Ab
