/-
  More words for walks: slices of slices, clearing, calls in regions whose order counts, closed calls in any heap.
-/
import Derived.Test.YtebheelmgcggmaaAb29
namespace Go.Ab
set_option linter.unusedSimpArgs false
set_option linter.unusedVariables false
theorem splice_app : ∀ (pre mid post xs : List Value), xs.length = mid.length → splice (pre ++ (mid ++ post)) pre.length xs = pre ++ (xs ++ post)
  | [], [], post, xs, h => by
    have : xs = [] := by simpa using h
    subst this
    cases post <;> rfl
  | [], m :: mid, post, xs, h => by
    cases xs with
    | nil => simp at h
    | cons x xs =>
      have := splice_app [] mid post xs (by simpa using h)
      simp only [List.nil_append, List.length_nil, List.cons_append, splice] at this ⊢
      rw [this]
  | p :: pre, mid, post, xs, h => by
    have := splice_app pre mid post xs h
    cases xs with
    | nil =>
      have : mid = [] := by simp at h; simpa using h.symm
      subst this
      simp [splice]
    | cons x xs =>
      simp only [List.cons_append, List.length_cons, splice]
      rw [this]; rfl
section
variable {P : Program} {T : Tr TI} {h : AHeap}
theorem bi_w {op : BinOp} {t : TypeId} {x y : Operand} {u w : Value} {k : IntKind} {m n : Int} (hv : aBin P T op t x y u w = some (.int k m)) (e : m = n) : aBin P T op t x y u w = some (.int k n) := by rw [hv, e]
theorem so_conw {o : Oper} {ρ : Operand → Option Value} {h' : AHeap} {k : IntKind} {m n : Int} (hv : aop P T o ρ h = some (.int k m, h')) (e : m = n) : aop P T o ρ h = some (.int k n, h') := by rw [hv, e]
theorem bounds_lo {len n : Nat} {k : IntKind} (hn : n ≤ len) : bounds len len (some (.int k n)) none none = some (n, len, len) := by
  simp only [bounds, bnd]; rw [if_pos (by omega)]; simp
theorem bounds_hi {len n : Nat} {k : IntKind} (hn : n ≤ len) : bounds len len none (some (.int k n)) none = some (0, n, len) := by
  simp only [bounds, bnd]; rw [if_pos (by omega)]; simp
theorem sl_u {t elem : TypeId} {ti ei : TI} {r off len l hh : Nat} {vs : List Value} {lo hi : Option Value} (ht : T.get t = some ti) (hu : ti.und = .slice elem) (he : T.get elem = some ei) (hb : bounds len len lo hi none = some (l, hh, len)) (hr : h.get r = some (.cells vs ei.size)) :
    aSlice T t (.slice (some ⟨r, off, none⟩) len 0) lo hi none h = some (.slice (some ⟨r, off + l * ei.size, none⟩) (hh - l) 0) := by
  cases l with
  | zero =>
    simp only [aSlice, ht, hu, he, hb, rowSz, hr, Nat.beq_refl, cond_true, Nat.zero_mul, Nat.add_zero, Nat.sub_zero]
  | succ l =>
    have e : Nat.beq (l + 1) 0 = false := rfl
    simp only [aSlice, ht, hu, he, hb, rowSz, hr, Nat.beq_refl, cond_true, e, cond_false]
theorem sl_0 {t elem : TypeId} {ti ei : TI} {x : Nat × Nat × Nat} {lo hi : Option Value} (ht : T.get t = some ti) (hu : ti.und = .slice elem) (he : T.get elem = some ei) (hb : bounds 0 0 lo hi none = some x) : aSlice T t (.slice none 0 0) lo hi none h = some (.slice none 0 0) := by
  simp only [aSlice, ht, hu, he, hb]
theorem cl_u {t elem : TypeId} {ats : Array TypeId} {ti ei : TI} {z : Value} {r off len sz c : Nat} {pre mid post : List Value} (ha : ats.toList = [t]) (ht : T.get t = some ti) (hu : ti.und = .slice elem) (he : T.get elem = some ei) (hz : ei.zero = some z) (hf : z.cells.toList.all flat1 = true) (ho : oneCells z.cells.toList = true)
    (hr : h.get r = some (.cells (pre ++ (mid ++ post)) sz)) (hpre : pre.length = off) (hmid : mid.length = len * z.cells.toList.length) (hlen : len ≠ 0) :
    aClear T ats (.slice (some ⟨r, off, none⟩) len c) h = some (h.set r (.cells (pre ++ (zeros z.cells.toList len ++ post)) sz)) := by
  have h0 : Nat.beq len 0 = false := by cases len with | zero => exact (hlen rfl).elim | succ n => rfl
  have hone : ∀ n, oneCells (zeros z.cells.toList n) = true := by
    intro n; induction n with
    | zero => rfl
    | succ n ih => simp only [zeros, oneCells, List.all_append, Bool.and_eq_true] at ih ⊢; exact ⟨ho, ih⟩
  have hb : Nat.ble (off + (zeros z.cells.toList len).length) (pre ++ (mid ++ post)).length = true := Nat.ble_eq_true_of_le (by
    rw [zeros_length, List.length_append, List.length_append, hmid]; omega)
  simp only [aClear, ha, ht, hu, h0, cond_false, he, hz, hf, cond_true, writeRow, hr, hone, hb, Bool.and_self]
  rw [← hpre, splice_app pre mid post _ (by rw [zeros_length]; exact hmid.symm)]
theorem fcallO {a : Tr Value} {dst : Option Tmp} {k : FuncId} {fn : Func} {xs : Array Operand} {ats : Array TypeId} {ty : TypeId} {pos : String} {after : Array Edge} {guard : Option (Nat × Bool)} {args : List Value} {K : Value → AHeap → Prop}
    (hx : aopnds (aopnd a) xs.toList = some args) (he : Entered P k fn) (hF : FWp P k args h K) : ∀ ρ, (∀ x ∈ (Op.call ⟨.value (.func k), xs, ats⟩).operands.toList, ρ x = aopnd a x) → OpWp P ⟨dst, .call ⟨.value (.func k), xs, ats⟩, ty, pos, after, guard⟩ ρ h K := by
  intro ρ hρ
  refine OpWp.fcall ?_ (aopnds_at hx fun x hm => hρ x ?_) he hF
  · rw [hρ _ (by simp [Op.operands, Call.operands])]; rfl
  · simp only [Op.operands, Call.operands, Array.toList_append, List.mem_append]; exact .inr hm
theorem FWp.ofClosed {f : FuncId} {v : Value} (hf : flat v = true) (hc : ∀ w, Calls P f #[] w fun e w' => e = .returned v ∧ Kept w w') : FWp P f [] h fun u h' => u = v ∧ h' = h := by
  intro μ args' w hl st
  have e : args' = #[] := by
    cases hargs : args'.toList with
    | nil => exact Array.toList_inj.1 hargs
    | cons x l => rw [hargs] at hl; cases hl
  subst e
  refine (hc w).mono ?_
  rintro e w' ⟨rfl, hk⟩
  refine ⟨v, v, h, μ, rfl, ⟨rfl, rfl⟩, ⟨Nat.le_refl _, Agree.refl _ _, hk.size, hk.os, hk.output, fun b hb hfr => ⟨hk.heap b hb, hfr⟩, fun b hb hfr => hfr, ⟨fun r o hr => ?_, st.apart⟩⟩, .of_flat _ _ hf⟩
  obtain ⟨h1, e, c, h2, h3, h4⟩ := st.live r o hr
  exact ⟨h1, e, c, h2, by rw [hk.heap _ (lt_of_heap h3)]; exact h3, h4⟩
end
theorem wrap_u64 {n : Int} (h0 : 0 ≤ n) (h1 : n < 18446744073709551616) : IntKind.u64.wrap n = n := by
  simp only [IntKind.wrap, IntKind.bits, IntKind.signed]
  simp
  omega
theorem wrap_i64 {n : Int} (h0 : -9223372036854775808 ≤ n) (h1 : n < 9223372036854775808) : IntKind.i64.wrap n = n := by
  simp only [IntKind.wrap, IntKind.bits, IntKind.signed]
  simp only [Bool.true_and, decide_eq_true_eq, ge_iff_le]
  split <;> omega
theorem wrap_u8 {n : Int} (h0 : 0 ≤ n) (h1 : n < 256) : IntKind.u8.wrap n = n := by
  simp only [IntKind.wrap, IntKind.bits, IntKind.signed]
  simp
  omega
theorem RdV.int {P : Program} {h : AHeap} {n : Nat} {t : TypeId} {v : Value} {k : IntKind} (ht : P.underlying t = some (.int k)) (hr : RdV P h (n + 1) t v) : ∃ i, v = .int k i ∧ (Lit.int k i).wf = true := by
  unfold RdV at hr
  rw [ht] at hr
  simp only at hr
  unfold Rd at hr
  rw [ht] at hr
  simp only at hr
  obtain ⟨i, h1, h2⟩ := hr
  exact ⟨i, by simpa using h1, h2⟩
theorem RdV.bool {P : Program} {h : AHeap} {n : Nat} {t : TypeId} {v : Value} (ht : P.underlying t = some .bool) (hr : RdV P h (n + 1) t v) : ∃ b, v = .bool b := by
  unfold RdV at hr
  rw [ht] at hr
  simp only at hr
  unfold Rd at hr
  rw [ht] at hr
  simp only at hr
  obtain ⟨i, h1⟩ := hr
  exact ⟨i, by simpa using h1⟩
theorem Rd.bytes {P : Program} {h : AHeap} {n : Nat} {t e : TypeId} {v : Value} {k : IntKind} (ht : P.underlying t = some (.slice e)) (he : P.underlying e = some (.int k)) (hr : RdV P h (n + 2) t v) :
    v = .slice none 0 0 ∨ ∃ (r : Nat) (zs : List Int), v = .slice (some ⟨r, 0, none⟩) zs.length 0 ∧ zs.length ≤ maxLen ∧ r < h.next ∧ (zs ≠ [] → h.get r = some (.ro (zs.map (Value.int k)))) ∧ ∀ z ∈ zs, (Lit.int k z).wf = true := by
  unfold RdV at hr
  rw [ht] at hr
  simp only at hr
  unfold Rd at hr
  rw [ht] at hr
  simp only at hr
  rcases hr with h1 | ⟨r, vss, h1, h2, h3, h4, h5⟩
  · exact .inl (by simpa using h1)
  · right
    have key : ∃ zs : List Int, vss = zs.map (fun z => [Value.int k z]) ∧ ∀ z ∈ zs, (Lit.int k z).wf = true := by
      clear h1 h2 h3 h4
      induction vss with
      | nil => exact ⟨[], rfl, fun z hz => by cases hz⟩
      | cons v vss ih =>
        obtain ⟨zs, e1, e2⟩ := ih fun x hx => h5 x (List.mem_cons_of_mem _ hx)
        obtain ⟨_, g⟩ := h5 v List.mem_cons_self
        unfold Rd at g
        rw [he] at g
        simp only at g
        obtain ⟨i, rfl, hw⟩ := g
        exact ⟨i :: zs, by rw [e1]; rfl, fun z hz => by cases hz with | head => exact hw | tail _ hm => exact e2 z hm⟩
    obtain ⟨zs, rfl, hw⟩ := key
    refine ⟨r, zs, by simpa using h1, by simpa using h2, h3, fun hne => ?_, hw⟩
    have := h4 (by simpa using hne)
    rw [this]
    congr 2
    have : ∀ l : List Int, (l.map fun z => [Value.int k z]).flatten = l.map (Value.int k) := by
      intro l; induction l with
      | nil => rfl
      | cons x l ih => simp [ih]
    exact this zs
end Go.Ab
