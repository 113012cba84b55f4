/-
  Plain laws of what a table holds; keys of numbers; what a key's Rts is.
-/
import Derived.Test.YtldhcjfhlfgleaaTableH
namespace Go.Proofs.Ytldhcjfhlfgleaa
open Go.Ab
set_option linter.unusedSimpArgs false
set_option linter.unusedVariables false
set_option maxRecDepth 10000
set_option maxHeartbeats 4000000

theorem mx_left (a b : Int) : a ≤ mx a b := by simp only [mx]; split <;> omega
theorem mx_right (a b : Int) : b ≤ mx a b := by simp only [mx]; split <;> omega
theorem getR_key {k : List UInt8} {A : List Rec} {x : Rec} (h : getR k A = some x) : x ∈ A ∧ x.key = k :=
  ⟨List.mem_of_find?_eq_some h, by have := List.find?_some h; simpa using this⟩
theorem getR_map {x : Rec} {k : List UInt8} : ∀ {A : List Rec}, getR k (A.map fun y => if y.key = x.key then x else y) = if k = x.key then (getR k A).map (fun _ => x) else getR k A
  | [] => by simp [getR]
  | y :: A => by
    have ih := getR_map (x := x) (k := k) (A := A)
    simp only [getR] at ih ⊢
    rw [List.map_cons]
    by_cases h1 : y.key = x.key
    · rw [if_pos h1]
      by_cases h2 : k = x.key
      · rw [if_pos h2, List.find?_cons_of_pos (by simp [h2]), List.find?_cons_of_pos (by simp [h1, h2])]; rfl
      · rw [if_neg h2, List.find?_cons_of_neg (by simp; exact fun e => h2 e.symm), List.find?_cons_of_neg (by simp; exact fun e => h2 (by rw [← e, h1])), ih, if_neg h2]
    · rw [if_neg h1]
      by_cases h3 : y.key = k
      · have h2 : ¬ k = x.key := fun e => h1 (by rw [h3, e])
        rw [if_neg h2, List.find?_cons_of_pos (by simp [h3]), List.find?_cons_of_pos (by simp [h3])]
      · rw [List.find?_cons_of_neg (by simp [h3]), List.find?_cons_of_neg (by simp [h3]), ih]
theorem getR_setR (x : Rec) (A : List Rec) (k : List UInt8) : getR k (setR x A) = if k = x.key then some x else getR k A := by
  cases hg : getR x.key A with
  | some y =>
    rw [setR, hg]; simp only
    rw [getR_map]
    by_cases h2 : k = x.key
    · rw [if_pos h2, if_pos h2, h2, hg]; rfl
    · rw [if_neg h2, if_neg h2]
  | none =>
    rw [setR, hg]; simp only
    by_cases h2 : k = x.key
    · rw [if_pos h2, getR, List.find?_cons_of_pos (by simp [h2])]
    · rw [if_neg h2, getR, List.find?_cons_of_neg (by simp; exact fun e => h2 e.symm)]; rfl
theorem getR_delR (k' : List UInt8) (A : List Rec) (k : List UInt8) : getR k (delR k' A) = if k = k' then none else getR k A := by
  induction A with
  | nil => simp [getR, delR]
  | cons y A ih =>
    simp only [getR, delR] at ih ⊢
    by_cases h1 : y.key = k'
    · rw [List.filter_cons, if_neg (by simp [h1]), ih]
      by_cases h2 : k = k'
      · rw [if_pos h2, if_pos h2]
      · rw [if_neg h2, if_neg h2, List.find?_cons_of_neg (by simp; exact fun e => h2 (by rw [← e, h1]))]
    · rw [List.filter_cons, if_pos (by simp [h1])]
      by_cases h3 : y.key = k
      · have h2 : ¬ k = k' := fun e => h1 (by rw [h3, e])
        rw [if_neg h2, List.find?_cons_of_pos (by simp [h3]), List.find?_cons_of_pos (by simp [h3])]
      · rw [List.find?_cons_of_neg (by simp [h3]), ih, List.find?_cons_of_neg (by simp [h3])]
theorem setR_length (x : Rec) (A : List Rec) : (setR x A).length ≤ A.length + 1 := by
  cases hg : getR x.key A <;> rw [setR, hg] <;> simp
theorem delR_length (k : List UInt8) (A : List Rec) : (delR k A).length ≤ A.length := List.length_filter_le _ _
theorem setR_mem {x y : Rec} {A : List Rec} (h : y ∈ setR x A) : y = x ∨ y ∈ A := by
  cases hg : getR x.key A with
  | some z =>
    rw [setR, hg] at h; simp only at h
    obtain ⟨w, hw, e⟩ := List.mem_map.1 h
    split at e
    · exact .inl e.symm
    · exact .inr (by rw [← e]; exact hw)
  | none =>
    rw [setR, hg] at h; simp only at h
    rcases List.mem_cons.1 h with h9 | h9
    · exact .inl h9
    · exact .inr h9
theorem delR_mem {y : Rec} {k : List UInt8} {A : List Rec} (h : y ∈ delR k A) : y ∈ A := (List.mem_filter.1 h).1
theorem touchR_length (k : List UInt8) (ts fl : Int) (A : List Rec) : (touchR k ts fl A).length ≤ A.length + 1 := by
  rw [touchR]; split
  · exact setR_length _ _
  · split
    · exact setR_length _ _
    · omega
theorem touchR_V {k : List UInt8} {ts fl : Int} {A : List Rec} {n : Nat} (h : ∀ x ∈ A, x.V.length ≤ n) : ∀ x ∈ touchR k ts fl A, x.V.length ≤ n := by
  intro x hx
  rw [touchR] at hx
  split at hx
  · rename_i y hy
    rcases setR_mem hx with h9 | h9
    · rw [h9]; exact h y (getR_key hy).1
    · exact h x h9
  · split at hx
    · rcases setR_mem hx with h9 | h9
      · rw [h9]; simp
      · exact h x h9
    · exact h x hx
/-- What a key's Rts is. -/
def rtsR (k : List UInt8) (fl : Int) (A : List Rec) : Int := match getR k A with
  | some x => x.rts
  | none => fl
theorem rts_touch (k k' : List UInt8) (ts fl : Int) (A : List Rec) : rtsR k' fl A ≤ rtsR k' fl (touchR k ts fl A) := by
  cases hg : getR k A with
  | some x =>
    have e : touchR k ts fl A = setR { x with rts := mx x.rts ts } A := by rw [touchR, hg]
    have hk := (getR_key hg).2
    rw [e, rtsR, rtsR, getR_setR]
    by_cases h : k' = x.key
    · rw [if_pos h, h, hk, hg]; exact mx_left _ _
    · rw [if_neg h]; exact Int.le_refl _
  | none =>
    by_cases ho : okKey k
    · have e : touchR k ts fl A = setR ⟨k, mx fl ts, false, []⟩ A := by rw [touchR, hg]; simp only [if_pos ho]
      rw [e, rtsR, rtsR, getR_setR]
      by_cases h : k' = k
      · rw [if_pos h, h, hg]; exact mx_left _ _
      · rw [if_neg h]; exact Int.le_refl _
    · have e : touchR k ts fl A = A := by rw [touchR, hg]; simp only [if_neg ho]
      rw [e]; exact Int.le_refl _
theorem rts_touched (k : List UInt8) (ts fl : Int) (A : List Rec) (ho : okKey k) : ts ≤ rtsR k fl (touchR k ts fl A) := by
  cases hg : getR k A with
  | some x =>
    have e : touchR k ts fl A = setR { x with rts := mx x.rts ts } A := by rw [touchR, hg]
    have hk := (getR_key hg).2
    rw [e, rtsR, getR_setR, if_pos hk.symm]; exact mx_right _ _
  | none =>
    have e : touchR k ts fl A = setR ⟨k, mx fl ts, false, []⟩ A := by rw [touchR, hg]; simp only [if_pos ho]
    rw [e, rtsR, getR_setR, if_pos rfl]; exact mx_right _ _
theorem rts_evict (k k' : List UInt8) (fl : Int) (A : List Rec) (x : Rec) (hg : getR k A = some x) : rtsR k' fl A ≤ rtsR k' (mx fl x.rts) (delR k A) := by
  rw [rtsR, rtsR, getR_delR]
  by_cases h : k' = k
  · rw [if_pos h, h, hg]; exact mx_right _ _
  · rw [if_neg h]
    cases getR k' A with
    | some y => exact Int.le_refl _
    | none => exact mx_left _ _

/-! Keys of numbers. -/
def kb (a b : Nat) : List UInt8 := [UInt8.ofNat (97 + a), UInt8.ofNat (97 + b)]
theorem kb_ok (a b : Nat) : okKey (kb a b) := ⟨by simp [kb], by simp [kb]⟩
theorem key_c (h : AHeap) (m : Nat) (hm : m < 256) : FWp Try.prog 17 [.int .u8 m] h fun u h' => u = encS (kb (m % 7) (m / 7 % 5)) ∧ h' = h := by
  refine FWp.gcs (.flat rfl) (W.enter tyOK Try.func17 rfl rfl ?_)
  simp only [entry]
  have w1 : (m : Int).tmod 7 = ((m % 7 : Nat) : Int) := by rw [Int.tmod_eq_emod_of_nonneg (by omega)]; omega
  have w2 : (m : Int).tdiv 7 = ((m / 7 : Nat) : Int) := by rw [Int.tdiv_eq_ediv_of_nonneg (by omega)]; omega
  have w3 : IntKind.u8.wrap ((m / 7 : Nat) : Int) = ((m / 7 : Nat) : Int) := wrap_u8 (by omega) (by omega)
  have w4 : ((m / 7 : Nat) : Int).tmod 5 = ((m / 7 % 5 : Nat) : Int) := by rw [Int.tmod_eq_emod_of_nonneg (by omega)]; omega
  have w5 : IntKind.u8.wrap (97 + ((m % 7 : Nat) : Int)) = ((97 + m % 7 : Nat) : Int) := by rw [wrap_u8 (by omega) (by omega)]; omega
  have w6 : IntKind.u8.wrap (97 + ((m / 7 % 5 : Nat) : Int)) = ((97 + m / 7 % 5 : Nat) : Int) := by rw [wrap_u8 (by omega) (by omega)]; omega
  refine W.seq <| W.reg <| OSuf.aop tyOK rfl (so_assign (by simp only [lk] <;> rfl)) rfl <| OSuf.nil <| SQ.normal ?_
  refine W.seq <| W.reg <| OSuf.aop tyOK rfl sm rfl <| OSuf.aop tyOK rfl (so_bin (by simp only [lk] <;> rfl) (by simp only [lk] <;> rfl) (bi_w (bi_rem (by decide)) (by first | (simp only [w1, w2, w3, w4, w5, w6] <;> rfl) | rfl))) rfl <| OSuf.aop tyOK rfl (so_bin (by simp only [lk] <;> rfl) (by simp only [lk] <;> rfl) (bi_w bi_add (by first | (simp only [w1, w2, w3, w4, w5, w6] <;> rfl) | rfl))) rfl <| OSuf.aop tyOK rfl sm rfl <| OSuf.aop tyOK rfl (so_bin (by simp only [lk] <;> rfl) (by simp only [lk] <;> rfl) (bi_w (bi_quo (by decide)) (by first | (simp only [w1, w2, w3, w4, w5, w6] <;> rfl) | rfl))) rfl <| OSuf.aop tyOK rfl (so_bin (by simp only [lk] <;> rfl) (by simp only [lk] <;> rfl) (bi_w (bi_rem (by decide)) (by first | (simp only [w1, w2, w3, w4, w5, w6] <;> rfl) | rfl))) rfl <| OSuf.aop tyOK rfl (so_bin (by simp only [lk] <;> rfl) (by simp only [lk] <;> rfl) (bi_w bi_add (by first | (simp only [w1, w2, w3, w4, w5, w6] <;> rfl) | rfl))) rfl <| OSuf.aop tyOK rfl (so_buildSlice (by simp only [aparts, lk] <;> rfl) (by simp (disch := first | assumption | omega | (simp only [nx] <;> omega) | fail) only [aBuildSlice, ty54, ty5, hpl, places, ty5, ty54, ty9] <;> rfl)) rfl <| OSuf.aop tyOK rfl (so_convert (by simp only [lk] <;> rfl) (by simp (disch := first | assumption | omega | (simp only [nx] <;> omega) | fail) only [aConv, ty5, ty54, ty9, aCells, rowOf, hpl] <;> rfl)) rfl <| OSuf.aop tyOK rfl (so_assign (by simp only [lk] <;> rfl)) rfl <| OSuf.nil <| SQ.normal ?_
  refine CWp.ret <| FQ.ret (by simp only [aRet, Try.f17, aResults, aResult, lk, Nat.reduceEqDiff, reduceIte] <;> rfl) ?_
  -- leaf: end
  exact ⟨rfl, fun z o hz ho => by simp (disch := first | assumption | omega | (simp only [nx] <;> omega) | fail) only [hpl]; exact ho⟩
theorem rts_c (h : AHeap) (r : Nat) (fl : Int) (M : TM) (A : List Rec) (hB : TB h r fl M A) (k : List UInt8) (hk : k.length < 9223372036854775807) (hV : ∀ x ∈ A, x.V.length ≤ 1000000) : FWp Try.prog 18 [P0 r, encS k] h fun u h' => u = U64 (rtsR k fl A) ∧ h' = h := by
  refine FWp.gcs (.flat rfl) (W.enter tyOK Try.func18 rfl rfl ?_)
  simp only [entry]
  cases hg : getR k A with
  | none =>
    have e : rtsR k fl A = fl := by rw [rtsR, hg]
    rw [e]
    have hB1 : ∀ H : AHeap, h.next ≤ H.next → (∀ z, z < h.next → H.get z = h.get z) → TB H r fl M A := fun H hn hk => hB.mono hn hk
    have hlt := hB.ta.lt
    refine W.seq <| W.reg <| OSuf.aop tyOK rfl (so_assign (by simp only [lk] <;> rfl)) rfl <| OSuf.nil <| SQ.normal ?_
    refine W.seq <| W.reg <| OSuf.aop tyOK rfl sm rfl <| OSuf.aop tyOK rfl sm rfl <| OSuf.callD rfl (by simp only [aopnds, lk] <;> rfl) en20 (row_none h r fl M A hB k hk hg) rfl <| OSuf.aop tyOK rfl sm rfl <| OSuf.aop tyOK rfl (so_extract (by simp only [lk] <;> rfl) (by simp (disch := first | assumption | omega | (simp only [nx] <;> omega) | fail) only [aExtract, hpl, places, ty27, ty39, Value.cells] <;> rfl)) rfl <| OSuf.aopF tyOK rfl (so_extract (by simp only [lk] <;> rfl) (by simp (disch := first | assumption | omega | (simp only [nx] <;> omega) | fail) only [aExtract, hpl, places, ty27, ty39, Value.cells] <;> rfl)) (fun _ => rfl) (by first | rfl | assumption | ((simp only [bl, places, ty27, ty39, Value.cells]) <;> first | done | assumption | omega) | (simp; done) | (simp; omega)) <| OSuf.aop tyOK rfl (so_alloc (by simp only [aAlloc, ty39] <;> rfl)) rfl <| OSuf.aop tyOK rfl (so_store (by simp only [lk] <;> rfl) (by simp only [lk] <;> rfl) (by simp (disch := first | assumption | omega | (simp only [nx] <;> omega) | fail) only [aStore, ty39, writeRow, hpl, places, ty27, ty39, Value.cells] <;> rfl)) rfl <| OSuf.aopF tyOK rfl (so_assign (by simp only [lk] <;> rfl)) (fun _ => rfl) rfl <| OSuf.nil <| SQ.normal ?_
    refine W.seq <| W.seq <| W.reg <| OSuf.aopF tyOK rfl sm (fun _ => rfl) rfl <| OSuf.aopT tyOK rfl (so_not (by simp only [lk] <;> rfl)) (fun _ => rfl) rfl <| OSuf.nil <| SQ.normal ?_
    refine W.yes (by simp only [lk] <;> rfl) <| W.seq <| W.reg <| OSuf.aop tyOK rfl sm rfl <| OSuf.callD rfl (by simp only [aopnds, lk] <;> rfl) en19 (floor_c _ r fl M (hB1 _ (by simp only [nx]; omega) (fun z hz => by simp (disch := first | assumption | omega | (simp only [nx] <;> omega) | fail) only [hpl])).ta) rfl <| OSuf.aop tyOK rfl (so_assign (by simp only [lk] <;> rfl)) rfl <| OSuf.nil <| SQ.normal ?_
    refine CWp.ret <| SQ.ret <| FQ.ret (by simp only [aRet, Try.f18, aResults, aResult, lk, Nat.reduceEqDiff, reduceIte] <;> rfl) ?_
    -- leaf: end
    exact ⟨rfl, fun z o hz ho => by simp (disch := first | assumption | omega | (simp only [nx] <;> omega) | fail) only [hpl]; exact ho⟩
  | some x =>
    have e : rtsR k fl A = x.rts := by rw [rtsR, hg]
    rw [e]
    obtain ⟨v, H, h1, h2, h3, h4⟩ := row_some h r fl M A hB k hk x hg (hV x (getR_key hg).1)
    obtain ⟨a, c, rfl⟩ := avo_form h2
    refine W.seq <| W.reg <| OSuf.aop tyOK rfl (so_assign (by simp only [lk] <;> rfl)) rfl <| OSuf.nil <| SQ.normal ?_
    refine W.seq <| W.reg <| OSuf.aop tyOK rfl sm rfl <| OSuf.aop tyOK rfl sm rfl <| OSuf.callD rfl (by simp only [aopnds, lk] <;> rfl) en20 (h1) rfl <| OSuf.aop tyOK rfl sm rfl <| OSuf.aop tyOK rfl (so_extract (by simp only [lk] <;> rfl) (by simp (disch := first | assumption | omega | (simp only [nx] <;> omega) | fail) only [aExtract, hpl, places, ty27, ty39, Value.cells, rowV] <;> rfl)) rfl <| OSuf.aopT tyOK rfl (so_extract (by simp only [lk] <;> rfl) (by simp (disch := first | assumption | omega | (simp only [nx] <;> omega) | fail) only [aExtract, hpl, places, ty27, ty39, Value.cells, rowV] <;> rfl)) (fun _ => rfl) (by first | rfl | assumption | ((simp only [bl, places, ty27, ty39, Value.cells, rowV]) <;> first | done | assumption | omega) | (simp; done) | (simp; omega)) <| OSuf.aop tyOK rfl (so_alloc (by simp only [aAlloc, ty39] <;> rfl)) rfl <| OSuf.aop tyOK rfl (so_store (by simp only [lk] <;> rfl) (by simp only [lk] <;> rfl) (by simp (disch := first | assumption | omega | (simp only [nx] <;> omega) | fail) only [aStore, ty39, writeRow, hpl, places, ty27, ty39, Value.cells, rowV] <;> rfl)) rfl <| OSuf.aopT tyOK rfl (so_assign (by simp only [lk] <;> rfl)) (fun _ => rfl) rfl <| OSuf.nil <| SQ.normal ?_
    refine W.seq <| W.seq <| W.reg <| OSuf.aopT tyOK rfl sm (fun _ => rfl) rfl <| OSuf.aopF tyOK rfl (so_not (by simp only [lk] <;> rfl)) (fun _ => rfl) rfl <| OSuf.nil <| SQ.normal ?_
    refine W.no (by simp only [lk] <;> rfl) <| CWp.skip <| SQ.normal ?_
    refine W.seq <| W.reg <| OSuf.aop tyOK rfl (so_fieldAddr (by simp only [lk] <;> rfl) (fa_ok (k := 1) ty39 rfl rfl ty27 rfl rfl)) rfl <| OSuf.aop tyOK rfl (so_load (by simp only [lk] <;> rfl) (by simp (disch := first | assumption | omega | (simp only [nx] <;> omega) | fail) only [aLoad, ty27, rowOf, hpl, places, ty27, ty39, Value.cells, rowV] <;> rfl)) rfl <| OSuf.aop tyOK rfl (so_assign (by simp only [lk] <;> rfl)) rfl <| OSuf.nil <| SQ.normal ?_
    refine CWp.ret <| FQ.ret (by simp only [aRet, Try.f18, aResults, aResult, lk, Nat.reduceEqDiff, reduceIte] <;> rfl) ?_
    -- leaf: end
    exact ⟨rfl, fun z o hz ho => by simp (disch := first | assumption | omega | (simp only [nx] <;> omega) | fail) only [hpl]; rw [h4 z hz]; exact ho⟩
end Go.Proofs.Ytldhcjfhlfgleaa
