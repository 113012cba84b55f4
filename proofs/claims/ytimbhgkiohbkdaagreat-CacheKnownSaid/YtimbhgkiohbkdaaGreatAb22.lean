/-
  Regions whose order is left open, and whose text alone shows that the order does not count: they may be walked in the text's order. What each operation comes to, a lemma each, for walks over values that are not known. Appending, in words that suit a walk over values that are not known. Loops, with the slots that count written down. Walking code in the text's order, with names for what is asked behind each piece. More words for walks: slices of slices, clearing, calls in regions whose order counts, closed calls in any heap. Maps whose keys are numbers; going through a map. Rows that are arrays; writing a row twice. Comparing: nothing with nothing, bools, strings. Maps with keys of whatever kind; going through a map. Strings by their bytes: their order; strings as keys of maps. Calls that may panic: code, regions and functions with what is known where a panic comes out.
-/
import Derived.Test.YtimbhgkiohbkdaaGreatAb17
import Derived.ChangeReads
import Derived.ChangeArms
import Derived.ChangeSlices
import Derived.ChangeOld
import Derived.Sort.LotD3
import Derived.Sort.LotA
import Derived.Sort.LotB
import Derived.Sort.LotC
import Derived.Sort.LotD5
import Derived.Laws.Strings
import Derived.Defers
namespace Go.Ab
set_option linter.unusedSimpArgs false
set_option linter.unusedVariables false
section
variable {P : Program} {T : Tr TI}
theorem aopnds_congr {ρ ρ' : Operand → Option Value} : ∀ {xs : List Operand}, (∀ x ∈ xs, ρ x = ρ' x) → aopnds ρ xs = aopnds ρ' xs
  | [], _ => rfl
  | x :: xs, h => by
    simp only [aopnds]
    rw [h x List.mem_cons_self, aopnds_congr fun y hy => h y (List.mem_cons_of_mem _ hy)]
theorem aparts_congr {ρ ρ' : Operand → Option Value} : ∀ {xs : List (Nat × Operand)}, (∀ x ∈ xs.map (·.2), ρ x = ρ' x) → aparts ρ xs = aparts ρ' xs
  | [], _ => rfl
  | (i, x) :: xs, h => by
    simp only [aparts]
    rw [h x (by simp), aparts_congr fun y hy => h y (by simp only [List.map_cons, List.mem_cons]; exact .inr hy)]
theorem oopnd_congr {ρ ρ' : Operand → Option Value} {x : Option Operand} (h : ∀ y ∈ x.toArray, ρ y = ρ' y) : oopnd ρ x = oopnd ρ' x := by
  cases x with
  | none => rfl
  | some x => simp only [oopnd]; rw [h x (by simp)]
set_option maxHeartbeats 1000000 in
theorem aop_congr {o : Oper} {ρ ρ' : Operand → Option Value} {h : AHeap} (hx : ∀ x ∈ o.op.operands.toList, ρ x = ρ' x) : aop P T o ρ h = aop P T o ρ' h := by
  obtain ⟨dst, op, ty, pos, after, guard⟩ := o
  simp only [Array.mem_toList_iff] at hx
  cases op
  case build t ps =>
    have := aparts_congr (ρ := ρ) (ρ' := ρ') (xs := ps.toList) (fun x hm => hx x (by simpa [Op.operands] using hm))
    simp only [aop, this]
  case buildSlice t l ps =>
    have := aparts_congr (ρ := ρ) (ρ' := ρ') (xs := ps.toList) (fun x hm => hx x (by simpa [Op.operands] using hm))
    simp only [aop, this]
  case makeFunc fn a c =>
    have h1 := aopnds_congr (ρ := ρ) (ρ' := ρ') (xs := a.toList) (fun x hm => hx x (by simp only [Op.operands, Array.mem_append]; exact .inl (by simpa using hm)))
    have h2 := aopnds_congr (ρ := ρ) (ρ' := ρ') (xs := c.toList) (fun x hm => hx x (by simp only [Op.operands, Array.mem_append]; exact .inr (by simpa using hm)))
    simp only [aop, h1, h2]
  case slice t x l r m =>
    have h0 := hx x (by simp [Op.operands])
    have h1 := oopnd_congr (ρ := ρ) (ρ' := ρ') (x := l) (fun y hy => hx y (by simp only [Op.operands, Array.mem_append]; exact .inl (.inl (.inr hy))))
    have h2 := oopnd_congr (ρ := ρ) (ρ' := ρ') (x := r) (fun y hy => hx y (by simp only [Op.operands, Array.mem_append]; exact .inl (.inr hy)))
    have h3 := oopnd_congr (ρ := ρ) (ρ' := ρ') (x := m) (fun y hy => hx y (by simp only [Op.operands, Array.mem_append]; exact .inr hy))
    simp only [aop, h0, h1, h2, h3]
  case call c =>
    obtain ⟨callee, xs, ats⟩ := c
    cases callee with
    | builtin b =>
      have h1 := aopnds_congr (ρ := ρ) (ρ' := ρ') (xs := xs.toList) (fun x hm => hx x (by simp only [Op.operands, Call.operands, Array.mem_append]; exact .inr (by simpa using hm)))
      simp only [aop, h1]
    | value f => rfl
    | invoke f m => rfl
  case makeMap t r => cases r <;> rfl
  all_goals first | rfl | (simp [Op.operands] at hx; simp only [aop, hx]; done) | skip
structure SSt where
  i : Nat
  W : Tr Nat
  R : Tr Nat
  M : Tr Nat
  C : List Nat
  Rd : List Nat
noncomputable def sTmps (W : Tr Nat) (mk : Nat) : List Tmp → Bool
  | [] => true
  | t :: ts => (match W.get t with | none => true | some i => Nat.testBit mk i) && sTmps W mk ts
noncomputable def sAll (mk : Nat) : List Nat → Bool
  | [] => true
  | c :: l => Nat.testBit mk c && sAll mk l
noncomputable def sStep (T : Tr TI) (ops : Array Oper) (nt : Nat) (s : SSt) (o : Oper) : Option SSt :=
  match dMask s.M s.i o.after.toList 0 with
  | none => none
  | some mk => bif sTmps s.W mk (needs ops o) && (dDst nt s.W (dReads s.W s.i (needs ops o) s.R) s.i mk o.dst && !isDefer o.op) then
      match memKind T o.op with
      | 0 => some ⟨s.i + 1, (match o.dst with | some d => s.W.put d (some s.i) | none => s.W), dReads s.W s.i (needs ops o) s.R, s.M.put s.i (some mk), s.C, s.Rd⟩
      | 1 => bif sAll mk s.C then some ⟨s.i + 1, (match o.dst with | some d => s.W.put d (some s.i) | none => s.W), dReads s.W s.i (needs ops o) s.R, s.M.put s.i (some mk), s.C, s.i :: s.Rd⟩ else none
      | _ => bif sAll mk s.C && sAll mk s.Rd then some ⟨s.i + 1, (match o.dst with | some d => s.W.put d (some s.i) | none => s.W), dReads s.W s.i (needs ops o) s.R, s.M.put s.i (some mk), s.i :: s.C, s.Rd⟩ else none
    else none
noncomputable def sRun (T : Tr TI) (ops : Array Oper) (nt : Nat) : List Oper → SSt → Bool
  | [], _ => true
  | o :: os, s => match sStep T ops nt s o with
    | some s' => sRun T ops nt os s'
    | none => false
noncomputable def anyOrder (T : Tr TI) (ops : Array Oper) (nt : Nat) : Bool := sRun T ops nt ops.toList ⟨0, .leaf, .leaf, .leaf, [], []⟩
theorem sTmps_all {W : Tr Nat} {mk : Nat} : ∀ {l : List Tmp}, sTmps W mk l = true → ∀ t ∈ l, ∀ i, W.get t = some i → Nat.testBit mk i = true
  | t :: ts, h, u, hu, i, hi => by
    simp only [sTmps, Bool.and_eq_true] at h
    cases hu with
    | head => rw [hi] at h; exact h.1
    | tail _ hm => exact sTmps_all h.2 u hm i hi
theorem sAll_all {mk : Nat} : ∀ {l : List Nat}, sAll mk l = true → ∀ c ∈ l, Nat.testBit mk c = true
  | c :: l, h, d, hd => by
    simp only [sAll, Bool.and_eq_true] at h
    cases hd with
    | head => exact h.1
    | tail _ hm => exact sAll_all h.2 d hm
theorem dAct_all {a0 a : Tr Value} {W : Tr Nat} {mk : Nat} : ∀ {nd : List Tmp} {pa0 : Tr Value}, (∀ t ∈ nd, W.get t = none → a.get t = a0.get t) → (∀ t ∈ nd, ∀ i, W.get t = some i → Nat.testBit mk i = true ∧ ∃ u, a.get t = some u) →
    (∀ t, pa0.get t = none ∨ pa0.get t = a.get t) → ∃ pa, dAct a0 a W mk nd pa0 = some pa ∧ (∀ t, pa.get t = none ∨ pa.get t = a.get t) ∧ ∀ t, (t ∈ nd ∨ pa0.get t = a.get t) → pa.get t = a.get t
  | [], pa0, _, _, h3 => ⟨pa0, rfl, h3, fun t ht => ht.elim (fun h => by cases h) id⟩
  | t :: ts, pa0, h1, h2, h3 => by
    have step : ∀ {u : Value}, a.get t = some u → ∃ pa, dAct a0 a W mk ts (pa0.put t (some u)) = some pa ∧ (∀ s, pa.get s = none ∨ pa.get s = a.get s) ∧ ∀ s, (s ∈ t :: ts ∨ pa0.get s = a.get s) → pa.get s = a.get s := by
      intro u hu
      obtain ⟨pa, g1, g2, g3⟩ := dAct_all (a0 := a0) (a := a) (W := W) (mk := mk) (nd := ts) (pa0 := pa0.put t (some u)) (fun s hs => h1 s (List.mem_cons_of_mem _ hs)) (fun s hs => h2 s (List.mem_cons_of_mem _ hs))
        (fun s => by
          rw [Tr.get_put]
          split
          · rename_i e; subst e; exact .inr hu.symm
          · exact h3 s)
      refine ⟨pa, g1, g2, fun s hs => g3 s ?_⟩
      rw [Tr.get_put]
      rcases hs with hs | hs
      · cases hs with
        | head => right; rw [if_pos rfl, hu]
        | tail _ hm => exact .inl hm
      · right
        split
        · rename_i e; subst e; exact hu.symm
        · exact hs
    simp only [dAct]
    cases hw : W.get t with
    | none =>
      simp only
      have e := h1 t List.mem_cons_self hw
      cases hu : a0.get t with
      | some u => simp only; exact step (e.trans hu)
      | none =>
        simp only
        obtain ⟨pa, g1, g2, g3⟩ := dAct_all (a0 := a0) (a := a) (W := W) (mk := mk) (nd := ts) (pa0 := pa0) (fun s hs => h1 s (List.mem_cons_of_mem _ hs)) (fun s hs => h2 s (List.mem_cons_of_mem _ hs)) h3
        refine ⟨pa, g1, g2, fun s hs => ?_⟩
        rcases hs with hs | hs
        · cases hs with
          | head => rcases g2 t with g | g
                    · rw [g, e, hu]
                    · exact g
          | tail _ hm => exact g3 s (.inl hm)
        · exact g3 s (.inr hs)
    | some i =>
      simp only
      obtain ⟨b, u, hu⟩ := h2 t List.mem_cons_self i hw
      rw [b, cond_true, hu]
      exact step hu
theorem mem_tmpsOf : ∀ {xs : List Operand} {t : Tmp}, Operand.tmp t ∈ xs → t ∈ tmpsOf xs
  | x :: xs, t, h => by
    cases h with
    | head => simp [tmpsOf]
    | tail _ hm =>
      have := mem_tmpsOf hm
      cases x <;> simp only [tmpsOf] <;> first | exact List.mem_cons_of_mem _ this | exact this
theorem needs_opnd {ops : Array Oper} {o : Oper} {t : Tmp} (h : Operand.tmp t ∈ o.op.operands.toList) : t ∈ needs ops o := by
  have := mem_tmpsOf h
  unfold needs
  split
  · exact this
  · split
    · exact List.mem_cons_of_mem _ this
    · exact this
theorem aguard_needs {ops : Array Oper} {o : Oper} {a pa : Tr Value} (h : ∀ t ∈ needs ops o, pa.get t = a.get t) : aguard ops pa o = aguard ops a o := by
  unfold aguard
  cases hg : o.guard with
  | none => rfl
  | some jw =>
    obtain ⟨j, w⟩ := jw
    simp only
    cases hd : (ops[j]?).bind (·.dst) with
    | none => rfl
    | some d =>
      have : d ∈ needs ops o := by unfold needs; rw [hg]; simp only [hd]; exact List.mem_cons_self
      simp only [h d this]
theorem aopnd_needs {ops : Array Oper} {o : Oper} {a pa : Tr Value} (h : ∀ t ∈ needs ops o, pa.get t = a.get t) : ∀ x ∈ o.op.operands.toList, aopnd pa x = aopnd a x := by
  intro x hx
  cases x with
  | tmp t => simp only [aopnd]; exact h t (needs_opnd hx)
  | _ => rfl
inductive Sq (P : Program) (T : Tr TI) (ops : Array Oper) (nt : Nat) : List Oper → Tr Value → AHeap → Tr Value → AHeap → Prop
  | nil {a : Tr Value} {h : AHeap} : Sq P T ops nt [] a h a h
  | skip {o : Oper} {os : List Oper} {a a1 a' : Tr Value} {h h' : AHeap} (hg : aguard ops a o = some false) (hp : aput nt a o.dst (.tuple #[]) = some a1) (t : Sq P T ops nt os a1 h a' h') : Sq P T ops nt (o :: os) a h a' h'
  | op {o : Oper} {os : List Oper} {a a1 a' : Tr Value} {h h1 h' : AHeap} {v : Value} (hg : aguard ops a o = some true) (ho : aop P T o (aopnd a) h = some (v, h1)) (hp : aput nt a o.dst v = some a1) (t : Sq P T ops nt os a1 h1 a' h') : Sq P T ops nt (o :: os) a h a' h'
  | call {o : Oper} {os : List Oper} {a a1 a' : Tr Value} {h h1 h' : AHeap} {v : Value} (hg : aguard ops a o = some true) (hk : memKind T o.op = 2) (hd : isDefer o.op = false) (ho : ∀ ρ, (∀ x ∈ o.op.operands.toList, ρ x = aopnd a x) → OpWp P o ρ h fun x y => x = v ∧ y = h1)
      (hp : aput nt a o.dst v = some a1) (t : Sq P T ops nt os a1 h1 a' h') : Sq P T ops nt (o :: os) a h a' h'
structure SRel (s : SSt) (σ : DSt) : Prop where
  i : s.i = σ.i
  W : s.W = σ.W
  R : s.R = σ.R
  M : s.M = σ.M
  C : ∀ x ∈ σ.hist, x.1 ∈ s.C
  Rd : ∀ x ∈ σ.reads, x.1 ∈ s.Rd
  F : ∀ x ∈ σ.hist, x.2.1 = false
theorem dHist_static {o : Oper} {pa : Tr Value} {v : Value} {mk : Nat} : ∀ {l : List (Nat × Bool × AHeap)}, (∀ x ∈ l, Nat.testBit mk x.1 = true) → dHist P T o pa v mk l = true
  | [], _ => rfl
  | (c, _, hb) :: r, h => by simp only [dHist]; rw [h _ List.mem_cons_self]; rfl
theorem dAll_static {mk : Nat} : ∀ {l : List (Nat × Bool × AHeap)}, (∀ x ∈ l, Nat.testBit mk x.1 = true) → dAll mk l = true
  | [], _ => rfl
  | (c, _, hb) :: r, h => by simp only [dAll]; rw [h _ List.mem_cons_self, dAll_static fun x hx => h x (List.mem_cons_of_mem _ hx)]; rfl
theorem dBelow_static {mk : Nat} : ∀ {l : List (Nat × Bool × AHeap)}, (∀ x ∈ l, x.2.1 = false) → dBelow mk l = true
  | [], _ => rfl
  | (c, f, hb) :: r, h => by
    have : f = false := h _ List.mem_cons_self
    subst this
    simp only [dBelow, Bool.false_and, cond_false, Bool.true_and]
    exact dBelow_static fun x hx => h x (List.mem_cons_of_mem _ hx)
noncomputable def putd (a : Tr Value) (dst : Option Tmp) (v : Value) : Tr Value := match dst with | some d => a.put d (some v) | none => a
theorem aput_eq {nt : Nat} {a a1 : Tr Value} {dst : Option Tmp} {v : Value} (hp : aput nt a dst v = some a1) : a1 = putd a dst v := by
  cases dst with
  | none => simp only [aput, Option.some.injEq] at hp; exact hp.symm
  | some d =>
    simp only [aput] at hp
    cases hb : Nat.ble (d + 1) nt
    · rw [hb, cond_false] at hp; cases hp
    · rw [hb, cond_true] at hp; cases hp; rfl
variable {cx : Cx} {ops : Array Oper} {a0 : Tr Value} {h0 : AHeap}
open Classical in
theorem Sq.step (ok : TyOK P T) {σ : DSt} {v : Nat → Value} {pa : Nat → Tr Value} {kd : Nat → Kind} {H : Nat → AHeap} {m : Nat} (D : DP P T cx ops a0 h0 σ v pa kd H m) {s s' : SSt} (S : SRel s σ) {o : Oper} (hs : sStep T ops cx.nt s o = some s') {u : Value} {h1 : AHeap}
    (k : (aguard ops σ.a o = some false ∧ u = .tuple #[] ∧ h1 = σ.h) ∨ (aguard ops σ.a o = some true ∧ aop P T o (aopnd σ.a) σ.h = some (u, h1)) ∨
      (aguard ops σ.a o = some true ∧ memKind T o.op = 2 ∧ ∀ ρ, (∀ x ∈ o.op.operands.toList, ρ x = aopnd σ.a x) → OpWp P o ρ σ.h fun x y => x = u ∧ y = h1)) :
    ∃ op : Oper → (Operand → Option Value) → AHeap → Option (Value × AHeap), (∀ o ρ h x h', op o ρ h = some (x, h') → OpWp P o ρ h fun y z => y = x ∧ z = h') ∧
      ∃ σ', dStep P T op ops cx.nt a0 σ o = some σ' ∧ σ'.a = putd σ.a o.dst u ∧ σ'.h = h1 ∧ SRel s' σ' := by
  refine ⟨fun o ρ h => if OpWp P o ρ h (fun x y => x = u ∧ y = h1) then some (u, h1) else none, fun o ρ h x h' hx => ?_, ?_⟩
  · simp only at hx
    split at hx
    · rename_i hw; cases hx; exact hw
    · cases hx
  · obtain ⟨e1, e2, e3, e4, e5, e6, e7⟩ := S
    unfold sStep at hs
    rw [e1, e2, e3, e4] at hs
    cases hmk : dMask σ.M σ.i o.after.toList 0 with
    | none => rw [hmk] at hs; cases hs
    | some mk =>
      rw [hmk] at hs
      simp only at hs
      cases hb : sTmps σ.W mk (needs ops o) && (dDst cx.nt σ.W (dReads σ.W σ.i (needs ops o) σ.R) σ.i mk o.dst && !isDefer o.op)
      · rw [hb, cond_false] at hs; cases hs
      · rw [hb, cond_true] at hs
        simp only [Bool.and_eq_true] at hb
        obtain ⟨b1, b2⟩ := hb
        have hb2 : (dDst cx.nt σ.W (dReads σ.W σ.i (needs ops o) σ.R) σ.i mk o.dst && !isDefer o.op) = true := by rw [b2.1, b2.2]; rfl
        obtain ⟨pn, g1, g2, g3⟩ := dAct_all (a0 := a0) (a := σ.a) (W := σ.W) (mk := mk) (nd := needs ops o) (pa0 := .leaf)
          (fun t ht hw => by rw [D.act t, hw]) (fun t ht i hw => ⟨sTmps_all b1 t ht i hw, v i, by rw [D.act t, hw]⟩) (fun t => .inl (Tr.get_leaf t))
        have gn : ∀ t ∈ needs ops o, pn.get t = σ.a.get t := fun t ht => g3 t (.inl ht)
        have gg : aguard ops pn o = aguard ops σ.a o := aguard_needs gn
        have go := aopnd_needs gn
        unfold dStep
        rw [hmk]
        simp only
        rw [g1]
        simp only
        rw [hb2, dBelow_static e7]
        simp only [Bool.and_self, cond_true]
        rw [gg]
        rcases k with ⟨k1, rfl, rfl⟩ | ⟨k1, k2⟩ | ⟨k1, k2, k3⟩
        · rw [k1]
          refine ⟨_, rfl, rfl, rfl, ?_⟩
          split at hs
          · cases hs; exact ⟨rfl, rfl, rfl, rfl, e5, e6, e7⟩
          · cases hc : sAll mk s.C
            · rw [hc, cond_false] at hs; cases hs
            · rw [hc, cond_true] at hs; cases hs
              exact ⟨rfl, rfl, rfl, rfl, e5, fun x hx => List.mem_cons_of_mem _ (e6 x hx), e7⟩
          · cases hc : sAll mk s.C && sAll mk s.Rd
            · rw [hc, cond_false] at hs; cases hs
            · rw [hc, cond_true] at hs; cases hs
              exact ⟨rfl, rfl, rfl, rfl, fun x hx => List.mem_cons_of_mem _ (e5 x hx), e6, e7⟩
        · rw [k1]
          have k3 : aop P T o (aopnd pn) σ.h = some (u, h1) := by rw [aop_congr go]; exact k2
          simp only
          split at hs
          · rename_i hk
            cases hs
            rw [hk]
            simp only
            rw [k3]
            obtain ⟨rfl, _⟩ := aop_free hk k3
            exact ⟨_, rfl, rfl, rfl, rfl, rfl, rfl, rfl, e5, e6, e7⟩
          · rename_i hk
            cases hc : sAll mk s.C
            · rw [hc, cond_false] at hs; cases hs
            · rw [hc, cond_true] at hs; cases hs
              rw [hk]
              simp only
              rw [k3]
              obtain rfl := aop_read hk k3
              simp only
              rw [dHist_static fun x hx => sAll_all hc _ (e5 x hx), cond_true]
              refine ⟨_, rfl, rfl, rfl, rfl, rfl, rfl, rfl, e5, fun x hx => ?_, e7⟩
              cases hx with
              | head => exact List.mem_cons_self
              | tail _ hm => exact List.mem_cons_of_mem _ (e6 x hm)
          · rename_i n0 n1
            cases hc : sAll mk s.C && sAll mk s.Rd
            · rw [hc, cond_false] at hs; cases hs
            · rw [hc, cond_true] at hs; cases hs
              simp only [Bool.and_eq_true] at hc
              split
              · rename_i h; exact absurd h n0
              · rename_i h; exact absurd h n1
              · rw [dAll_static fun x hx => sAll_all hc.1 _ (e5 x hx), cond_true, if_pos (aop_sound ok k3 ⟨rfl, rfl⟩)]
                simp only
                have hr : (σ.reads.all fun x => Nat.testBit mk x.1 || sameAt P T x.2.1 x.2.2.1 x.2.2.2 h1) = true := by
                  rw [List.all_eq_true]
                  intro x hx
                  rw [sAll_all hc.2 _ (e6 x hx)]; rfl
                rw [hr, cond_true]
                refine ⟨_, rfl, rfl, rfl, rfl, rfl, rfl, rfl, fun x hx => ?_, e6, fun x hx => ?_⟩
                · cases hx with
                  | head => exact List.mem_cons_self
                  | tail _ hm => exact List.mem_cons_of_mem _ (e5 x hm)
                · cases hx with
                  | head => rfl
                  | tail _ hm => exact e7 x hm
        · rw [k1]
          simp only
          rw [k2] at hs ⊢
          simp only at hs ⊢
          cases hc : sAll mk s.C && sAll mk s.Rd
          · rw [hc, cond_false] at hs; cases hs
          · rw [hc, cond_true] at hs; cases hs
            simp only [Bool.and_eq_true] at hc
            rw [dAll_static fun x hx => sAll_all hc.1 _ (e5 x hx), cond_true, if_pos (k3 _ go)]
            simp only
            have hr : (σ.reads.all fun x => Nat.testBit mk x.1 || sameAt P T x.2.1 x.2.2.1 x.2.2.2 h1) = true := by
              rw [List.all_eq_true]
              intro x hx
              rw [sAll_all hc.2 _ (e6 x hx)]; rfl
            rw [hr, cond_true]
            refine ⟨_, rfl, rfl, rfl, rfl, rfl, rfl, rfl, fun x hx => ?_, e6, fun x hx => ?_⟩
            · cases hx with
              | head => exact List.mem_cons_self
              | tail _ hm => exact List.mem_cons_of_mem _ (e5 x hm)
            · cases hx with
              | head => rfl
              | tail _ hm => exact e7 x hm
theorem Sq.walk (ok : TyOK P T) : ∀ {os : List Oper} {σ : DSt} {v : Nat → Value} {pa : Nat → Tr Value} {kd : Nat → Kind} {H : Nat → AHeap} {m : Nat} {s : SSt} {a' : Tr Value} {h' : AHeap}, DP P T cx ops a0 h0 σ v pa kd H m → SRel s σ → ops.toList.drop σ.i = os → sRun T ops cx.nt os s = true →
    Sq P T ops cx.nt os σ.a σ.h a' h' → ∃ σ', σ'.i = σ.i + os.length ∧ σ'.a = a' ∧ σ'.h = h' ∧ ∃ v' pa' kd' H' m', DP P T cx ops a0 h0 σ' v' pa' kd' H' m'
  | [], σ, v, pa, kd, H, m, s, a', h', D, S, hd, hs, hq => by cases hq; exact ⟨σ, by simp, rfl, rfl, v, pa, kd, H, m, D⟩
  | o :: os, σ, v, pa, kd, H, m, s, a', h', D, S, hd, hs, hq => by
    have ho : ops[σ.i]? = some o := by
      rw [← Array.getElem?_toList]
      have := congrArg (fun l : List Oper => l[0]?) hd
      simpa using this
    simp only [sRun] at hs
    split at hs
    · rename_i s' hs'
      have go : ∀ {u : Value} {h1 : AHeap} {a1 : Tr Value}, ((aguard ops σ.a o = some false ∧ u = .tuple #[] ∧ h1 = σ.h) ∨ (aguard ops σ.a o = some true ∧ aop P T o (aopnd σ.a) σ.h = some (u, h1)) ∨
          (aguard ops σ.a o = some true ∧ memKind T o.op = 2 ∧ ∀ ρ, (∀ x ∈ o.op.operands.toList, ρ x = aopnd σ.a x) → OpWp P o ρ σ.h fun x y => x = u ∧ y = h1)) → aput cx.nt σ.a o.dst u = some a1 → Sq P T ops cx.nt os a1 h1 a' h' →
          ∃ σ', σ'.i = σ.i + (o :: os).length ∧ σ'.a = a' ∧ σ'.h = h' ∧ ∃ v' pa' kd' H' m', DP P T cx ops a0 h0 σ' v' pa' kd' H' m' := by
        intro u h1 a1 k hp hq
        obtain ⟨op, hop, σ1, d1, d2, d3, S1⟩ := Sq.step ok D S hs' k
        obtain ⟨f1, v1, pa1, kd1, H1, m1, D1⟩ := dStep_sound ok hop D ho d1
        have hd1 : ops.toList.drop σ1.i = os := by rw [f1, ← List.drop_drop, hd]; rfl
        rw [aput_eq hp, ← d2, ← d3] at hq
        obtain ⟨σ', q1, q2⟩ := Sq.walk ok D1 S1 hd1 hs hq
        exact ⟨σ', by rw [q1, f1]; simp; omega, q2⟩
      cases hq with
      | skip hg hp t => exact go (.inl ⟨hg, rfl, rfl⟩) hp t
      | op hg h2 hp t => exact go (.inr (.inl ⟨hg, h2⟩)) hp t
      | call hg hk _ h2 hp t => exact go (.inr (.inr ⟨hg, hk, h2⟩)) hp t
    · cases hs
theorem DP.done (ok : TyOK P T) (hmix : P.follows .mixedOrders = true) {id : Nat} {σ : DSt} {v : Nat → Value} {pa : Nat → Tr Value} {kd : Nat → Kind} {H : Nat → AHeap} {m : Nat} (D : DP P T cx ops a0 h0 σ v pa kd H m) (hn : σ.i = ops.size)
    {Q : AExit → Tr Value → AHeap → Prop} (hQ : Q .normal σ.a σ.h) : CWp P cx (.region id ops true) a0 h0 Q := by
  have lt : ∀ {j : Nat} {o : Oper}, ops[j]? = some o → j < σ.i := fun hj => by rw [hn]; exact (Array.getElem?_eq_some_iff.1 hj).1
  have at_ : ∀ j s, j < ops.size → (kd j).no = some s → s < m ∧ ∀ i, i < σ.i → (kd i).no = some s → i = j := fun j s hj hs => (D.one j _ (by omega) (Array.getElem?_eq_getElem hj)).at hs
  have R : DRun P cx ops (KB σ.M) a0 v kd H m := by
    refine ⟨fun i j ⟨mq, h1, h2⟩ => (D.mask j mq h1 i h2).1, fun j o ho => D.back j o (lt ho) ho, fun i j o p d hi hj hdo hdp => ?_, fun i o d hi hd => (D.wr2 i o d (lt hi) hi hd).2, fun s hs => ?_, fun i j s hi hj h1 h2 => (at_ j s hj h2).2 i (by omega) h1, fun i s hi h1 => (at_ i s hi h1).1, fun j s hj hk i s' hi hs' hlt => ?_, fun j i s hj hi hk hkb i' s' hi' hs' hlt => D.below j i s (by omega) (by omega) hk hkb i' s' (by omega) hs' hlt, fun j o ho => ⟨pa j, fun d u hu => ?_, D.dfr j o (lt ho) ho, ?_⟩⟩
    · have h1 := (D.wr2 i o d (lt hi) hi hdo).1
      have h2 := (D.wr2 j p d (lt hj) hj hdp).1
      rw [h1] at h2; cases h2; rfl
    · obtain ⟨i, h1, h2⟩ := D.all s hs; exact ⟨i, by omega, h2⟩
    · have hone := D.one j _ (by omega) (Array.getElem?_eq_getElem hj)
      unfold KOne at hone
      rw [hk] at hone
      exact hone.1.2.2 i s' (by omega) hs' hlt
    · rcases D.pas j o (lt ho) ho d u hu with ⟨i, p, g1, g2, g3, g4, _⟩ | ⟨g1, _, g3⟩
      · exact .inl ⟨i, p, g1, g2, g3, g4⟩
      · exact .inr ⟨g1, fun i p hp hd => g3 i p (lt hp) hp hd⟩
    · have hk := D.one j o (lt ho) ho
      unfold KOne at hk
      cases hkd : kd j with
      | skip => rw [hkd] at hk; exact hk
      | quiet =>
        rw [hkd] at hk
        obtain ⟨k1, k2, k3⟩ := hk
        refine ⟨k1, fun t ht hmay => ?_⟩
        obtain ⟨h', g1, g2⟩ := k2 t ht hmay
        exact aop_sound ok g1 ⟨rfl, g2⟩
      | change s =>
        rw [hkd] at hk
        exact ⟨hk.1.1, hk.1.2.1⟩
      | late s =>
        rw [hkd] at hk
        obtain ⟨⟨k1, rv, ob, q1, q2, q3, q4, q5, q6⟩, _⟩ := hk
        exact ⟨k1, rv, ob, q1, q2, q3, q4, q5, fun h => aop_sound ok (q6 h) ⟨rfl, rfl⟩⟩
  have hd := CWp.drawn (id := id) (aF := σ.a) (Q := Q) hmix R (fun d u hu => by
    rw [D.act d] at hu
    split at hu
    · rename_i j hj
      obtain ⟨_, p, g1, g2⟩ := D.wr d j hj
      simp only [Option.some.injEq] at hu
      exact .inl ⟨j, p, g1, g2, hu.symm⟩
    · rename_i hw
      refine .inr ⟨hu, fun i p hp hdp => ?_⟩
      have := (D.wr2 i p d (lt hp) hp hdp).1
      rw [hw] at this; cases this) (by rw [D.hm]; exact hQ)
  rw [D.hz] at hd
  exact hd
theorem CWp.anyOrder (ok : TyOK P T) (hmix : P.follows .mixedOrders = true) {id : Nat} {a a' : Tr Value} {h h' : AHeap} (hs : Ab.anyOrder T ops cx.nt = true) (hq : Sq P T ops cx.nt ops.toList a h a' h') {Q : AExit → Tr Value → AHeap → Prop} (hQ : Q .normal a' h') : CWp P cx (.region id ops true) a h Q := by
  have D0 : DP P T cx ops a h ⟨0, a, .leaf, .leaf, .leaf, [], [], h⟩ (fun _ => .tuple #[]) (fun _ => .leaf) (fun _ => .skip) (fun _ => h) 0 :=
    { hz := rfl
      hm := rfl
      hist := .nil
      kdge := fun _ _ => rfl
      mask := fun j mk hj => by first | cases hj | (rw [Tr.get_leaf] at hj; cases hj)
      back := fun j o hj => absurd hj (Nat.not_lt_zero _)
      wr := fun d j hj => by first | cases hj | (rw [Tr.get_leaf] at hj; cases hj)
      wr2 := fun j o d hj => absurd hj (Nat.not_lt_zero _)
      act := fun d => by first | rfl | (simp only [Tr.get_leaf])
      all := fun s hs => absurd hs (Nat.not_lt_zero _)
      below := fun j i s hj => absurd hj (Nat.not_lt_zero _)
      mget := fun j mk hj => by first | cases hj | (rw [Tr.get_leaf] at hj; cases hj)
      pas := fun j o hj => absurd hj (Nat.not_lt_zero _)
      dfr := fun j o hj => absurd hj (Nat.not_lt_zero _)
      one := fun j o hj => absurd hj (Nat.not_lt_zero _) }
  obtain ⟨σ', q1, rfl, rfl, v', pa', kd', H', m', D⟩ := Sq.walk ok D0 (s := ⟨0, .leaf, .leaf, .leaf, [], []⟩) ⟨rfl, rfl, rfl, rfl, fun x hx => (by cases hx), fun x hx => (by cases hx), fun x hx => (by cases hx)⟩ (by simp) hs hq
  exact D.done ok hmix (by rw [q1]; simp) hQ
end
end Go.Ab
namespace Go.Ab
set_option linter.unusedSimpArgs false
set_option linter.unusedVariables false
section
variable {P : Program} {T : Tr TI} {ρ : Operand → Option Value} {h h' : AHeap} {dst : Option Tmp} {ty : TypeId} {pos : String} {af : Array Edge} {g : Option (Nat × Bool)} {x y z : Operand} {u v : Value} {k : IntKind} {m n : Int} {t s : TypeId}
theorem so_move (hx : ρ x = some v) : aop P T ⟨dst, .move x, ty, pos, af, g⟩ ρ h = some (v, h) := by simp only [aop, hx, keep]
theorem so_assign (hx : ρ x = some v) : aop P T ⟨dst, .assign x, ty, pos, af, g⟩ ρ h = some (v, h) := by simp only [aop, hx, keep]
theorem so_pick {b : Bool} (hx : ρ x = some (.bool b)) (hv : (bif b then ρ y else ρ z) = some v) : aop P T ⟨dst, .pick x y z, ty, pos, af, g⟩ ρ h = some (v, h) := by simp only [aop, hx, hv, keep]
theorem so_load (hx : ρ x = some u) (hv : aLoad T t u h = some v) : aop P T ⟨dst, .load t x, ty, pos, af, g⟩ ρ h = some (v, h) := by simp only [aop, hx, hv, keep]
theorem so_store (hx : ρ x = some u) (hy : ρ y = some v) (hv : aStore T t u v h = some h') : aop P T ⟨dst, .store t x y, ty, pos, af, g⟩ ρ h = some (.tuple #[], h') := by simp only [aop, hx, hy, hv, unit]
theorem so_indexAddr {w : Value} (hx : ρ x = some u) (hy : ρ y = some w) (hv : aIndexAddr T s u w = some v) : aop P T ⟨dst, .indexAddr s x y, ty, pos, af, g⟩ ρ h = some (v, h) := by simp only [aop, hx, hy, hv, keep]
theorem so_index {w : Value} (hx : ρ x = some u) (hy : ρ y = some w) (hv : aIndex T s u w = some v) : aop P T ⟨dst, .index s x y, ty, pos, af, g⟩ ρ h = some (v, h) := by simp only [aop, hx, hy, hv, keep]
theorem so_extract {i : Nat} (hx : ρ x = some u) (hv : aExtract u i = some v) : aop P T ⟨dst, .extract x i, ty, pos, af, g⟩ ρ h = some (v, h) := by simp only [aop, hx, hv, keep]
theorem so_box (hx : ρ x = some v) : aop P T ⟨dst, .box t x, ty, pos, af, g⟩ ρ h = some (.pointer (some ⟨h.next, 0, none⟩), h.new (.cells v.cells.toList 1)) := by simp only [aop, hx, aBox]
theorem so_buildSlice {ps : Array (Nat × Operand)} {len : Nat} {qs : List (Nat × Value)} {r : Value × AHeap} (hx : aparts ρ ps.toList = some qs) (hv : aBuildSlice T t len qs h = some r) : aop P T ⟨dst, .buildSlice t len ps, ty, pos, af, g⟩ ρ h = some r := by simp only [aop, hx, hv]
theorem so_len {ats : Array TypeId} {xs : Array Operand} (hx : aopnds ρ xs.toList = some [u]) (hv : aLenOf T ats u h = some v) : aop P T ⟨dst, .call ⟨.builtin .len, xs, ats⟩, ty, pos, af, g⟩ ρ h = some (v, h) := by simp only [aop, hx, aBuiltin, hv, keep]
theorem so_append {ats : Array TypeId} {xs : Array Operand} {w : Value} {r : Value × AHeap} (hx : aopnds ρ xs.toList = some [u, w]) (hv : aAppend T ats u w h = some r) : aop P T ⟨dst, .call ⟨.builtin .append, xs, ats⟩, ty, pos, af, g⟩ ρ h = some r := by simp only [aop, hx, aBuiltin, hv]
theorem so_bin {op : BinOp} {w : Value} {t2 : TypeId} (hx : ρ x = some u) (hy : ρ y = some w) (hv : aBin P T op t x y u w = some v) : aop P T ⟨dst, .binOp op t x y t2, ty, pos, af, g⟩ ρ h = some (v, h) := by simp only [aop, hx, hy, hv, keep]
theorem pureRun_pure {α : Type} (a : α) : pureRun P (pure a : Sem α) = some a := rfl
theorem bi_add : aBin P T .add t x y (.int k m) (.int k n) = some (.int k (k.wrap (m + n))) := by simp [aBin, flat, flat1, eqGuard, binOp, Op.intArith, pureRun_pure]
theorem bi_sub : aBin P T .sub t x y (.int k m) (.int k n) = some (.int k (k.wrap (m - n))) := by simp [aBin, flat, flat1, eqGuard, binOp, Op.intArith, pureRun_pure]
theorem bi_neq : aBin P T .neq t x y (.int k m) (.int k n) = some (.bool (m != n)) := by simp [aBin, flat, flat1, eqGuard, binOp, Op.intCmp, pureRun_pure]
theorem bi_lss : aBin P T .lss t x y (.int k m) (.int k n) = some (.bool (decide (m < n))) := by simp [aBin, flat, flat1, eqGuard, binOp, Op.intCmp, pureRun_pure]
theorem bi_leq : aBin P T .leq t x y (.int k m) (.int k n) = some (.bool (decide (m ≤ n))) := by simp [aBin, flat, flat1, eqGuard, binOp, Op.intCmp, pureRun_pure]
theorem bi_gtr : aBin P T .gtr t x y (.int k m) (.int k n) = some (.bool (decide (m > n))) := by simp [aBin, flat, flat1, eqGuard, binOp, Op.intCmp, pureRun_pure]
theorem bi_geq : aBin P T .geq t x y (.int k m) (.int k n) = some (.bool (decide (m ≥ n))) := by simp [aBin, flat, flat1, eqGuard, binOp, Op.intCmp, pureRun_pure]
theorem pureRun_program {α : Type} (f : Program → Sem α) : pureRun P (program >>= f) = pureRun P (f P) := rfl
theorem so_conv (ok : TyOK P T) {k' : IntKind} {si di : TI} (hx : ρ x = some (.int k' n)) (hs : T.get s = some si) (hsu : ∃ j, si.und = .int j) (hd : T.get t = some di) (hdu : di.und = .int k) :
    aop P T ⟨dst, .convert s t x, ty, pos, af, g⟩ ρ h = some (.int k (k.wrap n), h) := by
  obtain ⟨j, hj⟩ := hsu
  obtain ⟨_, _, _, _, _, u1⟩ := ok.ok s si hs
  obtain ⟨_, _, _, _, _, u2⟩ := ok.ok t di hd
  have e : pureRun P (convert s t (.int k' n)) = some (.int k (k.wrap n)) := by
    rw [hj] at u1
    rw [hdu] at u2
    simp only [convert, underlying, bind_assoc, pureRun_program, u1, u2, pure_bind, Conv.intToInt, pureRun_pure]
  simp only [aop, hx, aConv, hs, hd, hj, hdu, aPure, flat, flat1, cond_true, e, keep]
theorem aguard_of {ops : Array Oper} {a : Tr Value} {o : Oper} {j : Nat} {want b r : Bool} {d : Tmp} (h1 : o.guard = some (j, want)) (h2 : (ops[j]?).bind (·.dst) = some d) (h3 : a.get d = some (.bool b)) (h4 : (b == want) = r) : aguard ops a o = some r := by
  simp only [aguard, h1, h2, h3, h4]
end
end Go.Ab
namespace Go.Ab
set_option linter.unusedSimpArgs false
set_option linter.unusedVariables false
section
variable {P : Program} {T : Tr TI} {h : AHeap}
theorem cellsOf_mk {vs : List Value} {off n : Nat} (hb : off + n ≤ vs.length) : cellsOf vs off n = some ((vs.drop off).take n) := by
  simp only [cellsOf]; rw [Nat.ble_eq_true_of_le hb]; rfl
theorem cellsOf_all {vs : List Value} {n : Nat} (hb : vs.length = n) : cellsOf vs 0 n = some vs := by
  rw [cellsOf_mk (by omega)]; simp [← hb]
theorem ap_u {ats : Array TypeId} {A : AppT} {r off len k : Nat} {x : Value} {vs new old : List Value} (ha : appT T ats = some A) (hl : aLen x = some k) (hx : aCells h A.size k x = some new) (hb : (2 * (len + k) + 256) * A.bytes ≤ 281474976710656) (hk : Nat.beq k 0 = false)
    (hr : h.get r = some (.cells vs A.size)) (ho : oneCells new = true) (hc : cellsOf vs off (len * A.size) = some old) :
    aAppend T ats (.slice (some ⟨r, off, none⟩) len 0) x h = some (.slice (some ⟨h.next, 0, none⟩) (len + k) 0, (h.kill r).new (.cells (old ++ new) A.size)) := by
  have e : Nat.beq A.size A.size = true := Nat.beq_refl _
  simp only [aAppend, ha, hl, hx, vLen, Nat.ble_eq_true_of_le hb, cond_true, hk, cond_false, hr, e, ho, Bool.and_self, hc]
theorem ap_0 {ats : Array TypeId} {A : AppT} {k : Nat} {x : Value} {new : List Value} (ha : appT T ats = some A) (hl : aLen x = some k) (hx : aCells h A.size k x = some new) (hb : (2 * (0 + k) + 256) * A.bytes ≤ 281474976710656) (hk : Nat.beq k 0 = false) :
    aAppend T ats (.slice none 0 0) x h = some (.slice (some ⟨h.next, 0, none⟩) k 0, h.new (.cells new A.size)) := by
  simp only [aAppend, ha, hl, hx, vLen, Nat.ble_eq_true_of_le hb, cond_true, hk, cond_false]
theorem so_not {ρ : Operand → Option Value} {dst : Option Tmp} {ty t : TypeId} {pos : String} {af : Array Edge} {g : Option (Nat × Bool)} {x : Operand} {b : Bool} (hx : ρ x = some (.bool b)) : aop P T ⟨dst, .unOp .not t x, ty, pos, af, g⟩ ρ h = some (.bool (!b), h) := by
  simp only [aop, hx, aPure, flat, flat1, cond_true, Op.unary, pureRun_pure, keep]
theorem FWp.gcs {f : FuncId} {args : List Value} {v : Value} (hv : BV h.next v) (hf : FWp P f args h fun u h' => u = v ∧ ∀ r o, r < h.next → h.get r = some o → h'.get r = some o) : FWp P f args h fun u h' => u = v ∧ h' = h := by
  intro μ args' w hl st
  refine (hf μ args' w hl st).mono ?_
  rintro e w' ⟨u, v', h', μ', rfl, ⟨rfl, hg⟩, x, hr⟩
  refine ⟨u, v', h, μ, rfl, ⟨rfl, rfl⟩, Ext.old st x rfl (fun r o ho => ⟨(st.live r o ho).1, hg r o (st.live r o ho).1 ho, .inl ho⟩), ?_⟩
  obtain ⟨_, _, g⟩ := hv
  exact VRel.mono (n := h.next) (fun q hq => (x.agree q hq).symm) (Nat.le_refl _) (g.narrow hr)
end
end Go.Ab
namespace Go.Ab
set_option linter.unusedSimpArgs false
set_option linter.unusedVariables false
noncomputable def mkA : List (Nat × Value) → Tr Value
  | [] => .leaf
  | (t, v) :: l => (mkA l).put t (some v)
noncomputable def HasA (a : Tr Value) : List (Nat × Value) → Prop
  | [] => True
  | (t, v) :: l => a.get t = some v ∧ HasA a l
theorem HasA.get {a : Tr Value} : ∀ {l : List (Nat × Value)}, HasA a l → ∀ t v, (mkA l).get t = some v → a.get t = some v
  | [], _, t, v, h => by have e := (Tr.get_leaf (α := Value) t).symm.trans h; cases e
  | (s, u) :: l, ha, t, v, h => by
    simp only [mkA, Tr.get_put] at h
    split at h
    · rename_i e; subst e; cases h; exact ha.1
    · exact HasA.get ha.2 t v h
section
variable {P : Program} {T : Tr TI} {cx : Cx}
theorem CWp.known {c : Code} {Q : AExit → Tr Value → AHeap → Prop} {a : Tr Value} {h : AHeap} {L : List (Nat × Value)} (hb : HasA a L) (hc : CWp P cx c (mkA L) h Q) : CWp P cx c a h Q := CWp.forget hb.get hc
theorem CWp.loopA {c : Code} {Q : AExit → Tr Value → AHeap → Prop} (I : Nat → List (Nat × Value) → AHeap → Prop)
    (round : ∀ n L h, I n L h → CWp P cx c (mkA L) h fun e a' h' => match e with | .normal => ∃ m L', m < n ∧ HasA a' L' ∧ I m L' h' | e => Q e a' h') {n : Nat} {L : List (Nat × Value)} {a : Tr Value} {h : AHeap} (ha : HasA a L) (hI : I n L h) : CWp P cx (.loop c) a h Q := by
  refine CWp.loopI (fun n a h => ∃ L, HasA a L ∧ I n L h) ?_ n a h ⟨L, ha, hI⟩
  rintro n a h ⟨L, ha, hI⟩
  refine CWp.known ha ((round n L h hI).mono fun e a' h' hq => ?_)
  cases e with
  | normal => obtain ⟨m, L', h1, h2, h3⟩ := hq; exact ⟨m, h1, L', h2, h3⟩
  | exit i => exact hq
  | ret => exact hq
end
end Go.Ab
namespace Go.Ab
set_option linter.unusedSimpArgs false
set_option linter.unusedVariables false
theorem AHeap.get_set_same (h : AHeap) (r : Nat) (o : AObj) : (h.set r o).get r = some o := by rw [AHeap.get_set, if_pos rfl]
theorem AHeap.get_set_ne {h : AHeap} {r q : Nat} {o : AObj} (e : ¬ r = q) : (h.set r o).get q = h.get q := by rw [AHeap.get_set, if_neg e]
theorem AHeap.get_new_same (h : AHeap) (o : AObj) : (h.new o).get h.next = some o := by rw [AHeap.get_new, if_pos rfl]
theorem AHeap.get_new_eq {h : AHeap} {q : Nat} {o : AObj} (e : h.next = q) : (h.new o).get q = some o := by rw [AHeap.get_new, if_pos e]
theorem AHeap.get_new_at {h : AHeap} {q : Nat} {o : AObj} (e : h.next ≤ q ∧ q ≤ h.next) : (h.new o).get q = some o := AHeap.get_new_eq (by omega)
theorem AHeap.get_new_ne {h : AHeap} {q : Nat} {o : AObj} (e : ¬ h.next = q) : (h.new o).get q = h.get q := by rw [AHeap.get_new, if_neg e]
theorem AHeap.get_kill_ne {h : AHeap} {r q : Nat} (e : ¬ r = q) : (h.kill r).get q = h.get q := by rw [AHeap.get_kill, if_neg e]
theorem lk : (∀ (a : Tr Value) (t : Tmp), aopnd a (.tmp t) = a.get t) ∧ (∀ (a : Tr Value) (f : FuncId), aopnd a (.func f) = some (.func (.func f) #[] #[])) ∧ (∀ (a : Tr Value) (k : IntKind) (n : Int), aopnd a (.const (.int k n)) = some (.int k n)) ∧ (∀ (a : Tr Value) (b : Bool), aopnd a (.const (.bool b)) = some (.bool b)) ∧
    (∀ (a : Tr Value) (s : ByteArray), aopnd a (.const (.string s)) = some (.string s)) ∧ (∀ (a : Tr Value), aopnd a (.const (.pointer none)) = some (.pointer none)) ∧ (∀ (a : Tr Value), aopnd a (.const (.slice none 0 0)) = some (.slice none 0 0)) ∧ (∀ (a : Tr Value), aopnd a (.const (.map none)) = some (.map none)) ∧
    (∀ (a : Tr Value), aopnd a (.const .nilFunc) = some .nilFunc) ∧ (∀ (a : Tr Value), aopnd a (.const .nilIface) = some .nilIface) ∧ (∀ (x : Option Value) (t : Tr Value) (n m : Nat), (t.put n x).get m = if n = m then x else t.get m) :=
  ⟨fun _ _ => rfl, fun _ _ => rfl, fun _ _ _ => rfl, fun _ _ => rfl, fun _ _ => rfl, fun _ => rfl, fun _ => rfl, fun _ => rfl, fun _ => rfl, fun _ => rfl, Tr.get_put⟩
theorem nx : (∀ (h : AHeap) (r : Nat) (o : AObj), (h.set r o).next = h.next) ∧ (∀ (h : AHeap) (r : Nat), (h.kill r).next = h.next) ∧ (∀ (h : AHeap) (o : AObj), (h.new o).next = h.next + 1) ∧ (∀ {α : Type} (d : Array α) (i : Nat) (x : α), (d.setIfInBounds i x).size = d.size) := ⟨fun _ _ _ => rfl, fun _ _ => rfl, fun _ _ => rfl, fun _ _ _ => by simp⟩
theorem hpl : (∀ (h : AHeap) (r : Nat) (o : AObj), (h.set r o).get r = some o) ∧ (∀ (h : AHeap) (o : AObj), (h.new o).get h.next = some o) ∧ (∀ {h : AHeap} {q : Nat} {o : AObj}, (h.next ≤ q ∧ q ≤ h.next) → (h.new o).get q = some o) ∧ (∀ {h : AHeap} {r q : Nat} {o : AObj}, (¬ r = q) → (h.set r o).get q = h.get q) ∧
    (∀ {h : AHeap} {q : Nat} {o : AObj}, (¬ h.next = q) → (h.new o).get q = h.get q) ∧ (∀ {h : AHeap} {r q : Nat}, (¬ r = q) → (h.kill r).get q = h.get q) ∧ (∀ (h : AHeap) (r : Nat) (o : AObj), (h.set r o).next = h.next) ∧ (∀ (h : AHeap) (r : Nat), (h.kill r).next = h.next) ∧ (∀ (h : AHeap) (o : AObj), (h.new o).next = h.next + 1) :=
  ⟨AHeap.get_set_same, AHeap.get_new_same, AHeap.get_new_at, AHeap.get_set_ne, AHeap.get_new_ne, AHeap.get_kill_ne, fun _ _ _ => rfl, fun _ _ => rfl, fun _ _ => rfl⟩
theorem bl : (∀ (p : Prop) [Decidable p], (decide p = true) = p) ∧ (∀ (p : Prop) [Decidable p], (decide p = false) = ¬ p) ∧ (∀ {α : Type} [BEq α] [LawfulBEq α] (a b : α), ((a == b) = true) = (a = b)) ∧ (∀ {α : Type} [BEq α] [LawfulBEq α] (a b : α), ((a != b) = true) = ¬ (a = b)) ∧ (∀ {α : Type} [BEq α] [LawfulBEq α] (a b : α), ((a == b) = false) = ¬ (a = b)) ∧
    (∀ {α : Type} [BEq α] [LawfulBEq α] (a b : α), ((a != b) = false) = (a = b)) ∧ (∀ {α : Type} (a b : α), (a ≠ b) = ¬ (a = b)) ∧ (∀ b : Bool, (¬ b = true) = (b = false)) ∧ (∀ b : Bool, (¬ b = false) = (b = true)) ∧ ((!true) = false) ∧ ((!false) = true) :=
  ⟨fun _ => by simp, fun _ => by simp, fun _ _ => by simp, fun _ _ => by simp, fun _ _ => by simp, fun _ _ => by simp, fun _ _ => rfl, fun _ => by simp, fun _ => by simp, rfl, rfl⟩
section
variable {P : Program} {T : Tr TI} {cx : Cx} {a : Tr Value} {h : AHeap} {Q : AExit → Tr Value → AHeap → Prop}
noncomputable def SQ (P : Program) (cx : Cx) (z : Code) (Q : AExit → Tr Value → AHeap → Prop) : AExit → Tr Value → AHeap → Prop := fun e a h => match e with | .normal => CWp P cx z a h Q | e => Q e a h
theorem SQ.normal {z : Code} (hc : CWp P cx z a h Q) : SQ P cx z Q .normal a h := hc
theorem SQ.exit {z : Code} {i : Nat} (hq : Q (.exit i) a h) : SQ P cx z Q (.exit i) a h := hq
theorem SQ.ret {z : Code} (hq : Q .ret a h) : SQ P cx z Q .ret a h := hq
theorem W.seq {x z : Code} (hc : CWp P cx x a h (SQ P cx z Q)) : CWp P cx (.seq x z) a h Q := CWp.seq (hc.mono fun e a h hq => by cases e <;> exact hq)
noncomputable def BQ (id : Nat) (Q : AExit → Tr Value → AHeap → Prop) : AExit → Tr Value → AHeap → Prop := fun e a h => match e with | .exit i => if i = id then Q .normal a h else Q (.exit i) a h | e => Q e a h
theorem BQ.normal {id : Nat} (hq : Q .normal a h) : BQ id Q .normal a h := hq
theorem BQ.exit {id : Nat} (hq : Q .normal a h) : BQ id Q (.exit id) a h := by simp only [BQ, if_true]; exact hq
theorem BQ.ret {id : Nat} (hq : Q .ret a h) : BQ id Q .ret a h := hq
theorem W.block {id : Nat} {c : Code} (hc : CWp P cx c a h (BQ id Q)) : CWp P cx (.block id c) a h Q := CWp.block (hc.mono fun e a h hq => by cases e <;> exact hq)
noncomputable def NQ (R : List (Nat × Value) → AHeap → Prop) (Q : AExit → Tr Value → AHeap → Prop) : AExit → Tr Value → AHeap → Prop := fun e a h => match e with | .normal => ∃ L, HasA a L ∧ R L h | e => Q e a h
theorem NQ.normal {R : List (Nat × Value) → AHeap → Prop} {L : List (Nat × Value)} (ha : HasA a L) (hr : R L h) : NQ R Q .normal a h := ⟨L, ha, hr⟩
theorem W.cut {x : Code} (R : List (Nat × Value) → AHeap → Prop) (hx : CWp P cx x a h (NQ R Q)) (hz : ∀ L a' h', HasA a' L → R L h' → Q .normal a' h') : CWp P cx x a h Q := by
  refine (hx.mono fun e a h hq => ?_)
  cases e with
  | normal => obtain ⟨L, h1, h2⟩ := hq; exact hz L _ _ h1 h2
  | exit i => exact hq
  | ret => exact hq
noncomputable def LQ (n : Nat) (I : Nat → List (Nat × Value) → AHeap → Prop) (Q : AExit → Tr Value → AHeap → Prop) : AExit → Tr Value → AHeap → Prop := fun e a h => match e with | .normal => ∃ m L, m < n ∧ HasA a L ∧ I m L h | e => Q e a h
theorem LQ.normal {n m : Nat} {I : Nat → List (Nat × Value) → AHeap → Prop} {L : List (Nat × Value)} (hm : m < n) (ha : HasA a L) (hi : I m L h) : LQ n I Q .normal a h := ⟨m, L, hm, ha, hi⟩
theorem LQ.exit {n : Nat} {I : Nat → List (Nat × Value) → AHeap → Prop} {i : Nat} (hq : Q (.exit i) a h) : LQ n I Q (.exit i) a h := hq
theorem LQ.ret {n : Nat} {I : Nat → List (Nat × Value) → AHeap → Prop} (hq : Q .ret a h) : LQ n I Q .ret a h := hq
theorem W.loop {c : Code} (I : Nat → List (Nat × Value) → AHeap → Prop) {n : Nat} {L : List (Nat × Value)} (hI : I n L h) (ha : HasA a L) (round : ∀ n L h, I n L h → CWp P cx c (mkA L) h (LQ n I Q)) : CWp P cx (.loop c) a h Q :=
  CWp.loopA I (fun n L h hi => (round n L h hi).mono fun e a h hq => by cases e <;> exact hq) ha hI
noncomputable def FQ (T : Tr TI) (fn : Func) (K : Value → AHeap → Prop) : AExit → Tr Value → AHeap → Prop := fun e a h => match e with | .exit _ => False | _ => ∃ v, aRet T fn a h = some v ∧ K v h
theorem FQ.ret {fn : Func} {K : Value → AHeap → Prop} {v : Value} (hr : aRet T fn a h = some v) (hk : K v h) : FQ T fn K .ret a h := ⟨v, hr, hk⟩
theorem FQ.normal {fn : Func} {K : Value → AHeap → Prop} {v : Value} (hr : aRet T fn a h = some v) (hk : K v h) : FQ T fn K .normal a h := ⟨v, hr, hk⟩
theorem W.enter (ok : TyOK P T) {f : FuncId} {fn : Func} {c : Code} {args : List Value} {K : Value → AHeap → Prop} (hf : P.funcs[f]? = some fn) (hb : fn.body = some c) (hn : Nat.ble args.length fn.ntmps = true)
    (hc : CWp P ⟨f, fn.ntmps, none⟩ c (entry args 0 .leaf) h (FQ T fn K)) : FWp P f args h K :=
  FWp.code ok hf hb (Nat.le_of_ble_eq_true hn) (hc.mono fun e a h hq => by cases e <;> exact hq)
theorem W.yes {c : Operand} {x y : Code} (hc : aopnd a c = some (.bool true)) (h1 : CWp P cx x a h Q) : CWp P cx (.cond c x y) a h Q := CWp.cond hc h1
theorem W.no {c : Operand} {x y : Code} (hc : aopnd a c = some (.bool false)) (h1 : CWp P cx y a h Q) : CWp P cx (.cond c x y) a h Q := CWp.cond hc h1
theorem W.reg {id : Nat} {ops : Array Oper} (hr : OSuf P cx ops ops.toList a h fun a' h' => Q .normal a' h') : CWp P cx (.region id ops false) a h Q := CWp.reg hr
noncomputable def SqW (P : Program) (T : Tr TI) (cx : Cx) (ops : Array Oper) (os : List Oper) (a : Tr Value) (h : AHeap) (Q : Tr Value → AHeap → Prop) : Prop := ∃ a' h', Sq P T ops cx.nt os a h a' h' ∧ Q a' h'
theorem W.regD (ok : TyOK P T) (hmix : P.follows .mixedOrders = true) {id : Nat} {ops : Array Oper} (hs : Ab.anyOrder T ops cx.nt = true) (hr : SqW P T cx ops ops.toList a h fun a' h' => Q .normal a' h') : CWp P cx (.region id ops true) a h Q := by
  obtain ⟨a', h', h1, h2⟩ := hr
  exact CWp.anyOrder ok hmix hs h1 h2
variable {ops : Array Oper} {o : Oper} {os : List Oper} {h1 : AHeap} {v : Value} {a1 : Tr Value} {R : Tr Value → AHeap → Prop} {b : Bool} {F : Bool → Tr Value}
theorem OSuf.aop (ok : TyOK P T) (hg : aguard ops a o = some true) (ho : Ab.aop P T o (aopnd a) h = some (v, h1)) (hp : aput cx.nt a o.dst v = some a1) (t : OSuf P cx ops os a1 h1 R) : OSuf P cx ops (o :: os) a h R :=
  OSuf.op hg (aop_nodefer ho) (aop_sound ok ho ⟨a1, hp, t⟩)
theorem OSuf.aopT (ok : TyOK P T) (hg : aguard ops a o = some true) (ho : Ab.aop P T o (aopnd a) h = some (.bool b, h1)) (hp : ∀ b, aput cx.nt a o.dst (.bool b) = some (F b)) (hb : b = true) (t : OSuf P cx ops os (F true) h1 R) : OSuf P cx ops (o :: os) a h R := by
  subst hb; exact OSuf.aop ok hg ho (hp true) t
theorem OSuf.aopF (ok : TyOK P T) (hg : aguard ops a o = some true) (ho : Ab.aop P T o (aopnd a) h = some (.bool b, h1)) (hp : ∀ b, aput cx.nt a o.dst (.bool b) = some (F b)) (hb : b = false) (t : OSuf P cx ops os (F false) h1 R) : OSuf P cx ops (o :: os) a h R := by
  subst hb; exact OSuf.aop ok hg ho (hp false) t
theorem OSuf.pass (hg : aguard ops a o = some false) (hp : aput cx.nt a o.dst (.tuple #[]) = some a1) (t : OSuf P cx ops os a1 h R) : OSuf P cx ops (o :: os) a h R := OSuf.skip hg hp t
theorem SqW.nil (hr : R a h) : SqW P T cx ops [] a h R := ⟨a, h, .nil, hr⟩
theorem SqW.aop (hg : aguard ops a o = some true) (ho : Ab.aop P T o (aopnd a) h = some (v, h1)) (hp : aput cx.nt a o.dst v = some a1) (t : SqW P T cx ops os a1 h1 R) : SqW P T cx ops (o :: os) a h R := by
  obtain ⟨a', h', g1, g2⟩ := t; exact ⟨a', h', .op hg ho hp g1, g2⟩
theorem SqW.pass (hg : aguard ops a o = some false) (hp : aput cx.nt a o.dst (.tuple #[]) = some a1) (t : SqW P T cx ops os a1 h R) : SqW P T cx ops (o :: os) a h R := by
  obtain ⟨a', h', g1, g2⟩ := t; exact ⟨a', h', .skip hg hp g1, g2⟩
theorem SqW.aopT (hg : aguard ops a o = some true) (ho : Ab.aop P T o (aopnd a) h = some (.bool b, h1)) (hp : ∀ b, aput cx.nt a o.dst (.bool b) = some (F b)) (hb : b = true) (t : SqW P T cx ops os (F true) h1 R) : SqW P T cx ops (o :: os) a h R := by
  subst hb; exact SqW.aop hg ho (hp true) t
theorem SqW.aopF (hg : aguard ops a o = some true) (ho : Ab.aop P T o (aopnd a) h = some (.bool b, h1)) (hp : ∀ b, aput cx.nt a o.dst (.bool b) = some (F b)) (hb : b = false) (t : SqW P T cx ops os (F false) h1 R) : SqW P T cx ops (o :: os) a h R := by
  subst hb; exact SqW.aop hg ho (hp false) t
theorem OpWp.fcall {ρ : Operand → Option Value} {dst : Option Tmp} {k : FuncId} {fn : Func} {xs : Array Operand} {ats : Array TypeId} {ty : TypeId} {pos : String} {after : Array Edge} {guard : Option (Nat × Bool)} {args : List Value} {K : Value → AHeap → Prop}
    (hf : ρ (.func k) = some (.func (.func k) #[] #[])) (hx : aopnds ρ xs.toList = some args) (he : Entered P k fn) (hF : FWp P k args h K) : OpWp P ⟨dst, .call ⟨.value (.func k), xs, ats⟩, ty, pos, after, guard⟩ ρ h K :=
  OpWp.call hf hx (VWp.func he (by simpa using hF))
variable {dst : Option Tmp} {k : FuncId} {fn : Func} {xs : Array Operand} {ats : Array TypeId} {ty : TypeId} {pos : String} {after : Array Edge} {guard : Option (Nat × Bool)} {args : List Value} {K : Value → AHeap → Prop} {f : Operand} {fv : Value}
theorem OSuf.call (hg : aguard ops a ⟨dst, .call ⟨.value (.func k), xs, ats⟩, ty, pos, after, guard⟩ = some true) (hx : aopnds (aopnd a) xs.toList = some args) (he : Entered P k fn) (hF : FWp P k args h K)
    (t : ∀ u h', K u h' → ∃ a1, aput cx.nt a dst u = some a1 ∧ OSuf P cx ops os a1 h' R) : OSuf P cx ops (⟨dst, .call ⟨.value (.func k), xs, ats⟩, ty, pos, after, guard⟩ :: os) a h R :=
  OSuf.op hg rfl (OpWp.fcall rfl hx he (hF.mono t))
theorem OSuf.callD (hg : aguard ops a ⟨dst, .call ⟨.value (.func k), xs, ats⟩, ty, pos, after, guard⟩ = some true) (hx : aopnds (aopnd a) xs.toList = some args) (he : Entered P k fn) (hF : FWp P k args h fun u h' => u = v ∧ h' = h1)
    (hp : aput cx.nt a dst v = some a1) (t : OSuf P cx ops os a1 h1 R) : OSuf P cx ops (⟨dst, .call ⟨.value (.func k), xs, ats⟩, ty, pos, after, guard⟩ :: os) a h R :=
  OSuf.call hg hx he hF (fun u h' hk => by obtain ⟨rfl, rfl⟩ := hk; exact ⟨a1, hp, t⟩)
theorem OSuf.vcall (hg : aguard ops a ⟨dst, .call ⟨.value f, xs, ats⟩, ty, pos, after, guard⟩ = some true) (hf : aopnd a f = some fv) (hx : aopnds (aopnd a) xs.toList = some args) (hV : VWp P fv args h K)
    (t : ∀ u h', K u h' → ∃ a1, aput cx.nt a dst u = some a1 ∧ OSuf P cx ops os a1 h' R) : OSuf P cx ops (⟨dst, .call ⟨.value f, xs, ats⟩, ty, pos, after, guard⟩ :: os) a h R :=
  OSuf.op hg rfl (OpWp.call hf hx (hV.mono t))
theorem aopnds_at {ρ ρ' : Operand → Option Value} {xs : List Operand} {vs : List Value} (hx : aopnds ρ xs = some vs) (he : ∀ x ∈ xs, ρ' x = ρ x) : aopnds ρ' xs = some vs := by
  rw [← hx]; exact aopnds_congr he
theorem SqW.callD (hg : aguard ops a ⟨dst, .call ⟨.value (.func k), xs, ats⟩, ty, pos, after, guard⟩ = some true) (hx : aopnds (aopnd a) xs.toList = some args) (he : Entered P k fn) (hF : FWp P k args h fun u h' => u = v ∧ h' = h1)
    (hp : aput cx.nt a dst v = some a1) (t : SqW P T cx ops os a1 h1 R) : SqW P T cx ops (⟨dst, .call ⟨.value (.func k), xs, ats⟩, ty, pos, after, guard⟩ :: os) a h R := by
  obtain ⟨a', h', g1, g2⟩ := t
  refine ⟨a', h', .call hg rfl rfl (fun ρ hρ => ?_) hp g1, g2⟩
  refine OpWp.fcall ?_ (aopnds_at hx fun x hm => hρ x ?_) he hF
  · rw [hρ _ (by simp [Op.operands, Call.operands])]; rfl
  · simp only [Op.operands, Call.operands, Array.toList_append, List.mem_append]; exact .inr hm
end
section
variable {P : Program} {T : Tr TI} {h : AHeap} {ρ : Operand → Option Value} {dst : Option Tmp} {ty : TypeId} {pos : String} {af : Array Edge} {g : Option (Nat × Bool)} {x : Operand} {u : Value}
theorem ag {ops : Array Oper} {a : Tr Value} {o : Oper} {j : Nat} {want b r : Bool} {d : Tmp} (h1 : o.guard = some (j, want) := by exact rfl) (h2 : (ops[j]?).bind (·.dst) = some d := by exact rfl) (h3 : a.get d = some (.bool b) := by simp only [lk] <;> rfl) (h4 : (b == want) = r := by exact rfl) : aguard ops a o = some r := aguard_of h1 h2 h3 h4
theorem sm (hx : ρ x = some u := by simp only [lk] <;> rfl) : aop P T ⟨dst, .move x, ty, pos, af, g⟩ ρ h = some (u, h) := so_move hx
theorem za (hx : ρ x = some u := by simp only [lk] <;> rfl) : aop P T ⟨dst, .assign x, ty, pos, af, g⟩ ρ h = some (u, h) := so_assign hx
theorem zl {t : TypeId} {v : Value} (hx : ρ x = some u := by simp only [lk] <;> rfl) (hv : aLoad T t u h = some v) : aop P T ⟨dst, .load t x, ty, pos, af, g⟩ ρ h = some (v, h) := so_load hx hv
theorem zi {s : TypeId} {y : Operand} {w v : Value} (hx : ρ x = some u := by simp only [lk] <;> rfl) (hy : ρ y = some w := by simp only [lk] <;> rfl) (hv : aIndexAddr T s u w = some v) : aop P T ⟨dst, .indexAddr s x y, ty, pos, af, g⟩ ρ h = some (v, h) := so_indexAddr hx hy hv
theorem zb {op : BinOp} {t t2 : TypeId} {y : Operand} {w v : Value} (hx : ρ x = some u := by simp only [lk] <;> rfl) (hy : ρ y = some w := by simp only [lk] <;> rfl) (hv : aBin P T op t x y u w = some v) : aop P T ⟨dst, .binOp op t x y t2, ty, pos, af, g⟩ ρ h = some (v, h) := so_bin hx hy hv
theorem zs {t : TypeId} {y : Operand} {v : Value} {h' : AHeap} (hx : ρ x = some u := by simp only [lk] <;> rfl) (hy : ρ y = some v := by simp only [lk] <;> rfl) (hv : aStore T t u v h = some h') : aop P T ⟨dst, .store t x y, ty, pos, af, g⟩ ρ h = some (.tuple #[], h') := so_store hx hy hv
theorem ze {i : Nat} {v : Value} (hx : ρ x = some u := by simp only [lk] <;> rfl) (hv : aExtract u i = some v) : aop P T ⟨dst, .extract x i, ty, pos, af, g⟩ ρ h = some (v, h) := so_extract hx hv
end
end Go.Ab
namespace Go.Ab
set_option linter.unusedSimpArgs false
set_option linter.unusedVariables false
section
variable {P : Program} {T : Tr TI} {h : AHeap}
theorem bi_w {op : BinOp} {t : TypeId} {x y : Operand} {u w : Value} {k : IntKind} {m n : Int} (hv : aBin P T op t x y u w = some (.int k m)) (e : m = n) : aBin P T op t x y u w = some (.int k n) := by rw [hv, e]
theorem so_conw {o : Oper} {ρ : Operand → Option Value} {h' : AHeap} {k : IntKind} {m n : Int} (hv : aop P T o ρ h = some (.int k m, h')) (e : m = n) : aop P T o ρ h = some (.int k n, h') := by rw [hv, e]
theorem FWp.ofClosed {f : FuncId} {v : Value} (hf : flat v = true) (hc : ∀ w, Calls P f #[] w fun e w' => e = .returned v ∧ Kept w w') : FWp P f [] h fun u h' => u = v ∧ h' = h := by
  intro μ args' w hl st
  have e : args' = #[] := by
    cases hargs : args'.toList with
    | nil => exact Array.toList_inj.1 hargs
    | cons x l => rw [hargs] at hl; cases hl
  subst e
  refine (hc w).mono ?_
  rintro e w' ⟨rfl, hk⟩
  refine ⟨v, v, h, μ, rfl, ⟨rfl, rfl⟩, ⟨Nat.le_refl _, Agree.refl _ _, hk.size, hk.os, hk.output, fun b hb hfr => ⟨hk.heap b hb, hfr⟩, fun b hb hfr => hfr, ⟨fun r o hr => ?_, st.apart⟩⟩, .of_flat _ _ hf⟩
  obtain ⟨h1, e, c, h2, h3, h4⟩ := st.live r o hr
  exact ⟨h1, e, c, h2, by rw [hk.heap _ (lt_of_heap h3)]; exact h3, h4⟩
end
theorem wrap_u64 {n : Int} (h0 : 0 ≤ n) (h1 : n < 18446744073709551616) : IntKind.u64.wrap n = n := by
  simp only [IntKind.wrap, IntKind.bits, IntKind.signed]
  simp
  omega
theorem wrap_i64 {n : Int} (h0 : -9223372036854775808 ≤ n) (h1 : n < 9223372036854775808) : IntKind.i64.wrap n = n := by
  simp only [IntKind.wrap, IntKind.bits, IntKind.signed]
  simp only [Bool.true_and, decide_eq_true_eq, ge_iff_le]
  split <;> omega
theorem wrap_u8 {n : Int} (h0 : 0 ≤ n) (h1 : n < 256) : IntKind.u8.wrap n = n := by
  simp only [IntKind.wrap, IntKind.bits, IntKind.signed]
  simp
  omega
end Go.Ab
namespace Go.Ab
set_option linter.unusedSimpArgs false
set_option linter.unusedVariables false
section
variable {P : Program} {T : Tr TI} {h : AHeap}
variable {ρ : Operand → Option Value} {dst : Option Tmp} {ty : TypeId} {pos : String} {af : Array Edge} {g : Option (Nat × Bool)} {x y z : Operand} {u v w : Value} {t : TypeId} {h' : AHeap}
theorem so_makeFunc {fn : Fn} {xs ys : Array Operand} {us ws : List Value} (hf : noYield fn = true) (hx : aopnds ρ xs.toList = some us) (hy : aopnds ρ ys.toList = some ws) : aop P T ⟨dst, .makeFunc fn xs ys, ty, pos, af, g⟩ ρ h = some (.func fn us.toArray ws.toArray, h) := by simp only [aop, hx, hy, hf, cond_true]
theorem so_range {r : Value × AHeap} (hx : ρ x = some u) (hv : aRange T t u h = some r) : aop P T ⟨dst, .range t x, ty, pos, af, g⟩ ρ h = some r := by simp only [aop, hx, hv]
theorem so_entry (hx : ρ x = some u) (hv : aEntry u h = some v) : aop P T ⟨dst, .entry x, ty, pos, af, g⟩ ρ h = some (v, h) := by simp only [aop, hx, hv, keep]
end
section
variable {P : Program} {T : Tr TI} {cx : Cx} {a : Tr Value} {h : AHeap} {ops : Array Oper} {os : List Oper} {R : Tr Value → AHeap → Prop} {dst : Option Tmp} {ty : TypeId} {pos : String} {af : Array Edge} {g : Option (Nat × Bool)} {x : Operand}
theorem OSuf.next (hg : aguard ops a ⟨dst, .next x false, ty, pos, af, g⟩ = some true) {r m since last clock : Nat} {seen : Array Nat} {es : List AEnt} (hx : aopnd a x = some (.pointer (some ⟨r, 0, none⟩))) (hr : h.get r = some (.mapIter (some m) since seen last)) (hm : h.get m = some (.map es clock))
    (hc : (!seen.isEmpty && !es.isEmpty && es.all (fun e => decide (e.born ≥ last))) = false)
    (t0 : (left es seen).filter (fun e => decide (e.born < since)) = [] → ∃ a1, aput cx.nt a dst (.tuple #[.bool false]) = some a1 ∧ OSuf P cx ops os a1 h R)
    (t1 : ∀ e ∈ left es seen, ∃ a1, aput cx.nt a dst (.tuple #[.bool true, e.key, e.val]) = some a1 ∧ OSuf P cx ops os a1 (h.set r (.mapIter (some m) since (seen.push e.born) clock)) R) :
    OSuf P cx ops (⟨dst, .next x false, ty, pos, af, g⟩ :: os) a h R := by
  refine OSuf.op hg rfl ?_
  intro μ ρ' w c cs hρ st
  have hv := hρ x _ hx
  simp only [execOp]
  rcases next_map (P := P) st hr hm hc hv ty with ⟨h1, h2⟩ | ⟨e, he, h2⟩
  · exact Lands.value h2 (t0 h1)
  · exact Lands.value h2 (t1 e he)
end
end Go.Ab
namespace Go.Ab
set_option linter.unusedSimpArgs false
set_option linter.unusedVariables false
set_option linter.unusedSectionVars false
theorem AHeap.set_set (h : AHeap) (r : Nat) (x y : AObj) : (h.set r x).set r y = h.set r y := congrArg (AHeap.mk _) (Tr.put_put _ _ _ _)
theorem AHeap.set_self {h : AHeap} {r : Nat} {x : AObj} (hr : h.get r = some x) : h.set r x = h := by
  cases h; exact congrArg (AHeap.mk _) (Tr.put_self hr)
section
variable {P : Program} {T : Tr TI} {h : AHeap} {t : TypeId} {x y : Operand} {k k' : IntKind} {m n : Int}
theorem bi_shr (hn : 0 ≤ n) : aBin P T .shr t x y (.int k m) (.int k' n) = some (.int k (m.fdiv (2 ^ (min n.toNat k.bits)))) := by
  have : ¬ n < 0 := by omega
  simp [aBin, flat, flat1, eqGuard, binOp, Op.shift, this, pureRun_pure]
theorem FWp.gcNew {f : FuncId} {args : List Value} {n : Nat} {o : AObj} (hb : BO h.next o)
    (hf : FWp P f args h fun u h' => ∃ x, u = .slice (some ⟨x, 0, none⟩) n 0 ∧ h.next ≤ x ∧ h'.get x = some o ∧ ∀ r p, r < h.next → h.get r = some p → h'.get r = some p) : FWp P f args h fun u h' => u = .slice (some ⟨h.next, 0, none⟩) n 0 ∧ h' = h.new o := by
  intro μ args' w hl st
  refine (hf μ args' w hl st).mono ?_
  rintro e w' ⟨u, v', h', μ', rfl, ⟨x, rfl, hx, hg, hk⟩, ex, hr⟩
  obtain ⟨en, h1, h2⟩ := Ext.newOne st ex rfl (fun r o ho => ⟨(st.live r o ho).1, hk r o (st.live r o ho).1 ho, .inl ho⟩) hg hx hb
  refine ⟨_, v', _, _, rfl, ⟨rfl, rfl⟩, h2, ?_⟩
  cases hr with
  | sliceU hlt hm hl hc => rw [h1] at hm; cases hm; exact .sliceU (by simp) (Emb.upd_same _ _ _) hl hc
  | sliceZ hlt hm => rw [h1] at hm; cases hm; exact .sliceZ (by simp) (Emb.upd_same _ _ _)
theorem en_ok {r m since stamp clock : Nat} {seen : Array Nat} {es : List AEnt} {e : AEnt} (hr : h.get r = some (.mapIter (some m) since (seen.push stamp) clock)) (hm : h.get m = some (.map es clock)) (hf : es.find? (fun e => e.born == stamp) = some e) : aEntry (.pointer (some ⟨r, 0, none⟩)) h = some (.tuple #[e.key, e.val]) := by
  have hb : (seen.push stamp).back? = some stamp := by simp
  simp only [aEntry, hr, hm, hb, Nat.beq_refl, cond_true, hf]
theorem ix_str {s : ByteArray} {i : Nat} {b : UInt8} {ti : TI} (ht : T.get t = some ti) (hu : ti.und = .string) (hb : s.data.toList[i]? = some b) : aIndex T t (.string s) (.int k i) = some (.int .u8 b.toNat) := by
  have h0 : (0 : Int) ≤ (i : Int) := by omega
  simp only [aIndex, ht, hu, h0, if_true, Int.toNat_natCast, hb, Option.map_some]
end
section
variable {α : Type} [Inhabited α] (enc : α → Value)
theorem arr_get {d : Array α} {i : Nat} (hi : i < d.size) : (d.toList.map enc)[i]? = some (enc d[i]!) := by
  simp [hi]
theorem arr_set {d : Array α} {i : Nat} (x : α) (hi : i < d.size) : splice (d.toList.map enc) i [enc x] = (d.setIfInBounds i x).toList.map enc := by
  have : ∀ (vs : List Value) (i : Nat) (x : Value), i < vs.length → splice vs i [x] = vs.set i x := by
    intro vs
    induction vs with
    | nil => intro i x h; simp at h
    | cons v vs ih =>
      intro i x h
      cases i with
      | zero => cases vs <;> rfl
      | succ i => simp only [splice, List.set_cons_succ]; rw [ih i x (by simpa using h)]
  rw [this _ _ _ (by simpa using hi)]
  simp [List.map_set]
theorem arr_ble {d : Array α} {i : Nat} (hi : i < d.size) : Nat.ble (i + 1) (d.toList.map enc).length = true := Nat.ble_eq_true_of_le (by simp; omega)
end
end Go.Ab
namespace Go.Ab
set_option linter.unusedSimpArgs false
set_option linter.unusedVariables false
section
variable {P : Program} {T : Tr TI} {h : AHeap} {t : TypeId} {x y : Operand}
theorem bs_neq {a b : ByteArray} : aBin P T .neq t x y (.string a) (.string b) = some (.bool (!(a.toList == b.toList))) := by simp [aBin, flat, flat1, eqGuard, binOp, Op.stringOp, pureRun_pure]
theorem bs_lss {a b : ByteArray} : aBin P T .lss t x y (.string a) (.string b) = some (.bool (Op.bytesLess a.toList b.toList)) := by simp [aBin, flat, flat1, eqGuard, binOp, Op.stringOp, pureRun_pure]
end
end Go.Ab
namespace Go.Ab
set_option linter.unusedSimpArgs false
set_option linter.unusedVariables false
section
variable {κ : Type}
noncomputable def mkK (enc : κ → Value) (l : List (κ × Value × Nat)) : List AEnt := l.map fun x => ⟨enc x.1, x.2.1, x.2.2⟩
variable {P : Program} {T : Tr TI} {h : AHeap} {enc : κ → Value}
variable {t kt et : TypeId} {ti : TI} {a : κ} {r j clock : Nat} {l : List (κ × Value × Nat)} {v u : Value}
end
end Go.Ab
namespace Go.Ab
open Go.Sort
set_option linter.unusedSimpArgs false
set_option linter.unusedVariables false
theorem bless : ∀ x y : List UInt8, Op.bytesLess x y = ltStr x y
  | [], [] => by simp [Op.bytesLess, ltStr]
  | [], b :: y => by simp [Op.bytesLess, ltStr]
  | a :: x, [] => by simp [Op.bytesLess, ltStr]
  | a :: x, b :: y => by
    have ih := bless x y
    simp only [ltStr] at ih ⊢
    rw [Op.bytesLess, ih, Bool.eq_iff_iff]
    simp [List.cons_lt_cons_iff]
theorem str_lt (x y : List UInt8) : Op.bytesLess (ByteArray.toList ⟨⟨x⟩⟩) (ByteArray.toList ⟨⟨y⟩⟩) = ltStr x y := by
  rw [ByteArray.toList_eq, ByteArray.toList_eq]; exact bless x y
end Go.Ab
namespace Go.Ab
set_option linter.unusedSimpArgs false
set_option linter.unusedVariables false
noncomputable def pe (pv : Value) : List PanicEntry := [{ v := pv, recovered := false }]
noncomputable def FWpP (P : Program) (f : FuncId) (args : List Value) (h : AHeap) (K J : Value → AHeap → Prop) : Prop :=
  ∀ (μ : Emb) (args' : Array Value) (w : World), LRel μ h.next args args'.toList → StRel μ h w →
    Calls P f args' w fun e w' => (∃ v v' h' μ', e = .returned v' ∧ K v h' ∧ Ext μ h w μ' h' w' ∧ VRel μ' h'.next v v') ∨ (∃ pv h' μ', e = .panicked (pe pv) ∧ J pv h' ∧ Ext μ h w μ' h' w')
noncomputable def OpWpP (P : Program) (o : Oper) (ρ : Operand → Option Value) (h : AHeap) (K J : Value → AHeap → Prop) : Prop :=
  ∀ (μ : Emb) (ρ' : Operand → Value) (w : World) (c : Frame) (cs : List Frame), OpRel μ h.next ρ ρ' → StRel μ h w →
    (∃ nx w1 m, (execOp ρ' o).run P w = .ok nx w1 ∧ pushed P c cs w1 nx = some m ∧ ((∃ v v' h' μ' w', Steps P m (lone (c.finish v') cs w') ∧ K v h' ∧ Ext μ h w μ' h' w' ∧ VRel μ' h'.next v v') ∨ (∃ pv h' μ' w', Steps P m (lone (c.raise (pe pv)) cs w') ∧ J pv h' ∧ Ext μ h w μ' h' w'))) ∨
      ∃ pv, (execOp ρ' o).run P w = .halt (.panic pv) w ∧ J pv h
section rules
variable {P : Program} {T : Tr TI} {cx : Cx} {J : Value → AHeap → Prop} {a : Tr Value} {h : AHeap} {Q : AExit → Tr Value → AHeap → Prop}
theorem st_op_raise {fn : FuncId} {rd : RK} {tmps : Array Value} {defers : List Deferred} {k : List Item} {cs : List Frame} {w w' : World} {ops : Array Oper} {i : Nat} {rest : List Nat} {o : Oper} (ho : ops[i]? = some o) (hw : Region.wanted o (yielded ops tmps) = true) (hd : isDefer o.op = false) {pv : Value}
    (hr : (execOp (opnd tmps) o).run P w = .halt (.panic pv) w') : step P (lone (frame fn rd tmps defers (.inRegion ops (i :: rest) :: k)) cs w) = .next (lone { frame fn rd tmps defers (.inRegion ops (i :: rest) :: k) with mode := .panicking (pe pv) } cs w') := by
  have hg := stG_op (P := P) (fn := fn) (rd := rd) (defers := defers) (k := k) (cs := cs) (w := w) (rest := rest) ho hw hd
  refine step_lone_go ?_
  rw [hg]
  simp [stepG.apply, hr, Frame.raise, frame, pe]
theorem drop_at {ops : Array Oper} {i : Nat} {o : Oper} {os : List Oper} (hi : ops.toList.drop i = o :: os) : ops[i]? = some o := by
  rw [← Array.getElem?_toList]
  have := congrArg (fun l : List Oper => l[0]?) hi
  simpa using this
theorem OpWpP.fcall {ρ : Operand → Option Value} {dst : Option Tmp} {k : FuncId} {fn : Func} {xs : Array Operand} {ats : Array TypeId} {ty : TypeId} {pos : String} {after : Array Edge} {guard : Option (Nat × Bool)} {args : List Value} {K : Value → AHeap → Prop}
    (hf : ρ (.func k) = some (.func (.func k) #[] #[])) (hx : aopnds ρ xs.toList = some args) (he : Entered P k fn) (hF : FWpP P k args h K J) : OpWpP P ⟨dst, .call ⟨.value (.func k), xs, ats⟩, ty, pos, after, guard⟩ ρ h K J := by
  intro μ ρ' w c cs hρ st
  have hfv := hρ _ _ hf
  have hxs := aopnds_rel hρ hx
  have hρf : ρ' (.func k) = .func (.func k) #[] #[] := by
    generalize ρ' (.func k) = z at hfv
    cases hfv with
    | func hy ha hc =>
      rename_i a' c'
      have e1 : a'.toList.length = 0 := ha.length.symm
      have e2 : c'.toList.length = 0 := hc.length.symm
      rw [show a' = #[] from Array.toList_eq_nil_iff.1 (List.length_eq_zero_iff.1 e1), show c' = #[] from Array.toList_eq_nil_iff.1 (List.length_eq_zero_iff.1 e2)]
  refine .inl ⟨.enter k (xs.map ρ'), w, _, ?_, rfl, ?_⟩
  · simp [execOp, resolve, hρf, Deferred.ofValue, invoke, he.run]
  · obtain ⟨e, w', fr, hR, hcomes, _, hleave⟩ := hF μ (xs.map ρ') w (by rw [Array.toList_map]; exact hxs) st (c :: cs)
    rcases hR with ⟨v, v', h', μ', rfl, b1, b2, b3⟩ | ⟨pv, h', μ', rfl, b1, b2⟩
    · exact .inl ⟨v, v', h', μ', w', Steps.trans hcomes (.one (step_leave_returned hleave)), b1, b2, b3⟩
    · exact .inr ⟨pv, h', μ', w', Steps.trans hcomes (.one (step_leave_panicked hleave)), b1, b2⟩
theorem take_marksP {D : List Deferred} {rd : RK} {chain : List PanicEntry} {μ : Emb} {fn : FuncId} {tmps : Array Value} {todo : List Item} {cs : List Frame} : ∀ {defers : List Deferred} {w : World}, StRel μ h w → DOk D μ h w defers →
    ∃ w', Steps P (lone { frame fn rd tmps defers todo with mode := .panicking chain } cs w) (lone { frame fn rd tmps D todo with mode := .panicking chain } cs w') ∧ StRel μ h w' ∧ w'.heap.size = w.heap.size ∧ w'.os = w.os ∧ w'.output = w.output ∧
      ∀ b, ((∀ d ∈ defers, ∀ q, d.target = .collected q → q ≠ b) ∨ ∃ d ∈ D, d.target = .collected b) → w'.heap[b]? = w.heap[b]?
  | _, w, st, .nil _ => ⟨w, .refl _ _, st, rfl, rfl, rfl, fun _ _ => rfl⟩
  | _, w, st, .cons (r := r) (l := l) hr ho hne t => by
    have hrun : (Instr.takeDeferred r).run P w = .ok [] { w with heap := w.heap.setIfInBounds r (.deferred none) } := by
      simp only [Instr.takeDeferred, Sem.run_bind, run_getObj hr (fun _ _ _ => by simp), Result.andThen_ok, run_setObj hr (fun _ _ _ => by simp), Sem.run_pure]
    have hstep : step P (lone { frame fn rd tmps ({ target := .collected r, args := #[] } :: l) todo with mode := .panicking chain } cs w) =
        .next (lone { frame fn rd tmps l todo with mode := .panicking chain } cs { w with heap := w.heap.setIfInBounds r (.deferred none) }) :=
      step_lone_go (by simp [stepG, unwind, frame, hrun])
    have st' : StRel μ h { w with heap := w.heap.setIfInBounds r (.deferred none) } := by
      refine ⟨fun q o hq => ?_, st.apart⟩
      obtain ⟨h1, e, c, h2, h3, h4⟩ := st.live q o hq
      refine ⟨h1, e, c, h2, ?_, h4⟩
      have hne2 : r ≠ e.b := by
        intro he
        cases hown : o.own
        · cases o <;> simp only [AObj.own] at hown <;> first | (cases hown; done) | skip
          obtain ⟨cs', t', fz, rfl, _⟩ := h4
          rw [← he, hr] at h3; cases h3
        · exact ho q o e hq hown h2 he.symm
      simp only [Array.getElem?_setIfInBounds_ne hne2, h3]
    have dok' : DOk D μ h { w with heap := w.heap.setIfInBounds r (.deferred none) } l := by
      have : ∀ {l' : List Deferred}, DOk D μ h w l' → (∀ d ∈ l', ∀ q, d.target = .collected q → q ≠ r) → DOk D μ h { w with heap := w.heap.setIfInBounds r (.deferred none) } l' := by
        intro l' hd
        induction hd with
        | nil hD => intro _; exact .nil (by simpa using hD)
        | cons hr2 ho2 hne2 t2 ih =>
          intro hn
          refine .cons ?_ ho2 hne2 (ih fun d hd => hn d (List.mem_cons_of_mem _ hd))
          have : r ≠ _ := fun e => hn _ List.mem_cons_self _ rfl e.symm
          simp only [Array.getElem?_setIfInBounds_ne this, hr2]
      exact this t hne
    obtain ⟨w', g1, g2, g3, g4, g5, g6⟩ := take_marksP (fn := fn) (rd := rd) (tmps := tmps) (todo := todo) (cs := cs) st' dok'
    refine ⟨w', .head hstep g1, g2, by simpa using g3, g4, g5, fun b hb => ?_⟩
    rw [g6 b (hb.imp (fun hb d hd => hb d (List.mem_cons_of_mem _ hd)) id)]
    have : r ≠ b := hb.elim (fun hb => hb _ List.mem_cons_self _ rfl) fun ⟨d, hd, e⟩ => (hne d (t.sub d hd) b e).symm
    simp only [Array.getElem?_setIfInBounds_ne this]
variable {ops : Array Oper} {o : Oper} {os : List Oper} {h1 : AHeap} {v : Value} {a1 : Tr Value} {R : Tr Value → AHeap → Prop} {b : Bool} {F : Bool → Tr Value}
variable {dst : Option Tmp} {k : FuncId} {fn : Func} {xs : Array Operand} {ats : Array TypeId} {ty : TypeId} {pos : String} {after : Array Edge} {guard : Option (Nat × Bool)} {args : List Value} {K : Value → AHeap → Prop}
end rules
end Go.Ab
