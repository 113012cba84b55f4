/-
  Regions whose order is left open, and whose text alone shows that the order does not count: they may be walked in the text's order.
-/
import Derived.Test.YtebheelmgcggmaaGreatAb21
namespace Go.Ab
set_option linter.unusedSimpArgs false
set_option linter.unusedVariables false
section
variable {P : Program} {T : Tr TI}
theorem aopnds_congr {ρ ρ' : Operand → Option Value} : ∀ {xs : List Operand}, (∀ x ∈ xs, ρ x = ρ' x) → aopnds ρ xs = aopnds ρ' xs
  | [], _ => rfl
  | x :: xs, h => by
    simp only [aopnds]
    rw [h x List.mem_cons_self, aopnds_congr fun y hy => h y (List.mem_cons_of_mem _ hy)]
theorem aparts_congr {ρ ρ' : Operand → Option Value} : ∀ {xs : List (Nat × Operand)}, (∀ x ∈ xs.map (·.2), ρ x = ρ' x) → aparts ρ xs = aparts ρ' xs
  | [], _ => rfl
  | (i, x) :: xs, h => by
    simp only [aparts]
    rw [h x (by simp), aparts_congr fun y hy => h y (by simp only [List.map_cons, List.mem_cons]; exact .inr hy)]
theorem oopnd_congr {ρ ρ' : Operand → Option Value} {x : Option Operand} (h : ∀ y ∈ x.toArray, ρ y = ρ' y) : oopnd ρ x = oopnd ρ' x := by
  cases x with
  | none => rfl
  | some x => simp only [oopnd]; rw [h x (by simp)]
set_option maxHeartbeats 1000000 in
theorem aop_congr {o : Oper} {ρ ρ' : Operand → Option Value} {h : AHeap} (hx : ∀ x ∈ o.op.operands.toList, ρ x = ρ' x) : aop P T o ρ h = aop P T o ρ' h := by
  obtain ⟨dst, op, ty, pos, after, guard⟩ := o
  simp only [Array.mem_toList_iff] at hx
  cases op
  case build t ps =>
    have := aparts_congr (ρ := ρ) (ρ' := ρ') (xs := ps.toList) (fun x hm => hx x (by simpa [Op.operands] using hm))
    simp only [aop, this]
  case buildSlice t l ps =>
    have := aparts_congr (ρ := ρ) (ρ' := ρ') (xs := ps.toList) (fun x hm => hx x (by simpa [Op.operands] using hm))
    simp only [aop, this]
  case makeFunc fn a c =>
    have h1 := aopnds_congr (ρ := ρ) (ρ' := ρ') (xs := a.toList) (fun x hm => hx x (by simp only [Op.operands, Array.mem_append]; exact .inl (by simpa using hm)))
    have h2 := aopnds_congr (ρ := ρ) (ρ' := ρ') (xs := c.toList) (fun x hm => hx x (by simp only [Op.operands, Array.mem_append]; exact .inr (by simpa using hm)))
    simp only [aop, h1, h2]
  case slice t x l r m =>
    have h0 := hx x (by simp [Op.operands])
    have h1 := oopnd_congr (ρ := ρ) (ρ' := ρ') (x := l) (fun y hy => hx y (by simp only [Op.operands, Array.mem_append]; exact .inl (.inl (.inr hy))))
    have h2 := oopnd_congr (ρ := ρ) (ρ' := ρ') (x := r) (fun y hy => hx y (by simp only [Op.operands, Array.mem_append]; exact .inl (.inr hy)))
    have h3 := oopnd_congr (ρ := ρ) (ρ' := ρ') (x := m) (fun y hy => hx y (by simp only [Op.operands, Array.mem_append]; exact .inr hy))
    simp only [aop, h0, h1, h2, h3]
  case call c =>
    obtain ⟨callee, xs, ats⟩ := c
    cases callee with
    | builtin b =>
      have h1 := aopnds_congr (ρ := ρ) (ρ' := ρ') (xs := xs.toList) (fun x hm => hx x (by simp only [Op.operands, Call.operands, Array.mem_append]; exact .inr (by simpa using hm)))
      simp only [aop, h1]
    | value f => rfl
    | invoke f m => rfl
  case makeMap t r => cases r <;> rfl
  all_goals first | rfl | (simp [Op.operands] at hx; simp only [aop, hx]; done) | skip
structure SSt where
  i : Nat
  W : Tr Nat
  R : Tr Nat
  M : Tr Nat
  C : List Nat
  Rd : List Nat
noncomputable def sTmps (W : Tr Nat) (mk : Nat) : List Tmp → Bool
  | [] => true
  | t :: ts => (match W.get t with | none => true | some i => Nat.testBit mk i) && sTmps W mk ts
noncomputable def sAll (mk : Nat) : List Nat → Bool
  | [] => true
  | c :: l => Nat.testBit mk c && sAll mk l
noncomputable def sStep (T : Tr TI) (ops : Array Oper) (nt : Nat) (s : SSt) (o : Oper) : Option SSt :=
  match dMask s.M s.i o.after.toList 0 with
  | none => none
  | some mk => bif sTmps s.W mk (needs ops o) && (dDst nt s.W (dReads s.W s.i (needs ops o) s.R) s.i mk o.dst && !isDefer o.op) then
      match memKind T o.op with
      | 0 => some ⟨s.i + 1, (match o.dst with | some d => s.W.put d (some s.i) | none => s.W), dReads s.W s.i (needs ops o) s.R, s.M.put s.i (some mk), s.C, s.Rd⟩
      | 1 => bif sAll mk s.C then some ⟨s.i + 1, (match o.dst with | some d => s.W.put d (some s.i) | none => s.W), dReads s.W s.i (needs ops o) s.R, s.M.put s.i (some mk), s.C, s.i :: s.Rd⟩ else none
      | _ => bif sAll mk s.C && sAll mk s.Rd then some ⟨s.i + 1, (match o.dst with | some d => s.W.put d (some s.i) | none => s.W), dReads s.W s.i (needs ops o) s.R, s.M.put s.i (some mk), s.i :: s.C, s.Rd⟩ else none
    else none
noncomputable def sRun (T : Tr TI) (ops : Array Oper) (nt : Nat) : List Oper → SSt → Bool
  | [], _ => true
  | o :: os, s => match sStep T ops nt s o with
    | some s' => sRun T ops nt os s'
    | none => false
noncomputable def anyOrder (T : Tr TI) (ops : Array Oper) (nt : Nat) : Bool := sRun T ops nt ops.toList ⟨0, .leaf, .leaf, .leaf, [], []⟩
theorem sTmps_all {W : Tr Nat} {mk : Nat} : ∀ {l : List Tmp}, sTmps W mk l = true → ∀ t ∈ l, ∀ i, W.get t = some i → Nat.testBit mk i = true
  | t :: ts, h, u, hu, i, hi => by
    simp only [sTmps, Bool.and_eq_true] at h
    cases hu with
    | head => rw [hi] at h; exact h.1
    | tail _ hm => exact sTmps_all h.2 u hm i hi
theorem sAll_all {mk : Nat} : ∀ {l : List Nat}, sAll mk l = true → ∀ c ∈ l, Nat.testBit mk c = true
  | c :: l, h, d, hd => by
    simp only [sAll, Bool.and_eq_true] at h
    cases hd with
    | head => exact h.1
    | tail _ hm => exact sAll_all h.2 d hm
theorem dAct_all {a0 a : Tr Value} {W : Tr Nat} {mk : Nat} : ∀ {nd : List Tmp} {pa0 : Tr Value}, (∀ t ∈ nd, W.get t = none → a.get t = a0.get t) → (∀ t ∈ nd, ∀ i, W.get t = some i → Nat.testBit mk i = true ∧ ∃ u, a.get t = some u) →
    (∀ t, pa0.get t = none ∨ pa0.get t = a.get t) → ∃ pa, dAct a0 a W mk nd pa0 = some pa ∧ (∀ t, pa.get t = none ∨ pa.get t = a.get t) ∧ ∀ t, (t ∈ nd ∨ pa0.get t = a.get t) → pa.get t = a.get t
  | [], pa0, _, _, h3 => ⟨pa0, rfl, h3, fun t ht => ht.elim (fun h => by cases h) id⟩
  | t :: ts, pa0, h1, h2, h3 => by
    have step : ∀ {u : Value}, a.get t = some u → ∃ pa, dAct a0 a W mk ts (pa0.put t (some u)) = some pa ∧ (∀ s, pa.get s = none ∨ pa.get s = a.get s) ∧ ∀ s, (s ∈ t :: ts ∨ pa0.get s = a.get s) → pa.get s = a.get s := by
      intro u hu
      obtain ⟨pa, g1, g2, g3⟩ := dAct_all (a0 := a0) (a := a) (W := W) (mk := mk) (nd := ts) (pa0 := pa0.put t (some u)) (fun s hs => h1 s (List.mem_cons_of_mem _ hs)) (fun s hs => h2 s (List.mem_cons_of_mem _ hs))
        (fun s => by
          rw [Tr.get_put]
          split
          · rename_i e; subst e; exact .inr hu.symm
          · exact h3 s)
      refine ⟨pa, g1, g2, fun s hs => g3 s ?_⟩
      rw [Tr.get_put]
      rcases hs with hs | hs
      · cases hs with
        | head => right; rw [if_pos rfl, hu]
        | tail _ hm => exact .inl hm
      · right
        split
        · rename_i e; subst e; exact hu.symm
        · exact hs
    simp only [dAct]
    cases hw : W.get t with
    | none =>
      simp only
      have e := h1 t List.mem_cons_self hw
      cases hu : a0.get t with
      | some u => simp only; exact step (e.trans hu)
      | none =>
        simp only
        obtain ⟨pa, g1, g2, g3⟩ := dAct_all (a0 := a0) (a := a) (W := W) (mk := mk) (nd := ts) (pa0 := pa0) (fun s hs => h1 s (List.mem_cons_of_mem _ hs)) (fun s hs => h2 s (List.mem_cons_of_mem _ hs)) h3
        refine ⟨pa, g1, g2, fun s hs => ?_⟩
        rcases hs with hs | hs
        · cases hs with
          | head => rcases g2 t with g | g
                    · rw [g, e, hu]
                    · exact g
          | tail _ hm => exact g3 s (.inl hm)
        · exact g3 s (.inr hs)
    | some i =>
      simp only
      obtain ⟨b, u, hu⟩ := h2 t List.mem_cons_self i hw
      rw [b, cond_true, hu]
      exact step hu
theorem mem_tmpsOf : ∀ {xs : List Operand} {t : Tmp}, Operand.tmp t ∈ xs → t ∈ tmpsOf xs
  | x :: xs, t, h => by
    cases h with
    | head => simp [tmpsOf]
    | tail _ hm =>
      have := mem_tmpsOf hm
      cases x <;> simp only [tmpsOf] <;> first | exact List.mem_cons_of_mem _ this | exact this
theorem needs_opnd {ops : Array Oper} {o : Oper} {t : Tmp} (h : Operand.tmp t ∈ o.op.operands.toList) : t ∈ needs ops o := by
  have := mem_tmpsOf h
  unfold needs
  split
  · exact this
  · split
    · exact List.mem_cons_of_mem _ this
    · exact this
theorem aguard_needs {ops : Array Oper} {o : Oper} {a pa : Tr Value} (h : ∀ t ∈ needs ops o, pa.get t = a.get t) : aguard ops pa o = aguard ops a o := by
  unfold aguard
  cases hg : o.guard with
  | none => rfl
  | some jw =>
    obtain ⟨j, w⟩ := jw
    simp only
    cases hd : (ops[j]?).bind (·.dst) with
    | none => rfl
    | some d =>
      have : d ∈ needs ops o := by unfold needs; rw [hg]; simp only [hd]; exact List.mem_cons_self
      simp only [h d this]
theorem aopnd_needs {ops : Array Oper} {o : Oper} {a pa : Tr Value} (h : ∀ t ∈ needs ops o, pa.get t = a.get t) : ∀ x ∈ o.op.operands.toList, aopnd pa x = aopnd a x := by
  intro x hx
  cases x with
  | tmp t => simp only [aopnd]; exact h t (needs_opnd hx)
  | _ => rfl
inductive Sq (P : Program) (T : Tr TI) (ops : Array Oper) (nt : Nat) : List Oper → Tr Value → AHeap → Tr Value → AHeap → Prop
  | nil {a : Tr Value} {h : AHeap} : Sq P T ops nt [] a h a h
  | skip {o : Oper} {os : List Oper} {a a1 a' : Tr Value} {h h' : AHeap} (hg : aguard ops a o = some false) (hp : aput nt a o.dst (.tuple #[]) = some a1) (t : Sq P T ops nt os a1 h a' h') : Sq P T ops nt (o :: os) a h a' h'
  | op {o : Oper} {os : List Oper} {a a1 a' : Tr Value} {h h1 h' : AHeap} {v : Value} (hg : aguard ops a o = some true) (ho : aop P T o (aopnd a) h = some (v, h1)) (hp : aput nt a o.dst v = some a1) (t : Sq P T ops nt os a1 h1 a' h') : Sq P T ops nt (o :: os) a h a' h'
  | call {o : Oper} {os : List Oper} {a a1 a' : Tr Value} {h h1 h' : AHeap} {v : Value} (hg : aguard ops a o = some true) (hk : memKind T o.op = 2) (hd : isDefer o.op = false) (ho : ∀ ρ, (∀ x ∈ o.op.operands.toList, ρ x = aopnd a x) → OpWp P o ρ h fun x y => x = v ∧ y = h1)
      (hp : aput nt a o.dst v = some a1) (t : Sq P T ops nt os a1 h1 a' h') : Sq P T ops nt (o :: os) a h a' h'
theorem Sq.evs {ops : Array Oper} {nt : Nat} : ∀ {os rest : List Oper} {a a1 a' : Tr Value} {h h1 h' : AHeap}, Ab.evs P T ops nt os a h = some (a1, h1) → Sq P T ops nt rest a1 h1 a' h' → Sq P T ops nt (os ++ rest) a h a' h'
  | [], rest, a, a1, a', h, h1, h', he, hr => by simp only [Ab.evs, Option.some.injEq, Prod.mk.injEq] at he; obtain ⟨rfl, rfl⟩ := he; exact hr
  | o :: os, rest, a, a1, a', h, h1, h', he, hr => by
    simp only [Ab.evs] at he
    split at he
    · rename_i hg
      split at he
      · rename_i v h2 hop
        split at he
        · rename_i a2 hp; exact .op hg hop hp (Sq.evs he hr)
        · cases he
      · cases he
    · rename_i hg
      split at he
      · rename_i a2 hp; exact .skip hg hp (Sq.evs he hr)
      · cases he
    · cases he
structure SRel (s : SSt) (σ : DSt) : Prop where
  i : s.i = σ.i
  W : s.W = σ.W
  R : s.R = σ.R
  M : s.M = σ.M
  C : ∀ x ∈ σ.hist, x.1 ∈ s.C
  Rd : ∀ x ∈ σ.reads, x.1 ∈ s.Rd
  F : ∀ x ∈ σ.hist, x.2.1 = false
theorem dHist_static {o : Oper} {pa : Tr Value} {v : Value} {mk : Nat} : ∀ {l : List (Nat × Bool × AHeap)}, (∀ x ∈ l, Nat.testBit mk x.1 = true) → dHist P T o pa v mk l = true
  | [], _ => rfl
  | (c, _, hb) :: r, h => by simp only [dHist]; rw [h _ List.mem_cons_self]; rfl
theorem dAll_static {mk : Nat} : ∀ {l : List (Nat × Bool × AHeap)}, (∀ x ∈ l, Nat.testBit mk x.1 = true) → dAll mk l = true
  | [], _ => rfl
  | (c, _, hb) :: r, h => by simp only [dAll]; rw [h _ List.mem_cons_self, dAll_static fun x hx => h x (List.mem_cons_of_mem _ hx)]; rfl
theorem dBelow_static {mk : Nat} : ∀ {l : List (Nat × Bool × AHeap)}, (∀ x ∈ l, x.2.1 = false) → dBelow mk l = true
  | [], _ => rfl
  | (c, f, hb) :: r, h => by
    have : f = false := h _ List.mem_cons_self
    subst this
    simp only [dBelow, Bool.false_and, cond_false, Bool.true_and]
    exact dBelow_static fun x hx => h x (List.mem_cons_of_mem _ hx)
noncomputable def putd (a : Tr Value) (dst : Option Tmp) (v : Value) : Tr Value := match dst with | some d => a.put d (some v) | none => a
theorem aput_eq {nt : Nat} {a a1 : Tr Value} {dst : Option Tmp} {v : Value} (hp : aput nt a dst v = some a1) : a1 = putd a dst v := by
  cases dst with
  | none => simp only [aput, Option.some.injEq] at hp; exact hp.symm
  | some d =>
    simp only [aput] at hp
    cases hb : Nat.ble (d + 1) nt
    · rw [hb, cond_false] at hp; cases hp
    · rw [hb, cond_true] at hp; cases hp; rfl
variable {cx : Cx} {ops : Array Oper} {a0 : Tr Value} {h0 : AHeap}
open Classical in
theorem Sq.step (ok : TyOK P T) {σ : DSt} {v : Nat → Value} {pa : Nat → Tr Value} {kd : Nat → Kind} {H : Nat → AHeap} {m : Nat} (D : DP P T cx ops a0 h0 σ v pa kd H m) {s s' : SSt} (S : SRel s σ) {o : Oper} (hs : sStep T ops cx.nt s o = some s') {u : Value} {h1 : AHeap}
    (k : (aguard ops σ.a o = some false ∧ u = .tuple #[] ∧ h1 = σ.h) ∨ (aguard ops σ.a o = some true ∧ aop P T o (aopnd σ.a) σ.h = some (u, h1)) ∨
      (aguard ops σ.a o = some true ∧ memKind T o.op = 2 ∧ ∀ ρ, (∀ x ∈ o.op.operands.toList, ρ x = aopnd σ.a x) → OpWp P o ρ σ.h fun x y => x = u ∧ y = h1)) :
    ∃ op : Oper → (Operand → Option Value) → AHeap → Option (Value × AHeap), (∀ o ρ h x h', op o ρ h = some (x, h') → OpWp P o ρ h fun y z => y = x ∧ z = h') ∧
      ∃ σ', dStep P T op ops cx.nt a0 σ o = some σ' ∧ σ'.a = putd σ.a o.dst u ∧ σ'.h = h1 ∧ SRel s' σ' := by
  refine ⟨fun o ρ h => if OpWp P o ρ h (fun x y => x = u ∧ y = h1) then some (u, h1) else none, fun o ρ h x h' hx => ?_, ?_⟩
  · simp only at hx
    split at hx
    · rename_i hw; cases hx; exact hw
    · cases hx
  · obtain ⟨e1, e2, e3, e4, e5, e6, e7⟩ := S
    unfold sStep at hs
    rw [e1, e2, e3, e4] at hs
    cases hmk : dMask σ.M σ.i o.after.toList 0 with
    | none => rw [hmk] at hs; cases hs
    | some mk =>
      rw [hmk] at hs
      simp only at hs
      cases hb : sTmps σ.W mk (needs ops o) && (dDst cx.nt σ.W (dReads σ.W σ.i (needs ops o) σ.R) σ.i mk o.dst && !isDefer o.op)
      · rw [hb, cond_false] at hs; cases hs
      · rw [hb, cond_true] at hs
        simp only [Bool.and_eq_true] at hb
        obtain ⟨b1, b2⟩ := hb
        have hb2 : (dDst cx.nt σ.W (dReads σ.W σ.i (needs ops o) σ.R) σ.i mk o.dst && !isDefer o.op) = true := by rw [b2.1, b2.2]; rfl
        obtain ⟨pn, g1, g2, g3⟩ := dAct_all (a0 := a0) (a := σ.a) (W := σ.W) (mk := mk) (nd := needs ops o) (pa0 := .leaf)
          (fun t ht hw => by rw [D.act t, hw]) (fun t ht i hw => ⟨sTmps_all b1 t ht i hw, v i, by rw [D.act t, hw]⟩) (fun t => .inl rfl)
        have gn : ∀ t ∈ needs ops o, pn.get t = σ.a.get t := fun t ht => g3 t (.inl ht)
        have gg : aguard ops pn o = aguard ops σ.a o := aguard_needs gn
        have go := aopnd_needs gn
        unfold dStep
        rw [hmk]
        simp only
        rw [g1]
        simp only
        rw [hb2, dBelow_static e7]
        simp only [Bool.and_self, cond_true]
        rw [gg]
        rcases k with ⟨k1, rfl, rfl⟩ | ⟨k1, k2⟩ | ⟨k1, k2, k3⟩
        · rw [k1]
          refine ⟨_, rfl, rfl, rfl, ?_⟩
          split at hs
          · cases hs; exact ⟨rfl, rfl, rfl, rfl, e5, e6, e7⟩
          · cases hc : sAll mk s.C
            · rw [hc, cond_false] at hs; cases hs
            · rw [hc, cond_true] at hs; cases hs
              exact ⟨rfl, rfl, rfl, rfl, e5, fun x hx => List.mem_cons_of_mem _ (e6 x hx), e7⟩
          · cases hc : sAll mk s.C && sAll mk s.Rd
            · rw [hc, cond_false] at hs; cases hs
            · rw [hc, cond_true] at hs; cases hs
              exact ⟨rfl, rfl, rfl, rfl, fun x hx => List.mem_cons_of_mem _ (e5 x hx), e6, e7⟩
        · rw [k1]
          have k3 : aop P T o (aopnd pn) σ.h = some (u, h1) := by rw [aop_congr go]; exact k2
          simp only
          split at hs
          · rename_i hk
            cases hs
            rw [hk]
            simp only
            rw [k3]
            obtain ⟨rfl, _⟩ := aop_free hk k3
            exact ⟨_, rfl, rfl, rfl, rfl, rfl, rfl, rfl, e5, e6, e7⟩
          · rename_i hk
            cases hc : sAll mk s.C
            · rw [hc, cond_false] at hs; cases hs
            · rw [hc, cond_true] at hs; cases hs
              rw [hk]
              simp only
              rw [k3]
              obtain rfl := aop_read hk k3
              simp only
              rw [dHist_static fun x hx => sAll_all hc _ (e5 x hx), cond_true]
              refine ⟨_, rfl, rfl, rfl, rfl, rfl, rfl, rfl, e5, fun x hx => ?_, e7⟩
              cases hx with
              | head => exact List.mem_cons_self
              | tail _ hm => exact List.mem_cons_of_mem _ (e6 x hm)
          · rename_i n0 n1
            cases hc : sAll mk s.C && sAll mk s.Rd
            · rw [hc, cond_false] at hs; cases hs
            · rw [hc, cond_true] at hs; cases hs
              simp only [Bool.and_eq_true] at hc
              split
              · rename_i h; exact absurd h n0
              · rename_i h; exact absurd h n1
              · rw [dAll_static fun x hx => sAll_all hc.1 _ (e5 x hx), cond_true, if_pos (aop_sound ok k3 ⟨rfl, rfl⟩)]
                simp only
                have hr : (σ.reads.all fun x => Nat.testBit mk x.1 || sameAt P T x.2.1 x.2.2.1 x.2.2.2 h1) = true := by
                  rw [List.all_eq_true]
                  intro x hx
                  rw [sAll_all hc.2 _ (e6 x hx)]; rfl
                rw [hr, cond_true]
                refine ⟨_, rfl, rfl, rfl, rfl, rfl, rfl, rfl, fun x hx => ?_, e6, fun x hx => ?_⟩
                · cases hx with
                  | head => exact List.mem_cons_self
                  | tail _ hm => exact List.mem_cons_of_mem _ (e5 x hm)
                · cases hx with
                  | head => rfl
                  | tail _ hm => exact e7 x hm
        · rw [k1]
          simp only
          rw [k2] at hs ⊢
          simp only at hs ⊢
          cases hc : sAll mk s.C && sAll mk s.Rd
          · rw [hc, cond_false] at hs; cases hs
          · rw [hc, cond_true] at hs; cases hs
            simp only [Bool.and_eq_true] at hc
            rw [dAll_static fun x hx => sAll_all hc.1 _ (e5 x hx), cond_true, if_pos (k3 _ go)]
            simp only
            have hr : (σ.reads.all fun x => Nat.testBit mk x.1 || sameAt P T x.2.1 x.2.2.1 x.2.2.2 h1) = true := by
              rw [List.all_eq_true]
              intro x hx
              rw [sAll_all hc.2 _ (e6 x hx)]; rfl
            rw [hr, cond_true]
            refine ⟨_, rfl, rfl, rfl, rfl, rfl, rfl, rfl, fun x hx => ?_, e6, fun x hx => ?_⟩
            · cases hx with
              | head => exact List.mem_cons_self
              | tail _ hm => exact List.mem_cons_of_mem _ (e5 x hm)
            · cases hx with
              | head => rfl
              | tail _ hm => exact e7 x hm
theorem Sq.walk (ok : TyOK P T) : ∀ {os : List Oper} {σ : DSt} {v : Nat → Value} {pa : Nat → Tr Value} {kd : Nat → Kind} {H : Nat → AHeap} {m : Nat} {s : SSt} {a' : Tr Value} {h' : AHeap}, DP P T cx ops a0 h0 σ v pa kd H m → SRel s σ → ops.toList.drop σ.i = os → sRun T ops cx.nt os s = true →
    Sq P T ops cx.nt os σ.a σ.h a' h' → ∃ σ', σ'.i = σ.i + os.length ∧ σ'.a = a' ∧ σ'.h = h' ∧ ∃ v' pa' kd' H' m', DP P T cx ops a0 h0 σ' v' pa' kd' H' m'
  | [], σ, v, pa, kd, H, m, s, a', h', D, S, hd, hs, hq => by cases hq; exact ⟨σ, by simp, rfl, rfl, v, pa, kd, H, m, D⟩
  | o :: os, σ, v, pa, kd, H, m, s, a', h', D, S, hd, hs, hq => by
    have ho : ops[σ.i]? = some o := by
      rw [← Array.getElem?_toList]
      have := congrArg (fun l : List Oper => l[0]?) hd
      simpa using this
    simp only [sRun] at hs
    split at hs
    · rename_i s' hs'
      have go : ∀ {u : Value} {h1 : AHeap} {a1 : Tr Value}, ((aguard ops σ.a o = some false ∧ u = .tuple #[] ∧ h1 = σ.h) ∨ (aguard ops σ.a o = some true ∧ aop P T o (aopnd σ.a) σ.h = some (u, h1)) ∨
          (aguard ops σ.a o = some true ∧ memKind T o.op = 2 ∧ ∀ ρ, (∀ x ∈ o.op.operands.toList, ρ x = aopnd σ.a x) → OpWp P o ρ σ.h fun x y => x = u ∧ y = h1)) → aput cx.nt σ.a o.dst u = some a1 → Sq P T ops cx.nt os a1 h1 a' h' →
          ∃ σ', σ'.i = σ.i + (o :: os).length ∧ σ'.a = a' ∧ σ'.h = h' ∧ ∃ v' pa' kd' H' m', DP P T cx ops a0 h0 σ' v' pa' kd' H' m' := by
        intro u h1 a1 k hp hq
        obtain ⟨op, hop, σ1, d1, d2, d3, S1⟩ := Sq.step ok D S hs' k
        obtain ⟨f1, v1, pa1, kd1, H1, m1, D1⟩ := dStep_sound ok hop D ho d1
        have hd1 : ops.toList.drop σ1.i = os := by rw [f1, ← List.drop_drop, hd]; rfl
        rw [aput_eq hp, ← d2, ← d3] at hq
        obtain ⟨σ', q1, q2⟩ := Sq.walk ok D1 S1 hd1 hs hq
        exact ⟨σ', by rw [q1, f1]; simp; omega, q2⟩
      cases hq with
      | skip hg hp t => exact go (.inl ⟨hg, rfl, rfl⟩) hp t
      | op hg h2 hp t => exact go (.inr (.inl ⟨hg, h2⟩)) hp t
      | call hg hk _ h2 hp t => exact go (.inr (.inr ⟨hg, hk, h2⟩)) hp t
    · cases hs
theorem DP.done (ok : TyOK P T) (hmix : P.follows .mixedOrders = true) {id : Nat} {σ : DSt} {v : Nat → Value} {pa : Nat → Tr Value} {kd : Nat → Kind} {H : Nat → AHeap} {m : Nat} (D : DP P T cx ops a0 h0 σ v pa kd H m) (hn : σ.i = ops.size)
    {Q : AExit → Tr Value → AHeap → Prop} (hQ : Q .normal σ.a σ.h) : CWp P cx (.region id ops true) a0 h0 Q := by
  have lt : ∀ {j : Nat} {o : Oper}, ops[j]? = some o → j < σ.i := fun hj => by rw [hn]; exact (Array.getElem?_eq_some_iff.1 hj).1
  have at_ : ∀ j s, j < ops.size → (kd j).no = some s → s < m ∧ ∀ i, i < σ.i → (kd i).no = some s → i = j := fun j s hj hs => (D.one j _ (by omega) (Array.getElem?_eq_getElem hj)).at hs
  have R : DRun P cx ops (KB σ.M) a0 v kd H m := by
    refine ⟨fun i j ⟨mq, h1, h2⟩ => (D.mask j mq h1 i h2).1, fun j o ho => D.back j o (lt ho) ho, fun i j o p d hi hj hdo hdp => ?_, fun i o d hi hd => (D.wr2 i o d (lt hi) hi hd).2, fun s hs => ?_, fun i j s hi hj h1 h2 => (at_ j s hj h2).2 i (by omega) h1, fun i s hi h1 => (at_ i s hi h1).1, fun j s hj hk i s' hi hs' hlt => ?_, fun j i s hj hi hk hkb i' s' hi' hs' hlt => D.below j i s (by omega) (by omega) hk hkb i' s' (by omega) hs' hlt, fun j o ho => ⟨pa j, fun d u hu => ?_, D.dfr j o (lt ho) ho, ?_⟩⟩
    · have h1 := (D.wr2 i o d (lt hi) hi hdo).1
      have h2 := (D.wr2 j p d (lt hj) hj hdp).1
      rw [h1] at h2; cases h2; rfl
    · obtain ⟨i, h1, h2⟩ := D.all s hs; exact ⟨i, by omega, h2⟩
    · have hone := D.one j _ (by omega) (Array.getElem?_eq_getElem hj)
      unfold KOne at hone
      rw [hk] at hone
      exact hone.1.2.2 i s' (by omega) hs' hlt
    · rcases D.pas j o (lt ho) ho d u hu with ⟨i, p, g1, g2, g3, g4, _⟩ | ⟨g1, _, g3⟩
      · exact .inl ⟨i, p, g1, g2, g3, g4⟩
      · exact .inr ⟨g1, fun i p hp hd => g3 i p (lt hp) hp hd⟩
    · have hk := D.one j o (lt ho) ho
      unfold KOne at hk
      cases hkd : kd j with
      | skip => rw [hkd] at hk; exact hk
      | quiet =>
        rw [hkd] at hk
        obtain ⟨k1, k2, k3⟩ := hk
        refine ⟨k1, fun t ht hmay => ?_⟩
        obtain ⟨h', g1, g2⟩ := k2 t ht hmay
        exact aop_sound ok g1 ⟨rfl, g2⟩
      | change s =>
        rw [hkd] at hk
        exact ⟨hk.1.1, hk.1.2.1⟩
      | late s =>
        rw [hkd] at hk
        obtain ⟨⟨k1, rv, ob, q1, q2, q3, q4, q5, q6⟩, _⟩ := hk
        exact ⟨k1, rv, ob, q1, q2, q3, q4, q5, fun h => aop_sound ok (q6 h) ⟨rfl, rfl⟩⟩
  have hd := CWp.drawn (id := id) (aF := σ.a) (Q := Q) hmix R (fun d u hu => by
    rw [D.act d] at hu
    split at hu
    · rename_i j hj
      obtain ⟨_, p, g1, g2⟩ := D.wr d j hj
      simp only [Option.some.injEq] at hu
      exact .inl ⟨j, p, g1, g2, hu.symm⟩
    · rename_i hw
      refine .inr ⟨hu, fun i p hp hdp => ?_⟩
      have := (D.wr2 i p d (lt hp) hp hdp).1
      rw [hw] at this; cases this) (by rw [D.hm]; exact hQ)
  rw [D.hz] at hd
  exact hd
theorem CWp.anyOrder (ok : TyOK P T) (hmix : P.follows .mixedOrders = true) {id : Nat} {a a' : Tr Value} {h h' : AHeap} (hs : Ab.anyOrder T ops cx.nt = true) (hq : Sq P T ops cx.nt ops.toList a h a' h') {Q : AExit → Tr Value → AHeap → Prop} (hQ : Q .normal a' h') : CWp P cx (.region id ops true) a h Q := by
  have D0 : DP P T cx ops a h ⟨0, a, .leaf, .leaf, .leaf, [], [], h⟩ (fun _ => .tuple #[]) (fun _ => .leaf) (fun _ => .skip) (fun _ => h) 0 :=
    { hz := rfl
      hm := rfl
      hist := .nil
      kdge := fun _ _ => rfl
      mask := fun j mk hj => by cases hj
      back := fun j o hj => absurd hj (Nat.not_lt_zero _)
      wr := fun d j hj => by cases hj
      wr2 := fun j o d hj => absurd hj (Nat.not_lt_zero _)
      act := fun d => rfl
      all := fun s hs => absurd hs (Nat.not_lt_zero _)
      below := fun j i s hj => absurd hj (Nat.not_lt_zero _)
      mget := fun j mk hj => by cases hj
      pas := fun j o hj => absurd hj (Nat.not_lt_zero _)
      dfr := fun j o hj => absurd hj (Nat.not_lt_zero _)
      one := fun j o hj => absurd hj (Nat.not_lt_zero _) }
  obtain ⟨σ', q1, rfl, rfl, v', pa', kd', H', m', D⟩ := Sq.walk ok D0 (s := ⟨0, .leaf, .leaf, .leaf, [], []⟩) ⟨rfl, rfl, rfl, rfl, fun x hx => (by cases hx), fun x hx => (by cases hx), fun x hx => (by cases hx)⟩ (by simp) hs hq
  exact D.done ok hmix (by rw [q1]; simp) hQ
theorem Sq.suf (ok : TyOK P T) : ∀ {os : List Oper} {a a' : Tr Value} {h h' : AHeap} {Q : Tr Value → AHeap → Prop}, Sq P T ops cx.nt os a h a' h' → Q a' h' → OSuf P cx ops os a h Q
  | _, _, _, _, _, Q, .nil, hq => OSuf.nil hq
  | _, _, _, _, _, Q, .skip hg hp t, hq => OSuf.skip hg hp (Sq.suf ok t hq)
  | _, _, _, _, _, Q, .op hg ho hp t, hq => OSuf.op hg (aop_nodefer ho) (aop_sound ok ho ⟨_, hp, Sq.suf ok t hq⟩)
  | _, _, _, _, _, Q, .call hg hk hd ho hp t, hq => OSuf.op hg hd ((ho _ fun _ _ => rfl).mono fun x y hxy => by obtain ⟨rfl, rfl⟩ := hxy; exact ⟨_, hp, Sq.suf ok t hq⟩)
theorem CWp.sq (ok : TyOK P T) (hmix : P.follows .mixedOrders = true) {id : Nat} {d : Bool} {a a' : Tr Value} {h h' : AHeap} {Q : AExit → Tr Value → AHeap → Prop} (hs : (bif d then Ab.anyOrder T ops cx.nt else true) = true) (hq : Sq P T ops cx.nt ops.toList a h a' h') (hQ : Q .normal a' h') : CWp P cx (.region id ops d) a h Q := by
  cases d
  · exact CWp.reg (hq.suf ok hQ)
  · exact CWp.anyOrder ok hmix hs hq hQ
end
end Go.Ab
