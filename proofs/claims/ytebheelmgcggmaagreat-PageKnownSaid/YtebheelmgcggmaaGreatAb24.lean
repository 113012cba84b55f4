/-
  Regions whose order is left open, walked in the text's order, with a proof for each pair that might be the other way round.
-/
import Derived.Test.YtebheelmgcggmaaGreatAb23
namespace Go.Ab
set_option linter.unusedSimpArgs false
set_option linter.unusedVariables false

section
variable {P : Program} {T : Tr TI}

structure MSt where
  i : Nat
  W : Tr Nat
  R : Tr Nat
  M : Tr Nat
noncomputable def mStep (ops : Array Oper) (nt : Nat) (s : MSt) (o : Oper) : Option (Nat × MSt) :=
  match dMask s.M s.i o.after.toList 0 with
  | none => none
  | some mk => bif sTmps s.W mk (needs ops o) && (dDst nt s.W (dReads s.W s.i (needs ops o) s.R) s.i mk o.dst && !isDefer o.op) then
      some (mk, ⟨s.i + 1, (match o.dst with | some d => s.W.put d (some s.i) | none => s.W), dReads s.W s.i (needs ops o) s.R, s.M.put s.i (some mk)⟩)
    else none
noncomputable def mRun (ops : Array Oper) (nt : Nat) : List Oper → MSt → Option (List Nat)
  | [], _ => some []
  | o :: os, s => match mStep ops nt s o with
    | some (mk, s') => match mRun ops nt os s' with
      | some l => some (mk :: l)
      | none => none
    | none => none
noncomputable def masks (ops : Array Oper) (nt : Nat) : Option (List Nat) := mRun ops nt ops.toList ⟨0, .leaf, .leaf, .leaf⟩

noncomputable def okHist (P : Program) (T : Tr TI) (mk : Nat) (o : Oper) (a : Tr Value) (v : Value) : List (Nat × Bool × AHeap) → Prop
  | [] => True
  | (c, _, hb) :: r => (Nat.testBit mk c = true ∨ aop P T o (aopnd a) hb = some (v, hb)) ∧ okHist P T mk o a v r
noncomputable def okReads (P : Program) (T : Tr TI) (mk : Nat) (h1 : AHeap) : List (Nat × Oper × Tr Value × Value) → Prop
  | [] => True
  | (c, o, a, v) :: r => (Nat.testBit mk c = true ∨ aop P T o (aopnd a) h1 = some (v, h1)) ∧ okReads P T mk h1 r

inductive SqD (P : Program) (T : Tr TI) (ops : Array Oper) (nt : Nat) : Nat → List Oper → List Nat → List (Nat × Bool × AHeap) → List (Nat × Oper × Tr Value × Value) → Tr Value → AHeap → Tr Value → AHeap → Prop
  | nil {i : Nat} {hist : List (Nat × Bool × AHeap)} {reads : List (Nat × Oper × Tr Value × Value)} {a : Tr Value} {h : AHeap} : SqD P T ops nt i [] [] hist reads a h a h
  | skip {i : Nat} {hist : List (Nat × Bool × AHeap)} {reads : List (Nat × Oper × Tr Value × Value)} {o : Oper} {os : List Oper} {mk : Nat} {ms : List Nat} {a a1 a' : Tr Value} {h h' : AHeap} (hg : aguard ops a o = some false) (hp : aput nt a o.dst (.tuple #[]) = some a1)
      (t : SqD P T ops nt (i + 1) os ms hist reads a1 h a' h') : SqD P T ops nt i (o :: os) (mk :: ms) hist reads a h a' h'
  | free {i : Nat} {hist : List (Nat × Bool × AHeap)} {reads : List (Nat × Oper × Tr Value × Value)} {o : Oper} {os : List Oper} {mk : Nat} {ms : List Nat} {a a1 a' : Tr Value} {h h1 h' : AHeap} {v : Value} (hg : aguard ops a o = some true) (hk : memKind T o.op = 0) (ho : aop P T o (aopnd a) h = some (v, h1)) (hp : aput nt a o.dst v = some a1)
      (t : SqD P T ops nt (i + 1) os ms hist reads a1 h1 a' h') : SqD P T ops nt i (o :: os) (mk :: ms) hist reads a h a' h'
  | read {i : Nat} {hist : List (Nat × Bool × AHeap)} {reads : List (Nat × Oper × Tr Value × Value)} {o : Oper} {os : List Oper} {mk : Nat} {ms : List Nat} {a a1 a' : Tr Value} {h h1 h' : AHeap} {v : Value} (hg : aguard ops a o = some true) (hk : memKind T o.op = 1) (ho : aop P T o (aopnd a) h = some (v, h1)) (hv : veq v v = true) (hh : okHist P T mk o a v hist) (hp : aput nt a o.dst v = some a1)
      (t : SqD P T ops nt (i + 1) os ms hist ((i, o, a, v) :: reads) a1 h1 a' h') : SqD P T ops nt i (o :: os) (mk :: ms) hist reads a h a' h'
  | change {i : Nat} {hist : List (Nat × Bool × AHeap)} {reads : List (Nat × Oper × Tr Value × Value)} {o : Oper} {os : List Oper} {mk : Nat} {ms : List Nat} {a a1 a' : Tr Value} {h h1 h' : AHeap} {v : Value} (hg : aguard ops a o = some true) (hk : memKind T o.op = 2) (ho : aop P T o (aopnd a) h = some (v, h1)) (hc : dAll mk hist = true) (hr : okReads P T mk h1 reads) (hp : aput nt a o.dst v = some a1)
      (t : SqD P T ops nt (i + 1) os ms ((i, false, h) :: hist) reads a1 h1 a' h') : SqD P T ops nt i (o :: os) (mk :: ms) hist reads a h a' h'
  | call {i : Nat} {hist : List (Nat × Bool × AHeap)} {reads : List (Nat × Oper × Tr Value × Value)} {o : Oper} {os : List Oper} {mk : Nat} {ms : List Nat} {a a1 a' : Tr Value} {h h1 h' : AHeap} {v : Value} (hg : aguard ops a o = some true) (hk : memKind T o.op = 2) (ho : ∀ ρ, (∀ x ∈ o.op.operands.toList, ρ x = aopnd a x) → OpWp P o ρ h fun x y => x = v ∧ y = h1)
      (hc : dAll mk hist = true) (hr : okReads P T mk h1 reads) (hp : aput nt a o.dst v = some a1) (t : SqD P T ops nt (i + 1) os ms ((i, false, h) :: hist) reads a1 h1 a' h') : SqD P T ops nt i (o :: os) (mk :: ms) hist reads a h a' h'

theorem sameAt_mk {o : Oper} {pa : Tr Value} {v : Value} {h : AHeap} (hv : veq v v = true) (ha : aop P T o (aopnd pa) h = some (v, h)) : sameAt P T o pa v h = true := by
  unfold sameAt; rw [ha]; exact hv

structure RRel (x y : Nat × Oper × Tr Value × Value) : Prop where
  i : x.1 = y.1
  o : x.2.1 = y.2.1
  v : x.2.2.2 = y.2.2.2
  z : ∀ z ∈ x.2.1.op.operands.toList, aopnd x.2.2.1 z = aopnd y.2.2.1 z
  e : veq x.2.2.2 x.2.2.2 = true
inductive RsRel : List (Nat × Oper × Tr Value × Value) → List (Nat × Oper × Tr Value × Value) → Prop
  | nil : RsRel [] []
  | cons {x y : Nat × Oper × Tr Value × Value} {l m : List (Nat × Oper × Tr Value × Value)} (h : RRel x y) (t : RsRel l m) : RsRel (x :: l) (y :: m)
theorem okReads_all {mk : Nat} {h1 : AHeap} : ∀ {l m : List (Nat × Oper × Tr Value × Value)}, RsRel l m → okReads P T mk h1 m → (l.all fun x => Nat.testBit mk x.1 || sameAt P T x.2.1 x.2.2.1 x.2.2.2 h1) = true
  | _, _, .nil, _ => rfl
  | _, _, .cons (x := x) (y := y) h t, hr => by
    obtain ⟨c, o, a, v⟩ := y
    obtain ⟨c', o', a', v'⟩ := x
    obtain ⟨e1, e2, e3, e4, e5⟩ := h
    simp only at e1 e2 e3 e4 e5
    subst e1 e2 e3
    simp only [okReads] at hr
    simp only [List.all_cons, Bool.and_eq_true]
    refine ⟨?_, okReads_all t hr.2⟩
    rcases hr.1 with g | g
    · rw [g]; rfl
    · rw [sameAt_mk e5 (by rw [aop_congr e4]; exact g)]; simp
theorem okHist_all {mk : Nat} {o : Oper} {a pa : Tr Value} {v : Value} (hz : ∀ z ∈ o.op.operands.toList, aopnd pa z = aopnd a z) (hv : veq v v = true) : ∀ {l : List (Nat × Bool × AHeap)}, okHist P T mk o a v l → dHist P T o pa v mk l = true
  | [], _ => rfl
  | (c, _, hb) :: r, h => by
    simp only [okHist] at h
    simp only [dHist, Bool.or_eq_true, Bool.and_eq_true]
    rcases h.1 with g | g
    · exact .inl g
    · exact .inr ⟨sameAt_mk hv (by rw [aop_congr hz]; exact g), okHist_all hz hv h.2⟩

structure MRel (s : MSt) (σ : DSt) : Prop where
  i : s.i = σ.i
  W : s.W = σ.W
  R : s.R = σ.R
  M : s.M = σ.M

variable {cx : Cx} {ops : Array Oper} {a0 : Tr Value} {h0 : AHeap}

open Classical in
theorem SqD.walk (ok : TyOK P T) : ∀ {os : List Oper} {ms : List Nat} {σ : DSt} {v : Nat → Value} {pa : Nat → Tr Value} {kd : Nat → Kind} {H : Nat → AHeap} {m : Nat} {s : MSt} {reads : List (Nat × Oper × Tr Value × Value)} {a' : Tr Value} {h' : AHeap}, DP P T cx ops a0 h0 σ v pa kd H m → MRel s σ → RsRel σ.reads reads → (∀ x ∈ σ.hist, x.2.1 = false) → ops.toList.drop σ.i = os → mRun ops cx.nt os s = some ms →
    SqD P T ops cx.nt σ.i os ms σ.hist reads σ.a σ.h a' h' → ∃ σ', σ'.i = σ.i + os.length ∧ σ'.a = a' ∧ σ'.h = h' ∧ ∃ v' pa' kd' H' m', DP P T cx ops a0 h0 σ' v' pa' kd' H' m'
  | [], ms, σ, v, pa, kd, H, m, s, reads, a', h', D, S, R, F, hd, hs, hq => by cases hq; exact ⟨σ, by simp, rfl, rfl, v, pa, kd, H, m, D⟩
  | o :: os, ms, σ, v, pa, kd, H, m, s, reads, a', h', D, S, R, F, hd, hs, hq => by
    have ho : ops[σ.i]? = some o := by
      rw [← Array.getElem?_toList]
      have := congrArg (fun l : List Oper => l[0]?) hd
      simpa using this
    obtain ⟨e1, e2, e3, e4⟩ := S
    simp only [mRun] at hs
    split at hs
    · rename_i mk s1 hs1
      split at hs
      · rename_i l hl
        cases hs
        unfold mStep at hs1
        rw [e1, e2, e3, e4] at hs1
        cases hmk : dMask σ.M σ.i o.after.toList 0 with
        | none => rw [hmk] at hs1; cases hs1
        | some mk' =>
          rw [hmk] at hs1
          simp only at hs1
          cases hb : sTmps σ.W mk' (needs ops o) && (dDst cx.nt σ.W (dReads σ.W σ.i (needs ops o) σ.R) σ.i mk' o.dst && !isDefer o.op)
          · rw [hb, cond_false] at hs1; cases hs1
          · rw [hb, cond_true] at hs1
            cases hs1
            simp only [Bool.and_eq_true] at hb
            obtain ⟨b1, b2⟩ := hb
            have hb2 : (dDst cx.nt σ.W (dReads σ.W σ.i (needs ops o) σ.R) σ.i mk o.dst && !isDefer o.op) = true := by rw [b2.1, b2.2]; rfl
            obtain ⟨pn, g1, g2, g3⟩ := dAct_all (a0 := a0) (a := σ.a) (W := σ.W) (mk := mk) (nd := needs ops o) (pa0 := .leaf)
              (fun t ht hw => by rw [D.act t, hw]) (fun t ht i hw => ⟨sTmps_all b1 t ht i hw, v i, by rw [D.act t, hw]⟩) (fun t => .inl rfl)
            have gn : ∀ t ∈ needs ops o, pn.get t = σ.a.get t := fun t ht => g3 t (.inl ht)
            have gg : aguard ops pn o = aguard ops σ.a o := aguard_needs gn
            have go := aopnd_needs gn
            have fin : ∀ {op : Oper → (Operand → Option Value) → AHeap → Option (Value × AHeap)} {u : Value} {h1 : AHeap} {a1 : Tr Value} {hist1 : List (Nat × Bool × AHeap)} {rds1 reads1 : List (Nat × Oper × Tr Value × Value)}, (∀ o ρ h x h', op o ρ h = some (x, h') → OpWp P o ρ h fun y z => y = x ∧ z = h') →
                dStep P T op ops cx.nt a0 σ o = some (dFin σ o (needs ops o) mk u hist1 rds1 h1) → aput cx.nt σ.a o.dst u = some a1 → RsRel rds1 reads1 → (∀ x ∈ hist1, x.2.1 = false) → SqD P T ops cx.nt (σ.i + 1) os l hist1 reads1 a1 h1 a' h' →
                ∃ σ', σ'.i = σ.i + (o :: os).length ∧ σ'.a = a' ∧ σ'.h = h' ∧ ∃ v' pa' kd' H' m', DP P T cx ops a0 h0 σ' v' pa' kd' H' m' := by
              intro op u h1 a1 hist1 rds1 reads1 hop d1 hp hr1 F1 hq1
              obtain ⟨f1, v1, pa1, kd1, H1, m1, D1⟩ := dStep_sound ok hop D ho d1
              have hd1 : ops.toList.drop (σ.i + 1) = os := by rw [← List.drop_drop, hd]; rfl
              rw [aput_eq hp] at hq1
              obtain ⟨σ', q1, q2⟩ := SqD.walk ok (s := ⟨σ.i + 1, (match o.dst with | some d => σ.W.put d (some σ.i) | none => σ.W), dReads σ.W σ.i (needs ops o) σ.R, σ.M.put σ.i (some mk)⟩) D1 ⟨rfl, rfl, rfl, rfl⟩ hr1 F1 hd1 hl hq1
              exact ⟨σ', by rw [q1]; simp only [dFin, List.length_cons]; omega, q2⟩
            have bel := dBelow_static (mk := mk) F
            have F2 : ∀ x ∈ (σ.i, false, σ.h) :: σ.hist, x.2.1 = false := fun x hx => by cases hx with | head => rfl | tail _ hm => exact F x hm
            have hop0 : ∀ (u : Value) (h1 : AHeap), ∀ (o : Oper) (ρ : Operand → Option Value) (h : AHeap) (x : Value) (h' : AHeap), (if OpWp P o ρ h (fun x y => x = u ∧ y = h1) then some (u, h1) else none) = some (x, h') → OpWp P o ρ h fun y z => y = x ∧ z = h' := by
              intro u h1 o ρ h x h' hx
              split at hx
              · rename_i hw; cases hx; exact hw
              · cases hx
            cases hq with
            | skip hg hp t =>
              refine fin (op := fun _ _ _ => none) (fun o ρ h x h' hx => by cases hx) (rds1 := σ.reads) ?_ hp R F t
              unfold dStep
              rw [hmk]; simp only; rw [g1]; simp only; rw [hb2, bel]; simp only [Bool.and_self, cond_true]; rw [gg, hg]
            | free hg hk h2 hp t =>
              have k3 := (aop_congr (P := P) (T := T) (h := σ.h) go).trans h2
              obtain ⟨rfl, _⟩ := aop_free hk k3
              refine fin (op := fun _ _ _ => none) (fun o ρ h x h' hx => by cases hx) (rds1 := σ.reads) ?_ hp R F t
              unfold dStep
              rw [hmk]; simp only; rw [g1]; simp only; rw [hb2, bel]; simp only [Bool.and_self, cond_true]; rw [gg, hg]; simp only; rw [hk]; simp only; rw [k3]
            | read hg hk h2 hv hh hp t =>
              have k3 := (aop_congr (P := P) (T := T) (h := σ.h) go).trans h2
              obtain rfl := aop_read hk k3
              refine fin (op := fun _ _ _ => none) (fun o ρ h x h' hx => by cases hx) (rds1 := (σ.i, o, pn, _) :: σ.reads) (reads1 := (σ.i, o, σ.a, _) :: reads) ?_ hp (.cons ⟨rfl, rfl, rfl, go, hv⟩ R) F t
              unfold dStep
              rw [hmk]; simp only; rw [g1]; simp only; rw [hb2, bel]; simp only [Bool.and_self, cond_true]; rw [gg, hg]; simp only; rw [hk]; simp only; rw [k3]; simp only; rw [okHist_all go hv hh, cond_true]
            | change hg hk h2 hc hr hp t =>
              rename_i h1 u
              have k3 := (aop_congr (P := P) (T := T) (h := σ.h) go).trans h2
              refine fin (op := fun o ρ h => if OpWp P o ρ h (fun x y => x = u ∧ y = h1) then some (u, h1) else none) (hop0 u h1) (rds1 := σ.reads) ?_ hp R F2 t
              unfold dStep
              rw [hmk]; simp only; rw [g1]; simp only; rw [hb2, bel]; simp only [Bool.and_self, cond_true]; rw [gg, hg]; simp only; rw [hk]; simp only; rw [hc, cond_true, if_pos (aop_sound ok k3 ⟨rfl, rfl⟩)]; simp only; rw [okReads_all R hr, cond_true]
            | call hg hk h2 hc hr hp t =>
              rename_i h1 u
              refine fin (op := fun o ρ h => if OpWp P o ρ h (fun x y => x = u ∧ y = h1) then some (u, h1) else none) (hop0 u h1) (rds1 := σ.reads) ?_ hp R F2 t
              unfold dStep
              rw [hmk]; simp only; rw [g1]; simp only; rw [hb2, bel]; simp only [Bool.and_self, cond_true]; rw [gg, hg]; simp only; rw [hk]; simp only; rw [hc, cond_true, if_pos (h2 _ go)]; simp only; rw [okReads_all R hr, cond_true]
      · cases hs
    · cases hs

theorem CWp.sqd (ok : TyOK P T) (hmix : P.follows .mixedOrders = true) {id : Nat} {a a' : Tr Value} {h h' : AHeap} {ms : List Nat} {Q : AExit → Tr Value → AHeap → Prop} (hs : masks ops cx.nt = some ms) (hq : SqD P T ops cx.nt 0 ops.toList ms [] [] a h a' h') (hQ : Q .normal a' h') : CWp P cx (.region id ops true) a h Q := by
  have D0 : DP P T cx ops a h ⟨0, a, .leaf, .leaf, .leaf, [], [], h⟩ (fun _ => .tuple #[]) (fun _ => .leaf) (fun _ => .skip) (fun _ => h) 0 :=
    { hz := rfl
      hm := rfl
      hist := .nil
      kdge := fun _ _ => rfl
      mask := fun j mk hj => by cases hj
      back := fun j o hj => absurd hj (Nat.not_lt_zero _)
      wr := fun d j hj => by cases hj
      wr2 := fun j o d hj => absurd hj (Nat.not_lt_zero _)
      act := fun d => rfl
      all := fun s hs => absurd hs (Nat.not_lt_zero _)
      below := fun j i s hj => absurd hj (Nat.not_lt_zero _)
      mget := fun j mk hj => by cases hj
      pas := fun j o hj => absurd hj (Nat.not_lt_zero _)
      dfr := fun j o hj => absurd hj (Nat.not_lt_zero _)
      one := fun j o hj => absurd hj (Nat.not_lt_zero _) }
  obtain ⟨σ', q1, rfl, rfl, v', pa', kd', H', m', D⟩ := SqD.walk ok D0 (s := ⟨0, .leaf, .leaf, .leaf⟩) ⟨rfl, rfl, rfl, rfl⟩ .nil (fun x hx => by cases hx) (by simp) hs hq
  exact D.done ok hmix (by rw [q1]; simp) hQ

theorem CWp.yes {a : Tr Value} {h : AHeap} {c : Operand} {x y : Code} {Q : AExit → Tr Value → AHeap → Prop} (hc : aopnd a c = some (.bool true)) (h1 : CWp P cx x a h Q) : CWp P cx (.cond c x y) a h Q := CWp.cond hc h1
theorem CWp.no {a : Tr Value} {h : AHeap} {c : Operand} {x y : Code} {Q : AExit → Tr Value → AHeap → Prop} (hc : aopnd a c = some (.bool false)) (h1 : CWp P cx y a h Q) : CWp P cx (.cond c x y) a h Q := CWp.cond hc h1
end
end Go.Ab
