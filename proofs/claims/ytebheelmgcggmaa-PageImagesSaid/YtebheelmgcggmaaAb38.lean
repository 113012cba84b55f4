/-
  Regions whose order is left open, with rows that are made late.
-/
import Derived.Test.YtebheelmgcggmaaAb37
namespace Go.Ab
set_option linter.unusedSimpArgs false
set_option linter.unusedVariables false
section
variable {P : Program} {T : Tr TI}
inductive SqL (P : Program) (T : Tr TI) (ops : Array Oper) (nt : Nat) : Nat → List Oper → List Nat → List (Nat × Bool × AHeap) → List (Nat × Oper × Tr Value × Value) → Tr Value → AHeap → Tr Value → AHeap → Prop
  | nil {i : Nat} {hist : List (Nat × Bool × AHeap)} {reads : List (Nat × Oper × Tr Value × Value)} {a : Tr Value} {h : AHeap} : SqL P T ops nt i [] [] hist reads a h a h
  | skip {i : Nat} {hist : List (Nat × Bool × AHeap)} {reads : List (Nat × Oper × Tr Value × Value)} {o : Oper} {os : List Oper} {mk : Nat} {ms : List Nat} {a a1 a' : Tr Value} {h h' : AHeap} (hb : dBelow mk hist = true) (hg : aguard ops a o = some false) (hp : aput nt a o.dst (.tuple #[]) = some a1)
      (t : SqL P T ops nt (i + 1) os ms hist reads a1 h a' h') : SqL P T ops nt i (o :: os) (mk :: ms) hist reads a h a' h'
  | free {i : Nat} {hist : List (Nat × Bool × AHeap)} {reads : List (Nat × Oper × Tr Value × Value)} {o : Oper} {os : List Oper} {mk : Nat} {ms : List Nat} {a a1 a' : Tr Value} {h h1 h' : AHeap} {v : Value} (hb : dBelow mk hist = true) (hg : aguard ops a o = some true) (hk : memKind T o.op = 0) (ho : aop P T o (aopnd a) h = some (v, h1)) (hp : aput nt a o.dst v = some a1)
      (t : SqL P T ops nt (i + 1) os ms hist reads a1 h1 a' h') : SqL P T ops nt i (o :: os) (mk :: ms) hist reads a h a' h'
  | read {i : Nat} {hist : List (Nat × Bool × AHeap)} {reads : List (Nat × Oper × Tr Value × Value)} {o : Oper} {os : List Oper} {mk : Nat} {ms : List Nat} {a a1 a' : Tr Value} {h h1 h' : AHeap} {v : Value} (hb : dBelow mk hist = true) (hg : aguard ops a o = some true) (hk : memKind T o.op = 1) (ho : aop P T o (aopnd a) h = some (v, h1)) (hv : veq v v = true) (hh : okHist P T mk o a v hist) (hp : aput nt a o.dst v = some a1)
      (t : SqL P T ops nt (i + 1) os ms hist ((i, o, a, v) :: reads) a1 h1 a' h') : SqL P T ops nt i (o :: os) (mk :: ms) hist reads a h a' h'
  | change {i : Nat} {hist : List (Nat × Bool × AHeap)} {reads : List (Nat × Oper × Tr Value × Value)} {o : Oper} {os : List Oper} {mk : Nat} {ms : List Nat} {a a1 a' : Tr Value} {h h1 h' : AHeap} {v : Value} (hb : dBelow mk hist = true) (hg : aguard ops a o = some true) (hk : memKind T o.op = 2) (ho : aop P T o (aopnd a) h = some (v, h1)) (hc : dAll mk hist = true) (hr : okReads P T mk h1 reads) (hp : aput nt a o.dst v = some a1)
      (t : SqL P T ops nt (i + 1) os ms ((i, false, h) :: hist) reads a1 h1 a' h') : SqL P T ops nt i (o :: os) (mk :: ms) hist reads a h a' h'
  | call {i : Nat} {hist : List (Nat × Bool × AHeap)} {reads : List (Nat × Oper × Tr Value × Value)} {o : Oper} {os : List Oper} {mk : Nat} {ms : List Nat} {a a1 a' : Tr Value} {h h1 h' : AHeap} {v : Value} (hb : dBelow mk hist = true) (hg : aguard ops a o = some true) (hk : memKind T o.op = 2) (ho : ∀ ρ, (∀ x ∈ o.op.operands.toList, ρ x = aopnd a x) → OpWp P o ρ h fun x y => x = v ∧ y = h1)
      (hc : dAll mk hist = true) (hr : okReads P T mk h1 reads) (hp : aput nt a o.dst v = some a1) (t : SqL P T ops nt (i + 1) os ms ((i, false, h) :: hist) reads a1 h1 a' h') : SqL P T ops nt i (o :: os) (mk :: ms) hist reads a h a' h'
  | late {i : Nat} {hist : List (Nat × Bool × AHeap)} {reads : List (Nat × Oper × Tr Value × Value)} {o : Oper} {os : List Oper} {mk : Nat} {ms : List Nat} {a a1 a' : Tr Value} {h h1 h' : AHeap} {v : Value} (hb : dBelow mk hist = true) (hg : aguard ops a o = some true) (hk : memKind T o.op = 2) (ho : aop P T o (aopnd a) h = some (v, h1)) (hc : dAll mk hist = false) (hn : isNew o.op = true) (hr : okReads P T mk h1 reads) (hp : aput nt a o.dst v = some a1)
      (t : SqL P T ops nt (i + 1) os ms ((i, true, h) :: hist) reads a1 h1 a' h') : SqL P T ops nt i (o :: os) (mk :: ms) hist reads a h a' h'
variable {cx : Cx} {ops : Array Oper} {a0 : Tr Value} {h0 : AHeap}
open Classical in
theorem SqL.walk (ok : TyOK P T) : ∀ {os : List Oper} {ms : List Nat} {σ : DSt} {v : Nat → Value} {pa : Nat → Tr Value} {kd : Nat → Kind} {H : Nat → AHeap} {m : Nat} {s : MSt} {reads : List (Nat × Oper × Tr Value × Value)} {a' : Tr Value} {h' : AHeap}, DP P T cx ops a0 h0 σ v pa kd H m → MRel s σ → RsRel σ.reads reads → ops.toList.drop σ.i = os → mRun ops cx.nt os s = some ms →
    SqL P T ops cx.nt σ.i os ms σ.hist reads σ.a σ.h a' h' → ∃ σ', σ'.i = σ.i + os.length ∧ σ'.a = a' ∧ σ'.h = h' ∧ ∃ v' pa' kd' H' m', DP P T cx ops a0 h0 σ' v' pa' kd' H' m'
  | [], ms, σ, v, pa, kd, H, m, s, reads, a', h', D, S, R, hd, hs, hq => by cases hq; exact ⟨σ, by simp, rfl, rfl, v, pa, kd, H, m, D⟩
  | o :: os, ms, σ, v, pa, kd, H, m, s, reads, a', h', D, S, R, hd, hs, hq => by
    have ho : ops[σ.i]? = some o := by
      rw [← Array.getElem?_toList]
      have := congrArg (fun l : List Oper => l[0]?) hd
      simpa using this
    obtain ⟨e1, e2, e3, e4⟩ := S
    simp only [mRun] at hs
    split at hs
    · rename_i mk s1 hs1
      split at hs
      · rename_i l hl
        cases hs
        unfold mStep at hs1
        rw [e1, e2, e3, e4] at hs1
        cases hmk : dMask σ.M σ.i o.after.toList 0 with
        | none => rw [hmk] at hs1; cases hs1
        | some mk' =>
          rw [hmk] at hs1
          simp only at hs1
          cases hb : sTmps σ.W mk' (needs ops o) && (dDst cx.nt σ.W (dReads σ.W σ.i (needs ops o) σ.R) σ.i mk' o.dst && !isDefer o.op)
          · rw [hb, cond_false] at hs1; cases hs1
          · rw [hb, cond_true] at hs1
            cases hs1
            simp only [Bool.and_eq_true] at hb
            obtain ⟨b1, b2⟩ := hb
            have hb2 : (dDst cx.nt σ.W (dReads σ.W σ.i (needs ops o) σ.R) σ.i mk o.dst && !isDefer o.op) = true := by rw [b2.1, b2.2]; rfl
            obtain ⟨pn, g1, g2, g3⟩ := dAct_all (a0 := a0) (a := σ.a) (W := σ.W) (mk := mk) (nd := needs ops o) (pa0 := .leaf)
              (fun t ht hw => by rw [D.act t, hw]) (fun t ht i hw => ⟨sTmps_all b1 t ht i hw, v i, by rw [D.act t, hw]⟩) (fun t => .inl rfl)
            have gn : ∀ t ∈ needs ops o, pn.get t = σ.a.get t := fun t ht => g3 t (.inl ht)
            have gg : aguard ops pn o = aguard ops σ.a o := aguard_needs gn
            have go := aopnd_needs gn
            have fin : ∀ {op : Oper → (Operand → Option Value) → AHeap → Option (Value × AHeap)} {u : Value} {h1 : AHeap} {a1 : Tr Value} {hist1 : List (Nat × Bool × AHeap)} {rds1 reads1 : List (Nat × Oper × Tr Value × Value)}, (∀ o ρ h x h', op o ρ h = some (x, h') → OpWp P o ρ h fun y z => y = x ∧ z = h') →
                dStep P T op ops cx.nt a0 σ o = some (dFin σ o (needs ops o) mk u hist1 rds1 h1) → aput cx.nt σ.a o.dst u = some a1 → RsRel rds1 reads1 → SqL P T ops cx.nt (σ.i + 1) os l hist1 reads1 a1 h1 a' h' →
                ∃ σ', σ'.i = σ.i + (o :: os).length ∧ σ'.a = a' ∧ σ'.h = h' ∧ ∃ v' pa' kd' H' m', DP P T cx ops a0 h0 σ' v' pa' kd' H' m' := by
              intro op u h1 a1 hist1 rds1 reads1 hop d1 hp hr1 hq1
              obtain ⟨f1, v1, pa1, kd1, H1, m1, D1⟩ := dStep_sound ok hop D ho d1
              have hd1 : ops.toList.drop (σ.i + 1) = os := by rw [← List.drop_drop, hd]; rfl
              rw [aput_eq hp] at hq1
              obtain ⟨σ', q1, q2⟩ := SqL.walk ok (s := ⟨σ.i + 1, (match o.dst with | some d => σ.W.put d (some σ.i) | none => σ.W), dReads σ.W σ.i (needs ops o) σ.R, σ.M.put σ.i (some mk)⟩) D1 ⟨rfl, rfl, rfl, rfl⟩ hr1 hd1 hl hq1
              exact ⟨σ', by rw [q1]; simp only [dFin, List.length_cons]; omega, q2⟩
            have hop0 : ∀ (u : Value) (h1 : AHeap), ∀ (o : Oper) (ρ : Operand → Option Value) (h : AHeap) (x : Value) (h' : AHeap), (if OpWp P o ρ h (fun x y => x = u ∧ y = h1) then some (u, h1) else none) = some (x, h') → OpWp P o ρ h fun y z => y = x ∧ z = h' := by
              intro u h1 o ρ h x h' hx
              split at hx
              · rename_i hw; cases hx; exact hw
              · cases hx
            cases hq with
            | skip bel hg hp t =>
              refine fin (op := fun _ _ _ => none) (fun o ρ h x h' hx => by cases hx) (rds1 := σ.reads) ?_ hp R t
              unfold dStep
              rw [hmk]; simp only; rw [g1]; simp only; rw [hb2, bel]; simp only [Bool.and_self, cond_true]; rw [gg, hg]
            | free bel hg hk h2 hp t =>
              have k3 := (aop_congr (P := P) (T := T) (h := σ.h) go).trans h2
              obtain ⟨rfl, _⟩ := aop_free hk k3
              refine fin (op := fun _ _ _ => none) (fun o ρ h x h' hx => by cases hx) (rds1 := σ.reads) ?_ hp R t
              unfold dStep
              rw [hmk]; simp only; rw [g1]; simp only; rw [hb2, bel]; simp only [Bool.and_self, cond_true]; rw [gg, hg]; simp only; rw [hk]; simp only; rw [k3]
            | read bel hg hk h2 hv hh hp t =>
              have k3 := (aop_congr (P := P) (T := T) (h := σ.h) go).trans h2
              obtain rfl := aop_read hk k3
              refine fin (op := fun _ _ _ => none) (fun o ρ h x h' hx => by cases hx) (rds1 := (σ.i, o, pn, _) :: σ.reads) (reads1 := (σ.i, o, σ.a, _) :: reads) ?_ hp (.cons ⟨rfl, rfl, rfl, go, hv⟩ R) t
              unfold dStep
              rw [hmk]; simp only; rw [g1]; simp only; rw [hb2, bel]; simp only [Bool.and_self, cond_true]; rw [gg, hg]; simp only; rw [hk]; simp only; rw [k3]; simp only; rw [okHist_all go hv hh, cond_true]
            | change bel hg hk h2 hc hr hp t =>
              rename_i h1 u
              have k3 := (aop_congr (P := P) (T := T) (h := σ.h) go).trans h2
              refine fin (op := fun o ρ h => if OpWp P o ρ h (fun x y => x = u ∧ y = h1) then some (u, h1) else none) (hop0 u h1) (rds1 := σ.reads) ?_ hp R t
              unfold dStep
              rw [hmk]; simp only; rw [g1]; simp only; rw [hb2, bel]; simp only [Bool.and_self, cond_true]; rw [gg, hg]; simp only; rw [hk]; simp only; rw [hc, cond_true, if_pos (aop_sound ok k3 ⟨rfl, rfl⟩)]; simp only; rw [okReads_all R hr, cond_true]
            | call bel hg hk h2 hc hr hp t =>
              rename_i h1 u
              refine fin (op := fun o ρ h => if OpWp P o ρ h (fun x y => x = u ∧ y = h1) then some (u, h1) else none) (hop0 u h1) (rds1 := σ.reads) ?_ hp R t
              unfold dStep
              rw [hmk]; simp only; rw [g1]; simp only; rw [hb2, bel]; simp only [Bool.and_self, cond_true]; rw [gg, hg]; simp only; rw [hk]; simp only; rw [hc, cond_true, if_pos (h2 _ go)]; simp only; rw [okReads_all R hr, cond_true]
            | late bel hg hk h2 hc hn hr hp t =>
              rename_i h1 u
              have k3 := (aop_congr (P := P) (T := T) (h := σ.h) go).trans h2
              refine fin (op := fun _ _ _ => none) (fun o ρ h x h' hx => by cases hx) (rds1 := σ.reads) ?_ hp R t
              unfold dStep
              rw [hmk]; simp only; rw [g1]; simp only; rw [hb2, bel]; simp only [Bool.and_self, cond_true]; rw [gg, hg]; simp only; rw [hk]; simp only; rw [hc, cond_false, hn, cond_true, k3]; simp only; rw [okReads_all R hr, cond_true]
      · cases hs
    · cases hs
end
end Go.Ab
