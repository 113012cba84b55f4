/-
  Words for contracts: straight stretches of code by the evaluator's functions, loops by an invariant, calls by contracts.
-/
import Derived.Test.YtebheelmgcggmaaGreatAb19
namespace Go.Ab
set_option linter.unusedSimpArgs false
set_option linter.unusedVariables false
section
variable {P : Program} {T : Tr TI} {cx : Cx} {a : Tr Value} {h : AHeap}
noncomputable def OSuf (P : Program) (cx : Cx) (ops : Array Oper) (os : List Oper) (a : Tr Value) (h : AHeap) (Q : Tr Value → AHeap → Prop) : Prop :=
  ∀ i, ops.toList.drop i = os → OWp P cx ops (List.range' i os.length) a h Q
theorem OSuf.nil {ops : Array Oper} {Q : Tr Value → AHeap → Prop} (hq : Q a h) : OSuf P cx ops [] a h Q := fun _ _ => OWp.nil hq
theorem OSuf.op {ops : Array Oper} {Q : Tr Value → AHeap → Prop} {o : Oper} {os : List Oper} (hg : aguard ops a o = some true) (hd : isDefer o.op = false)
    (hop : OpWp P o (aopnd a) h fun v h' => ∃ a', aput cx.nt a o.dst v = some a' ∧ OSuf P cx ops os a' h' Q) : OSuf P cx ops (o :: os) a h Q := by
  intro i hi
  have ho : ops[i]? = some o := by
    rw [← Array.getElem?_toList]
    have := congrArg (fun l : List Oper => l[0]?) hi
    simpa using this
  rw [List.length_cons, List.range'_succ]
  refine OWp.op ho hg hd (hop.mono ?_)
  rintro v h' ⟨a', h1, h2⟩
  exact ⟨a', h1, h2 (i + 1) (by rw [← List.drop_drop, hi]; rfl)⟩
theorem OSuf.skip {ops : Array Oper} {Q : Tr Value → AHeap → Prop} {o : Oper} {os : List Oper} {a' : Tr Value} (hg : aguard ops a o = some false) (hp : aput cx.nt a o.dst (.tuple #[]) = some a') (hr : OSuf P cx ops os a' h Q) : OSuf P cx ops (o :: os) a h Q := by
  intro i hi
  have ho : ops[i]? = some o := by
    rw [← Array.getElem?_toList]
    have := congrArg (fun l : List Oper => l[0]?) hi
    simpa using this
  rw [List.length_cons, List.range'_succ]
  exact OWp.skip ho hg hp (hr (i + 1) (by rw [← List.drop_drop, hi]; rfl))
theorem CWp.reg {id : Nat} {ops : Array Oper} {Q : AExit → Tr Value → AHeap → Prop} (hr : OSuf P cx ops ops.toList a h fun a' h' => Q .normal a' h') : CWp P cx (.region id ops false) a h Q := by
  refine CWp.region ?_
  have := hr 0 (by simp)
  rwa [Array.length_toList, ← List.range_eq_range'] at this
noncomputable def evs (P : Program) (T : Tr TI) (ops : Array Oper) (nt : Nat) : List Oper → Tr Value → AHeap → Option (Tr Value × AHeap)
  | [], a, h => some (a, h)
  | o :: os, a, h => match aguard ops a o with
    | some true => match aop P T o (aopnd a) h with
      | some (v, h') => match aput nt a o.dst v with
        | some a' => evs P T ops nt os a' h'
        | none => none
      | none => none
    | some false => match aput nt a o.dst (.tuple #[]) with
      | some a' => evs P T ops nt os a' h
      | none => none
    | none => none
theorem aop_nodefer {o : Oper} {ρ : Operand → Option Value} {h h' : AHeap} {v : Value} (ha : aop P T o ρ h = some (v, h')) : isDefer o.op = false := by
  obtain ⟨dst, op, ty, pos, after, guard⟩ := o
  cases op <;> first | rfl | cases ha
theorem OSuf.evs (ok : TyOK P T) {ops : Array Oper} : ∀ {os : List Oper} {a a' : Tr Value} {h h' : AHeap} {rest : List Oper} {Q : Tr Value → AHeap → Prop}, Ab.evs P T ops cx.nt os a h = some (a', h') → OSuf P cx ops rest a' h' Q → OSuf P cx ops (os ++ rest) a h Q
  | [], a, a', h, h', rest, Q, he, hr => by simp only [Ab.evs, Option.some.injEq, Prod.mk.injEq] at he; obtain ⟨rfl, rfl⟩ := he; exact hr
  | o :: os, a, a', h, h', rest, Q, he, hr => by
    simp only [Ab.evs] at he
    split at he
    · rename_i hg
      split at he
      · rename_i v h1 hop
        split at he
        · rename_i a1 hp
          refine OSuf.op hg (aop_nodefer hop) (aop_sound ok hop ⟨a1, hp, OSuf.evs ok he hr⟩)
        · cases he
      · cases he
    · rename_i hg
      split at he
      · rename_i a1 hp
        exact OSuf.skip hg hp (OSuf.evs ok he hr)
      · cases he
    · cases he
theorem CWp.evs (ok : TyOK P T) {id : Nat} {ops : Array Oper} {a' : Tr Value} {h' : AHeap} {Q : AExit → Tr Value → AHeap → Prop} (he : Ab.evs P T ops cx.nt ops.toList a h = some (a', h')) (hq : Q .normal a' h') : CWp P cx (.region id ops false) a h Q := by
  refine CWp.reg ?_
  have := OSuf.evs (Q := fun a' h' => Q .normal a' h') ok he (OSuf.nil hq)
  rwa [List.append_nil] at this
theorem CWp.loopI {c : Code} {Q : AExit → Tr Value → AHeap → Prop} (I : Nat → Tr Value → AHeap → Prop) (round : ∀ n a h, I n a h → CWp P cx c a h fun e a' h' => match e with | .normal => ∃ m, m < n ∧ I m a' h' | e => Q e a' h') :
    ∀ n a h, I n a h → CWp P cx (.loop c) a h Q := by
  intro n
  induction n using Nat.strongRecOn with
  | _ n ih =>
    intro a h hI
    refine CWp.loop1 ((round n a h hI).mono fun e a' h' hq => ?_)
    cases e with
    | normal => obtain ⟨m, hm, hI'⟩ := hq; exact ih m hm a' h' hI'
    | exit i => exact hq
    | ret => exact hq
theorem CWp.forget {c : Code} {Q : AExit → Tr Value → AHeap → Prop} {b : Tr Value} (hb : ∀ t v, b.get t = some v → a.get t = some v) (hc : CWp P cx c b h Q) : CWp P cx c a h Q :=
  fun μ base tmps defers rd w k cs p => hc μ base tmps defers rd w k cs ⟨fun t v hv => p.act t v (hb t v hv), p.size, p.rdr, p.dok, p.dno, p.dge, p.bsz, p.st⟩
end
end Go.Ab
