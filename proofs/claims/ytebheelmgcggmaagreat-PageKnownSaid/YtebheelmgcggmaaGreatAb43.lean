/-
  Pure operations; the walk through a region whose order is left open, in an order of its own.
-/
import Derived.Test.YtebheelmgcggmaaGreatAb42
namespace Go.Ab.Nx
open Go.Ab
set_option linter.unusedSimpArgs false
set_option linter.unusedVariables false
section ops
variable {P : Program} {T : Tr TI}
noncomputable def isPure : Op → Bool
  | .move _ | .assign _ | .build .. | .makeInterface .. | .makeFunc .. | .fieldAddr .. | .field .. | .indexAddr .. | .index .. | .extract .. => true
  | _ => false
theorem pure_run {o : Oper} {ρ : Operand → Option Value} {v : Value} (S : (Operand → Value) → Sem Value) (he : ∀ ρ', execOp ρ' o = do pure (.value (← S ρ'))) (hg : ∀ (μ : Emb) (n : Nat) (ρ' : Operand → Value) (w : World), OpRel μ n ρ ρ' → ∃ v', (S ρ').run P w = .ok v' w ∧ VRel μ n v v') : PureOp P o ρ v := by
  intro μ n ρ' w hρ
  obtain ⟨u', h1, _⟩ := hg μ n ρ' w hρ
  refine ⟨u', by rw [he]; simp only [Sem.run_bind, h1, Result.andThen_ok, Sem.run_pure], fun μ2 n2 hρ2 => ?_⟩
  obtain ⟨u2, k1, k2⟩ := hg μ2 n2 ρ' w hρ2
  rw [h1] at k1
  cases k1
  exact k2
theorem aop_pure (ok : TyOK P T) {o : Oper} {ρ : Operand → Option Value} {h h' : AHeap} {v : Value} (hm : isPure o.op = true) (ha : aop P T o ρ h = some (v, h')) : PureOp P o ρ v := by
  obtain ⟨dst, op, ty, pos, after, guard⟩ := o
  cases op <;> simp only [isPure] at hm <;> first | (cases hm; done) | skip
  case move x =>
    obtain ⟨h1, h2⟩ := keep_some ha
    exact fun μ n ρ' w hρ => ⟨ρ' x, rfl, fun μ2 n2 hρ2 => hρ2 x v h1⟩
  case assign x =>
    obtain ⟨h1, h2⟩ := keep_some ha
    exact fun μ n ρ' w hρ => ⟨ρ' x, rfl, fun μ2 n2 hρ2 => hρ2 x v h1⟩
  case build t parts =>
    simp only [aop] at ha
    split at ha
    · rename_i ps hp
      obtain ⟨h1, rfl⟩ := keep_some ha
      refine pure_run (fun ρ' => Instr.build t (parts.map fun (i, x) => (i, ρ' x))) (fun _ => rfl) fun μ n ρ' w hρ => ?_
      have := aparts_rel hρ hp
      exact build_good ok (by simpa using this) h1 w
    · cases ha
  case makeInterface t x =>
    simp only [aop] at ha
    split at ha
    · rename_i u ti hu ht
      cases hi : isIface ti.und
      · rw [hi, cond_false] at ha
        simp only [Option.some.injEq, Prod.mk.injEq] at ha
        obtain ⟨rfl, rfl⟩ := ha
        refine pure_run (fun ρ' => Instr.makeInterface t (ρ' x)) (fun _ => rfl) fun μ n ρ' w hρ => ⟨.iface t (ρ' x), ?_, .iface (hρ x u hu)⟩
        simp only [Instr.makeInterface, Sem.run_bind, run_underlying ok ht, Result.andThen_ok]
        split
        · rename_i e; rw [e] at hi; cases hi
        · rfl
      · rw [hi, cond_true] at ha; cases ha
    · cases ha
  case makeFunc fn first cap =>
    simp only [aop] at ha
    split at ha
    · rename_i a b h1 h2
      cases hy : noYield fn
      · rw [hy, cond_false] at ha; cases ha
      · rw [hy, cond_true] at ha
        simp only [Option.some.injEq, Prod.mk.injEq] at ha
        obtain ⟨rfl, rfl⟩ := ha
        refine fun μ n ρ' w hρ => ⟨.func fn (first.map ρ') (cap.map ρ'), rfl, fun μ2 n2 hρ2 => .func (fun l e => by subst e; cases hy) ?_ ?_⟩
        · simpa using aopnds_rel hρ2 h1
        · simpa using aopnds_rel hρ2 h2
    · cases ha
  case fieldAddr s x f =>
    simp only [aop] at ha
    split at ha
    · rename_i u hu
      obtain ⟨g1, rfl⟩ := keep_some ha
      exact pure_run (fun ρ' => Instr.fieldAt s (ρ' x) f) (fun _ => rfl) fun μ n ρ' w hρ => fieldAddr_good ok (hρ x u hu) g1 w
    · cases ha
  case field t x f =>
    simp only [aop] at ha
    split at ha
    · rename_i u hu
      obtain ⟨g1, rfl⟩ := keep_some ha
      exact pure_run (fun ρ' => Instr.field t (ρ' x) f) (fun _ => rfl) fun μ n ρ' w hρ => field_good ok (hρ x u hu) g1 w
    · cases ha
  case indexAddr t x i =>
    simp only [aop] at ha
    split at ha
    · rename_i u j hu hj
      obtain ⟨g1, rfl⟩ := keep_some ha
      exact pure_run (fun ρ' => Instr.indexAt t (ρ' x) (ρ' i)) (fun _ => rfl) fun μ n ρ' w hρ => indexAddr_good ok (hρ x u hu) (hρ i j hj) g1 w
    · cases ha
  case index t x i =>
    simp only [aop] at ha
    split at ha
    · rename_i u j hu hj
      obtain ⟨g1, rfl⟩ := keep_some ha
      exact pure_run (fun ρ' => Instr.index t (ρ' x) (ρ' i)) (fun _ => rfl) fun μ n ρ' w hρ => index_good ok (hρ x u hu) (hρ i j hj) g1 w
    · cases ha
  case extract x i =>
    simp only [aop] at ha
    split at ha
    · rename_i u hu
      obtain ⟨g1, rfl⟩ := keep_some ha
      exact pure_run (fun ρ' => Instr.extract (ρ' x) i) (fun _ => rfl) fun μ n ρ' w hρ => extract_good (hρ x u hu) g1 w
    · cases ha
end ops
structure DSt where
  dn : Nat
  a : Tr Value
  W : Tr Nat
  R : Tr Nat
  hist : List (Nat × Bool × AHeap)
  lvs : List (Nat × List (Nat × Bool × AHeap))
  reads : List (Nat × Oper × Tr Value × Value)
  h : AHeap
noncomputable def dMasks : List Oper → Nat → Tr Nat → Option (Tr Nat)
  | [], _, M => some M
  | o :: os, j, M => match dMask M j o.after.toList 0 with
    | some mk => dMasks os (j + 1) (M.put j (some mk))
    | none => none
noncomputable def dFin (σ : DSt) (j : Nat) (o : Oper) (nd : List Tmp) (v : Value) (hist : List (Nat × Bool × AHeap)) (lvs : List (Nat × List (Nat × Bool × AHeap))) (reads : List (Nat × Oper × Tr Value × Value)) (h : AHeap) : DSt :=
  { dn := Nat.lor σ.dn (Nat.shiftLeft 1 j), a := (match o.dst with | some d => σ.a.put d (some v) | none => σ.a), W := (match o.dst with | some d => σ.W.put d (some j) | none => σ.W), R := dReads σ.W j nd σ.R, hist, lvs, reads, h }
noncomputable def dPures (mk : Nat) : List (Nat × List (Nat × Bool × AHeap)) → Bool
  | [] => true
  | (i, hs) :: r => (bif Nat.testBit mk i then dAll mk hs else true) && dPures mk r
noncomputable def dStep (P : Program) (T : Tr TI) (op : Oper → (Operand → Option Value) → AHeap → Option (Value × AHeap)) (ops : Array Oper) (nt : Nat) (a0 : Tr Value) (M : Tr Nat) (σ : DSt) (j : Nat) (o : Oper) : Option DSt :=
  match M.get j with
  | none => none
  | some mk => bif Nat.beq (Nat.lor mk σ.dn) σ.dn && !Nat.testBit σ.dn j then match dAct a0 σ.a σ.W mk (needs ops o) .leaf with
    | none => none
    | some pa => bif dDst nt σ.W (dReads σ.W j (needs ops o) σ.R) j mk o.dst && !isDefer o.op then
      bif dBelow mk σ.hist && dPures mk σ.lvs then
        match aguard ops pa o with
        | none => none
        | some false => some (dFin σ j o (needs ops o) (.tuple #[]) σ.hist σ.lvs σ.reads σ.h)
        | some true => match memKind T o.op with
          | 0 => match aop P T o (aopnd pa) σ.h with
            | some (v, _) => some (dFin σ j o (needs ops o) v σ.hist σ.lvs σ.reads σ.h)
            | none => none
          | 1 => match aop P T o (aopnd pa) σ.h with
            | some (v, _) => bif dHist P T o pa v mk σ.hist then some (dFin σ j o (needs ops o) v σ.hist σ.lvs ((j, o, pa, v) :: σ.reads) σ.h) else none
            | none => none
          | _ => bif dAll mk σ.hist then match op o (aopnd pa) σ.h with
            | some (v, h') => bif σ.reads.all (fun x => Nat.testBit mk x.1 || sameAt P T x.2.1 x.2.2.1 x.2.2.2 h') && Nat.ble σ.h.next h'.next then some (dFin σ j o (needs ops o) v ((j, false, σ.h) :: σ.hist) σ.lvs σ.reads h') else none
            | none => none
            else bif isNew o.op then match aop P T o (aopnd pa) σ.h with
              | some (v, h') => bif σ.reads.all (fun x => Nat.testBit mk x.1 || sameAt P T x.2.1 x.2.2.1 x.2.2.2 h') && Nat.ble σ.h.next h'.next then some (dFin σ j o (needs ops o) v ((j, true, σ.h) :: σ.hist) σ.lvs σ.reads h') else none
              | none => none
            else none
      else match aguard ops pa o with
        | some true => bif isPure o.op then match aop P T o (aopnd pa) σ.h with
            | some (v, _) => some (dFin σ j o (needs ops o) v σ.hist ((j, σ.hist) :: σ.lvs) σ.reads σ.h)
            | none => none
          else none
        | _ => none
      else none
    else none
noncomputable def dRun (P : Program) (T : Tr TI) (op : Oper → (Operand → Option Value) → AHeap → Option (Value × AHeap)) (ops : Array Oper) (nt : Nat) (a0 : Tr Value) (M : Tr Nat) : List (Nat × Oper) → DSt → Option DSt
  | [], σ => some σ
  | (j, o) :: os, σ => match dStep P T op ops nt a0 M σ j o with
    | some σ' => dRun P T op ops nt a0 M os σ'
    | none => none
noncomputable def nums : List Oper → Nat → List (Nat × Oper)
  | [], _ => []
  | o :: os, j => (j, o) :: nums os (j + 1)
noncomputable def lateOrd (T : Tr TI) (M : Tr Nat) (all : List (Nat × Oper)) : List (Nat × Oper) → Nat → List (Nat × Oper) → List (Nat × Oper)
  | [], dn, acc => acc.reverse ++ all.filter (fun x => !Nat.testBit dn x.1)
  | (j, o) :: os, dn, acc => bif (Nat.beq (memKind T o.op) 2 && !isNew o.op) && !Nat.testBit dn j then
      let mk := (M.get j).getD 0
      let want := all.filter (fun x => Nat.testBit mk x.1 && !Nat.testBit dn x.1)
      lateOrd T M all os (Nat.lor dn (Nat.lor mk (Nat.shiftLeft 1 j))) ((j, o) :: (want.reverse ++ acc))
    else lateOrd T M all os dn acc
noncomputable def evDrawn (P : Program) (T : Tr TI) (op : Oper → (Operand → Option Value) → AHeap → Option (Value × AHeap)) (ops : Array Oper) (nt : Nat) (a : Tr Value) (h : AHeap) : Option (Tr Value × AHeap) :=
  match dMasks ops.toList 0 .leaf with
  | none => none
  | some M => match dRun P T op ops nt a M (nums ops.toList 0) ⟨0, a, .leaf, .leaf, [], [], [], h⟩ with
    | some σ => bif Nat.beq σ.dn (Nat.sub (Nat.shiftLeft 1 ops.size) 1) then some (σ.a, σ.h) else none
    | none => match dRun P T op ops nt a M (lateOrd T M (nums ops.toList 0) (nums ops.toList 0) 0 []) ⟨0, a, .leaf, .leaf, [], [], [], h⟩ with
      | some σ => bif Nat.beq σ.dn (Nat.sub (Nat.shiftLeft 1 ops.size) 1) then some (σ.a, σ.h) else none
      | none => none
end Go.Ab.Nx
