/-
  Regions whose order is left open, by a walk in the text's order that looks at what stands ahead of what.
-/
import Derived.Test.YtebheelmgcggmaaGreatAb15
namespace Go.Ab
set_option linter.unusedSimpArgs false
set_option linter.unusedVariables false
noncomputable def veq1 : Value → Value → Bool
  | .bool a, .bool b => a == b
  | .int k a, .int l b => decide (k = l) && decide (a = b)
  | .string a, .string b => decide (a.data.toList = b.data.toList)
  | .pointer a, .pointer b => decide (a = b)
  | .slice a m c, .slice b n d => decide (a = b) && (Nat.beq m n && Nat.beq c d)
  | .map a, .map b => decide (a = b)
  | .nilFunc, .nilFunc => true
  | .nilIface, .nilIface => true
  | _, _ => false
noncomputable def veqs : List Value → List Value → Bool
  | [], [] => true
  | a :: l, b :: m => veq1 a b && veqs l m
  | _, _ => false
noncomputable def veq : Value → Value → Bool
  | .agg a, .agg b => veqs a.toList b.toList
  | .tuple a, .tuple b => veqs a.toList b.toList
  | a, b => veq1 a b
theorem veq1_eq {a b : Value} (h : veq1 a b = true) : a = b := by
  unfold veq1 at h
  split at h
  · simp only [beq_iff_eq] at h; rw [h]
  · simp only [Bool.and_eq_true, decide_eq_true_eq] at h; rw [h.1, h.2]
  · simp only [decide_eq_true_eq] at h; congr 1; rename_i x y; cases x; cases y; congr 1; exact Array.toList_inj.1 h
  · simp only [decide_eq_true_eq] at h; rw [h]
  · simp only [Bool.and_eq_true, decide_eq_true_eq] at h; rw [h.1, Nat.eq_of_beq_eq_true h.2.1, Nat.eq_of_beq_eq_true h.2.2]
  · simp only [decide_eq_true_eq] at h; rw [h]
  · rfl
  · rfl
  · cases h
theorem veqs_eq : ∀ {a b : List Value}, veqs a b = true → a = b
  | [], [], _ => rfl
  | [], _ :: _, h => by cases h
  | _ :: _, [], h => by cases h
  | a :: l, b :: m, h => by simp only [veqs, Bool.and_eq_true] at h; rw [veq1_eq h.1, veqs_eq h.2]
theorem veq_eq {a b : Value} (h : veq a b = true) : a = b := by
  unfold veq at h
  split at h
  · rw [Array.toList_inj.1 (veqs_eq h)]
  · rw [Array.toList_inj.1 (veqs_eq h)]
  · exact veq1_eq h
noncomputable def strBytes (T : Tr TI) (src dst : TypeId) : Bool :=
  match T.get src, T.get dst with
  | some si, some di => match si.und, di.und with
    | .string, .slice _ => true
    | _, _ => false
  | _, _ => true
noncomputable def memKind (T : Tr TI) : Op → Nat
  | .move _ | .assign _ | .pick .. | .build .. | .nilCheck _ | .binOp .. | .unOp .. | .makeInterface .. | .makeFunc .. | .fieldAddr .. | .field .. | .indexAddr .. | .index .. | .extract .. => 0
  | .load .. | .lookup .. | .slice .. | .entry _ => 1
  | .call ⟨.builtin .len, _, _⟩ | .call ⟨.builtin .min, _, _⟩ | .call ⟨.builtin .max, _, _⟩ => 1
  | .convert src dst _ => bif strBytes T src dst then 2 else 1
  | _ => 2
section
variable {P : Program} {T : Tr TI}
theorem keep_any {h h' : AHeap} {x : Option Value} {v : Value} (hk : keep h x = some (v, h')) : h' = h ∧ ∀ h2, keep h2 x = some (v, h2) := by
  obtain ⟨rfl, rfl⟩ := keep_some hk; exact ⟨rfl, fun _ => rfl⟩
set_option maxHeartbeats 1000000 in
theorem aop_free {o : Oper} {ρ : Operand → Option Value} {h h' : AHeap} {v : Value} (hm : memKind T o.op = 0) (ha : aop P T o ρ h = some (v, h')) : h' = h ∧ ∀ h2, aop P T o ρ h2 = some (v, h2) := by
  obtain ⟨dst, op, ty, pos, after, guard⟩ := o
  cases op <;> simp only [memKind] at hm <;> first | (cases hm; done) | skip
  case move x => exact keep_any ha
  case assign x => exact keep_any ha
  case pick a b c =>
    simp only [aop] at ha ⊢
    split at ha
    · exact keep_any ha
    · cases ha
  case build t ps =>
    simp only [aop] at ha ⊢
    split at ha
    · exact keep_any ha
    · cases ha
  case nilCheck x =>
    simp only [aop] at ha ⊢
    split at ha
    · exact keep_any ha
    · cases ha
  case binOp =>
    simp only [aop] at ha ⊢
    split at ha
    · exact keep_any ha
    · cases ha
  case unOp =>
    simp only [aop] at ha ⊢
    split at ha
    · exact keep_any ha
    · cases ha
  case convert src dst x =>
    cases hs : strBytes T src dst <;> rw [hs] at hm <;> cases hm
  case makeInterface t x =>
    simp only [aop] at ha ⊢
    split at ha
    · rename_i u ti _ _
      cases hi : isIface ti.und
      · rw [hi, cond_false] at ha
        simp only [Option.some.injEq, Prod.mk.injEq] at ha
        obtain ⟨rfl, rfl⟩ := ha
        exact ⟨rfl, fun _ => rfl⟩
      · rw [hi, cond_true] at ha; cases ha
    · cases ha
  case makeFunc fn a c =>
    simp only [aop] at ha ⊢
    split at ha
    · cases hi : noYield fn
      · rw [hi, cond_false] at ha; cases ha
      · rw [hi, cond_true] at ha
        simp only [Option.some.injEq, Prod.mk.injEq] at ha
        obtain ⟨rfl, rfl⟩ := ha
        exact ⟨rfl, fun _ => rfl⟩
    · cases ha
  case fieldAddr =>
    simp only [aop] at ha ⊢
    split at ha
    · exact keep_any ha
    · cases ha
  case field =>
    simp only [aop] at ha ⊢
    split at ha
    · exact keep_any ha
    · cases ha
  case indexAddr =>
    simp only [aop] at ha ⊢
    split at ha
    · exact keep_any ha
    · cases ha
  case index =>
    simp only [aop] at ha ⊢
    split at ha
    · exact keep_any ha
    · cases ha
  case extract =>
    simp only [aop] at ha ⊢
    split at ha
    · exact keep_any ha
    · cases ha
  case call c =>
    obtain ⟨callee, xs, ats⟩ := c
    cases callee with
    | builtin b => cases b <;> simp only [] at hm <;> cases hm
    | value f => cases hm
    | invoke f m => cases hm
set_option maxHeartbeats 1000000 in
theorem aop_read {o : Oper} {ρ : Operand → Option Value} {h h' : AHeap} {v : Value} (hm : memKind T o.op = 1) (ha : aop P T o ρ h = some (v, h')) : h' = h := by
  obtain ⟨dst, op, ty, pos, after, guard⟩ := o
  cases op <;> simp only [memKind] at hm <;> first | (cases hm; done) | skip
  case load t x =>
    simp only [aop] at ha
    split at ha
    · exact (keep_any ha).1
    · cases ha
  case convert src dst x =>
    simp only [aop] at ha
    split at ha
    · rename_i u hu
      split at ha
      · rename_i r hr
        cases ha
        unfold aConv at hr
        unfold strBytes at hm
        split at hr
        · rename_i si di h1 h2
          rw [h1, h2] at hm
          simp only at hm
          split at hr
          · rename_i h3 h4
            rw [h3, h4] at hm
            cases hm
          · split at hr
            · split at hr
              · simp only [Option.some.injEq, Prod.mk.injEq] at hr; exact hr.2.symm
              · cases hr
            · cases hr
          · cases hr
        · cases hr
      · exact (keep_any ha).1
    · cases ha
  case slice =>
    simp only [aop] at ha
    split at ha
    · exact (keep_any ha).1
    · cases ha
  case lookup =>
    simp only [aop] at ha
    split at ha
    · exact (keep_any ha).1
    · cases ha
  case entry =>
    simp only [aop] at ha
    split at ha
    · exact (keep_any ha).1
    · cases ha
  case call c =>
    obtain ⟨callee, xs, ats⟩ := c
    cases callee with
    | builtin b =>
      simp only [aop] at ha
      split at ha
      · cases b <;> simp only [] at hm <;> first | (cases hm; done) | skip
        · unfold aBuiltin at ha
          split at ha <;> first | (rename_i e _; cases e; done) | (rename_i e; cases e; done) | exact (keep_any ha).1 | cases ha
        · unfold aBuiltin at ha
          split at ha <;> first | (rename_i e _; cases e; done) | (rename_i e; cases e; done) | exact (keep_any ha).1 | cases ha
        · unfold aBuiltin at ha
          split at ha <;> first | (rename_i e _; cases e; done) | (rename_i e; cases e; done) | exact (keep_any ha).1 | cases ha
      · cases ha
    | value f => cases hm
    | invoke f m => cases hm
end
noncomputable def isNew : Op → Bool
  | .alloc _ => true
  | .box _ _ => true
  | .buildSlice _ _ _ => true
  | .makeMap _ none => true
  | .makeSlice _ _ _ => true
  | _ => false
theorem aop_new {P : Program} {T : Tr TI} {o : Oper} {ρ : Operand → Option Value} {h h' : AHeap} {v : Value} (hm : isNew o.op = true) (ha : aop P T o ρ h = some (v, h')) :
    ∃ rv ob, NewV rv ∧ v = rv h.next ∧ h' = h.new ob ∧ ob.own = true ∧ (∀ h2, aop P T o ρ h2 = some (rv h2.next, h2.new ob)) ∧ ∀ (μ : Emb) (n : Nat) (ρ' : Operand → Value), OpRel μ n ρ ρ' → BO n ob := by
  obtain ⟨dst, op, ty, pos, after, guard⟩ := o
  cases op <;> simp only [isNew] at hm <;> first | (cases hm; done) | skip
  case alloc t =>
    simp only [aop, aAlloc] at ha ⊢
    split at ha
    · rename_i ti ht
      split at ha
      · rename_i z hz
        cases hf : z.cells.toList.all flat1
        · rw [hf, cond_false] at ha; cases ha
        · rw [hf, cond_true] at ha
          simp only [Option.some.injEq, Prod.mk.injEq] at ha
          obtain ⟨rfl, rfl⟩ := ha
          refine ⟨fun n => .pointer (some ⟨n, 0, none⟩), _, .inl ⟨0, fun _ => rfl⟩, rfl, rfl, rfl, fun h2 => by rw [cond_true], fun μ n ρ' _ => ?_⟩
          intro x hx
          exact BV.flat (by
            have := List.all_eq_true.1 hf x hx
            unfold flat; cases x <;> first | exact this | cases this)
      · cases ha
    · cases ha
  case box t x =>
    simp only [aop] at ha ⊢
    split at ha
    · rename_i u hu
      simp only [aBox, Option.some.injEq, Prod.mk.injEq] at ha
      obtain ⟨rfl, rfl⟩ := ha
      refine ⟨fun n => .pointer (some ⟨n, 0, none⟩), _, .inl ⟨0, fun _ => rfl⟩, rfl, rfl, rfl, fun h2 => rfl, fun μ n ρ' hρ => ?_⟩
      intro y hy
      have := (hρ x u hu).cells
      obtain ⟨k, hk⟩ := List.getElem?_of_mem hy
      obtain ⟨y', _, h2⟩ := this.getElem? k hk
      exact ⟨μ, y', h2⟩
    · cases ha
  case buildSlice t len parts =>
    simp only [aop] at ha ⊢
    split at ha
    · rename_i ps hps
      unfold aBuildSlice at ha ⊢
      split at ha
      · rename_i ti ht
        split at ha
        · rename_i elem hu
          split at ha
          · rename_i ei he
            split at ha
            · rename_i z hz
              cases hb : z.cells.toList.all flat1 && (Nat.ble (len * ei.size) 16777216 && Nat.beq z.cells.size ei.size)
              · rw [hb, cond_false] at ha; cases ha
              · rw [hb, cond_true] at ha
                split at ha
                · rename_i r hr
                  simp only [Option.some.injEq, Prod.mk.injEq] at ha
                  obtain ⟨rfl, rfl⟩ := ha
                  refine ⟨fun n => .slice (some ⟨n, 0, none⟩) len (len + 1), _, .inr (.inl ⟨0, len, len + 1, fun _ => rfl⟩), rfl, rfl, rfl, fun h2 => by rw [cond_true], fun μ n ρ' hρ => ?_⟩
                  intro y hy
                  simp only [Bool.and_eq_true] at hb
                  have hl0 : LRel μ n (zeros z.cells.toList len) (zeros z.cells.toList len).toArray.toList := by
                    simp only [List.toList_toArray]; exact LRel.of_flat1 _ _ (zeros_flat hb.1 _)
                  obtain ⟨r', _, h2⟩ := fill_good (fun i => some (i * ei.size, ei.size)) (aparts_rel hρ hps) hl0 hr
                  obtain ⟨k, hk⟩ := List.getElem?_of_mem hy
                  obtain ⟨y', _, h3⟩ := h2.getElem? k hk
                  exact ⟨μ, y', h3⟩
                · cases ha
            · cases ha
          · cases ha
        · cases ha
      · cases ha
    · cases ha
  case makeSlice t l c =>
    simp only [aop] at ha ⊢
    split at ha
    · rename_i lv cv hl hc
      unfold aMakeSlice at ha ⊢
      split at ha
      · rename_i ti k1 l1 k2 c1 ht
        split at ha
        · rename_i elem hu
          split at ha
          · rename_i ei he
            split at ha
            · rename_i z hz
              split at ha
              · rename_i hif
                simp only [Option.some.injEq, Prod.mk.injEq] at ha
                obtain ⟨rfl, rfl⟩ := ha
                refine ⟨fun n => .slice (some ⟨n, 0, none⟩) l1.toNat (c1.toNat + 1), _, .inr (.inl ⟨0, l1.toNat, c1.toNat + 1, fun _ => rfl⟩), rfl, rfl, rfl, fun h2 => by simp only [ht, hu, he, hz, if_pos hif], fun μ n ρ' _ => ?_⟩
                intro y hy
                have := List.all_eq_true.1 (zeros_flat hif.1 _) y hy
                exact BV.flat (by unfold flat; cases y <;> first | exact this | cases this)
              · cases ha
            · cases ha
          · cases ha
        · cases ha
      · cases ha
    · cases ha
  case makeMap t x =>
    cases x with
    | some _ => cases hm
    | none =>
      simp only [aop, aMakeMap, Option.some.injEq, Prod.mk.injEq] at ha ⊢
      obtain ⟨rfl, rfl⟩ := ha
      exact ⟨fun n => .map (some n), _, .inr (.inr fun _ => rfl), rfl, rfl, rfl, fun h2 => ⟨rfl, rfl⟩, fun μ n ρ' _ e he => by cases he⟩
structure DSt where
  i : Nat
  a : Tr Value
  W : Tr Nat
  R : Tr Nat
  M : Tr Nat
  hist : List (Nat × Bool × AHeap)
  reads : List (Nat × Oper × Tr Value × Value)
  h : AHeap
noncomputable def dMask (M : Tr Nat) (j : Nat) : List Edge → Nat → Option Nat
  | [], m => some m
  | e :: es, m => bif Region.binds .any e then
      (bif Nat.ble (e.on + 1) j then match M.get e.on with
        | some k => dMask M j es (Nat.lor (Nat.lor m (Nat.shiftLeft 1 e.on)) k)
        | none => none
      else none)
    else dMask M j es m
noncomputable def tmpsOf : List Operand → List Tmp
  | [] => []
  | .tmp t :: xs => t :: tmpsOf xs
  | _ :: xs => tmpsOf xs
noncomputable def needs (ops : Array Oper) (o : Oper) : List Tmp :=
  match o.guard with
  | none => tmpsOf o.op.operands.toList
  | some (j, _) => match (ops[j]?).bind (·.dst) with
    | some d => d :: tmpsOf o.op.operands.toList
    | none => tmpsOf o.op.operands.toList
noncomputable def dAct (a0 a : Tr Value) (W : Tr Nat) (mk : Nat) : List Tmp → Tr Value → Option (Tr Value)
  | [], pa => some pa
  | t :: ts, pa => match W.get t with
    | none => match a0.get t with
      | some u => dAct a0 a W mk ts (pa.put t (some u))
      | none => dAct a0 a W mk ts pa
    | some i => bif Nat.testBit mk i then match a.get t with
        | some u => dAct a0 a W mk ts (pa.put t (some u))
        | none => none
      else none
noncomputable def dReads (W : Tr Nat) (j : Nat) : List Tmp → Tr Nat → Tr Nat
  | [], R => R
  | t :: ts, R => match W.get t with
    | none => dReads W j ts (R.put t (some (Nat.lor ((R.get t).getD 0) (Nat.shiftLeft 1 j))))
    | some _ => dReads W j ts R
noncomputable def dDst (nt : Nat) (W R : Tr Nat) (j mk : Nat) : Option Tmp → Bool
  | none => true
  | some d => Nat.ble (d + 1) nt && ((W.get d).isNone && (match R.get d with
    | none => true
    | some r => Nat.beq (Nat.lor r (Nat.lor mk (Nat.shiftLeft 1 j))) (Nat.lor mk (Nat.shiftLeft 1 j))))
noncomputable def sameAt (P : Program) (T : Tr TI) (o : Oper) (pa : Tr Value) (v : Value) (h : AHeap) : Bool :=
  match aop P T o (aopnd pa) h with
  | some (u, _) => veq u v
  | none => false
noncomputable def dHist (P : Program) (T : Tr TI) (o : Oper) (pa : Tr Value) (v : Value) (mk : Nat) : List (Nat × Bool × AHeap) → Bool
  | [] => true
  | (c, _, hb) :: r => Nat.testBit mk c || (sameAt P T o pa v hb && dHist P T o pa v mk r)
noncomputable def dAll (mk : Nat) : List (Nat × Bool × AHeap) → Bool
  | [] => true
  | (c, _, _) :: r => Nat.testBit mk c && dAll mk r
noncomputable def dBelow (mk : Nat) : List (Nat × Bool × AHeap) → Bool
  | [] => true
  | (c, l, _) :: r => (bif l && Nat.testBit mk c then dAll mk r else true) && dBelow mk r
noncomputable def dFin (σ : DSt) (o : Oper) (nd : List Tmp) (mk : Nat) (v : Value) (hist : List (Nat × Bool × AHeap)) (reads : List (Nat × Oper × Tr Value × Value)) (h : AHeap) : DSt :=
  { i := σ.i + 1, a := (match o.dst with | some d => σ.a.put d (some v) | none => σ.a), W := (match o.dst with | some d => σ.W.put d (some σ.i) | none => σ.W), R := dReads σ.W σ.i nd σ.R, M := σ.M.put σ.i (some mk), hist, reads, h }
noncomputable def dStep (P : Program) (T : Tr TI) (op : Oper → (Operand → Option Value) → AHeap → Option (Value × AHeap)) (ops : Array Oper) (nt : Nat) (a0 : Tr Value) (σ : DSt) (o : Oper) : Option DSt :=
  match dMask σ.M σ.i o.after.toList 0 with
  | none => none
  | some mk => match dAct a0 σ.a σ.W mk (needs ops o) .leaf with
    | none => none
    | some pa => bif (dDst nt σ.W (dReads σ.W σ.i (needs ops o) σ.R) σ.i mk o.dst && !isDefer o.op) && dBelow mk σ.hist then
        match aguard ops pa o with
        | none => none
        | some false => some (dFin σ o (needs ops o) mk (.tuple #[]) σ.hist σ.reads σ.h)
        | some true => match memKind T o.op with
          | 0 => match aop P T o (aopnd pa) σ.h with
            | some (v, _) => some (dFin σ o (needs ops o) mk v σ.hist σ.reads σ.h)
            | none => none
          | 1 => match aop P T o (aopnd pa) σ.h with
            | some (v, _) => bif dHist P T o pa v mk σ.hist then some (dFin σ o (needs ops o) mk v σ.hist ((σ.i, o, pa, v) :: σ.reads) σ.h) else none
            | none => none
          | _ => bif dAll mk σ.hist then match op o (aopnd pa) σ.h with
            | some (v, h') => bif σ.reads.all (fun x => Nat.testBit mk x.1 || sameAt P T x.2.1 x.2.2.1 x.2.2.2 h') then some (dFin σ o (needs ops o) mk v ((σ.i, false, σ.h) :: σ.hist) σ.reads h') else none
            | none => none
            else bif isNew o.op then match aop P T o (aopnd pa) σ.h with
              | some (v, h') => bif σ.reads.all (fun x => Nat.testBit mk x.1 || sameAt P T x.2.1 x.2.2.1 x.2.2.2 h') then some (dFin σ o (needs ops o) mk v ((σ.i, true, σ.h) :: σ.hist) σ.reads h') else none
              | none => none
            else none
      else none
noncomputable def dRun (P : Program) (T : Tr TI) (op : Oper → (Operand → Option Value) → AHeap → Option (Value × AHeap)) (ops : Array Oper) (nt : Nat) (a0 : Tr Value) : List Oper → DSt → Option DSt
  | [], σ => some σ
  | o :: os, σ => match dStep P T op ops nt a0 σ o with
    | some σ' => dRun P T op ops nt a0 os σ'
    | none => none
noncomputable def evDrawn (P : Program) (T : Tr TI) (op : Oper → (Operand → Option Value) → AHeap → Option (Value × AHeap)) (ops : Array Oper) (nt : Nat) (a : Tr Value) (h : AHeap) : Option (Tr Value × AHeap) :=
  match dRun P T op ops nt a ops.toList ⟨0, a, .leaf, .leaf, .leaf, [], [], h⟩ with
  | some σ => some (σ.a, σ.h)
  | none => none
end Go.Ab
