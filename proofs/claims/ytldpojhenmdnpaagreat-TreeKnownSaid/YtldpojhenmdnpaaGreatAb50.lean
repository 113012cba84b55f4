/-
  Code that goes through maps of several entries: all outcomes, one by one. Calls of functions that are not named are left to the compiled evaluator. A long run in pieces: what is known between them is written out, the rest is forgotten. Functions that defer one closure: by the compiled evaluator (nothing panics). Functions that call what the model stands in for (maps.Clone), or go through maps of several entries to one outcome, as steps of the evaluator. A call looked at with the rows alone that it reaches; outcomes that differ in the numbers of their new rows are one. Calls that panic, by the evaluator; functions that defer a closure which recovers.
-/
import Derived.Test.YtldpojhenmdnpaaGreatAb48
import Derived.Test.YtldpojhenmdnpaaGreatAb22
import Derived.Defers
import Derived.Recover
import Derived.Laws.Externs
namespace Go.Ab.Nx.Lx
open Go.Ab Go.Ab.Nx Go.Ab.Nx.Zx
set_option linter.unusedSimpArgs false
set_option linter.unusedVariables false
set_option maxRecDepth 100000
noncomputable abbrev Outs := List (AExit × Tr Value × AHeap)
noncomputable abbrev VOuts := List (Value × AHeap)
noncomputable abbrev CallL := Value → List Value → AHeap → Option VOuts
noncomputable def bindL {α β : Type} (f : α → Option (List β)) : List α → Option (List β)
  | [] => some []
  | x :: xs => match f x, bindL f xs with
    | some a, some b => some (a ++ b)
    | _, _ => none
theorem bindL_mem {α β : Type} {f : α → Option (List β)} : ∀ {l : List α} {r : List β}, bindL f l = some r → ∀ x ∈ l, ∃ ys, f x = some ys ∧ ∀ y ∈ ys, y ∈ r
  | [], r, h, x, hx => by cases hx
  | a :: l, r, h, x, hx => by
    simp only [bindL] at h
    split at h
    · rename_i p q hp hq
      cases h
      cases hx with
      | head => exact ⟨p, hp, fun y hy => List.mem_append_left _ hy⟩
      | tail _ hx =>
        obtain ⟨ys, h1, h2⟩ := bindL_mem hq x hx
        exact ⟨ys, h1, fun y hy => List.mem_append_right _ (h2 y hy)⟩
    · cases h
noncomputable def nextL (v : Value) (h : AHeap) : Option VOuts :=
  match v with
  | .pointer (some ⟨r, 0, none⟩) => match h.get r with
    | some (.mapIter (some m) since seen last) => match h.get m with
      | some (.map es clock) => bif !seen.isEmpty && !es.isEmpty && es.all (fun e => decide (e.born ≥ last)) then none else
        some ((bif ((left es seen).filter (fun e => decide (e.born < since))).isEmpty then [(.tuple #[.bool false], h)] else []) ++ (left es seen).map fun e => (.tuple #[.bool true, e.key, e.val], h.set r (.mapIter (some m) since (seen.push e.born) clock)))
      | _ => none
    | _ => none
  | _ => none
noncomputable def lOp (E : Env) (call : CallV) (callL : CallL) (o : Oper) (ρ : Operand → Option Value) (h : AHeap) : Option VOuts :=
  match o.op with
  | .call ⟨.value f, xs, _⟩ => match ρ f, aopnds ρ xs.toList with
    | some fv, some vs => callL fv vs h
    | _, _ => none
  | .next x false => match ρ x with
    | some v => nextL v h
    | none => none
  | _ => match zOp E call o ρ h with
    | some r => some [r]
    | none => none
noncomputable def lOps (E : Env) (call : CallV) (callL : CallL) (ops : Array Oper) (nt : Nat) : List Oper → Tr Value → AHeap → Option (List (Tr Value × AHeap))
  | [], a, h => some [(a, h)]
  | o :: os, a, h => match aguard ops a o with
    | some true => bif isDefer o.op then none else match lOp E call callL o (aopnd a) h with
      | some outs => bindL (fun x => match aput nt a o.dst x.1 with
        | some a' => lOps E call callL ops nt os a' x.2
        | none => none) outs
      | none => none
    | some false => match aput nt a o.dst (.tuple #[]) with
      | some a' => lOps E call callL ops nt os a' h
      | none => none
    | none => none
noncomputable abbrev CodeL := Cx → Code → Tr Value → AHeap → Option Outs
noncomputable def lStep (E : Env) (call : CallV) (callL : CallL) (code : CodeL) (cx : Cx) (c : Code) (a : Tr Value) (h : AHeap) : Option Outs :=
  match c with
  | .skip => some [(.normal, a, h)]
  | .label _ => some [(.normal, a, h)]
  | .region _ ops draw => bif draw then (match (compDrawn E ops cx.nt).run call a h with
      | some r => some [(.normal, r)]
      | none => none)
    else match lOps E call callL ops cx.nt ops.toList a h with
      | some l => some (l.map fun r => (.normal, r))
      | none => none
  | .seq x y => match code cx x a h with
    | some outs => bindL (fun r => match r with
      | (.normal, a', h') => code cx y a' h'
      | r => some [r]) outs
    | none => none
  | .cond c x y => match aopnd a c with
    | some (.bool t) => bif t then code cx x a h else code cx y a h
    | _ => none
  | .block id c => match code cx c a h with
    | some outs => some (outs.map fun r => match r with
      | (.exit i, p) => (bif Nat.beq i id then .normal else .exit i, p)
      | r => r)
    | none => none
  | .loop c => match code cx c a h with
    | some outs => bindL (fun r => match r with
      | (.normal, a', h') => code cx (.loop c) a' h'
      | r => some [r]) outs
    | none => none
  | .rangeFunc f params assign body => match zRange E call cx f params assign body a h with
    | some r => some [r]
    | none => none
  | .exit id => some [(.exit id, a, h)]
  | .scope c => code cx c a h
  | .ret => some [(.ret, a, h)]
  | _ => none
noncomputable def lEv (E : Env) (call : CallV) (callL : CallL) : Nat → CodeL
  | 0 => fun _ _ _ _ => none
  | n + 1 => lStep E call callL (lEv E call callL n)
noncomputable def lFun (E : Env) (call : CallV) (callL : CallL) (n : Nat) (f : FuncId) (args : List Value) (h : AHeap) : Option VOuts :=
  match E.F.get f with
  | some fn => match fn.body with
    | some c => bif Nat.ble args.length fn.ntmps then match lEv E call callL n ⟨f, fn.ntmps, none⟩ c (entry args 0 .leaf) h with
        | some outs => bindL (fun r => match r with
          | (.exit _, _) => none
          | (_, a', h') => match aRet E.T fn a' h' with
            | some v => some [(v, h')]
            | none => none) outs
        | none => none
      else none
    | none => none
  | none => none
noncomputable def lCall (E : Env) (call : CallV) (B : List FuncId) (n : Nat) : Nat → CallL
  | 0 => fun _ _ _ => none
  | d + 1 => fun fv vs h => match fv with
    | .func (.func f) first cap => bif B.any (Nat.beq f) then lFun E call (lCall E call B n d) n f (first.toList ++ vs ++ cap.toList) h
      else match call fv vs h with
        | some r => some [r]
        | none => none
    | _ => match call fv vs h with
      | some r => some [r]
      | none => none
noncomputable def LSound (P : Program) (callL : CallL) : Prop := ∀ fv vs h outs, callL fv vs h = some outs → VWp P fv vs h fun x y => (x, y) ∈ outs
noncomputable def CSound (P : Program) (code : CodeL) : Prop := ∀ cx c a h outs, code cx c a h = some outs → CWp P cx c a h fun e a1 h1 => (e, a1, h1) ∈ outs
section
variable {E : Env} (ok : EnvOK E)
include ok
theorem lOp_sound {call : CallV} {callL : CallL} (hv : VSound E.P call) (hl : LSound E.P callL) (o : Oper) (ρ : Operand → Option Value) (h : AHeap) (outs : VOuts) (he : lOp E call callL o ρ h = some outs) : OpWp E.P o ρ h fun x y => (x, y) ∈ outs := by
  have det : ∀ {o : Oper}, (match zOp E call o ρ h with
      | some r => some [r]
      | none => none) = some outs → OpWp E.P o ρ h fun x y => (x, y) ∈ outs := by
    intro o he
    split at he
    · rename_i r hr
      cases he
      refine (zOp_sound ok hv o ρ h r.1 r.2 hr).mono ?_
      rintro x y ⟨rfl, rfl⟩
      exact List.mem_singleton.2 rfl
    · cases he
  unfold lOp at he
  split at he
  · rename_i f xs ats hop
    obtain ⟨dst, op, ty, pos, after, guard⟩ := o
    simp only at hop
    subst hop
    split at he
    · rename_i fv vs h1 h2
      exact OpWp.call h1 h2 (hl _ _ _ _ he)
    · cases he
  · rename_i x hop
    obtain ⟨dst, op, ty, pos, after, guard⟩ := o
    simp only at hop
    subst hop
    split at he
    · rename_i v hv
      intro μ ρ' w c cs hρ st
      unfold nextL at he
      split at he
      · rename_i r
        split at he
        · rename_i m since seen last hr
          split at he
          · rename_i es clock hm
            cases hc : !seen.isEmpty && !es.isEmpty && es.all (fun e => decide (e.born ≥ last))
            · rw [hc, cond_false] at he
              cases he
              rcases next_map (P := E.P) st hr hm hc (hρ x _ hv) ty with ⟨h1, h2⟩ | ⟨e, h1, h2⟩
              · simp only [execOp]
                exact Lands.value h2 (List.mem_append_left _ (by rw [h1]; exact List.mem_singleton.2 rfl))
              · simp only [execOp]
                exact Lands.value h2 (List.mem_append_right _ (List.mem_map.2 ⟨e, h1, rfl⟩))
            · rw [hc, cond_true] at he; cases he
          · cases he
        · cases he
      · cases he
    · cases he
  · exact det he
theorem lOps_sound {call : CallV} {callL : CallL} (hv : VSound E.P call) (hl : LSound E.P callL) {ops : Array Oper} {cx : Cx} : ∀ {os : List Oper} {i : Nat} {a : Tr Value} {h : AHeap} {outs : List (Tr Value × AHeap)}, ops.toList.drop i = os → lOps E call callL ops cx.nt os a h = some outs →
    OWp E.P cx ops (List.range' i os.length) a h fun x y => (x, y) ∈ outs
  | [], i, a, h, outs, _, he => by simp only [lOps, Option.some.injEq] at he; subst he; exact OWp.nil (List.mem_singleton.2 rfl)
  | o :: os, i, a, h, outs, hd, he => by
    have ho : ops[i]? = some o := by
      rw [← Array.getElem?_toList]
      have := congrArg (fun l : List Oper => l[0]?) hd
      simpa using this
    have hd1 : ops.toList.drop (i + 1) = os := by rw [← List.drop_drop, hd]; rfl
    simp only [lOps] at he
    rw [List.length_cons, List.range'_succ]
    split at he
    · rename_i hg
      cases hdf : isDefer o.op
      · rw [hdf, cond_false] at he
        split at he
        · rename_i l hop
          refine OWp.op ho hg hdf ((lOp_sound ok hv hl o _ _ _ hop).mono ?_)
          intro x y hx
          obtain ⟨ys, h1, h2⟩ := bindL_mem he (x, y) hx
          simp only at h1
          split at h1
          · rename_i a1 hp
            refine ⟨a1, hp, fun μ base tmps defers rd w k cs p => ?_⟩
            obtain ⟨a', h', μ', t', w', hm, q⟩ := lOps_sound hv hl hd1 h1 μ base tmps defers rd w k cs p
            exact ⟨a', h', μ', t', w', h2 _ hm, q⟩
          · cases h1
        · cases he
      · rw [hdf, cond_true] at he; cases he
    · rename_i hg
      split at he
      · rename_i a1 hp
        exact OWp.skip ho hg hp (lOps_sound hv hl hd1 he)
      · cases he
    · cases he
theorem lStep_sound {call : CallV} {callL : CallL} (hv : VSound E.P call) (hl : LSound E.P callL) {code : CodeL} (hs : CSound E.P code) : CSound E.P (lStep E call callL code) := by
  intro cx c a h outs he
  cases c with
  | skip => simp only [lStep, Option.some.injEq] at he; subst he; exact CWp.skip (List.mem_singleton.2 rfl)
  | label l => simp only [lStep, Option.some.injEq] at he; subst he; exact CWp.label (List.mem_singleton.2 rfl)
  | region id ops draw =>
    simp only [lStep] at he
    cases draw
    · simp only [cond_false] at he
      split at he
      · rename_i l hr
        cases he
        have := lOps_sound ok hv hl (cx := cx) (i := 0) (by simp) hr
        rw [Array.length_toList, ← List.range_eq_range'] at this
        refine CWp.region (fun μ base tmps defers rd w k cs p => ?_)
        obtain ⟨a2, h2, μ2, t2, w2, hm, q⟩ := this μ base tmps defers rd w k cs p
        exact ⟨_, _, μ2, t2, w2, List.mem_map.2 ⟨_, hm, rfl⟩, q⟩
      · cases he
    · simp only [cond_true] at he
      split at he
      · rename_i r hr
        cases he
        refine Nx.evDrawn_sound ok.ty ok.mix (fun o ρ h u h' => zOp_sound ok hv o ρ h u h') (compDrawn_eq E call ops cx.nt a h r hr) ?_
        exact List.mem_singleton.2 rfl
      · cases he
  | seq x y =>
    simp only [lStep] at he
    split at he
    · rename_i l hx
      refine CWp.seq ((hs _ _ _ _ _ hx).mono ?_)
      intro e1 a1 h1 hm
      obtain ⟨ys, g1, g2⟩ := bindL_mem he _ hm
      cases e1 with
      | normal => exact (hs _ _ _ _ _ g1).mono fun _ _ _ hq => g2 _ hq
      | exit i => cases g1; exact g2 _ (List.mem_singleton.2 rfl)
      | ret => cases g1; exact g2 _ (List.mem_singleton.2 rfl)
    · cases he
  | cond c x y =>
    simp only [lStep] at he
    split at he
    · rename_i t ht
      refine CWp.cond ht ?_
      cases t
      · exact hs _ _ _ _ _ he
      · exact hs _ _ _ _ _ he
    · cases he
  | block id c =>
    simp only [lStep] at he
    split at he
    · rename_i l hx
      cases he
      refine CWp.block ((hs _ _ _ _ _ hx).mono ?_)
      intro e1 a1 h1 hm
      cases e1 with
      | normal => exact List.mem_map.2 ⟨_, hm, rfl⟩
      | ret => exact List.mem_map.2 ⟨_, hm, rfl⟩
      | exit i =>
        by_cases hi : i = id
        · subst hi
          simp only [if_true]
          exact List.mem_map.2 ⟨_, hm, by show ((bif Nat.beq i i then AExit.normal else AExit.exit i), a1, h1) = _; rw [show Nat.beq i i = true from Nat.beq_refl i]; rfl⟩
        · have : Nat.beq i id = false := by
            cases hb : Nat.beq i id
            · rfl
            · exact (hi (Nat.eq_of_beq_eq_true hb)).elim
          simp only [if_neg hi]
          exact List.mem_map.2 ⟨_, hm, by show ((bif Nat.beq i id then AExit.normal else AExit.exit i), a1, h1) = _; rw [this]; rfl⟩
    · cases he
  | loop c =>
    simp only [lStep] at he
    split at he
    · rename_i l hx
      refine CWp.loop1 ((hs _ _ _ _ _ hx).mono ?_)
      intro e1 a1 h1 hm
      obtain ⟨ys, g1, g2⟩ := bindL_mem he _ hm
      cases e1 with
      | normal => exact (hs _ _ _ _ _ g1).mono fun _ _ _ hq => g2 _ hq
      | exit i => cases g1; exact g2 _ (List.mem_singleton.2 rfl)
      | ret => cases g1; exact g2 _ (List.mem_singleton.2 rfl)
    · cases he
  | rangeFunc f params assign body =>
    simp only [lStep] at he
    split at he
    · rename_i r hr
      cases he
      refine (zRange_sound hv (cx := cx) hr).mono ?_
      rintro e1 a1 h1 ⟨rfl, rfl, rfl⟩
      exact List.mem_singleton.2 rfl
    · cases he
  | exit id => simp only [lStep, Option.some.injEq] at he; subst he; exact CWp.exit (List.mem_singleton.2 rfl)
  | scope c => exact CWp.scope (hs _ _ _ _ _ he)
  | goto l => cases he
  | ret => simp only [lStep, Option.some.injEq] at he; subst he; exact CWp.ret (List.mem_singleton.2 rfl)
  | refuse w => cases he
theorem lEv_sound {call : CallV} {callL : CallL} (hv : VSound E.P call) (hl : LSound E.P callL) : ∀ n, CSound E.P (lEv E call callL n)
  | 0 => fun _ _ _ _ _ he => by cases he
  | n + 1 => lStep_sound ok hv hl (lEv_sound hv hl n)
theorem lFun_sound {call : CallV} {callL : CallL} (hv : VSound E.P call) (hl : LSound E.P callL) {n : Nat} {f : FuncId} {args : List Value} {h : AHeap} {outs : VOuts} (he : lFun E call callL n f args h = some outs) : (∃ fn, Entered E.P f fn) ∧ FWp E.P f args h fun x y => (x, y) ∈ outs := by
  unfold lFun at he
  split at he
  · rename_i fn hf
    split at he
    · rename_i c hb
      cases hlen : Nat.ble args.length fn.ntmps
      · rw [hlen, cond_false] at he; cases he
      · rw [hlen, cond_true] at he
        refine ⟨⟨fn, ok.fn f fn hf⟩, ?_⟩
        split at he
        · rename_i l hc
          refine FWp.code ok.ty (ok.fn f fn hf).look hb (Nat.le_of_ble_eq_true hlen) ((lEv_sound ok hv hl n _ _ _ _ _ hc).mono ?_)
          intro e1 a1 h1 hm
          obtain ⟨ys, g1, g2⟩ := bindL_mem he _ hm
          cases e1 with
          | exit i => cases g1
          | normal =>
            simp only at g1
            split at g1
            · rename_i v hv; cases g1; exact ⟨_, hv, g2 _ (List.mem_singleton.2 rfl)⟩
            · cases g1
          | ret =>
            simp only at g1
            split at g1
            · rename_i v hv; cases g1; exact ⟨_, hv, g2 _ (List.mem_singleton.2 rfl)⟩
            · cases g1
        · cases he
    · cases he
  · cases he
end
noncomputable def trueV : Value → Bool
  | .bool b => b
  | _ => false
theorem trueV_eq {v : Value} (h : trueV v = true) : v = .bool true := by
  cases v <;> first | (cases h; done) | skip
  rename_i b
  cases b
  · cases h
  · rfl
noncomputable def allTrue (l : VOuts) : Bool := l.all fun x => trueV x.1
theorem allTrue_mem {l : VOuts} (h : allTrue l = true) (x : Value) (y : AHeap) (hm : (x, y) ∈ l) : x = .bool true := trueV_eq (List.all_eq_true.1 h (x, y) hm)
noncomputable def yesL : Option VOuts → Bool
  | some l => allTrue l
  | none => false
theorem yesL_some {x : Option VOuts} (h : yesL x = true) : ∃ l, x = some l ∧ allTrue l = true := by
  cases x with
  | none => cases h
  | some l => exact ⟨l, rfl, h⟩
theorem closedL_true {E : Env} (ok : EnvOK E) {call : CallV} (hv : VSound E.P call) {callL : CallL} (hs : LSound E.P callL) (n : Nat) {f : FuncId} (he : yesL (lFun E call callL n f [] ⟨0, .leaf⟩) = true) (w : World) : Calls E.P f #[] w fun e w' => e = .returned (.bool true) ∧ Kept w w' := by
  obtain ⟨l, hl, ha⟩ := yesL_some he
  have hf := (lFun_sound ok hv hs hl).2
  have st : StRel (fun _ => none) ⟨0, .leaf⟩ w := ⟨fun r o hr => (by have hr : (Tr.leaf : Tr AObj).get r = some o := hr; rw [Tr.get_leaf] at hr; cases hr), fun r q o p e f hr => (by have hr : (Tr.leaf : Tr AObj).get r = some _ := hr; rw [Tr.get_leaf] at hr; cases hr)⟩
  refine (hf (fun _ => none) #[] w .nil st).mono ?_
  rintro e w' ⟨x, v', h1, μ', rfl, hm, ex, hr⟩
  have hx := allTrue_mem ha _ _ hm
  subst hx
  exact ⟨by rw [hr.flat_eq rfl], ex.os, ex.output, ex.size, fun b hb => (ex.frame b hb fun r o e hr => (by have e := (Tr.get_leaf (α := AObj) _).symm.trans hr; cases e)).1⟩
end Go.Ab.Nx.Lx
namespace Go.Ab.Nx.Sx
open Go.Ab Go.Ab.Nx Go.Ab.Nx.Zx Go.Ab.Nx.Lx
set_option linter.unusedSimpArgs false
set_option linter.unusedVariables false
set_option maxRecDepth 100000
theorem Ext.drop {μ : Emb} {h g : AHeap} {w : World} (st : StRel μ h w) (hg : ∀ r o, g.get r = some o → h.get r = some o) (hn : g.next = h.next) : Ext μ h w μ g w :=
  ⟨by omega, Agree.refl _ _, Nat.le_refl _, rfl, rfl, fun b _ hb => ⟨rfl, fun r o e hr => hb r o e (hg r o hr)⟩, fun b _ hb r o e hr => hb r o e (hg r o hr),
    ⟨fun r o hr => by have := st.live r o (hg r o hr); rw [hn]; exact this, fun r q o p e f hr ho hq => st.apart r q o p e f (hg r o hr) ho (hg q p hq)⟩⟩
theorem CWp.drop {P : Program} {cx : Cx} {c : Code} {a : Tr Value} {h g : AHeap} {Q : AExit → Tr Value → AHeap → Prop} (hg : ∀ r o, g.get r = some o → h.get r = some o) (hn : g.next = h.next) (hc : CWp P cx c a g Q) : CWp P cx c a h Q := by
  intro μ base tmps defers rd w k cs p
  have x := Ext.drop p.st hg hn
  obtain ⟨e, a', h', μ', t', d', w', q, p', x', arr⟩ := hc μ base tmps defers rd w k cs (p.ext x)
  exact ⟨e, a', h', μ', t', d', w', q, p', x.trans x', arr⟩
noncomputable def rowsT : List (Nat × AObj) → Tr AObj
  | [] => .leaf
  | (r, o) :: l => (rowsT l).put r (some o)
noncomputable def mkH (n : Nat) (l : List (Nat × AObj)) : AHeap := ⟨n, rowsT l⟩
theorem rowsT_get : ∀ {l : List (Nat × AObj)} {r : Nat} {o : AObj}, (rowsT l).get r = some o → (r, o) ∈ l
  | [], r, o, h => by have e := (Tr.get_leaf (α := AObj) r).symm.trans h; cases e
  | (q, p) :: l, r, o, h => by
    simp only [rowsT, Tr.get_put] at h
    split at h
    · rename_i e; subst e; cases h; exact List.mem_cons_self
    · exact List.mem_cons_of_mem _ (rowsT_get h)
theorem mkH_get {n : Nat} {l : List (Nat × AObj)} {r : Nat} {o : AObj} (h : (mkH n l).get r = some o) : (r, o) ∈ l := rowsT_get h
theorem mkA_mem : ∀ {l : List (Nat × Value)} {t : Nat} {v : Value}, (mkA l).get t = some v → (t, v) ∈ l
  | [], t, v, h => by have e := (Tr.get_leaf (α := Value) t).symm.trans h; cases e
  | (s, u) :: l, t, v, h => by
    simp only [mkA, Tr.get_put] at h
    split at h
    · rename_i e; subst e; cases h; exact List.mem_cons_self
    · exact List.mem_cons_of_mem _ (mkA_mem h)
noncomputable def veqF : Value → Value → Bool := veq
theorem veqF_eq {v w : Value} (h : veqF v w = true) : v = w := veq_eq h
noncomputable def veqFs : List Value → List Value → Bool
  | [], [] => true
  | a :: l, b :: m => veqF a b && veqFs l m
  | _, _ => false
theorem veqFs_eq : ∀ {a b : List Value}, veqFs a b = true → a = b
  | [], [], _ => rfl
  | a :: l, b :: m, h => by simp only [veqFs, Bool.and_eq_true] at h; rw [veqF_eq h.1, veqFs_eq h.2]
  | [], _ :: _, h => by cases h
  | _ :: _, [], h => by cases h
noncomputable def eeqs : List AEnt → List AEnt → Bool
  | [], [] => true
  | a :: l, b :: m => (veqF a.key b.key && (veqF a.val b.val && Nat.beq a.born b.born)) && eeqs l m
  | _, _ => false
theorem eeqs_eq : ∀ {a b : List AEnt}, eeqs a b = true → a = b
  | [], [], _ => rfl
  | a :: l, b :: m, h => by
    simp only [eeqs, Bool.and_eq_true] at h
    obtain ⟨⟨h1, h2, h3⟩, h4⟩ := h
    cases a; cases b
    simp only at h1 h2 h3
    rw [veqF_eq h1, veqF_eq h2, Nat.eq_of_beq_eq_true h3, eeqs_eq h4]
  | [], _ :: _, h => by cases h
  | _ :: _, [], h => by cases h
noncomputable def oeq : AObj → AObj → Bool
  | .cells a n, .cells b m => Nat.beq n m && veqFs a b
  | .map a n, .map b m => Nat.beq n m && eeqs a b
  | _, _ => false
theorem oeq_eq {a b : AObj} (h : oeq a b = true) : a = b := by
  unfold oeq at h
  split at h
  · simp only [Bool.and_eq_true] at h; rw [Nat.eq_of_beq_eq_true h.1, veqFs_eq h.2]
  · simp only [Bool.and_eq_true] at h; rw [Nat.eq_of_beq_eq_true h.1, eeqs_eq h.2]
  · cases h
structure Seg where
  next : Nat
  tmps : List (Nat × Value)
  rows : List (Nat × AObj)
noncomputable def okT (a : Tr Value) (p : Nat × Value) : Bool :=
  match a.get p.1 with
  | some v => veqF v p.2
  | none => false
noncomputable def okO (h : AHeap) (p : Nat × AObj) : Bool :=
  match h.get p.1 with
  | some o => oeq o p.2
  | none => false
noncomputable def same (a : Tr Value) (h : AHeap) (s : Seg) : Bool := Nat.beq s.next h.next && (s.tmps.all (okT a) && s.rows.all (okO h))
theorem same_spec {a : Tr Value} {h : AHeap} {s : Seg} (hs : same a h s = true) : (mkH s.next s.rows).next = h.next ∧ (∀ t v, (mkA s.tmps).get t = some v → a.get t = some v) ∧ ∀ r o, (mkH s.next s.rows).get r = some o → h.get r = some o := by
  simp only [same, Bool.and_eq_true, List.all_eq_true] at hs
  obtain ⟨h1, h2, h3⟩ := hs
  refine ⟨Nat.eq_of_beq_eq_true h1, fun t v hv => ?_, fun r o ho => ?_⟩
  · have := h2 _ (mkA_mem hv)
    simp only [okT] at this
    split at this
    · rename_i u hu; rw [hu, veqF_eq this]
    · cases this
  · have := h3 _ (mkH_get ho)
    simp only [okO] at this
    split at this
    · rename_i u hu; rw [hu, oeq_eq this]
    · cases this
noncomputable def okSt (e0 : AExit) (x : RS) (s : Seg) : Bool :=
  match x with
  | some (e, a, h) => (match e0, e with
    | .normal, .normal => true
    | .exit i, .exit j => Nat.beq i j
    | _, _ => false) && same a h s
  | none => false
theorem okSt_spec {e0 : AExit} {x : RS} {s : Seg} (h : okSt e0 x s = true) : ∃ a g, x = some (e0, a, g) ∧ same a g s = true := by
  unfold okSt at h
  split at h
  · rename_i e a g
    simp only [Bool.and_eq_true] at h
    refine ⟨a, g, ?_, h.2⟩
    have h1 := h.1
    split at h1
    · rfl
    · rw [Nat.eq_of_beq_eq_true h1]
    · cases h1
  · cases h
theorem CWp.from {P : Program} {cx : Cx} {c : Code} {a : Tr Value} {h : AHeap} {s : Seg} {Q : AExit → Tr Value → AHeap → Prop} (hs : same a h s = true) (hc : CWp P cx c (mkA s.tmps) (mkH s.next s.rows) Q) : CWp P cx c a h Q :=
  have ⟨h1, h2, h3⟩ := same_spec hs
  CWp.forget h2 (CWp.drop h3 h1 hc)
noncomputable def takeS : Nat → Code → List Code
  | k + 1, .seq x y => x :: takeS k y
  | _, _ => []
noncomputable def dropS : Nat → Code → Code
  | k + 1, .seq x y => dropS k y
  | _, c => c
noncomputable def chainZ (E : Env) (f : FuncId) (nt : Nat) (rd : Option Nat) (call : CallV) : List Code → Tr Value → AHeap → RS
  | [], a, h => some (.normal, a, h)
  | c :: cs, a, h => seqZ ((compC c E f nt).run rd call a h) call (fun _ a h => chainZ E f nt rd call cs a h)
noncomputable def roundsZ (E : Env) (f : FuncId) (nt : Nat) (rd : Option Nat) (call : CallV) (c : Code) : Nat → Tr Value → AHeap → RS
  | 0, a, h => some (.normal, a, h)
  | k + 1, a, h => seqZ ((compC c E f nt).run rd call a h) call (fun _ a h => roundsZ E f nt rd call c k a h)
section
variable {E : Env} (ok : EnvOK E) {call : CallV} (hv : VSound E.P call) {f : FuncId} {nt : Nat} {rd : Option Nat} {Q : AExit → Tr Value → AHeap → Prop}
include ok hv
theorem chain_good : ∀ {k : Nat} {c : Code} {a a' : Tr Value} {h h' : AHeap}, chainZ E f nt rd call (takeS k c) a h = some (.normal, a', h') → CWp E.P ⟨f, nt, rd⟩ (dropS k c) a' h' Q → CWp E.P ⟨f, nt, rd⟩ c a h Q
  | 0, c, a, a', h, h', he, hc => by
    have he : some (AExit.normal, a, h) = some (.normal, a', h') := by cases c <;> exact he
    have hc : CWp E.P ⟨f, nt, rd⟩ c a' h' Q := by cases c <;> exact hc
    cases he
    exact hc
  | k + 1, c, a, a', h, h', he, hc => by
    cases c with
    | seq x y =>
      have he : seqZ ((compC x E f nt).run rd call a h) call (fun _ a h => chainZ E f nt rd call (takeS k y) a h) = some (.normal, a', h') := he
      have hc : CWp E.P ⟨f, nt, rd⟩ (dropS k y) a' h' Q := hc
      rw [seqZ_eq] at he
      split at he
      · rename_i a1 h1 hx
        refine CWp.seq ((compC_good ok hv x rd a h _ _ _ hx).mono ?_)
        rintro e1 a2 h2 ⟨rfl, rfl, rfl⟩
        exact chain_good he hc
      · rename_i r hne
        exact (hne _ _ he).elim
    | _ => (have he : some (AExit.normal, a, h) = some (.normal, a', h') := he); cases he; exact hc
theorem rounds_good {c : Code} : ∀ {k : Nat} {a a' : Tr Value} {h h' : AHeap}, roundsZ E f nt rd call c k a h = some (.normal, a', h') → CWp E.P ⟨f, nt, rd⟩ (.loop c) a' h' Q → CWp E.P ⟨f, nt, rd⟩ (.loop c) a h Q
  | 0, a, a', h, h', he, hc => by cases he; exact hc
  | k + 1, a, a', h, h', he, hc => by
    have he : seqZ ((compC c E f nt).run rd call a h) call (fun _ a h => roundsZ E f nt rd call c k a h) = some (.normal, a', h') := he
    rw [seqZ_eq] at he
    split at he
    · rename_i a1 h1 hx
      refine CWp.loop1 ((compC_good ok hv c rd a h _ _ _ hx).mono ?_)
      rintro e1 a2 h2 ⟨rfl, rfl, rfl⟩
      exact rounds_good he hc
    · rename_i r hne
      exact (hne _ _ he).elim
theorem CWp.chain {k : Nat} {c : Code} {a : Tr Value} {h : AHeap} (s : Seg) (he : okSt .normal (chainZ E f nt rd call (takeS k c) a h) s = true) (hc : CWp E.P ⟨f, nt, rd⟩ (dropS k c) (mkA s.tmps) (mkH s.next s.rows) Q) : CWp E.P ⟨f, nt, rd⟩ c a h Q := by
  obtain ⟨a', h', h1, h2⟩ := okSt_spec he
  exact chain_good ok hv h1 (CWp.from h2 hc)
theorem CWp.rounds (k : Nat) {c : Code} {a : Tr Value} {h : AHeap} (s : Seg) (he : okSt .normal (roundsZ E f nt rd call c k a h) s = true) (hc : CWp E.P ⟨f, nt, rd⟩ (.loop c) (mkA s.tmps) (mkH s.next s.rows) Q) : CWp E.P ⟨f, nt, rd⟩ (.loop c) a h Q := by
  obtain ⟨a', h', h1, h2⟩ := okSt_spec he
  exact rounds_good ok hv h1 (CWp.from h2 hc)
theorem CWp.loopEnd {id : Nat} {c r : Code} {a : Tr Value} {h : AHeap} (s : Seg) (he : okSt (.exit id) (loopZ lim (compC c E f nt).run rd call a h) s = true) (hc : CWp E.P ⟨f, nt, rd⟩ r (mkA s.tmps) (mkH s.next s.rows) Q) :
    CWp E.P ⟨f, nt, rd⟩ (.loop c) a h fun e a' h' => match e with | .exit i => if i = id then CWp E.P ⟨f, nt, rd⟩ r a' h' Q else Q (.exit i) a' h' | .normal => CWp E.P ⟨f, nt, rd⟩ r a' h' Q | .ret => Q .ret a' h' := by
  obtain ⟨a', h', h1, h2⟩ := okSt_spec he
  refine (loop_good (compC_good ok hv c) lim _ _ _ _ _ _ h1).mono ?_
  rintro e1 a2 h3 ⟨rfl, rfl, rfl⟩
  simp only [if_true]
  exact CWp.from h2 hc
end
theorem CWp.seqSeqLoop {E : Env} (ok : EnvOK E) {call : CallV} (hv : VSound E.P call) {f : FuncId} {nt : Nat} {rd : Option Nat} {Q : AExit → Tr Value → AHeap → Prop} {id : Nat} {x c r : Code} {a : Tr Value} {h : AHeap} (s : Seg) (he : okSt .normal ((compC x E f nt).run rd call a h) s = true)
    (hc : CWp E.P ⟨f, nt, rd⟩ (.loop c) (mkA s.tmps) (mkH s.next s.rows) fun e a' h' => match e with | .exit i => if i = id then CWp E.P ⟨f, nt, rd⟩ r a' h' Q else Q (.exit i) a' h' | .normal => CWp E.P ⟨f, nt, rd⟩ r a' h' Q | .ret => Q .ret a' h') :
    CWp E.P ⟨f, nt, rd⟩ (.seq (.seq x (.block id (.loop c))) r) a h Q := by
  obtain ⟨a1, h1, g1, g2⟩ := okSt_spec he
  refine CWp.seq (CWp.seq ((compC_good ok hv x rd a h _ _ _ g1).mono ?_))
  rintro e a2 h2 ⟨rfl, rfl, rfl⟩
  refine CWp.from g2 (CWp.block (hc.mono ?_))
  intro e a' h' hq
  cases e with
  | normal => exact hq
  | ret => exact hq
  | exit i =>
    by_cases hi : i = id
    · simp only [if_pos hi] at hq ⊢; exact hq
    · simp only [if_neg hi] at hq ⊢; exact hq
noncomputable def okEnd (E : Env) (fn : Func) (x : RS) : Bool :=
  match x with
  | some (.exit _, _, _) => false
  | some (_, a, h) => match aRet E.T fn a h with
    | some v => trueV v
    | none => false
  | none => false
theorem CWp.last {E : Env} (ok : EnvOK E) {call : CallV} (hv : VSound E.P call) {f : FuncId} {fn : Func} {c : Code} {a : Tr Value} {h : AHeap} (he : okEnd E fn ((compC c E f fn.ntmps).run none call a h) = true) :
    CWp E.P ⟨f, fn.ntmps, none⟩ c a h fun e a' h' => match e with | .exit _ => False | _ => ∃ v, aRet E.T fn a' h' = some v ∧ v = .bool true := by
  rcases hx : (compC c E f fn.ntmps).run none call a h with _ | ⟨e, a', h'⟩
  · rw [hx] at he; cases he
  · rw [hx] at he
    refine (compC_good ok hv c none a h _ _ _ hx).mono ?_
    rintro e1 a2 h2 ⟨rfl, rfl, rfl⟩
    cases e1 with
    | exit i => cases he
    | normal =>
      have he : (match aRet E.T fn a2 h2 with
        | some v => trueV v
        | none => false) = true := he
      split at he
      · rename_i v hv; exact ⟨v, hv, trueV_eq he⟩
      · cases he
    | ret =>
      have he : (match aRet E.T fn a2 h2 with
        | some v => trueV v
        | none => false) = true := he
      split at he
      · rename_i v hv; exact ⟨v, hv, trueV_eq he⟩
      · cases he
theorem closed_pieces {E : Env} (ok : EnvOK E) {f : FuncId} {fn : Func} {c : Code} (hf : E.F.get f = some fn) (hb : fn.body = some c)
    (hc : CWp E.P ⟨f, fn.ntmps, none⟩ c .leaf ⟨0, .leaf⟩ fun e a' h' => match e with | .exit _ => False | _ => ∃ v, aRet E.T fn a' h' = some v ∧ v = .bool true) (w : World) : Calls E.P f #[] w fun e w' => e = .returned (.bool true) ∧ Kept w w' := by
  have hw : FWp E.P f [] ⟨0, .leaf⟩ fun x y => x = .bool true := FWp.code ok.ty (ok.fn f fn hf).look hb (Nat.zero_le _) (hc.mono fun e a' h' hq => by cases e <;> exact hq)
  have st : StRel (fun _ => none) ⟨0, .leaf⟩ w := ⟨fun r o hr => (by have hr : (Tr.leaf : Tr AObj).get r = some o := hr; rw [Tr.get_leaf] at hr; cases hr), fun r q o p e f hr => (by have hr : (Tr.leaf : Tr AObj).get r = some _ := hr; rw [Tr.get_leaf] at hr; cases hr)⟩
  refine (hw (fun _ => none) #[] w .nil st).mono ?_
  rintro e w' ⟨x, v', h1, μ', rfl, rfl, ex, hr⟩
  exact ⟨by rw [hr.flat_eq rfl], ex.os, ex.output, ex.size, fun b hb => (ex.frame b hb fun r o e hr => (by have e := (Tr.get_leaf (α := AObj) _).symm.trans hr; cases e)).1⟩
end Go.Ab.Nx.Sx
namespace Go.Ab.Nx.Dx
open Go.Ab Go.Ab.Nx Go.Ab.Nx.Zx
set_option linter.unusedSimpArgs false
set_option linter.unusedVariables false
noncomputable def DefW (P : Program) (g : FuncId) (caps : List Value) (h : AHeap) (K : AHeap → Prop) : Prop :=
  ∀ (μ : Emb) (caps' : Array Value) (w : World), LRel μ h.next caps caps'.toList → StRel μ h w → ∀ (c : Frame) (cs : List Frame), c.mode = .returning →
    ∃ v h' μ' w' fr, K h' ∧ Ext μ h w μ' h' w' ∧ Steps P (lone (Frame.enter P g caps' .deferred) (c :: cs) w) (lone fr (c :: cs) w') ∧ fr.kind = .deferred ∧ fr.going P w' (.returned v)
section
variable {P : Program} {T : Tr TI} {h : AHeap}
theorem entry_act2 {μ : Emb} {args : List Value} {args' : Array Value} {n : Nat} (hl : LRel μ h.next args args'.toList) : ActRel μ h.next (entry args 0 .leaf) (args' ++ Array.replicate n undef) := by
  intro t v hv
  rw [entry_get] at hv
  split at hv
  · obtain ⟨v', h1, h2⟩ := hl.getElem? _ hv
    rw [Nat.sub_zero, Array.getElem?_toList] at h1
    exact ⟨v', by rw [Array.getElem?_append_left (Array.getElem?_eq_some_iff.1 h1).1]; exact h1, h2⟩
  · rw [Tr.get_leaf] at hv; cases hv
theorem ext_marks {μ μ' : Emb} {h' : AHeap} {w w' w2 : World} {d' : List Deferred} (x' : Ext μ h w μ' h' w') (dge : ∀ d ∈ d', ∀ q, d.target = .collected q → w.heap.size ≤ q) (g2 : StRel μ' h' w2) (g3 : w2.heap.size = w'.heap.size) (g4 : w2.os = w'.os) (g5 : w2.output = w'.output)
    (g6 : ∀ b, (∀ d ∈ d', ∀ q, d.target = .collected q → q ≠ b) → w2.heap[b]? = w'.heap[b]?) : Ext μ h w μ' h' w2 := by
  refine ⟨x'.next, x'.agree, by have := x'.size; omega, g4.trans x'.os, g5.trans x'.output, fun b hb hfr => ?_, x'.free, g2⟩
  obtain ⟨y1, y2⟩ := x'.frame b hb hfr
  refine ⟨(g6 b fun d hd q hq => ?_).trans y1, y2⟩
  have := dge d hd q hq
  omega
theorem ends {P : Program} {fn : FuncId} {b : Bool} {tmps tmps' : Array Value} {d d' : List Deferred} {cs : List Frame} {w w' : World} {c : Code} {e : AExit} (hne : ∀ i, e ≠ .exit i) (arr : Arr P (lone (frame fn ⟨none, b⟩ tmps d [.code c]) cs w) fn ⟨none, b⟩ [] cs e tmps' d' w') :
    ∃ todo, Steps P (lone (frame fn ⟨none, b⟩ tmps d [.code c]) cs w) (lone { frame fn ⟨none, b⟩ tmps' d' todo with mode := .returning } cs w') := by
  cases e with
  | exit i => exact (hne i rfl).elim
  | normal => exact ⟨[], Steps.trans arr (.one (step_lone_go (by simp [stepG, stepG.exec, frame])))⟩
  | ret => obtain ⟨k0, hs⟩ := arr; exact ⟨.code .ret :: k0, Steps.trans hs (.one (step_lone_go (by simp [stepG, stepG.exec, frame])))⟩
theorem DefW.code {g : FuncId} {fg : Func} {c : Code} {caps : List Value} {K : AHeap → Prop} (hf : P.funcs[g]? = some fg) (hb : fg.body = some c) (hres : fg.results = #[]) (hn : caps.length ≤ fg.ntmps)
    (hc : CWp P ⟨g, fg.ntmps, none⟩ c (entry caps 0 .leaf) h fun e _ h' => (∀ i, e ≠ .exit i) ∧ K h') : DefW P g caps h K := by
  intro μ caps' w hl st c0 cs hu
  have hlen := hl.length
  simp only [Array.length_toList] at hlen
  have hsz : (caps' ++ Array.replicate (fg.ntmps - caps'.size) undef).size = fg.ntmps := by simp; omega
  obtain ⟨e, a', h', μ', t', d', w', ⟨q1, q2⟩, p', x', arr⟩ := hc μ ⟨w.heap.size, []⟩ _ [] ⟨none, true⟩ w [] (c0 :: cs) ⟨entry_act2 hl, hsz, trivial, .nil (fun _ hd => by cases hd), fun _ => rfl, fun d hd => (by cases hd), Nat.le_refl _, st⟩
  have henter : Frame.enter P g caps' .deferred = frame g ⟨none, true⟩ (caps' ++ Array.replicate (fg.ntmps - caps'.size) undef) [] [.code c] := by simp [Frame.enter, frame, RK.kind, hf, hb]
  obtain ⟨todo, hs⟩ := ends q1 arr
  obtain ⟨w2, g1, g2, g3, g4, g5, g6⟩ := take_marks (P := P) (fn := g) (rd := ⟨none, true⟩) (tmps := t') (todo := todo) (cs := c0 :: cs) p'.st p'.dok
  refine ⟨.tuple #[], h', μ', w2, { frame g ⟨none, true⟩ t' [] todo with mode := .returning }, q2, ext_marks x' p'.dge g2 g3 g4 g5 fun b hb => g6 b (.inl hb), by rw [henter]; exact hs.trans g1, rfl, rfl, rfl, fg, hf, ?_⟩
  simp [results, hres]
theorem DefW.recover {g : FuncId} {fg : Func} {caps : List Value} {K : AHeap → Prop} {id : Nat} {t5 t2 : Nat} {ats : Array TypeId} {ty ty2 : TypeId} {pos pos2 : String} {af af2 : Array Edge} {Z : Code}
    (hf : P.funcs[g]? = some fg) (hb : fg.body = some (.seq (.region id #[⟨some t5, .call ⟨.builtin .recover, #[], ats⟩, ty, pos, af, none⟩, ⟨some t2, .assign (.tmp t5), ty2, pos2, af2, none⟩] false) Z)) (hres : fg.results = #[]) (hn : caps.length ≤ fg.ntmps) (h5 : t5 < fg.ntmps) (h2 : t2 < fg.ntmps)
    (hc : CWp P ⟨g, fg.ntmps, none⟩ Z (((entry caps 0 .leaf).put t5 (some .nilIface)).put t2 (some .nilIface)) h fun e _ h' => (∀ i, e ≠ .exit i) ∧ K h') : DefW P g caps h K := by
  intro μ caps' w hl st c cs hu
  have hlen := hl.length
  simp only [Array.length_toList] at hlen
  obtain ⟨tm, htm⟩ : ∃ tm, tm = caps' ++ Array.replicate (fg.ntmps - caps'.size) undef := ⟨_, rfl⟩
  have hsz : tm.size = fg.ntmps := by rw [htm]; simp; omega
  have hact : ActRel μ h.next (entry caps 0 .leaf) tm := by rw [htm]; exact entry_act2 hl
  obtain ⟨R, hR⟩ : ∃ R : Array Oper, R = #[⟨some t5, .call ⟨.builtin .recover, #[], ats⟩, ty, pos, af, none⟩, ⟨some t2, .assign (.tmp t5), ty2, pos2, af2, none⟩] := ⟨_, rfl⟩
  have henter : Frame.enter P g caps' .deferred = frame g ⟨none, true⟩ tm [] [.code (.seq (.region id R false) Z)] := by simp [Frame.enter, frame, RK.kind, hf, hb, htm, hR]
  have o0 : R[0]? = some ⟨some t5, .call ⟨.builtin .recover, #[], ats⟩, ty, pos, af, none⟩ := by rw [hR]; rfl
  have o1 : R[1]? = some ⟨some t2, .assign (.tmp t5), ty2, pos2, af2, none⟩ := by rw [hR]; rfl
  have hcm : ({ c with mode := .returning } : Frame) = c := by rw [← hu]
  have s1 : step P (lone (frame g ⟨none, true⟩ tm [] (.inRegion R [0, 1] :: [.code Z])) (c :: cs) w) = .next (lone (frame g ⟨none, true⟩ (put tm (some t5) .nilIface) [] (.inRegion R [1] :: [.code Z])) (c :: cs) w) := by
    have hfin : (frame g ⟨none, true⟩ tm [] (.inRegion R [0, 1] :: [.code Z])).finish .nilIface = frame g ⟨none, true⟩ (put tm (some t5) .nilIface) [] (.inRegion R [1] :: [.code Z]) := by rw [finish_region, o0]; rfl
    rw [← hfin]
    refine step_lone_go ?_
    have hg := stG_op (P := P) (fn := g) (rd := ⟨none, true⟩) (tmps := tm) (defers := []) (k := [.code Z]) (cs := c :: cs) (w := w) (rest := [1]) o0 rfl rfl
    rw [hg]
    simp [stepG.apply, execOp, resolve, invoke, builtin, frame, RK.kind, tryRecover, hu, hcm]
  have hrv : VRel μ h.next .nilIface .nilIface := .nilIface
  obtain ⟨r1, r2⟩ := hact.put (nt := fg.ntmps) (dst := some t5) hsz hrv (a' := (entry caps 0 .leaf).put t5 (some .nilIface)) (by simp only [aput]; rw [Nat.ble_eq_true_of_le (by omega : t5 + 1 ≤ fg.ntmps)]; rfl)
  have s2 : step P (lone (frame g ⟨none, true⟩ (put tm (some t5) .nilIface) [] (.inRegion R [1] :: [.code Z])) (c :: cs) w) = .next (lone (frame g ⟨none, true⟩ (put (put tm (some t5) .nilIface) (some t2) .nilIface) [] (.inRegion R [] :: [.code Z])) (c :: cs) w) := by
    refine st_op_value o1 rfl rfl (nx := .value .nilIface) ?_ (.inl rfl)
    have : (put tm (some t5) .nilIface).getD t5 undef = .nilIface := by simp [put, Array.getD_eq_getD_getElem?, show t5 < tm.size by omega]
    simp [execOp, opnd, this]
  obtain ⟨q1, q2⟩ := r1.put (nt := fg.ntmps) (dst := some t2) r2 hrv (a' := ((entry caps 0 .leaf).put t5 (some .nilIface)).put t2 (some .nilIface)) (by simp only [aput]; rw [Nat.ble_eq_true_of_le (by omega : t2 + 1 ≤ fg.ntmps)]; rfl)
  obtain ⟨e, a', h', μ', t', d', w', ⟨z1, z2⟩, p', x', arr⟩ := hc μ ⟨w.heap.size, []⟩ _ [] ⟨none, true⟩ w [] (c :: cs) ⟨q1, q2, trivial, .nil (fun _ hd => by cases hd), fun _ => rfl, fun d hd => (by cases hd), Nat.le_refl _, st⟩
  obtain ⟨todo, hs⟩ := ends z1 arr
  obtain ⟨w2, g1, g2, g3, g4, g5, g6⟩ := take_marks (P := P) (fn := g) (rd := ⟨none, true⟩) (tmps := t') (todo := todo) (cs := c :: cs) p'.st p'.dok
  refine ⟨.tuple #[], h', μ', w2, { frame g ⟨none, true⟩ t' [] todo with mode := .returning }, z2, ext_marks x' p'.dge g2 g3 g4 g5 fun b hb => g6 b (.inl hb), ?_, rfl, rfl, rfl, fg, hf, ?_⟩
  · rw [henter]
    have hrange : List.range R.size = [0, 1] := by rw [hR]; rfl
    have s0 : step P (lone (frame g ⟨none, true⟩ tm [] (.code (.region id R false) :: [.code Z])) (c :: cs) w) = .next (lone (frame g ⟨none, true⟩ tm [] (.inRegion R [0, 1] :: [.code Z])) (c :: cs) w) := by rw [← hrange]; exact st_region
    exact .head st_seq (.head s0 (.head s1 (.head s2 (.head st_region_end (hs.trans g1)))))
  · simp [results, hres]
noncomputable def DWp (P : Program) (f : FuncId) (nt : Nat) (c : Code) (a : Tr Value) (h : AHeap) (K : Value → AHeap → Prop) : Prop :=
  ∀ (μ0 : Emb) (h0 : AHeap) (w0 : World) (μ : Emb) (tmps : Array Value) (d : List Deferred) (w : World) (cs : List Frame) (m0 : Machine), Ext μ0 h0 w0 μ h w → Pre μ ⟨w0.heap.size, []⟩ ⟨f, nt, none⟩ a h tmps d ⟨none, false⟩ w → Steps P m0 (lone (frame f ⟨none, false⟩ tmps d [.code c]) cs w) →
    ∃ e w' fr, (∃ v v' h' μ', e = Ending.returned v' ∧ K v h' ∧ Ext μ0 h0 w0 μ' h' w' ∧ VRel μ' h'.next v v') ∧ Comes P m0 (lone fr cs w') e ∧ fr.fn = f ∧ fr.leaving P w' e
theorem DWp.fin (ok : TyOK P T) {f : FuncId} {fn : Func} {K : Value → AHeap → Prop} (hf : P.funcs[f]? = some fn) {μ0 μ' : Emb} {h0 h' : AHeap} {w0 w' : World} {t' : Array Value} {d' : List Deferred} {a' : Tr Value} {cs : List Frame} {m0 : Machine} {todo : List Item} {v : Value}
    (x' : Ext μ0 h0 w0 μ' h' w') (act : ActRel μ' h'.next a' t') (dok : DOk [] μ' h' w' d') (dge : ∀ d ∈ d', ∀ q, d.target = .collected q → w0.heap.size ≤ q) (hr : aRet T fn a' h' = some v) (hk : K v h') (hs : Steps P m0 (lone { frame f ⟨none, false⟩ t' d' todo with mode := .returning } cs w')) :
    ∃ e w'' fr, (∃ v v' h' μ', e = Ending.returned v' ∧ K v h' ∧ Ext μ0 h0 w0 μ' h' w'' ∧ VRel μ' h'.next v v') ∧ Comes P m0 (lone fr cs w'') e ∧ fr.fn = f ∧ fr.leaving P w'' e := by
  obtain ⟨w2, g1, g2, g3, g4, g5, g6⟩ := take_marks (P := P) (fn := f) (rd := ⟨none, false⟩) (tmps := t') (todo := todo) (cs := cs) x'.st dok
  obtain ⟨v', r1, r2⟩ := ret_good ok g2 act hr
  exact ⟨.returned v', w2, { frame f ⟨none, false⟩ t' [] todo with mode := .returning }, ⟨v, v', h', μ', rfl, hk, ext_marks x' dge g2 g3 g4 g5 fun b hb => g6 b (.inl hb), r2⟩, Steps.trans hs g1, rfl, rfl, rfl, rfl, fn, hf, r1⟩
theorem DWp.code (ok : TyOK P T) {f : FuncId} {fn : Func} {K : Value → AHeap → Prop} (hf : P.funcs[f]? = some fn) {c : Code} {a : Tr Value} (hc : CWp P ⟨f, fn.ntmps, none⟩ c a h fun e a' h' => (∀ i, e ≠ .exit i) ∧ ∃ v, aRet T fn a' h' = some v ∧ K v h') : DWp P f fn.ntmps c a h K := by
  intro μ0 h0 w0 μ tmps d w cs m0 x p hs
  obtain ⟨e, a', h', μ', t', d', w', ⟨q1, v, q2, q3⟩, p', x', arr⟩ := hc μ _ tmps d _ w [] cs p
  obtain ⟨todo, hs2⟩ := ends q1 arr
  exact DWp.fin ok hf (x.trans x') p'.act p'.dok p'.dge q2 q3 (hs.trans hs2)
theorem DWp.seq (ok : TyOK P T) {f : FuncId} {fn : Func} {K : Value → AHeap → Prop} (hf : P.funcs[f]? = some fn) {y z : Code} {a : Tr Value}
    (hc : CWp P ⟨f, fn.ntmps, none⟩ y a h fun e a' h' => match e with | .normal => DWp P f fn.ntmps z a' h' K | .ret => ∃ v, aRet T fn a' h' = some v ∧ K v h' | .exit _ => False) : DWp P f fn.ntmps (.seq y z) a h K := by
  intro μ0 h0 w0 μ tmps d w cs m0 x p hs
  obtain ⟨e, a', h', μ', t', d', w', q, p', x', arr⟩ := hc μ _ tmps d _ w [.code z] cs p
  cases e with
  | exit i => exact q.elim
  | normal => exact q μ0 h0 w0 μ' t' d' w' cs m0 (x.trans x') p' (hs.trans (.head st_seq arr))
  | ret =>
    obtain ⟨v, q1, q2⟩ := q
    obtain ⟨k0, hs2⟩ := arr
    exact DWp.fin (todo := .code .ret :: k0) ok hf (x.trans x') p'.act p'.dok p'.dge q1 q2 ((hs.trans (.head st_seq hs2)).trans (.one (step_lone_go (by simp [stepG, stepG.exec, frame]))))
theorem DWp.defer (ok : TyOK P T) {f g : FuncId} {fn fg : Func} {K : Value → AHeap → Prop} (hf : P.funcs[f]? = some fn) (he : Entered P g fg) {C : Code} {a : Tr Value} {id : Nat} {t4 : Nat} {xs : Array Operand} {ty ty2 : TypeId} {pos pos2 : String} {af af2 : Array Edge} {ats : Array TypeId} {caps : List Value} (h4 : t4 < fn.ntmps)
    (hx : aopnds (aopnd a) xs.toList = some caps)
    (hc : CWp P ⟨f, fn.ntmps, none⟩ C (a.put t4 (some (.func (.func g) #[] caps.toArray))) h fun e a3 h3 => (∀ i, e ≠ .exit i) ∧ DefW P g caps h3 fun h4 => ∃ v, aRet T fn a3 h4 = some v ∧ K v h4) :
    DWp P f fn.ntmps (.seq (.region id #[⟨some t4, .makeFunc (.func g) #[] xs, ty, pos, af, none⟩, ⟨none, .defer ⟨.value (.tmp t4), #[], ats⟩, ty2, pos2, af2, none⟩] false) C) a h K := by
  intro μ0 h0 w0 μ tmps d w cs m0 x p hs
  obtain ⟨R, hR⟩ : ∃ R : Array Oper, R = #[⟨some t4, .makeFunc (.func g) #[] xs, ty, pos, af, none⟩, ⟨none, .defer ⟨.value (.tmp t4), #[], ats⟩, ty2, pos2, af2, none⟩] := ⟨_, rfl⟩
  rw [← hR] at hs
  have o0 : R[0]? = some ⟨some t4, .makeFunc (.func g) #[] xs, ty, pos, af, none⟩ := by rw [hR]; rfl
  have o1 : R[1]? = some ⟨none, .defer ⟨.value (.tmp t4), #[], ats⟩, ty2, pos2, af2, none⟩ := by rw [hR]; rfl
  have hrange : List.range R.size = [0, 1] := by rw [hR]; rfl
  have s0 : step P (lone (frame f ⟨none, false⟩ tmps d (.code (.region id R false) :: [.code C])) cs w) = .next (lone (frame f ⟨none, false⟩ tmps d (.inRegion R [0, 1] :: [.code C])) cs w) := by rw [← hrange]; exact st_region
  have hcr : LRel μ h.next caps ((xs.map (opnd tmps)).toList) := by rw [Array.toList_map]; exact aopnds_rel p.act.opnd hx
  have s1 : step P (lone (frame f ⟨none, false⟩ tmps d (.inRegion R [0, 1] :: [.code C])) cs w) = .next (lone (frame f ⟨none, false⟩ (put tmps (some t4) (.func (.func g) #[] (xs.map (opnd tmps)))) d (.inRegion R [1] :: [.code C])) cs w) :=
    st_op_value o0 rfl rfl (nx := .value (.func (.func g) #[] (xs.map (opnd tmps)))) (by simp [execOp, Instr.makeFunc]) (.inl rfl)
  have hfv : VRel μ h.next (.func (.func g) #[] caps.toArray) (.func (.func g) #[] (xs.map (opnd tmps))) := .func (fun l => by simp) .nil (by simpa using hcr)
  obtain ⟨r1, r2⟩ := p.act.put (nt := fn.ntmps) (dst := some t4) p.size hfv (a' := a.put t4 (some (.func (.func g) #[] caps.toArray))) (by simp only [aput]; rw [Nat.ble_eq_true_of_le (by omega : t4 + 1 ≤ fn.ntmps)]; rfl)
  obtain ⟨dd, hdd⟩ : ∃ dd : Deferred, dd = { target := .fn (.func g) (xs.map (opnd tmps)), args := #[] } := ⟨_, rfl⟩
  obtain ⟨tq, htq⟩ : ∃ tq, tq = put tmps (some t4) (.func (.func g) #[] (xs.map (opnd tmps))) := ⟨_, rfl⟩
  rw [← htq] at s1 r1 r2
  have hget : tq.getD t4 undef = .func (.func g) #[] (xs.map (opnd tmps)) := by
    have := p.size
    simp only at this
    rw [htq]; simp [put, Array.getD_eq_getD_getElem?, show t4 < tmps.size by omega]
  have s2 : step P (lone (frame f ⟨none, false⟩ tq d (.inRegion R [1] :: [.code C])) cs w) = .next (lone (frame f ⟨none, false⟩ tq (dd :: d) (.inRegion R [] :: [.code C])) cs w) := by
    refine step_lone_go ?_
    have hev : (frame f ⟨none, false⟩ tq d (.inRegion R [1] :: [.code C])).eval = opnd tq := frame_eval ..
    simp only [frame, RK.kind, cond_false] at hev
    have hw : Region.wanted ⟨none, .defer ⟨.value (.tmp t4), #[], ats⟩, ty2, pos2, af2, none⟩ (yielded R tq) = true := rfl
    simp [stepG, stepG.exec, stepG.oper, Frame.oper?, frame, RK.kind, o1, hw, hev, stepG.apply, execOp, resolve, opnd, hget, Deferred.ofValue, Frame.finish, hdd]
  have hlt : ∀ e ∈ dd :: d, ∀ q, e.target = .collected q → q < w.heap.size := by
    intro e he q hq
    cases he with
    | head => rw [hdd] at hq; cases hq
    | tail _ he => exact p.dok.lt e he q hq
  obtain ⟨e, a3, h3, μ3, t3, d3, w3, ⟨q1, q2⟩, p3, x3, arr⟩ := hc μ ⟨w0.heap.size, dd :: d⟩ tq (dd :: d) ⟨none, false⟩ w [] cs ⟨r1, r2, trivial, .nil hlt, fun e => (e rfl).elim, fun e he q hq => by
    cases he with
    | head => rw [hdd] at hq; cases hq
    | tail _ he => exact p.dge e he q hq, p.bsz, p.st⟩
  obtain ⟨todo, hs3⟩ := ends q1 arr
  obtain ⟨w4, g1, g2, g3, g4, g5, g6⟩ := take_marks (P := P) (fn := f) (rd := ⟨none, false⟩) (tmps := t3) (todo := todo) (cs := cs) p3.st p3.dok
  have x4 : Ext μ0 h0 w0 μ3 h3 w4 := ext_marks (x.trans x3) p3.dge g2 g3 g4 g5 fun b hb => g6 b (.inl hb)
  -- what was deferred ahead stands as it did
  have keep : ∀ {l : List Deferred}, (∀ e ∈ l, e ∈ d) → DOk [] μ3 h3 w3 l → DOk [] μ3 h3 w4 l := by
    intro l hs hl
    induction hl with
    | nil hD => exact .nil fun d hd => (by cases hd)
    | cons hr ho hne t ih =>
      exact .cons ((g6 _ (.inr ⟨_, List.mem_cons_of_mem _ (hs _ List.mem_cons_self), rfl⟩)).trans hr) ho hne (ih fun e he => hs e (List.mem_cons_of_mem _ he))
  have dok4 : DOk [] μ3 h3 w4 d := keep (fun _ h => h) (p.dok.ext x3)
  have hcr4 : LRel μ3 h3.next caps (xs.map (opnd tmps)).toList := hcr.mono x3.agree x3.next
  have hinv : (invoke dd.target dd.args).run P = fun w => .ok (.enter g (xs.map (opnd tmps))) w := by
    funext w; rw [hdd]; simp [invoke, he.run]
  have s4 := step_defer (P := P) (fr := { frame f ⟨none, false⟩ t3 (dd :: d) todo with mode := .returning }) (cs := cs) (w := w4) (d := dd) (ds := d) (by simp) rfl (by rw [hdd]) (congrFun hinv w4)
  obtain ⟨v0, h5, μ5, w5, fr, ⟨v, k1, k2⟩, x5, y2, y3, y4⟩ := q2 μ3 _ w4 hcr4 g2 { { frame f ⟨none, false⟩ t3 (dd :: d) todo with mode := .returning } with defers := d } cs rfl
  have s5 := step_going_returned (c := { { frame f ⟨none, false⟩ t3 (dd :: d) todo with mode := .returning } with defers := d }) (cs := cs) y3 y4
  have hsF : Steps P m0 (lone { frame f ⟨none, false⟩ t3 d todo with mode := .returning } cs w5) :=
    hs.trans (.head st_seq (.head s0 (.head s1 (.head s2 (.head st_region_end (hs3.trans (g1.trans (.head s4 (y2.trans (.one s5))))))))))
  exact DWp.fin ok hf (x4.trans x5) (p3.act.mono x5.agree x5.next) (dok4.ext x5) p.dge k1 k2 hsF
end
noncomputable def deferOf : Code → Option (Tmp × FuncId × Array Operand)
  | .region _ ops false => match ops.toList with
    | [⟨some t, .makeFunc (.func g) first xs, _, _, _, none⟩, ⟨none, .defer ⟨.value (.tmp u), args, _⟩, _, _, _, none⟩] => bif Nat.beq t u && (first.isEmpty && args.isEmpty) then some (t, g, xs) else none
    | _ => none
  | _ => none
theorem deferOf_eq {c : Code} {t : Tmp} {g : FuncId} {xs : Array Operand} (hc : deferOf c = some (t, g, xs)) :
    ∃ id ty ty2 pos pos2 af af2 ats, c = .region id #[⟨some t, .makeFunc (.func g) #[] xs, ty, pos, af, none⟩, ⟨none, .defer ⟨.value (.tmp t), #[], ats⟩, ty2, pos2, af2, none⟩] false := by
  unfold deferOf at hc
  split at hc
  · rename_i id ops
    split at hc
    · rename_i t1 g1 first xs1 ty pos af u args ats ty2 pos2 af2 hops
      cases hb : Nat.beq t1 u && (first.isEmpty && args.isEmpty)
      · rw [hb, cond_false] at hc; cases hc
      · rw [hb, cond_true] at hc
        simp only [Bool.and_eq_true, Array.isEmpty_iff] at hb
        obtain ⟨b1, rfl, rfl⟩ := hb
        obtain rfl := Nat.eq_of_beq_eq_true b1
        cases hc
        have : ops = #[⟨some t, .makeFunc (.func g) #[] xs, ty, pos, af, none⟩, ⟨none, .defer ⟨.value (.tmp t), #[], ats⟩, ty2, pos2, af2, none⟩] := Array.toList_inj.1 hops
        subst this
        exact ⟨_, _, _, _, _, _, _, _, rfl⟩
    · cases hc
  · cases hc
noncomputable def recOf : Code → Option (Tmp × Tmp × Code)
  | .seq (.region _ ops false) z => match ops.toList with
    | [⟨some t, .call ⟨.builtin .recover, args, _⟩, _, _, _, none⟩, ⟨some s, .assign (.tmp u), _, _, _, none⟩] => bif Nat.beq t u && args.isEmpty then some (t, s, z) else none
    | _ => none
  | _ => none
theorem recOf_eq {c z : Code} {t s : Tmp} (hc : recOf c = some (t, s, z)) :
    ∃ id ty ty2 pos pos2 af af2 ats, c = .seq (.region id #[⟨some t, .call ⟨.builtin .recover, #[], ats⟩, ty, pos, af, none⟩, ⟨some s, .assign (.tmp t), ty2, pos2, af2, none⟩] false) z := by
  unfold recOf at hc
  split at hc
  · rename_i id ops z1
    split at hc
    · rename_i t1 args ats ty pos af s1 u ty2 pos2 af2 hops
      cases hb : Nat.beq t1 u && args.isEmpty
      · rw [hb, cond_false] at hc; cases hc
      · rw [hb, cond_true] at hc
        simp only [Bool.and_eq_true, Array.isEmpty_iff] at hb
        obtain ⟨b1, rfl⟩ := hb
        obtain rfl := Nat.eq_of_beq_eq_true b1
        cases hc
        have : ops = #[⟨some t, .call ⟨.builtin .recover, #[], ats⟩, ty, pos, af, none⟩, ⟨some s, .assign (.tmp t), ty2, pos2, af2, none⟩] := Array.toList_inj.1 hops
        subst this
        exact ⟨_, _, _, _, _, _, _, _, rfl⟩
    · cases hc
  · cases hc
noncomputable def notExit : AExit → Bool
  | .exit _ => false
  | _ => true
theorem notExit_ne {e : AExit} (h : notExit e = true) : ∀ i, e ≠ .exit i := by
  intro i hi; subst hi; cases h
noncomputable def runC (E : Env) (call : CallV) (g : FuncId) (nt : Nat) (c : Code) (a : Tr Value) (h : AHeap) : Option AHeap :=
  match (compC c E g nt).run none call a h with
  | some (e, _, h') => bif notExit e then some h' else none
  | none => none
noncomputable def defEv (E : Env) (call : CallV) (g : FuncId) (caps : List Value) (h : AHeap) : Option AHeap :=
  match E.F.get g with
  | some fg => match fg.body with
    | some c => bif fg.results.isEmpty && Nat.ble caps.length fg.ntmps then match recOf c with
        | some (t, s, z) => bif Nat.ble (t + 1) fg.ntmps && Nat.ble (s + 1) fg.ntmps then runC E call g fg.ntmps z (((entry caps 0 .leaf).put t (some .nilIface)).put s (some .nilIface)) h else none
        | none => runC E call g fg.ntmps c (entry caps 0 .leaf) h
      else none
    | none => none
  | none => none
noncomputable def retD (E : Env) (fn : Func) (a : Tr Value) (h : AHeap) : ZV :=
  match aRet E.T fn a h with
  | some v => some (v, h)
  | none => none
noncomputable def dEv (E : Env) (call : CallV) (f : FuncId) (fn : Func) : Code → Tr Value → AHeap → ZV
  | .seq x y, a, h => match deferOf x with
    | some (t, g, xs) => bif Nat.ble (t + 1) fn.ntmps then match aopnds (aopnd a) xs.toList with
      | some caps => match (compC y E f fn.ntmps).run none call (a.put t (some (.func (.func g) #[] caps.toArray))) h with
        | some (e, a3, h3) => bif notExit e then match defEv E call g caps h3 with
          | some h4 => retD E fn a3 h4
          | none => none
          else none
        | none => none
      | none => none
      else none
    | none => match (compC x E f fn.ntmps).run none call a h with
      | some (.normal, a', h') => dEv E call f fn y a' h'
      | some (.ret, a', h') => retD E fn a' h'
      | _ => none
  | _, _, _ => none
noncomputable def dFun (E : Env) (call : CallV) (f : FuncId) (args : List Value) (h : AHeap) : ZV :=
  match E.F.get f with
  | some fn => match fn.body with
    | some c => bif Nat.ble args.length fn.ntmps then dEv E call f fn c (entry args 0 .leaf) h else none
    | none => none
  | none => none
noncomputable def dS (E : Env) (n : Nat) (B : List FuncId) (f : FuncId) (args : List Value) (h : AHeap) : ZV :=
  bif B.any (Nat.beq f) then dFun E (evZ E n) f args h else E.S f args h
noncomputable def envD (E : Env) (n : Nat) (B : List FuncId) : Env := { E with S := dS E n B }
section
variable {E : Env} (ok : EnvOK E) {call : CallV} (hv : VSound E.P call)
include ok
omit ok in
theorem retD_some {fn : Func} {a : Tr Value} {h h' : AHeap} {v : Value} (he : retD E fn a h = some (v, h')) : aRet E.T fn a h = some v ∧ h' = h := by
  unfold retD at he
  split at he
  · cases he; exact ⟨by assumption, rfl⟩
  · cases he
include hv
theorem runC_good {g : FuncId} {nt : Nat} {c : Code} {a : Tr Value} {h h' : AHeap} (he : runC E call g nt c a h = some h') : CWp E.P ⟨g, nt, none⟩ c a h fun e _ h2 => (∀ i, e ≠ .exit i) ∧ h2 = h' := by
  unfold runC at he
  split at he
  · rename_i e a1 h1 hx
    cases hn : notExit e
    · rw [hn, cond_false] at he; cases he
    · rw [hn, cond_true] at he
      cases he
      refine (compC_good ok hv _ _ _ _ _ _ _ hx).mono ?_
      rintro e1 a2 h2 ⟨rfl, rfl, rfl⟩
      exact ⟨notExit_ne hn, rfl⟩
  · cases he
theorem defEv_good {g : FuncId} {caps : List Value} {h h' : AHeap} (he : defEv E call g caps h = some h') : DefW E.P g caps h fun h2 => h2 = h' := by
  unfold defEv at he
  split at he
  · rename_i fg hf
    split at he
    · rename_i c hb
      cases hbb : fg.results.isEmpty && Nat.ble caps.length fg.ntmps
      · rw [hbb, cond_false] at he; cases he
      · rw [hbb, cond_true] at he
        simp only [Bool.and_eq_true, Array.isEmpty_iff] at hbb
        obtain ⟨b1, b2⟩ := hbb
        have hl := (ok.fn g fg hf).look
        split at he
        · rename_i t s z hr
          cases hb3 : Nat.ble (t + 1) fg.ntmps && Nat.ble (s + 1) fg.ntmps
          · rw [hb3, cond_false] at he; cases he
          · rw [hb3, cond_true] at he
            simp only [Bool.and_eq_true] at hb3
            obtain ⟨id, ty, ty2, pos, pos2, af, af2, ats, rfl⟩ := recOf_eq hr
            exact DefW.recover hl hb b1 (Nat.le_of_ble_eq_true b2) (Nat.le_of_ble_eq_true hb3.1) (Nat.le_of_ble_eq_true hb3.2) (runC_good ok hv he)
        · exact DefW.code hl hb b1 (Nat.le_of_ble_eq_true b2) (runC_good ok hv he)
    · cases he
  · cases he
theorem dEv_good {f : FuncId} {fn : Func} (hf : E.F.get f = some fn) : ∀ (c : Code) (a : Tr Value) (h : AHeap) (v : Value) (h' : AHeap), dEv E call f fn c a h = some (v, h') → DWp E.P f fn.ntmps c a h fun x y => x = v ∧ y = h'
  | .seq x y, a, h, v, h', he => by
    have hl := (ok.fn f fn hf).look
    rw [dEv] at he
    split at he
    · rename_i t g xs hd
      obtain ⟨id, ty, ty2, pos, pos2, af, af2, ats, rfl⟩ := deferOf_eq hd
      cases hb : Nat.ble (t + 1) fn.ntmps
      · rw [hb, cond_false] at he; cases he
      · rw [hb, cond_true] at he
        split at he
        · rename_i caps hx
          split at he
          · rename_i e a3 h3 hc
            cases hn : notExit e
            · rw [hn, cond_false] at he; cases he
            · rw [hn, cond_true] at he
              split at he
              · rename_i h4 hd4
                obtain ⟨r1, rfl⟩ := retD_some he
                obtain ⟨fg, hg⟩ : ∃ fg, E.F.get g = some fg := by
                  unfold defEv at hd4
                  split at hd4
                  · exact ⟨_, by assumption⟩
                  · cases hd4
                refine DWp.defer ok.ty hl (ok.fn g fg hg) (Nat.le_of_ble_eq_true hb) hx ((compC_good ok hv _ _ _ _ _ _ _ hc).mono ?_)
                rintro e1 a2 h2 ⟨rfl, rfl, rfl⟩
                refine ⟨notExit_ne hn, fun μ caps' w q1 q2 c cs q3 => ?_⟩
                obtain ⟨v0, h5, μ5, w5, fr, rfl, z⟩ := defEv_good ok hv hd4 μ caps' w q1 q2 c cs q3
                exact ⟨v0, h5, μ5, w5, fr, ⟨v, r1, rfl, rfl⟩, z⟩
              · cases he
          · cases he
        · cases he
    · split at he
      · rename_i a1 h1 hx
        refine DWp.seq ok.ty hl ((compC_good ok hv _ _ _ _ _ _ _ hx).mono ?_)
        rintro e1 a2 h2 ⟨rfl, rfl, rfl⟩
        exact dEv_good hf y a2 h2 v h' he
      · rename_i a1 h1 hx
        obtain ⟨r1, rfl⟩ := retD_some he
        refine DWp.seq ok.ty hl ((compC_good ok hv _ _ _ _ _ _ _ hx).mono ?_)
        rintro e1 a2 h2 ⟨rfl, rfl, rfl⟩
        exact ⟨v, r1, rfl, rfl⟩
      · cases he
  | .skip, _, _, _, _, he => by cases he
  | .label _, _, _, _, _, he => by cases he
  | .region .., _, _, _, _, he => by cases he
  | .cond .., _, _, _, _, he => by cases he
  | .block .., _, _, _, _, he => by cases he
  | .loop _, _, _, _, _, he => by cases he
  | .rangeFunc .., _, _, _, _, he => by cases he
  | .exit _, _, _, _, _, he => by cases he
  | .scope _, _, _, _, _, he => by cases he
  | .goto _, _, _, _, _, he => by cases he
  | .ret, _, _, _, _, he => by cases he
  | .refuse _, _, _, _, _, he => by cases he
theorem dFun_good {f : FuncId} {args : List Value} {h h' : AHeap} {v : Value} (he : dFun E call f args h = some (v, h')) : (∃ fn, Entered E.P f fn) ∧ FWp E.P f args h fun x y => x = v ∧ y = h' := by
  unfold dFun at he
  split at he
  · rename_i fn hf
    split at he
    · rename_i c hb
      cases hn : Nat.ble args.length fn.ntmps
      · rw [hn, cond_false] at he; cases he
      · rw [hn, cond_true] at he
        have hn := Nat.le_of_ble_eq_true hn
        refine ⟨⟨fn, ok.fn f fn hf⟩, fun μ args' w hl st cs => ?_⟩
        have hlen := hl.length
        simp only [Array.length_toList] at hlen
        have hsz : (args' ++ Array.replicate (fn.ntmps - args'.size) undef).size = fn.ntmps := by simp; omega
        have henter : Frame.enter E.P f args' .normal = frame f ⟨none, false⟩ (args' ++ Array.replicate (fn.ntmps - args'.size) undef) [] [.code c] := by simp [Frame.enter, frame, RK.kind, (ok.fn f fn hf).look, hb]
        rw [henter]
        exact dEv_good ok hv hf c _ h v h' he μ h w μ _ [] w cs _ (Ext.refl st) ⟨entry_act2 hl, hsz, trivial, .nil (fun _ hd => by cases hd), fun _ => rfl, fun d hd => (by cases hd), Nat.le_refl _, st⟩ (.refl _ _)
    · cases he
  · cases he
end
end Go.Ab.Nx.Dx
namespace Go.Ab.Nx.Dx
open Go.Ab Go.Ab.Nx Go.Ab.Nx.Zx Go.Ab.Nx.Lx
set_option linter.unusedSimpArgs false
set_option linter.unusedVariables false
noncomputable def plainL (call : CallV) (fv : Value) (vs : List Value) (h : AHeap) : Option VOuts :=
  match call fv vs h with
  | some r => some [r]
  | none => none
noncomputable def cloneL (call : CallV) (X : List FuncId) : CallL := fun fv vs h =>
  match fv, vs with
  | .func (.func k) first cap, [.iface t (.map (some r))] => bif X.any (Nat.beq k) then (bif first.isEmpty && cap.isEmpty then match h.get r with
      | some (.map es clock) => some [(.iface t (.map (some h.next)), h.new (.map es clock))]
      | _ => none
      else none)
    else plainL call fv vs h
  | _, _ => plainL call fv vs h
noncomputable def XOK (P : Program) (X : List FuncId) : Prop := ∀ k ∈ X, ∃ fn, P.funcs[k]? = some fn ∧ (fn.name == "runtime.NumGoroutine") = false ∧ fn.body.isNone = true ∧ Extern.findNext fn = none ∧ Extern.find fn = some Extern.MapsClone.clone
theorem plainL_sound {P : Program} {call : CallV} (hv : VSound P call) : LSound P (plainL call) := by
  intro fv vs h outs he
  unfold plainL at he
  split at he
  · rename_i r hr
    cases he
    refine (hv _ _ _ _ _ hr).mono ?_
    rintro x y ⟨rfl, rfl⟩
    exact List.mem_singleton.2 rfl
  · cases he
theorem clone_run {P : Program} {w : World} {b : Nat} {ms : Array MapEntry} {clock : Nat} (t : TypeId) (hb : w.heap[b]? = some (.map ms clock)) :
    (Extern.MapsClone.clone #[.iface t (.map (some b))]).run P w = .ok (.iface t (.map (some w.heap.size))) { w with heap := w.heap.push (.map ms clock) } := by
  have e : Extern.MapsClone.clone #[.iface t (.map (some b))] = (getObj b >>= fun o => match o with
      | .map entries clock => (newObj (.map entries clock) >>= fun n => pure (.iface t (.map (some n))))
      | _ => stuck "maps.clone: a map expected") := rfl
  rw [e]
  simp only [Sem.run_bind, run_getObj hb (fun _ _ _ => by simp), Result.andThen_ok, run_newObj, Sem.run_pure]
theorem cloneL_sound {P : Program} {call : CallV} (hv : VSound P call) {X : List FuncId} (hX : XOK P X) : LSound P (cloneL call X) := by
  intro fv vs h outs he
  unfold cloneL at he
  split at he
  · rename_i k first cap t r
    cases hb : X.any (Nat.beq k)
    · rw [hb, cond_false] at he; exact plainL_sound hv _ _ _ _ he
    · rw [hb, cond_true] at he
      obtain ⟨k', hk', hkk⟩ := List.any_eq_true.1 hb
      obtain rfl := Nat.eq_of_beq_eq_true hkk
      cases he2 : first.isEmpty && cap.isEmpty
      · rw [he2, cond_false] at he; cases he
      · rw [he2, cond_true] at he
        simp only [Bool.and_eq_true, Array.isEmpty_iff] at he2
        obtain ⟨rfl, rfl⟩ := he2
        split at he
        · rename_i es clock hg
          cases he
          obtain ⟨fn, x1, x2, x3, x4, x5⟩ := hX k hk'
          intro μ fv' vs' w c cs h1 h2 st
          cases h1 with
          | func hy ha hc =>
            rename_i a' c'
            have ea : a' = #[] := by
              have := ha.length
              simpa using this.symm
            have ec : c' = #[] := by
              have := hc.length
              simpa using this.symm
            subst ea ec
            obtain ⟨x', hx', hr⟩ := h2.one
            cases hr with
            | iface hm =>
              cases hm with
              | map hlt hmm =>
                rename_i e
                obtain ⟨ms, g1, g2, g3⟩ := st.getMap hg hmm
                have hvs : vs' = #[.iface t (.map (some e.b))] := hx'
                subst hvs
                have xn := Ext.new st (.map ms clock) ⟨w.heap.size, 0, 0, 0⟩ (.map es clock) rfl ⟨rfl, ms, rfl, g2.mono (Agree.upd μ _ (Nat.le_refl _)) (by omega)⟩
                refine ⟨.value (.iface t (.map (some w.heap.size))), _, _, _, _, h.new (.map es clock), _, _, ?_, rfl, .refl _ _, List.mem_singleton.2 rfl, xn, .iface (.map (by simp) (Emb.upd_same _ _ _))⟩
                simp only [Sem.run_bind, Deferred.ofValue, Sem.run_pure, Result.andThen_ok, invoke, Array.empty_append, Array.append_empty, run_callFunc_extern x1 x2 x3 x4 x5, clone_run t g1]
        · cases he
  · exact plainL_sound hv _ _ _ _ he
noncomputable def lS (E : Env) (n : Nat) (X B : List FuncId) (f : FuncId) (args : List Value) (h : AHeap) : ZV :=
  bif B.any (Nat.beq f) then (match lFun E (evZ E n) (cloneL (evZ E n) X) 1000 f args h with
    | some [r] => some r
    | _ => none) else E.S f args h
noncomputable def envL (E : Env) (n : Nat) (X B : List FuncId) : Env := { E with S := lS E n X B }
end Go.Ab.Nx.Dx
namespace Go.Ab.Nx.Mx
open Go.Ab Go.Ab.Nx Go.Ab.Nx.Zx Go.Ab.Nx.Lx Go.Ab.Nx.Sx Go.Ab.Nx.Dx
set_option linter.unusedSimpArgs false
set_option linter.unusedVariables false
noncomputable def VSim (ρ : Nat → Option Nat) (n : Nat) (v u : Value) : Prop := ∀ (μ : Emb) (k : Nat) (v' : Value), VRel μ k u v' → VRel (fun r => (ρ r).bind μ) n v v'
noncomputable def isAt (ρ : Nat → Option Nat) (n r s : Nat) : Bool := Nat.ble (r + 1) n && (match ρ r with | some t => Nat.beq t s | none => false)
theorem isAt_spec {ρ : Nat → Option Nat} {n r s : Nat} (h : isAt ρ n r s = true) : r < n ∧ ρ r = some s := by
  simp only [isAt, Bool.and_eq_true] at h
  refine ⟨Nat.le_of_ble_eq_true h.1, ?_⟩
  have h2 := h.2
  split at h2
  · rename_i t ht; rw [ht, Nat.eq_of_beq_eq_true h2]
  · cases h2
noncomputable def sim1 (ρ : Nat → Option Nat) (n : Nat) : Value → Value → Bool
  | .pointer (some ⟨r, o, none⟩), .pointer (some ⟨s, p, none⟩) => isAt ρ n r s && Nat.beq o p
  | .slice (some ⟨r, o, none⟩) m c, .slice (some ⟨s, p, none⟩) k d => isAt ρ n r s && (Nat.beq o p && (Nat.beq m k && Nat.beq c d))
  | .map (some r), .map (some s) => isAt ρ n r s
  | a, b => flat a && veq1 a b
theorem sim1_spec {ρ : Nat → Option Nat} {n : Nat} {v u : Value} (h : sim1 ρ n v u = true) : VSim ρ n v u := by
  intro μ k v' hv
  unfold sim1 at h
  split at h
  · simp only [Bool.and_eq_true] at h
    obtain ⟨h1, h2⟩ := h
    obtain ⟨h3, h4⟩ := isAt_spec h1
    obtain rfl := Nat.eq_of_beq_eq_true h2
    cases hv with
    | ptr hr hm => exact .ptr h3 (by rw [h4]; exact hm)
  · simp only [Bool.and_eq_true] at h
    obtain ⟨h1, h2, h5, h6⟩ := h
    obtain ⟨h3, h4⟩ := isAt_spec h1
    obtain rfl := Nat.eq_of_beq_eq_true h2
    obtain rfl := Nat.eq_of_beq_eq_true h5
    obtain rfl := Nat.eq_of_beq_eq_true h6
    have e : ∀ {x : Ent}, μ _ = some x → (ρ _).bind μ = some x := fun {x} hm => by rw [h4]; exact hm
    cases hv with
    | sliceK hr hm => exact .sliceK h3 (e hm)
    | sliceU hr hm hl hc => exact .sliceU h3 (e hm) hl hc
    | sliceZ hr hm => exact .sliceZ h3 (e hm)
    | sliceKZ hr hm => exact .sliceKZ h3 (e hm)
  · obtain ⟨h3, h4⟩ := isAt_spec h
    cases hv with
    | map hr hm => exact .map h3 (by rw [h4]; exact hm)
  · simp only [Bool.and_eq_true] at h
    have := veq1_eq h.2
    subst this
    have e := hv.flat_eq h.1
    subst e
    exact .of_flat _ _ h.1
theorem LSim {ρ : Nat → Option Nat} {n : Nat} {f : Value → Value → Bool} (hf : ∀ {a b : Value}, f a b = true → VSim ρ n a b) : ∀ {a b : List Value}, veqL f a b = true → ∀ (μ : Emb) (k : Nat) (l' : List Value), LRel μ k b l' → LRel (fun r => (ρ r).bind μ) n a l'
  | [], [], _, μ, k, l', hl => by cases hl; exact .nil
  | [], _ :: _, h, _, _, _, _ => by cases h
  | _ :: _, [], h, _, _, _, _ => by cases h
  | a :: l, b :: m, h, μ, k, l', hl => by
    simp only [veqL, Bool.and_eq_true] at h
    cases hl with
    | cons h1 h2 => exact .cons (hf h.1 _ _ _ h1) (LSim hf h.2 _ _ _ h2)
noncomputable def simUp (f g : Value → Value → Bool) : Value → Value → Bool
  | .agg a, .agg b => veqL g a.toList b.toList
  | .tuple a, .tuple b => veqL g a.toList b.toList
  | .func (.func x) a c, .func (.func y) b d => Nat.beq x y && (veqL g a.toList b.toList && veqL g c.toList d.toList)
  | .iface t v, .iface u w => Nat.beq t u && g v w
  | a, b => f a b
theorem simUp_spec {ρ : Nat → Option Nat} {n : Nat} {f g : Value → Value → Bool} (hf : ∀ {a b : Value}, f a b = true → VSim ρ n a b) (hg : ∀ {a b : Value}, g a b = true → VSim ρ n a b) {v u : Value} (h : simUp f g v u = true) : VSim ρ n v u := by
  intro μ k v' hv
  unfold simUp at h
  split at h
  · cases hv with | agg hl => exact .agg (LSim hg h _ _ _ hl)
  · cases hv with | tuple hl => exact .tuple (LSim hg h _ _ _ hl)
  · simp only [Bool.and_eq_true] at h
    obtain ⟨h1, h2, h3⟩ := h
    obtain rfl := Nat.eq_of_beq_eq_true h1
    cases hv with | func hy ha hc => exact .func hy (LSim hg h2 _ _ _ ha) (LSim hg h3 _ _ _ hc)
  · simp only [Bool.and_eq_true] at h
    obtain rfl := Nat.eq_of_beq_eq_true h.1
    cases hv with | iface hw => exact .iface (hg h.2 _ _ _ hw)
  · exact hf h _ _ _ hv
noncomputable def vsim (ρ : Nat → Option Nat) (n : Nat) : Value → Value → Bool := simUp (sim1 ρ n) (simUp (sim1 ρ n) (simUp (sim1 ρ n) (sim1 ρ n)))
theorem vsim_spec {ρ : Nat → Option Nat} {n : Nat} {v u : Value} (h : vsim ρ n v u = true) : VSim ρ n v u :=
  simUp_spec sim1_spec (simUp_spec sim1_spec (simUp_spec sim1_spec sim1_spec)) h
noncomputable def esim (ρ : Nat → Option Nat) (n : Nat) : List AEnt → List AEnt → Bool
  | [], [] => true
  | a :: l, b :: m => (veq a.key b.key && (vsim ρ n a.val b.val && Nat.beq a.born b.born)) && esim ρ n l m
  | _, _ => false
theorem esim_spec {ρ : Nat → Option Nat} {n : Nat} {μ : Emb} {k : Nat} : ∀ {a b : List AEnt}, esim ρ n a b = true → ∀ {ms : List MapEntry}, EsRel μ k b ms → EsRel (fun r => (ρ r).bind μ) n a ms
  | [], [], _, ms, hm => by cases hm; exact .nil
  | [], _ :: _, h, _, _ => by cases h
  | _ :: _, [], h, _, _ => by cases h
  | a :: l, b :: m, h, ms, hm => by
    simp only [esim, Bool.and_eq_true] at h
    obtain ⟨⟨h1, h2, h3⟩, h4⟩ := h
    cases hm with
    | cons e t =>
      have k1 := veq_eq h1
      have k3 := Nat.eq_of_beq_eq_true h3
      exact .cons ⟨e.key.trans k1.symm, by rw [k1]; exact e.kflat, vsim_spec h2 _ _ _ e.val, e.born.trans k3.symm⟩ (esim_spec h4 t)
noncomputable def osim (ρ : Nat → Option Nat) (n : Nat) : AObj → AObj → Bool
  | .cells a x, .cells b y => Nat.beq x y && veqL (vsim ρ n) a b
  | .map a x, .map b y => Nat.beq x y && esim ρ n a b
  | _, _ => false
theorem veqL_get {f : Value → Value → Bool} : ∀ {a b : List Value}, veqL f a b = true → a.length = b.length ∧ ∀ {i : Nat} {v : Value}, a[i]? = some v → ∃ u, b[i]? = some u ∧ f v u = true
  | [], [], _ => ⟨rfl, fun {i v} h => by simp at h⟩
  | [], _ :: _, h => by cases h
  | _ :: _, [], h => by cases h
  | a :: l, b :: m, h => by
    simp only [veqL, Bool.and_eq_true] at h
    obtain ⟨h1, h2⟩ := h
    obtain ⟨e, g⟩ := veqL_get h2
    refine ⟨by simp [e], fun {i v} hv => ?_⟩
    cases i with
    | zero => simp at hv; subst hv; exact ⟨b, rfl, h1⟩
    | succ i => simpa using g (i := i) (by simpa using hv)
theorem osim_spec {ρ : Nat → Option Nat} {n : Nat} {o p : AObj} (h : osim ρ n o p = true) {μ : Emb} {k : Nat} {e : Ent} {c : Obj} (hO : ORel μ k e c p) : ORel (fun r => (ρ r).bind μ) n e c o ∧ o.own = p.own := by
  unfold osim at h
  split at h
  · simp only [Bool.and_eq_true] at h
    obtain ⟨h1, h2⟩ := h
    obtain rfl := Nat.eq_of_beq_eq_true h1
    obtain ⟨hs, cs, t, fz, rfl, c1, c2, c3, c4⟩ := hO
    obtain ⟨g1, g2⟩ := veqL_get h2
    refine ⟨⟨hs, cs, t, fz, rfl, by omega, c2, c3, fun i v hv => ?_⟩, rfl⟩
    obtain ⟨u, hu, hvu⟩ := g2 hv
    obtain ⟨v', k1, k2⟩ := c4 i u hu
    exact ⟨v', k1, vsim_spec hvu _ _ _ k2⟩
  · simp only [Bool.and_eq_true] at h
    obtain ⟨h1, h2⟩ := h
    obtain rfl := Nat.eq_of_beq_eq_true h1
    obtain ⟨hd, ms, rfl, hm⟩ := hO
    exact ⟨⟨hd, ms, rfl, esim_spec h2 hm⟩, rfl⟩
  · cases h
structure Fits (g h m : AHeap) (v u : Value) (y : AHeap) (ρ : Nat → Option Nat) : Prop where
  next : h.next ≤ m.next
  val : VSim ρ m.next v u
  old : ∀ r, r < h.next → ρ r = some r
  inj : ∀ r q s, ρ r = some s → ρ q = some s → r = q
  new : ∀ r s, h.next ≤ r → ρ r = some s → h.next ≤ s
  rows : ∀ r o, m.get r = some o → (h.get r = some o ∧ g.get r = none) ∨ ∃ s p, ρ r = some s ∧ y.get s = some p ∧ r < m.next ∧ osim ρ m.next o p = true
theorem FWp.fits {P : Program} {f : FuncId} {args : List Value} {g h : AHeap} (hg : ∀ r o, g.get r = some o → h.get r = some o) (hn : g.next = h.next) {K : Value → AHeap → Prop}
    (hf : FWp P f args g fun u y => ∃ v m ρ, K v m ∧ Fits g h m v u y ρ) : FWp P f args h K := by
  intro μ args' w hl st
  have xg : Ext μ h w μ g w := Ext.drop st hg hn
  refine (hf μ args' w (by rw [hn]; exact hl) xg.st).mono ?_
  rintro e w' ⟨u, v', y, μ', rfl, ⟨v, m, ρ, hK, F⟩, x, hr⟩
  obtain ⟨f1, f2, f3, f4, f5, f6⟩ := F
  have agr : ∀ r, r < h.next → ((ρ r).bind μ') = μ r := fun r hr => by rw [f3 r hr]; exact x.agree r (by rw [hn]; exact hr)
  refine ⟨v, v', m, fun r => (ρ r).bind μ', rfl, hK, ⟨f1, fun r hr => agr r hr, x.size, x.os, x.output, fun b hb hown => ?_, fun b hb hown => ?_, ?_, ?_⟩, f2 _ _ _ hr⟩
  · obtain ⟨x1, x2⟩ := x.frame b hb fun r o e hr ho hm => hown r o e (hg r o hr) ho hm
    refine ⟨x1, fun r o e hr ho hm => ?_⟩
    rcases f6 r o hr with ⟨h1, _⟩ | ⟨s, p, h1, h2, h3, h4⟩
    · have hlt := (st.live r o h1).1
      rw [agr r hlt] at hm
      exact hown r o e h1 ho hm
    · rw [h1] at hm
      obtain ⟨_, e', c', k1, k2, k3⟩ := x.st.live s p h2
      have := (osim_spec h4 k3).2
      exact x2 s p e h2 (by rw [← this]; exact ho) hm
  · have x2 := x.free b hb fun r o e hr hm => hown r o e (hg r o hr) hm
    intro r o e hr hm
    rcases f6 r o hr with ⟨h1, _⟩ | ⟨s, p, h1, h2, h3, h4⟩
    · have hlt := (st.live r o h1).1
      rw [agr r hlt] at hm
      exact hown r o e h1 hm
    · rw [h1] at hm
      exact x2 s p e h2 hm
  · intro r o hr
    rcases f6 r o hr with ⟨h1, h2⟩ | ⟨s, p, h1, h2, h3, h4⟩
    · obtain ⟨lt, e, c, k1, k2, k3⟩ := st.live r o h1
      refine ⟨by omega, e, c, by rw [agr r lt]; exact k1, ?_, k3.mono (fun q hq => agr q hq) f1⟩
      rw [← k2]
      refine (x.frame e.b (lt_of_heap k2) fun q p f hq hp hm hb => ?_).1
      have := st.apart q r p o f e (hg q p hq) hp h1 hm k1 hb
      subst this
      rw [h2] at hq; cases hq
    · obtain ⟨lt, e, c, k1, k2, k3⟩ := x.st.live s p h2
      exact ⟨h3, e, c, by rw [h1]; exact k1, k2, (osim_spec h4 k3).1⟩
  · intro r q o p e f hr ho hq hmr hmq hb
    rcases f6 r o hr with ⟨r1, r2⟩ | ⟨s, p1, r1, r2, r3, r4⟩ <;> rcases f6 q p hq with ⟨q1, q2⟩ | ⟨t, p2, q1, q2, q3, q4⟩
    · rw [agr r (st.live r o r1).1] at hmr
      rw [agr q (st.live q p q1).1] at hmq
      exact st.apart r q o p e f r1 ho q1 hmr hmq hb
    · exfalso
      rw [agr r (st.live r o r1).1] at hmr
      rw [q1] at hmq
      obtain ⟨_, e', c, k1, k2, _⟩ := st.live r o r1
      rw [hmr] at k1; cases k1
      refine x.free e.b (lt_of_heap k2) (fun a pa fa ha hma hba => ?_) t p2 f q2 hmq hb.symm
      have := st.apart r a o pa e fa r1 ho (hg a pa ha) hmr hma hba.symm
      subst this
      rw [r2] at ha; cases ha
    · exfalso
      rw [agr q (st.live q p q1).1] at hmq
      rw [r1] at hmr
      obtain ⟨_, e', c, k1, k2, _⟩ := st.live q p q1
      rw [hmq] at k1; cases k1
      obtain ⟨_, e2, c2, z1, z2, z3⟩ := x.st.live s p1 r2
      have how := (osim_spec r4 z3).2
      refine (x.frame f.b (lt_of_heap k2) fun a pa fa ha hoa hma hba => ?_).2 s p1 e r2 (by rw [← how]; exact ho) hmr hb
      have := st.apart a q pa p fa f (hg a pa ha) hoa q1 hma hmq hba
      subst this
      rw [q2] at ha; cases ha
    · rw [r1] at hmr
      rw [q1] at hmq
      obtain ⟨_, e2, c2, z1, z2, z3⟩ := x.st.live s p1 r2
      have how := (osim_spec r4 z3).2
      have := x.st.apart s t p1 p2 e f r2 (by rw [← how]; exact ho) q2 hmr hmq hb
      subst this
      exact f4 r q s r1 q1
noncomputable abbrev Prs := List (Nat × Nat)
noncomputable def pr1 : Value → Value → Prs
  | .pointer (some ⟨r, _, _⟩), .pointer (some ⟨s, _, _⟩) => [(r, s)]
  | .slice (some ⟨r, _, _⟩) _ _, .slice (some ⟨s, _, _⟩) _ _ => [(r, s)]
  | .map (some r), .map (some s) => [(r, s)]
  | _, _ => []
noncomputable def prL (f : Value → Value → Prs) : List Value → List Value → Prs
  | a :: l, b :: m => f a b ++ prL f l m
  | _, _ => []
noncomputable def prUp (g : Value → Value → Prs) : Value → Value → Prs
  | .agg a, .agg b => prL g a.toList b.toList
  | .tuple a, .tuple b => prL g a.toList b.toList
  | .func _ a c, .func _ b d => prL g a.toList b.toList ++ prL g c.toList d.toList
  | .iface _ v, .iface _ w => g v w
  | a, b => pr1 a b
noncomputable def pr : Value → Value → Prs := prUp (prUp (prUp pr1))
noncomputable def prE : List AEnt → List AEnt → Prs
  | a :: l, b :: m => pr a.val b.val ++ prE l m
  | _, _ => []
noncomputable def prO : AObj → AObj → Prs
  | .cells a _, .cells b _ => prL pr a b
  | .map a _, .map b _ => prE a b
  | _, _ => []
noncomputable def hasP (r : Nat) : Prs → Bool
  | [] => false
  | x :: l => bif Nat.beq x.1 r then true else hasP r l
noncomputable def atP (r : Nat) : Prs → Option Nat
  | [] => none
  | x :: l => bif Nat.beq x.1 r then some x.2 else atP r l
noncomputable def closeP (h y : AHeap) : Nat → Prs → Prs → Prs
  | 0, _, L => L
  | _ + 1, [], L => L
  | n + 1, (r, s) :: w, L => bif hasP r L then closeP h y n w L else match h.get r, y.get s with
    | some o, some p => closeP h y n (prO o p ++ w) ((r, s) :: L)
    | _, _ => closeP h y n w ((r, s) :: L)
noncomputable def rowsAt (y : AHeap) : Prs → List (Nat × AObj)
  | [] => []
  | (r, _) :: l => match y.get r with
    | some o => (r, o) :: rowsAt y l
    | none => rowsAt y l
theorem rowsAt_get {y : AHeap} : ∀ {l : Prs} {r : Nat} {o : AObj}, (r, o) ∈ rowsAt y l → y.get r = some o
  | [], r, o, h => by cases h
  | (q, s) :: l, r, o, h => by
    simp only [rowsAt] at h
    split at h
    · rename_i p hp
      cases h with
      | head => exact hp
      | tail _ h => exact rowsAt_get h
    · exact rowsAt_get h
structure Cls where
  v : Value
  R : List (Nat × AObj)
  n : Nat
noncomputable def idP (rs : List (Nat × AObj)) : Prs := rs.map fun x => (x.1, x.1)
noncomputable def mkCls (gl : List (Nat × AObj)) (x : Value × AHeap) : Cls := ⟨x.1, rowsAt x.2 (closeP x.2 x.2 100000 (pr x.1 x.1 ++ idP gl) []), x.2.next⟩
noncomputable def rhoP (n : Nat) (L : Prs) (r : Nat) : Option Nat := bif Nat.ble (r + 1) n then some r else atP r L
noncomputable def okP (n : Nat) : Prs → Bool
  | [] => true
  | (r, s) :: l => (Nat.ble (r + 1) n || (Nat.ble n s && l.all (fun x => Nat.ble (x.1 + 1) n || !Nat.beq x.2 s))) && okP n l
noncomputable def rowFit (ρ : Nat → Option Nat) (n : Nat) (y : AHeap) (x : Nat × AObj) : Bool :=
  Nat.ble (x.1 + 1) n && (match ρ x.1 with
    | some s => (match y.get s with
      | some p => osim ρ n x.2 p
      | none => false)
    | none => false)
noncomputable def fitB (h : AHeap) (gl : List (Nat × AObj)) (c : Cls) (x : Value × AHeap) : Bool :=
  fitL h c x (closeP ⟨c.n, rowsT c.R⟩ x.2 100000 (pr c.v x.1 ++ idP gl) [])
where fitL (h : AHeap) (c : Cls) (x : Value × AHeap) (L : Prs) : Bool :=
  (Nat.ble h.next c.n && okP h.next L) && (vsim (rhoP h.next L) c.n c.v x.1 && c.R.all (rowFit (rhoP h.next L) c.n x.2))
theorem atP_mem {r s : Nat} : ∀ {L : Prs}, atP r L = some s → (r, s) ∈ L
  | (q, t) :: L, h => by
    simp only [atP] at h
    cases hb : Nat.beq q r
    · rw [hb, cond_false] at h; exact List.mem_cons_of_mem _ (atP_mem h)
    · rw [hb, cond_true] at h
      obtain rfl := Nat.eq_of_beq_eq_true hb
      cases h; exact List.mem_cons_self
theorem okP_new {n : Nat} : ∀ {L : Prs}, okP n L = true → ∀ r s, (r, s) ∈ L → n ≤ r → n ≤ s
  | (q, t) :: L, h, r, s, hm, hr => by
    simp only [okP, Bool.and_eq_true, Bool.or_eq_true] at h
    cases hm with
    | head =>
      rcases h.1 with h1 | h1
      · have := Nat.le_of_ble_eq_true h1; omega
      · exact Nat.le_of_ble_eq_true h1.1
    | tail _ hm => exact okP_new h.2 r s hm hr
theorem okP_inj {n : Nat} : ∀ {L : Prs}, okP n L = true → ∀ r q s, n ≤ r → n ≤ q → (r, s) ∈ L → (q, s) ∈ L → r = q
  | (a, t) :: L, h, r, q, s, hr, hq, h1, h2 => by
    simp only [okP, Bool.and_eq_true, Bool.or_eq_true, List.all_eq_true] at h
    have key : ∀ b, n ≤ a → n ≤ b → (b, t) ∈ L → False := by
      intro b ha hb hm
      rcases h.1 with h3 | ⟨_, h4⟩
      · have := Nat.le_of_ble_eq_true h3; omega
      · rcases h4 _ hm with h5 | h5
        · have := Nat.le_of_ble_eq_true h5; simp only at this; omega
        · simp at h5
    cases h1 with
    | head => cases h2 with
      | head => rfl
      | tail _ h2 => exact (key q hr hq h2).elim
    | tail _ h1 => cases h2 with
      | head => exact (key r hq hr h1).elim
      | tail _ h2 => exact okP_inj h.2 r q s hr hq h1 h2
noncomputable def dropR : List (Nat × AObj) → Tr AObj → Tr AObj
  | [], t => t
  | (r, _) :: l, t => (dropR l t).put r none
noncomputable def addR : List (Nat × AObj) → Tr AObj → Tr AObj
  | [], t => t
  | (r, o) :: l, t => (addR l t).put r (some o)
noncomputable def outH (h : AHeap) (gl : List (Nat × AObj)) (c : Cls) : AHeap := ⟨c.n, addR c.R (dropR gl h.rows)⟩
theorem addR_get : ∀ {l : List (Nat × AObj)} {t : Tr AObj} {r : Nat} {o : AObj}, (addR l t).get r = some o → (r, o) ∈ l ∨ t.get r = some o
  | [], t, r, o, h => .inr h
  | (q, p) :: l, t, r, o, h => by
    simp only [addR, Tr.get_put] at h
    split at h
    · rename_i e; subst e; cases h; exact .inl List.mem_cons_self
    · exact (addR_get h).imp (List.mem_cons_of_mem _) id
theorem dropR_get : ∀ {l : List (Nat × AObj)} {t : Tr AObj} {r : Nat} {o : AObj}, (dropR l t).get r = some o → t.get r = some o ∧ ∀ p, (r, p) ∉ l
  | [], t, r, o, h => ⟨h, fun _ hm => by cases hm⟩
  | (q, p) :: l, t, r, o, h => by
    simp only [dropR, Tr.get_put] at h
    split at h
    · cases h
    · rename_i e
      obtain ⟨h1, h2⟩ := dropR_get h
      refine ⟨h1, fun p2 hm => ?_⟩
      cases hm with
      | head => exact e rfl
      | tail _ hm => exact h2 p2 hm
theorem fitB_spec {h : AHeap} {gl : List (Nat × AObj)} {c : Cls} {x : Value × AHeap} (hb : fitB h gl c x = true) : ∃ ρ, Fits (mkH h.next gl) h (outH h gl c) c.v x.1 x.2 ρ := by
  unfold fitB fitB.fitL at hb
  obtain ⟨L, hL⟩ : ∃ L, L = closeP ⟨c.n, rowsT c.R⟩ x.2 100000 (pr c.v x.1 ++ idP gl) [] := ⟨_, rfl⟩
  rw [← hL] at hb
  simp only [Bool.and_eq_true, List.all_eq_true] at hb
  obtain ⟨⟨b1, b2⟩, b3, b4⟩ := hb
  have rho : ∀ {r s : Nat}, rhoP h.next L r = some s → (r < h.next ∧ s = r) ∨ (h.next ≤ r ∧ (r, s) ∈ L) := by
    intro r s hr
    unfold rhoP at hr
    cases hn : Nat.ble (r + 1) h.next
    · rw [hn, cond_false] at hr
      refine .inr ⟨?_, atP_mem hr⟩
      rcases Nat.lt_or_ge r h.next with h1 | h1
      · have := Nat.ble_eq_true_of_le (Nat.succ_le_of_lt h1); rw [hn] at this; cases this
      · exact h1
    · rw [hn, cond_true] at hr
      exact .inl ⟨Nat.le_of_ble_eq_true hn, by cases hr; rfl⟩
  refine ⟨rhoP h.next L, Nat.le_of_ble_eq_true b1, vsim_spec b3, fun r hr => ?_, fun r q s h1 h2 => ?_, fun r s hr h1 => ?_, fun r o hr => ?_⟩
  · unfold rhoP; rw [Nat.ble_eq_true_of_le (Nat.succ_le_of_lt hr)]; rfl
  · rcases rho h1 with ⟨a1, a2⟩ | ⟨a1, a2⟩ <;> rcases rho h2 with ⟨c1, c2⟩ | ⟨c1, c2⟩
    · omega
    · have := okP_new b2 q s c2 c1; omega
    · have := okP_new b2 r s a2 a1; omega
    · exact okP_inj b2 r q s a1 c1 a2 c2
  · rcases rho h1 with ⟨a1, a2⟩ | ⟨a1, a2⟩
    · omega
    · exact okP_new b2 r s a2 a1
  · have hr : (addR c.R (dropR gl h.rows)).get r = some o := hr
    rcases addR_get hr with h1 | h1
    · have := b4 _ h1
      simp only [rowFit, Bool.and_eq_true] at this
      obtain ⟨k1, k2⟩ := this
      split at k2
      · rename_i s hs
        split at k2
        · rename_i p hp
          exact .inr ⟨s, p, hs, hp, Nat.le_of_ble_eq_true k1, k2⟩
        · cases k2
      · cases k2
    · obtain ⟨k1, k2⟩ := dropR_get h1
      refine .inl ⟨k1, ?_⟩
      cases hg : (mkH h.next gl).get r with
      | none => rfl
      | some p => exact (k2 p (mkH_get hg)).elim
noncomputable def addC (h : AHeap) (gl : List (Nat × AObj)) (cs : List Cls) (x : Value × AHeap) : List Cls := bif cs.any (fun c => fitB h gl c x) then cs else mkCls gl x :: cs
noncomputable def localR (h : AHeap) (gl : List (Nat × AObj)) (outs : VOuts) (cs : List Cls) : Option VOuts :=
  bif outs.all (fun x => cs.any fun c => fitB h gl c x) then some (cs.map fun c => (c.v, outH h gl c)) else none
noncomputable def localL (E : Env) (call : CallV) (callL : CallL) (n : Nat) (f : FuncId) (args : List Value) (h : AHeap) : Option VOuts :=
  localG E call callL n f args h (rowsAt h (closeP h h 100000 (prL pr args args) []))
where localG (E : Env) (call : CallV) (callL : CallL) (n : Nat) (f : FuncId) (args : List Value) (h : AHeap) (gl : List (Nat × AObj)) : Option VOuts :=
  match lFun E call callL n f args (mkH h.next gl) with
  | some outs => localR h gl outs (outs.foldl (addC h gl) [])
  | none => none
noncomputable def mCall (E : Env) (call : CallV) (X B : List FuncId) (n : Nat) : Nat → CallL
  | 0 => cloneL call X
  | d + 1 => fun fv vs h => match fv with
    | .func (.func f) first cap => bif B.any (Nat.beq f) then localL E call (mCall E call X B n d) n f (first.toList ++ vs ++ cap.toList) h else cloneL call X fv vs h
    | _ => cloneL call X fv vs h
section
variable {E : Env} (ok : EnvOK E) {call : CallV} (hv : VSound E.P call)
include ok hv
theorem localL_sound {callL : CallL} (hl : LSound E.P callL) {n : Nat} {f : FuncId} {args : List Value} {h : AHeap} {outs : VOuts} (he : localL E call callL n f args h = some outs) : (∃ fn, Entered E.P f fn) ∧ FWp E.P f args h fun x y => (x, y) ∈ outs := by
  unfold localL localL.localG at he
  obtain ⟨gl, hgl⟩ : ∃ gl, gl = rowsAt h (closeP h h 100000 (prL pr args args) []) := ⟨_, rfl⟩
  rw [← hgl] at he
  split at he
  · rename_i os hos
    obtain ⟨h1, h2⟩ := lFun_sound ok hv hl hos
    refine ⟨h1, ?_⟩
    unfold localR at he
    cases hb : os.all (fun x => (os.foldl (addC h gl) []).any fun c => fitB h gl c x)
    · rw [hb, cond_false] at he; cases he
    · rw [hb, cond_true] at he
      cases he
      have hsub : ∀ r o, (mkH h.next gl).get r = some o → h.get r = some o := fun r o hr => by have hm := mkH_get hr; rw [hgl] at hm; exact rowsAt_get hm
      refine FWp.fits (g := mkH h.next gl) (h := h) hsub rfl (h2.mono fun u y hm => ?_)
      obtain ⟨c, hc, hfit⟩ := List.any_eq_true.1 (List.all_eq_true.1 hb (u, y) hm)
      obtain ⟨ρ, F⟩ := fitB_spec hfit
      exact ⟨c.v, outH h gl c, ρ, List.mem_map.2 ⟨c, hc, rfl⟩, F⟩
  · cases he
theorem mCall_sound {X : List FuncId} (hX : XOK E.P X) (B : List FuncId) (n : Nat) : ∀ d, LSound E.P (mCall E call X B n d)
  | 0 => cloneL_sound hv hX
  | d + 1 => by
    intro fv vs h outs he
    simp only [mCall] at he
    split at he
    · rename_i f first cap
      cases hb : B.any (Nat.beq f)
      · rw [hb, cond_false] at he; exact cloneL_sound hv hX _ _ _ _ he
      · rw [hb, cond_true] at he
        obtain ⟨⟨fn, h1⟩, h2⟩ := localL_sound ok hv (mCall_sound hX B n d) he
        exact VWp.func h1 h2
    · exact cloneL_sound hv hX _ _ _ _ he
end
noncomputable def mS (E : Env) (n : Nat) (X B : List FuncId) (d : Nat) (f : FuncId) (args : List Value) (h : AHeap) : ZV :=
  bif B.any (Nat.beq f) then (match localL E (evZ E n) (mCall E (evZ E n) X B 1000 d) 1000 f args h with
    | some [r] => some r
    | _ => none) else E.S f args h
noncomputable def envM (E : Env) (n : Nat) (X B : List FuncId) (d : Nat) : Env := { E with S := mS E n X B d }
end Go.Ab.Nx.Mx
namespace Go.Ab.Nx.Dx
open Go.Ab Go.Ab.Nx Go.Ab.Nx.Zx
set_option linter.unusedSimpArgs false
set_option linter.unusedVariables false
noncomputable def PWp (P : Program) (cx : Cx) (c : Code) (a : Tr Value) (h : AHeap) (K : Tr Value → Value → AHeap → Prop) : Prop :=
  ∀ (μ : Emb) (base : Bs) (tmps : Array Value) (defers : List Deferred) (rd : RK) (w : World) (k : List Item) (cs : List Frame), Pre μ base cx a h tmps defers rd w →
    ∃ pv a' h' μ' tmps' defers' todo w', K a' pv h' ∧ ActRel μ' h'.next a' tmps' ∧ Ext μ h w μ' h' w' ∧ DOk base.D μ' h' w' defers' ∧ (∀ d ∈ defers', ∀ q, d.target = .collected q → base.n ≤ q) ∧
      Steps P (lone (frame cx.fn rd tmps defers (.code c :: k)) cs w) (lone { frame cx.fn rd tmps' defers' todo with mode := .panicking (pe pv) } cs w')
noncomputable def POp (P : Program) (cx : Cx) (ops : Array Oper) (l : List Nat) (a : Tr Value) (h : AHeap) (K : Tr Value → Value → AHeap → Prop) : Prop :=
  ∀ (μ : Emb) (base : Bs) (tmps : Array Value) (defers : List Deferred) (rd : RK) (w : World) (k : List Item) (cs : List Frame), Pre μ base cx a h tmps defers rd w →
    ∃ pv a' h' μ' tmps' defers' todo w', K a' pv h' ∧ ActRel μ' h'.next a' tmps' ∧ Ext μ h w μ' h' w' ∧ DOk base.D μ' h' w' defers' ∧ (∀ d ∈ defers', ∀ q, d.target = .collected q → base.n ≤ q) ∧
      Steps P (lone (frame cx.fn rd tmps defers (.inRegion ops l :: k)) cs w) (lone { frame cx.fn rd tmps' defers' todo with mode := .panicking (pe pv) } cs w')
section
variable {P : Program} {T : Tr TI} {cx : Cx} {a : Tr Value} {h : AHeap} {K : Tr Value → Value → AHeap → Prop}
theorem PWp.seqL {x y : Code} (hx : PWp P cx x a h K) : PWp P cx (.seq x y) a h K := by
  intro μ base tmps defers rd w k cs p
  obtain ⟨pv, a', h', μ', t', d', todo, w', q, q1, q2, q3, q4, q5⟩ := hx μ base tmps defers rd w (.code y :: k) cs p
  exact ⟨pv, a', h', μ', t', d', todo, w', q, q1, q2, q3, q4, .head st_seq q5⟩
theorem PWp.seqR {x y : Code} (hx : CWp P cx x a h fun e a' h' => match e with | .normal => PWp P cx y a' h' K | _ => False) : PWp P cx (.seq x y) a h K := by
  intro μ base tmps defers rd w k cs p
  obtain ⟨e, a1, h1, μ1, t1, d1, w1, q, p1, x1, arr⟩ := hx μ base tmps defers rd w (.code y :: k) cs p
  cases e with
  | exit i => exact q.elim
  | ret => exact q.elim
  | normal =>
    obtain ⟨pv, a', h', μ', t', d', todo, w', q, q1, q2, q3, q4, q5⟩ := q μ1 base t1 d1 rd w1 k cs p1
    exact ⟨pv, a', h', μ', t', d', todo, w', q, q1, x1.trans q2, q3, q4, .head st_seq (Steps.trans arr q5)⟩
theorem PWp.cond {c : Operand} {x y : Code} {t : Bool} (hc : aopnd a c = some (.bool t)) (hb : PWp P cx (if t then x else y) a h K) : PWp P cx (.cond c x y) a h K := by
  intro μ base tmps defers rd w k cs p
  have hv : opnd tmps c = .bool t := by have := p.act.opnd c _ hc; cases hx : opnd tmps c <;> rw [hx] at this <;> cases this; rfl
  obtain ⟨pv, a', h', μ', t', d', todo, w', q, q1, q2, q3, q4, q5⟩ := hb μ base tmps defers rd w k cs p
  exact ⟨pv, a', h', μ', t', d', todo, w', q, q1, q2, q3, q4, .head (st_cond hv) q5⟩
theorem PWp.block {id : Nat} {c : Code} (hb : PWp P cx c a h K) : PWp P cx (.block id c) a h K := by
  intro μ base tmps defers rd w k cs p
  obtain ⟨pv, a', h', μ', t', d', todo, w', q, q1, q2, q3, q4, q5⟩ := hb μ base tmps defers rd w (.inBlock id :: k) cs p
  exact ⟨pv, a', h', μ', t', d', todo, w', q, q1, q2, q3, q4, .head st_block q5⟩
theorem PWp.scope {c : Code} (hb : PWp P cx c a h K) : PWp P cx (.scope c) a h K := by
  intro μ base tmps defers rd w k cs p
  obtain ⟨pv, a', h', μ', t', d', todo, w', q, q1, q2, q3, q4, q5⟩ := hb μ base tmps defers rd w (.inScope c :: k) cs p
  exact ⟨pv, a', h', μ', t', d', todo, w', q, q1, q2, q3, q4, .head st_scope q5⟩
theorem PWp.region {id : Nat} {ops : Array Oper} (hb : POp P cx ops (List.range ops.size) a h K) : PWp P cx (.region id ops false) a h K := by
  intro μ base tmps defers rd w k cs p
  obtain ⟨pv, a', h', μ', t', d', todo, w', q, q1, q2, q3, q4, q5⟩ := hb μ base tmps defers rd w k cs p
  exact ⟨pv, a', h', μ', t', d', todo, w', q, q1, q2, q3, q4, .head st_region q5⟩
theorem POp.skip {ops : Array Oper} {i : Nat} {rest : List Nat} {o : Oper} {a' : Tr Value} (ho : ops[i]? = some o) (hg : aguard ops a o = some false) (hp : aput cx.nt a o.dst (.tuple #[]) = some a') (hr : POp P cx ops rest a' h K) : POp P cx ops (i :: rest) a h K := by
  intro μ base tmps defers rd w k cs p
  have hw := aguard_wanted p.act hg
  obtain ⟨r1, r2⟩ := p.act.put p.size (v := .tuple #[]) (v' := undef) (.tuple .nil) hp
  have hst := st_op_skip (P := P) (fn := cx.fn) (rd := rd) (tmps := tmps) (defers := defers) (k := k) (cs := cs) (w := w) (ops := ops) (i := i) (rest := rest) (by simp [ho, hw])
  rw [ho] at hst
  obtain ⟨pv, a', h', μ', t', d', todo, w', q, q1, q2, q3, q4, q5⟩ := hr μ base _ defers rd w k cs ⟨r1, r2, p.rdr, p.dok, p.dno, p.dge, p.bsz, p.st⟩
  exact ⟨pv, a', h', μ', t', d', todo, w', q, q1, q2, q3, q4, .head hst q5⟩
theorem POp.op {ops : Array Oper} {i : Nat} {rest : List Nat} {o : Oper} (ho : ops[i]? = some o) (hg : aguard ops a o = some true) (hd : isDefer o.op = false)
    (hop : OpWp P o (aopnd a) h fun v h' => ∃ a', aput cx.nt a o.dst v = some a' ∧ POp P cx ops rest a' h' K) : POp P cx ops (i :: rest) a h K := by
  intro μ base tmps defers rd w k cs p
  have hw := aguard_wanted p.act hg
  obtain ⟨nx, w1, m, v, v', h', μ', w', e1, e2, e3, ⟨a', e4, e5⟩, e6, e7⟩ := hop μ (opnd tmps) w (frame cx.fn rd tmps defers (.inRegion ops (i :: rest) :: k)) cs p.act.opnd p.st
  have p' := p.ext e6
  obtain ⟨r1, r2⟩ := p'.act.put p'.size e7 e4
  rw [finish_region, ho] at e3
  have hs := Steps.head (st_op_push ho hw hd e1 e2) e3
  obtain ⟨pv, a', h', μ', t', d', todo, w', q, q1, q2, q3, q4, q5⟩ := e5 μ' base _ defers rd w' k cs ⟨r1, r2, p'.rdr, p'.dok, p'.dno, p'.dge, p'.bsz, p'.st⟩
  exact ⟨pv, a', h', μ', t', d', todo, w', q, q1, e6.trans q2, q3, q4, hs.trans q5⟩
theorem POp.raise {ops : Array Oper} {i : Nat} {rest : List Nat} {o : Oper} (ho : ops[i]? = some o) (hg : aguard ops a o = some true) (hd : isDefer o.op = false)
    (hop : OpWpP P o (aopnd a) h (fun _ _ => False) fun pv h' => K a pv h') : POp P cx ops (i :: rest) a h K := by
  intro μ base tmps defers rd w k cs p
  have hw := aguard_wanted p.act hg
  rcases hop μ (opnd tmps) w (frame cx.fn rd tmps defers (.inRegion ops (i :: rest) :: k)) cs p.act.opnd p.st with ⟨nx, w1, m, e1, e2, ⟨v, v', h', μ', w', e3, e4, e6, e7⟩ | ⟨pv, h', μ', w', e3, e4, e5⟩⟩ | ⟨pv, e1, e2⟩
  · exact e4.elim
  · have p' := p.ext e5
    exact ⟨pv, a, h', μ', tmps, defers, _, w', e4, p'.act, e5, p'.dok, p'.dge, Steps.head (st_op_push ho hw hd e1 e2) e3⟩
  · exact ⟨pv, a, h, μ, tmps, defers, _, w, e2, p.act, Ext.refl p.st, p.dok, p.dge, .one (st_op_raise ho hw hd e1)⟩
theorem PWp.fn {f : FuncId} {fn : Func} {c : Code} {args : List Value} {J : Value → AHeap → Prop} (hf : P.funcs[f]? = some fn) (hb : fn.body = some c) (hn : args.length ≤ fn.ntmps)
    (hc : PWp P ⟨f, fn.ntmps, none⟩ c (entry args 0 .leaf) h fun _ pv h' => J pv h') : FWpP P f args h (fun _ _ => False) J := by
  intro μ args' w hl st cs
  have hlen := hl.length
  simp only [Array.length_toList] at hlen
  have hsz : (args' ++ Array.replicate (fn.ntmps - args'.size) undef).size = fn.ntmps := by simp; omega
  obtain ⟨pv, a', h', μ', t', d', todo, w', q, q1, q2, q3, q4, q5⟩ := hc μ ⟨w.heap.size, []⟩ _ [] ⟨none, false⟩ w [] cs ⟨entry_act2 hl, hsz, trivial, .nil (fun _ hd => by cases hd), fun _ => rfl, fun d hd => (by cases hd), Nat.le_refl _, st⟩
  have henter : Frame.enter P f args' .normal = frame f ⟨none, false⟩ (args' ++ Array.replicate (fn.ntmps - args'.size) undef) [] [.code c] := by simp [Frame.enter, frame, RK.kind, hf, hb]
  rw [henter]
  obtain ⟨w2, g1, g2, g3, g4, g5, g6⟩ := take_marksP (P := P) (chain := pe pv) (fn := f) (rd := ⟨none, false⟩) (tmps := t') (todo := todo) (cs := cs) q2.st q3
  exact ⟨.panicked (pe pv), w2, { frame f ⟨none, false⟩ t' [] todo with mode := .panicking (pe pv) }, .inr ⟨pv, h', μ', rfl, q, ext_marks q2 q4 g2 g3 g4 g5 fun b hb => g6 b (.inl hb)⟩, Steps.trans q5 g1, rfl, rfl, rfl, fn, hf⟩
noncomputable def DefP (P : Program) (g : FuncId) (caps : List Value) (h : AHeap) (pv : Value) (K : AHeap → Prop) : Prop :=
  ∀ (μ : Emb) (caps' : Array Value) (w : World), LRel μ h.next caps caps'.toList → StRel μ h w → ∀ (c : Frame) (cs : List Frame), c.mode = .panicking (pe pv) →
    ∃ v h' μ' w' fr, K h' ∧ Ext μ h w μ' h' w' ∧ Steps P (lone (Frame.enter P g caps' .deferred) (c :: cs) w) (lone fr ({ c with mode := .panicking [{ v := pv, recovered := true }] } :: cs) w') ∧ fr.kind = .deferred ∧ fr.going P w' (.returned v)
theorem DefP.recover {g : FuncId} {fg : Func} {caps : List Value} {K : AHeap → Prop} {id : Nat} {t5 t2 : Nat} {ats : Array TypeId} {ty ty2 : TypeId} {pos pos2 : String} {af af2 : Array Edge} {Z : Code} {t : TypeId} {u : Value} (hu2 : flat u = true)
    (hf : P.funcs[g]? = some fg) (hb : fg.body = some (.seq (.region id #[⟨some t5, .call ⟨.builtin .recover, #[], ats⟩, ty, pos, af, none⟩, ⟨some t2, .assign (.tmp t5), ty2, pos2, af2, none⟩] false) Z)) (hres : fg.results = #[]) (hn : caps.length ≤ fg.ntmps) (h5 : t5 < fg.ntmps) (h2 : t2 < fg.ntmps)
    (hc : CWp P ⟨g, fg.ntmps, none⟩ Z (((entry caps 0 .leaf).put t5 (some (.iface t u))).put t2 (some (.iface t u))) h fun e _ h' => (∀ i, e ≠ .exit i) ∧ K h') : DefP P g caps h (.iface t u) K := by
  intro μ caps' w hl st c cs hu
  have hlen := hl.length
  simp only [Array.length_toList] at hlen
  obtain ⟨tm, htm⟩ : ∃ tm, tm = caps' ++ Array.replicate (fg.ntmps - caps'.size) undef := ⟨_, rfl⟩
  have hsz : tm.size = fg.ntmps := by rw [htm]; simp; omega
  have hact : ActRel μ h.next (entry caps 0 .leaf) tm := by rw [htm]; exact entry_act2 hl
  obtain ⟨R, hR⟩ : ∃ R : Array Oper, R = #[⟨some t5, .call ⟨.builtin .recover, #[], ats⟩, ty, pos, af, none⟩, ⟨some t2, .assign (.tmp t5), ty2, pos2, af2, none⟩] := ⟨_, rfl⟩
  have henter : Frame.enter P g caps' .deferred = frame g ⟨none, true⟩ tm [] [.code (.seq (.region id R false) Z)] := by simp [Frame.enter, frame, RK.kind, hf, hb, htm, hR]
  have o0 : R[0]? = some ⟨some t5, .call ⟨.builtin .recover, #[], ats⟩, ty, pos, af, none⟩ := by rw [hR]; rfl
  have o1 : R[1]? = some ⟨some t2, .assign (.tmp t5), ty2, pos2, af2, none⟩ := by rw [hR]; rfl
  obtain ⟨c', hc'⟩ : ∃ c' : Frame, c' = { c with mode := .panicking [{ v := .iface t u, recovered := true }] } := ⟨_, rfl⟩
  have s1 : step P (lone (frame g ⟨none, true⟩ tm [] (.inRegion R [0, 1] :: [.code Z])) (c :: cs) w) = .next (lone (frame g ⟨none, true⟩ (put tm (some t5) (.iface t u)) [] (.inRegion R [1] :: [.code Z])) (c' :: cs) w) := by
    have hfin : (frame g ⟨none, true⟩ tm [] (.inRegion R [0, 1] :: [.code Z])).finish (.iface t u) = frame g ⟨none, true⟩ (put tm (some t5) (.iface t u)) [] (.inRegion R [1] :: [.code Z]) := by rw [finish_region, o0]; rfl
    rw [← hfin, hc']
    refine step_lone_go ?_
    have hg := stG_op (P := P) (fn := g) (rd := ⟨none, true⟩) (tmps := tm) (defers := []) (k := [.code Z]) (cs := c :: cs) (w := w) (rest := [1]) o0 rfl rfl
    rw [hg]
    simp [stepG.apply, execOp, resolve, invoke, builtin, frame, RK.kind, tryRecover, hu, pe]
  rw [← hc']
  have hrv : VRel μ h.next (.iface t u) (.iface t u) := .iface (.of_flat _ _ hu2)
  obtain ⟨r1, r2⟩ := hact.put (nt := fg.ntmps) (dst := some t5) hsz hrv (a' := (entry caps 0 .leaf).put t5 (some (.iface t u))) (by simp only [aput]; rw [Nat.ble_eq_true_of_le (by omega : t5 + 1 ≤ fg.ntmps)]; rfl)
  have s2 : step P (lone (frame g ⟨none, true⟩ (put tm (some t5) (.iface t u)) [] (.inRegion R [1] :: [.code Z])) (c' :: cs) w) = .next (lone (frame g ⟨none, true⟩ (put (put tm (some t5) (.iface t u)) (some t2) (.iface t u)) [] (.inRegion R [] :: [.code Z])) (c' :: cs) w) := by
    refine st_op_value o1 rfl rfl (nx := .value (.iface t u)) ?_ (.inl rfl)
    have : (put tm (some t5) (.iface t u)).getD t5 undef = .iface t u := by simp [put, Array.getD_eq_getD_getElem?, show t5 < tm.size by omega]
    simp [execOp, opnd, this]
  obtain ⟨q1, q2⟩ := r1.put (nt := fg.ntmps) (dst := some t2) r2 hrv (a' := ((entry caps 0 .leaf).put t5 (some (.iface t u))).put t2 (some (.iface t u))) (by simp only [aput]; rw [Nat.ble_eq_true_of_le (by omega : t2 + 1 ≤ fg.ntmps)]; rfl)
  obtain ⟨e, a', h', μ', t', d', w', ⟨z1, z2⟩, p', x', arr⟩ := hc μ ⟨w.heap.size, []⟩ _ [] ⟨none, true⟩ w [] (c' :: cs) ⟨q1, q2, trivial, .nil (fun _ hd => by cases hd), fun _ => rfl, fun d hd => (by cases hd), Nat.le_refl _, st⟩
  obtain ⟨todo, hs⟩ := ends z1 arr
  obtain ⟨w2, g1, g2, g3, g4, g5, g6⟩ := take_marks (P := P) (fn := g) (rd := ⟨none, true⟩) (tmps := t') (todo := todo) (cs := c' :: cs) p'.st p'.dok
  refine ⟨.tuple #[], h', μ', w2, { frame g ⟨none, true⟩ t' [] todo with mode := .returning }, z2, ext_marks x' p'.dge g2 g3 g4 g5 fun b hb => g6 b (.inl hb), ?_, rfl, rfl, rfl, fg, hf, ?_⟩
  · rw [henter]
    have hrange : List.range R.size = [0, 1] := by rw [hR]; rfl
    have s0 : step P (lone (frame g ⟨none, true⟩ tm [] (.code (.region id R false) :: [.code Z])) (c :: cs) w) = .next (lone (frame g ⟨none, true⟩ tm [] (.inRegion R [0, 1] :: [.code Z])) (c :: cs) w) := by rw [← hrange]; exact st_region
    exact .head st_seq (.head s0 (.head s1 (.head s2 (.head st_region_end (hs.trans g1)))))
  · simp [results, hres]
theorem DWp.deferP (ok : TyOK P T) {f g : FuncId} {fn fg : Func} {K : Value → AHeap → Prop} (hf : P.funcs[f]? = some fn) (he : Entered P g fg) {C : Code} {a : Tr Value} {id : Nat} {t4 : Nat} {xs : Array Operand} {ty ty2 : TypeId} {pos pos2 : String} {af af2 : Array Edge} {ats : Array TypeId} {caps : List Value} (h4 : t4 < fn.ntmps)
    (hx : aopnds (aopnd a) xs.toList = some caps)
    (hc : PWp P ⟨f, fn.ntmps, none⟩ C (a.put t4 (some (.func (.func g) #[] caps.toArray))) h fun a3 pv h3 => DefP P g caps h3 pv fun h4 => ∃ v, aRet T fn a3 h4 = some v ∧ K v h4) :
    DWp P f fn.ntmps (.seq (.region id #[⟨some t4, .makeFunc (.func g) #[] xs, ty, pos, af, none⟩, ⟨none, .defer ⟨.value (.tmp t4), #[], ats⟩, ty2, pos2, af2, none⟩] false) C) a h K := by
  intro μ0 h0 w0 μ tmps d w cs m0 x p hs
  obtain ⟨R, hR⟩ : ∃ R : Array Oper, R = #[⟨some t4, .makeFunc (.func g) #[] xs, ty, pos, af, none⟩, ⟨none, .defer ⟨.value (.tmp t4), #[], ats⟩, ty2, pos2, af2, none⟩] := ⟨_, rfl⟩
  rw [← hR] at hs
  have o0 : R[0]? = some ⟨some t4, .makeFunc (.func g) #[] xs, ty, pos, af, none⟩ := by rw [hR]; rfl
  have o1 : R[1]? = some ⟨none, .defer ⟨.value (.tmp t4), #[], ats⟩, ty2, pos2, af2, none⟩ := by rw [hR]; rfl
  have hrange : List.range R.size = [0, 1] := by rw [hR]; rfl
  have s0 : step P (lone (frame f ⟨none, false⟩ tmps d (.code (.region id R false) :: [.code C])) cs w) = .next (lone (frame f ⟨none, false⟩ tmps d (.inRegion R [0, 1] :: [.code C])) cs w) := by rw [← hrange]; exact st_region
  have hcr : LRel μ h.next caps ((xs.map (opnd tmps)).toList) := by rw [Array.toList_map]; exact aopnds_rel p.act.opnd hx
  have s1 : step P (lone (frame f ⟨none, false⟩ tmps d (.inRegion R [0, 1] :: [.code C])) cs w) = .next (lone (frame f ⟨none, false⟩ (put tmps (some t4) (.func (.func g) #[] (xs.map (opnd tmps)))) d (.inRegion R [1] :: [.code C])) cs w) :=
    st_op_value o0 rfl rfl (nx := .value (.func (.func g) #[] (xs.map (opnd tmps)))) (by simp [execOp, Instr.makeFunc]) (.inl rfl)
  have hfv : VRel μ h.next (.func (.func g) #[] caps.toArray) (.func (.func g) #[] (xs.map (opnd tmps))) := .func (fun l => by simp) .nil (by simpa using hcr)
  obtain ⟨r1, r2⟩ := p.act.put (nt := fn.ntmps) (dst := some t4) p.size hfv (a' := a.put t4 (some (.func (.func g) #[] caps.toArray))) (by simp only [aput]; rw [Nat.ble_eq_true_of_le (by omega : t4 + 1 ≤ fn.ntmps)]; rfl)
  obtain ⟨dd, hdd⟩ : ∃ dd : Deferred, dd = { target := .fn (.func g) (xs.map (opnd tmps)), args := #[] } := ⟨_, rfl⟩
  obtain ⟨tq, htq⟩ : ∃ tq, tq = put tmps (some t4) (.func (.func g) #[] (xs.map (opnd tmps))) := ⟨_, rfl⟩
  rw [← htq] at s1 r1 r2
  have hget : tq.getD t4 undef = .func (.func g) #[] (xs.map (opnd tmps)) := by
    have := p.size
    simp only at this
    rw [htq]; simp [put, Array.getD_eq_getD_getElem?, show t4 < tmps.size by omega]
  have s2 : step P (lone (frame f ⟨none, false⟩ tq d (.inRegion R [1] :: [.code C])) cs w) = .next (lone (frame f ⟨none, false⟩ tq (dd :: d) (.inRegion R [] :: [.code C])) cs w) := by
    refine step_lone_go ?_
    have hev : (frame f ⟨none, false⟩ tq d (.inRegion R [1] :: [.code C])).eval = opnd tq := frame_eval ..
    simp only [frame, RK.kind, cond_false] at hev
    have hw : Region.wanted ⟨none, .defer ⟨.value (.tmp t4), #[], ats⟩, ty2, pos2, af2, none⟩ (yielded R tq) = true := rfl
    simp [stepG, stepG.exec, stepG.oper, Frame.oper?, frame, RK.kind, o1, hw, hev, stepG.apply, execOp, resolve, opnd, hget, Deferred.ofValue, Frame.finish, hdd]
  have hlt : ∀ e ∈ dd :: d, ∀ q, e.target = .collected q → q < w.heap.size := by
    intro e he q hq
    cases he with
    | head => rw [hdd] at hq; cases hq
    | tail _ he => exact p.dok.lt e he q hq
  obtain ⟨pv, a3, h3, μ3, t3, d3, todo, w3, q2, q1, x3, dk3, dg3, hs3⟩ := hc μ ⟨w0.heap.size, dd :: d⟩ tq (dd :: d) ⟨none, false⟩ w [] cs ⟨r1, r2, trivial, .nil hlt, fun e => (e rfl).elim, fun e he q hq => by
    cases he with
    | head => rw [hdd] at hq; cases hq
    | tail _ he => exact p.dge e he q hq, p.bsz, p.st⟩
  obtain ⟨w4, g1, g2, g3, g4, g5, g6⟩ := take_marksP (P := P) (chain := pe pv) (fn := f) (rd := ⟨none, false⟩) (tmps := t3) (todo := todo) (cs := cs) x3.st dk3
  have x4 : Ext μ0 h0 w0 μ3 h3 w4 := ext_marks (x.trans x3) dg3 g2 g3 g4 g5 fun b hb => g6 b (.inl hb)
  have keep : ∀ {l : List Deferred}, (∀ e ∈ l, e ∈ d) → DOk [] μ3 h3 w3 l → DOk [] μ3 h3 w4 l := by
    intro l hs hl
    induction hl with
    | nil hD => exact .nil fun d hd => (by cases hd)
    | cons hr ho hne t ih =>
      exact .cons ((g6 _ (.inr ⟨_, List.mem_cons_of_mem _ (hs _ List.mem_cons_self), rfl⟩)).trans hr) ho hne (ih fun e he => hs e (List.mem_cons_of_mem _ he))
  have dok4 : DOk [] μ3 h3 w4 d := keep (fun _ h => h) (p.dok.ext x3)
  have hcr4 : LRel μ3 h3.next caps (xs.map (opnd tmps)).toList := hcr.mono x3.agree x3.next
  have hinv : (invoke dd.target dd.args).run P = fun w => .ok (.enter g (xs.map (opnd tmps))) w := by
    funext w; rw [hdd]; simp [invoke, he.run]
  have s4 := step_defer (P := P) (fr := { frame f ⟨none, false⟩ t3 (dd :: d) todo with mode := .panicking (pe pv) }) (cs := cs) (w := w4) (d := dd) (ds := d) (by simp) rfl (by rw [hdd]) (congrFun hinv w4)
  obtain ⟨v0, h5, μ5, w5, fr, ⟨v, k1, k2⟩, x5, y2, y3, y4⟩ := q2 μ3 _ w4 hcr4 g2 { { frame f ⟨none, false⟩ t3 (dd :: d) todo with mode := .panicking (pe pv) } with defers := d } cs rfl
  have s5 := step_going_returned (c := { { { frame f ⟨none, false⟩ t3 (dd :: d) todo with mode := .panicking (pe pv) } with defers := d } with mode := .panicking [{ v := pv, recovered := true }] }) (cs := cs) y3 y4
  have hset : settle (.panicking [{ v := pv, recovered := true }]) = .returning := rfl
  simp only [hset] at s5
  have hsF : Steps P m0 (lone { frame f ⟨none, false⟩ t3 d todo with mode := .returning } cs w5) :=
    hs.trans (.head st_seq (.head s0 (.head s1 (.head s2 (.head st_region_end (hs3.trans (g1.trans (.head s4 (y2.trans (.one s5))))))))))
  exact DWp.fin ok hf (x4.trans x5) (q1.mono x5.agree x5.next) (dok4.ext x5) p.dge k1 k2 hsF
end
noncomputable abbrev CallP := FuncId → List Value → AHeap → Option (Value × AHeap)
noncomputable def raiseP (callP : CallP) (o : Oper) (ρ : Operand → Option Value) (h : AHeap) : Option (Value × AHeap) :=
  match o.op with
  | .panic x => match ρ x with
    | some (.iface t v) => bif flat v then some (.iface t v, h) else none
    | _ => none
  | .call ⟨.value (.func g), xs, _⟩ => match aopnds ρ xs.toList with
    | some vs => callP g vs h
    | none => none
  | _ => none
noncomputable def pOps (E : Env) (call : CallV) (callP : CallP) (ops : Array Oper) (nt : Nat) : List Oper → Tr Value → AHeap → Option (Tr Value × Value × AHeap)
  | [], _, _ => none
  | o :: os, a, h => match aguard ops a o with
    | some true => bif isDefer o.op then none else match zOp E call o (aopnd a) h with
      | some (v, h') => match aput nt a o.dst v with
        | some a' => pOps E call callP ops nt os a' h'
        | none => none
      | none => match raiseP callP o (aopnd a) h with
        | some (pv, h') => some (a, pv, h')
        | none => none
    | some false => match aput nt a o.dst (.tuple #[]) with
      | some a' => pOps E call callP ops nt os a' h
      | none => none
    | none => none
noncomputable def pC (E : Env) (call : CallV) (callP : CallP) (f : FuncId) (nt : Nat) : Code → Tr Value → AHeap → Option (Tr Value × Value × AHeap)
  | .seq x y, a, h => match (compC x E f nt).run none call a h with
    | some (.normal, a', h') => pC E call callP f nt y a' h'
    | some _ => none
    | none => pC E call callP f nt x a h
  | .cond c x y, a, h => match aopnd a c with
    | some (.bool t) => bif t then pC E call callP f nt x a h else pC E call callP f nt y a h
    | _ => none
  | .block _ c, a, h => pC E call callP f nt c a h
  | .scope c, a, h => pC E call callP f nt c a h
  | .region _ ops false, a, h => pOps E call callP ops nt ops.toList a h
  | _, _, _ => none
noncomputable def pF (E : Env) (call : CallV) : Nat → CallP
  | 0 => fun _ _ _ => none
  | n + 1 => fun g args h => match E.F.get g with
    | some fn => match fn.body with
      | some c => bif Nat.ble args.length fn.ntmps then match pC E call (pF E call n) g fn.ntmps c (entry args 0 .leaf) h with
        | some (_, pv, h') => some (pv, h')
        | none => none
        else none
      | none => none
    | none => none
noncomputable def PSound (P : Program) (callP : CallP) : Prop := ∀ g vs h pv h', callP g vs h = some (pv, h') → (∃ fn, Entered P g fn) ∧ FWpP P g vs h (fun _ _ => False) fun x y => x = pv ∧ y = h'
noncomputable def defEvP (E : Env) (call : CallV) (g : FuncId) (caps : List Value) (h : AHeap) (pv : Value) : Option AHeap :=
  match pv with
  | .iface ti u => bif flat u then (match E.F.get g with
    | some fg => match fg.body with
      | some c => bif fg.results.isEmpty && Nat.ble caps.length fg.ntmps then match recOf c with
          | some (t, s, z) => bif Nat.ble (t + 1) fg.ntmps && Nat.ble (s + 1) fg.ntmps then runC E call g fg.ntmps z (((entry caps 0 .leaf).put t (some (.iface ti u))).put s (some (.iface ti u))) h else none
          | none => none
        else none
      | none => none
    | none => none) else none
  | _ => none
noncomputable def dEvP (E : Env) (call : CallV) (callP : CallP) (f : FuncId) (fn : Func) : Code → Tr Value → AHeap → ZV
  | .seq x y, a, h => match deferOf x with
    | some (t, g, xs) => bif Nat.ble (t + 1) fn.ntmps then match aopnds (aopnd a) xs.toList with
      | some caps => match pC E call callP f fn.ntmps y (a.put t (some (.func (.func g) #[] caps.toArray))) h with
        | some (a3, pv, h3) => match defEvP E call g caps h3 pv with
          | some h4 => retD E fn a3 h4
          | none => none
        | none => none
      | none => none
      else none
    | none => match (compC x E f fn.ntmps).run none call a h with
      | some (.normal, a', h') => dEvP E call callP f fn y a' h'
      | _ => none
  | _, _, _ => none
noncomputable def dFunP (E : Env) (call : CallV) (callP : CallP) (f : FuncId) (args : List Value) (h : AHeap) : ZV :=
  match E.F.get f with
  | some fn => match fn.body with
    | some c => bif Nat.ble args.length fn.ntmps then dEvP E call callP f fn c (entry args 0 .leaf) h else none
    | none => none
  | none => none
noncomputable def dSP (E : Env) (n : Nat) (B : List FuncId) (f : FuncId) (args : List Value) (h : AHeap) : ZV :=
  bif B.any (Nat.beq f) then (match dFun E (evZ E n) f args h with
    | some r => some r
    | none => dFunP E (evZ E n) (pF E (evZ E n) 20) f args h) else E.S f args h
noncomputable def envP (E : Env) (n : Nat) (B : List FuncId) : Env := { E with S := dSP E n B }
section
variable {E : Env} (ok : EnvOK E) {call : CallV} (hv : VSound E.P call) {callP : CallP} (hp : PSound E.P callP)
include ok hv hp
omit ok hv in
theorem raiseP_sound {o : Oper} {ρ : Operand → Option Value} {h h' : AHeap} {pv : Value} (hρ : ∀ f, ρ (.func f) = some (.func (.func f) #[] #[])) (he : raiseP callP o ρ h = some (pv, h')) : OpWpP E.P o ρ h (fun _ _ => False) fun x y => x = pv ∧ y = h' := by
  obtain ⟨dst, op, ty, pos, after, guard⟩ := o
  unfold raiseP at he
  split at he
  · rename_i x hop
    simp only at hop
    subst hop
    split at he
    · rename_i t v hx
      cases hfl : flat v
      · rw [hfl, cond_false] at he; cases he
      · rw [hfl, cond_true] at he
        cases he
        intro μ ρ' w c cs hρ' st
        refine .inr ⟨.iface t v, ?_, rfl, rfl⟩
        have h1 := hρ' x _ hx
        have e : ρ' x = .iface t v := by
          cases hz : ρ' x <;> rw [hz] at h1 <;> cases h1
          rename_i h2; rw [h2.flat_eq hfl]
        simp [execOp, e, Instr.panic, goPanic]
    · cases he
  · rename_i g xs ats hop
    simp only at hop
    subst hop
    split at he
    · rename_i vs hx
      obtain ⟨⟨fn, h1⟩, h2⟩ := hp _ _ _ _ _ he
      exact OpWpP.fcall (hρ g) hx h1 h2
    · cases he
  · cases he
theorem pOps_good {ops : Array Oper} {cx : Cx} : ∀ {os : List Oper} {i : Nat} {a a' : Tr Value} {h h' : AHeap} {pv : Value}, ops.toList.drop i = os → pOps E call callP ops cx.nt os a h = some (a', pv, h') →
    POp E.P cx ops (List.range' i os.length) a h fun x y z => x = a' ∧ y = pv ∧ z = h'
  | [], i, a, a', h, h', pv, _, he => by cases he
  | o :: os, i, a, a', h, h', pv, hd, he => by
    have ho : ops[i]? = some o := drop_at hd
    have hd1 : ops.toList.drop (i + 1) = os := by rw [← List.drop_drop, hd]; rfl
    simp only [pOps] at he
    rw [List.length_cons, List.range'_succ]
    split at he
    · rename_i hg
      cases hdf : isDefer o.op
      · rw [hdf, cond_false] at he
        split at he
        · rename_i v h1 hop
          split at he
          · rename_i a1 hpt
            refine POp.op ho hg hdf ((zOp_sound ok hv o _ _ _ _ hop).mono ?_)
            rintro x y ⟨rfl, rfl⟩
            exact ⟨a1, hpt, pOps_good hd1 he⟩
          · cases he
        · split at he
          · rename_i pv1 h1 hr
            cases he
            refine POp.raise ho hg hdf ?_
            have := raiseP_sound hp (ρ := aopnd a) (fun f => rfl) hr
            intro μ ρ' w c cs h2 h3
            rcases this μ ρ' w c cs h2 h3 with ⟨nx, w1, m, e1, e2, e3 | ⟨pv, h', μ', w', e3, e4, e5⟩⟩ | ⟨pv, e1, e2⟩
            · obtain ⟨_, _, _, _, _, _, e4, _⟩ := e3; exact e4.elim
            · exact .inl ⟨nx, w1, m, e1, e2, .inr ⟨pv, h', μ', w', e3, ⟨rfl, e4.1, e4.2⟩, e5⟩⟩
            · exact .inr ⟨pv, e1, rfl, e2.1, e2.2⟩
          · cases he
      · rw [hdf, cond_true] at he; cases he
    · rename_i hg
      split at he
      · rename_i a1 hpt
        exact POp.skip ho hg hpt (pOps_good hd1 he)
      · cases he
    · cases he
theorem pC_good {f : FuncId} {nt : Nat} : ∀ (c : Code) (a : Tr Value) (h : AHeap) (a' : Tr Value) (pv : Value) (h' : AHeap), pC E call callP f nt c a h = some (a', pv, h') → PWp E.P ⟨f, nt, none⟩ c a h fun x y z => x = a' ∧ y = pv ∧ z = h'
  | .seq x y, a, h, a', pv, h', he => by
    simp only [pC] at he
    split at he
    · rename_i a1 h1 hx
      refine PWp.seqR ((compC_good ok hv _ _ _ _ _ _ _ hx).mono ?_)
      rintro e1 a2 h2 ⟨rfl, rfl, rfl⟩
      exact pC_good y a2 h2 a' pv h' he
    · cases he
    · exact PWp.seqL (pC_good x a h a' pv h' he)
  | .cond c x y, a, h, a', pv, h', he => by
    simp only [pC] at he
    split at he
    · rename_i t ht
      refine PWp.cond ht ?_
      cases t
      · exact pC_good y a h a' pv h' he
      · exact pC_good x a h a' pv h' he
    · cases he
  | .block id c, a, h, a', pv, h', he => PWp.block (pC_good c a h a' pv h' he)
  | .scope c, a, h, a', pv, h', he => PWp.scope (pC_good c a h a' pv h' he)
  | .region id ops false, a, h, a', pv, h', he => by
    have := pOps_good ok hv hp (cx := ⟨f, nt, none⟩) (i := 0) (by simp) (show pOps E call callP ops nt ops.toList a h = _ from he)
    rw [Array.length_toList, ← List.range_eq_range'] at this
    exact PWp.region this
  | .region id ops true, a, h, a', pv, h', he => by cases he
  | .skip, _, _, _, _, _, he => by cases he
  | .label _, _, _, _, _, _, he => by cases he
  | .loop _, _, _, _, _, _, he => by cases he
  | .rangeFunc .., _, _, _, _, _, he => by cases he
  | .exit _, _, _, _, _, _, he => by cases he
  | .goto _, _, _, _, _, _, he => by cases he
  | .ret, _, _, _, _, _, he => by cases he
  | .refuse _, _, _, _, _, _, he => by cases he
omit hp
theorem pF_sound : ∀ n, PSound E.P (pF E call n)
  | 0 => fun _ _ _ _ _ he => by cases he
  | n + 1 => by
    intro g vs h pv h' he
    simp only [pF] at he
    split at he
    · rename_i fn hf
      split at he
      · rename_i c hb
        cases hn : Nat.ble vs.length fn.ntmps
        · rw [hn, cond_false] at he; cases he
        · rw [hn, cond_true] at he
          split at he
          · rename_i a1 pv1 h1 hc
            cases he
            refine ⟨⟨fn, ok.fn g fn hf⟩, PWp.fn (ok.fn g fn hf).look hb (Nat.le_of_ble_eq_true hn) ?_⟩
            have := pC_good ok hv (pF_sound n) _ _ _ _ _ _ hc
            intro μ base tmps defers rd w k cs p
            obtain ⟨pv, a', h', μ', t', d', todo, w', ⟨_, q, q0⟩, q1⟩ := this μ base tmps defers rd w k cs p
            exact ⟨pv, a', h', μ', t', d', todo, w', ⟨q, q0⟩, q1⟩
          · cases he
      · cases he
    · cases he
theorem defEvP_good {g : FuncId} {caps : List Value} {h h' : AHeap} {pv : Value} (he : defEvP E call g caps h pv = some h') : DefP E.P g caps h pv fun h2 => h2 = h' := by
  unfold defEvP at he
  split at he
  · rename_i ti u
    cases hfl : flat u
    · rw [hfl, cond_false] at he; cases he
    · rw [hfl, cond_true] at he
      split at he
      · rename_i fg hf
        split at he
        · rename_i c hb
          cases hbb : fg.results.isEmpty && Nat.ble caps.length fg.ntmps
          · rw [hbb, cond_false] at he; cases he
          · rw [hbb, cond_true] at he
            simp only [Bool.and_eq_true, Array.isEmpty_iff] at hbb
            obtain ⟨b1, b2⟩ := hbb
            have hl := (ok.fn g fg hf).look
            split at he
            · rename_i t s z hr
              cases hb3 : Nat.ble (t + 1) fg.ntmps && Nat.ble (s + 1) fg.ntmps
              · rw [hb3, cond_false] at he; cases he
              · rw [hb3, cond_true] at he
                simp only [Bool.and_eq_true] at hb3
                obtain ⟨id, ty, ty2, pos, pos2, af, af2, ats, rfl⟩ := recOf_eq hr
                exact DefP.recover hfl hl hb b1 (Nat.le_of_ble_eq_true b2) (Nat.le_of_ble_eq_true hb3.1) (Nat.le_of_ble_eq_true hb3.2) (runC_good ok hv he)
            · cases he
        · cases he
      · cases he
  · cases he
include hp
theorem dEvP_good {f : FuncId} {fn : Func} (hf : E.F.get f = some fn) : ∀ (c : Code) (a : Tr Value) (h : AHeap) (v : Value) (h' : AHeap), dEvP E call callP f fn c a h = some (v, h') → DWp E.P f fn.ntmps c a h fun x y => x = v ∧ y = h'
  | .seq x y, a, h, v, h', he => by
    have hl := (ok.fn f fn hf).look
    rw [dEvP] at he
    split at he
    · rename_i t g xs hd
      obtain ⟨id, ty, ty2, pos, pos2, af, af2, ats, rfl⟩ := deferOf_eq hd
      cases hb : Nat.ble (t + 1) fn.ntmps
      · rw [hb, cond_false] at he; cases he
      · rw [hb, cond_true] at he
        split at he
        · rename_i caps hx
          split at he
          · rename_i a3 pv h3 hc
            split at he
            · rename_i h4 hd4
              obtain ⟨r1, rfl⟩ := retD_some he
              obtain ⟨fg, hg⟩ : ∃ fg, E.F.get g = some fg := by
                unfold defEvP at hd4
                split at hd4
                · rename_i ti u
                  cases hfl : flat u
                  · rw [hfl, cond_false] at hd4; cases hd4
                  · rw [hfl, cond_true] at hd4
                    split at hd4
                    · exact ⟨_, by assumption⟩
                    · cases hd4
                · cases hd4
              refine DWp.deferP ok.ty hl (ok.fn g fg hg) (Nat.le_of_ble_eq_true hb) hx ?_
              have := pC_good ok hv hp _ _ _ _ _ _ hc
              intro μ base tmps defers rd w k cs p
              obtain ⟨pv', a', h2, μ', t', d', todo, w', ⟨rfl, rfl, rfl⟩, q1⟩ := this μ base tmps defers rd w k cs p
              refine ⟨pv', a', h2, μ', t', d', todo, w', fun μ caps' w q1 q2 c cs q3 => ?_, q1⟩
              obtain ⟨v0, h5, μ5, w5, fr, rfl, z⟩ := defEvP_good ok hv hd4 μ caps' w q1 q2 c cs q3
              exact ⟨v0, h5, μ5, w5, fr, ⟨v, r1, rfl, rfl⟩, z⟩
            · cases he
          · cases he
        · cases he
    · split at he
      · rename_i a1 h1 hx
        refine DWp.seq ok.ty hl ((compC_good ok hv _ _ _ _ _ _ _ hx).mono ?_)
        rintro e1 a2 h2 ⟨rfl, rfl, rfl⟩
        exact dEvP_good hf y a2 h2 v h' he
      · cases he
  | .skip, _, _, _, _, he => by cases he
  | .label _, _, _, _, _, he => by cases he
  | .region .., _, _, _, _, he => by cases he
  | .cond .., _, _, _, _, he => by cases he
  | .block .., _, _, _, _, he => by cases he
  | .loop _, _, _, _, _, he => by cases he
  | .rangeFunc .., _, _, _, _, he => by cases he
  | .exit _, _, _, _, _, he => by cases he
  | .scope _, _, _, _, _, he => by cases he
  | .goto _, _, _, _, _, he => by cases he
  | .ret, _, _, _, _, he => by cases he
  | .refuse _, _, _, _, _, he => by cases he
theorem dFunP_good {f : FuncId} {args : List Value} {h h' : AHeap} {v : Value} (he : dFunP E call callP f args h = some (v, h')) : (∃ fn, Entered E.P f fn) ∧ FWp E.P f args h fun x y => x = v ∧ y = h' := by
  unfold dFunP at he
  split at he
  · rename_i fn hf
    split at he
    · rename_i c hb
      cases hn : Nat.ble args.length fn.ntmps
      · rw [hn, cond_false] at he; cases he
      · rw [hn, cond_true] at he
        have hn := Nat.le_of_ble_eq_true hn
        refine ⟨⟨fn, ok.fn f fn hf⟩, fun μ args' w hl st cs => ?_⟩
        have hlen := hl.length
        simp only [Array.length_toList] at hlen
        have hsz : (args' ++ Array.replicate (fn.ntmps - args'.size) undef).size = fn.ntmps := by simp; omega
        have henter : Frame.enter E.P f args' .normal = frame f ⟨none, false⟩ (args' ++ Array.replicate (fn.ntmps - args'.size) undef) [] [.code c] := by simp [Frame.enter, frame, RK.kind, (ok.fn f fn hf).look, hb]
        rw [henter]
        exact dEvP_good ok hv hp hf c _ h v h' he μ h w μ _ [] w cs _ (Ext.refl st) ⟨entry_act2 hl, hsz, trivial, .nil (fun _ hd => by cases hd), fun _ => rfl, fun d hd => (by cases hd), Nat.le_refl _, st⟩ (.refl _ _)
    · cases he
  · cases he
end
theorem envP_ok {E : Env} (ok : EnvOK E) (n : Nat) (B : List FuncId) : EnvOK (envP E n B) := by
  refine ⟨ok.ty, ok.mix, ok.fn, fun f args h v h' he => ?_⟩
  have he : dSP E n B f args h = some (v, h') := he
  unfold dSP at he
  cases hb : B.any (Nat.beq f)
  · rw [hb, cond_false] at he; exact ok.sum f args h v h' he
  · rw [hb, cond_true] at he
    split at he
    · rename_i r hr
      cases he
      exact dFun_good ok (evZ_sound ok n) hr
    · exact dFunP_good ok (evZ_sound ok n) (pF_sound ok (evZ_sound ok n) 20) he
end Go.Ab.Nx.Dx
