/-
  An evaluator of the view, and that it is right.
-/
import Derived.Test.YtebheelmgcggmaaGreatAb17
namespace Go.Ab
set_option linter.unusedSimpArgs false
set_option linter.unusedVariables false
section
variable {P : Program} {T : Tr TI} {cx : Cx} {ops : Array Oper} {a0 : Tr Value} {h0 : AHeap}
theorem dRun_sound (ok : TyOK P T) {op : Oper → (Operand → Option Value) → AHeap → Option (Value × AHeap)} (hop : ∀ o ρ h u h', op o ρ h = some (u, h') → OpWp P o ρ h fun x y => x = u ∧ y = h') :
    ∀ {os : List Oper} {σ σ' : DSt} {v : Nat → Value} {pa : Nat → Tr Value} {kd : Nat → Kind} {H : Nat → AHeap} {m : Nat}, DP P T cx ops a0 h0 σ v pa kd H m → ops.toList.drop σ.i = os → dRun P T op ops cx.nt a0 os σ = some σ' →
      σ'.i = σ.i + os.length ∧ ∃ v' pa' kd' H' m', DP P T cx ops a0 h0 σ' v' pa' kd' H' m'
  | [], σ, σ', v, pa, kd, H, m, D, _, hr => by simp only [dRun, Option.some.injEq] at hr; subst hr; exact ⟨by simp, v, pa, kd, H, m, D⟩
  | o :: os, σ, σ', v, pa, kd, H, m, D, hd, hr => by
    simp only [dRun] at hr
    split at hr
    · rename_i σ1 h1
      have ho : ops[σ.i]? = some o := by
        rw [← Array.getElem?_toList]
        have := congrArg (fun l : List Oper => l[0]?) hd
        simpa using this
      obtain ⟨e1, v1, pa1, kd1, H1, m1, D1⟩ := dStep_sound ok hop D ho h1
      have hd1 : ops.toList.drop σ1.i = os := by
        rw [e1, ← List.drop_drop, hd]; rfl
      obtain ⟨e2, r⟩ := dRun_sound ok hop D1 hd1 hr
      exact ⟨by rw [e2, e1]; simp; omega, r⟩
    · cases hr
theorem evDrawn_sound (ok : TyOK P T) (hmix : P.follows .mixedOrders = true) {op : Oper → (Operand → Option Value) → AHeap → Option (Value × AHeap)} (hop : ∀ o ρ h u h', op o ρ h = some (u, h') → OpWp P o ρ h fun x y => x = u ∧ y = h')
    {id : Nat} {a aF : Tr Value} {h hF : AHeap} (he : evDrawn P T op ops cx.nt a h = some (aF, hF)) {Q : AExit → Tr Value → AHeap → Prop} (hQ : Q .normal aF hF) : CWp P cx (.region id ops true) a h Q := by
  unfold evDrawn at he
  split at he
  · rename_i σ hσ
    simp only [Option.some.injEq, Prod.mk.injEq] at he
    obtain ⟨rfl, rfl⟩ := he
    have D0 : DP P T cx ops a h ⟨0, a, .leaf, .leaf, .leaf, [], [], h⟩ (fun _ => .tuple #[]) (fun _ => .leaf) (fun _ => .skip) (fun _ => h) 0 :=
      { hz := rfl
        hm := rfl
        hist := .nil
        kdge := fun _ _ => rfl
        mask := fun j mk hj => by cases hj
        back := fun j o hj => absurd hj (Nat.not_lt_zero _)
        wr := fun d j hj => by cases hj
        wr2 := fun j o d hj => absurd hj (Nat.not_lt_zero _)
        act := fun d => rfl
        all := fun s hs => absurd hs (Nat.not_lt_zero _)
        below := fun j i s hj => absurd hj (Nat.not_lt_zero _)
        mget := fun j mk hj => by cases hj
        pas := fun j o hj => absurd hj (Nat.not_lt_zero _)
        dfr := fun j o hj => absurd hj (Nat.not_lt_zero _)
        one := fun j o hj => absurd hj (Nat.not_lt_zero _) }
    obtain ⟨e1, v, pa, kd, H, m, D⟩ := dRun_sound ok hop D0 (by simp) hσ
    have hn : σ.i = ops.size := by rw [e1]; simp
    have lt : ∀ {j : Nat} {o : Oper}, ops[j]? = some o → j < σ.i := fun hj => by rw [hn]; exact (Array.getElem?_eq_some_iff.1 hj).1
    have at_ : ∀ j s, j < ops.size → (kd j).no = some s → s < m ∧ ∀ i, i < σ.i → (kd i).no = some s → i = j := fun j s hj hs => (D.one j _ (by omega) (Array.getElem?_eq_getElem hj)).at hs
    have R : DRun P cx ops (KB σ.M) a v kd H m := by
      refine ⟨fun i j ⟨mk, h1, h2⟩ => (D.mask j mk h1 i h2).1, fun j o ho => D.back j o (lt ho) ho, fun i j o p d hi hj hdo hdp => ?_, fun i o d hi hd => (D.wr2 i o d (lt hi) hi hd).2, fun s hs => ?_, fun i j s hi hj h1 h2 => (at_ j s hj h2).2 i (by omega) h1, fun i s hi h1 => (at_ i s hi h1).1, fun j s hj hk i s' hi hs' hlt => ?_, fun j i s hj hi hk hkb i' s' hi' hs' hlt => D.below j i s (by omega) (by omega) hk hkb i' s' (by omega) hs' hlt, fun j o ho => ⟨pa j, fun d u hu => ?_, D.dfr j o (lt ho) ho, ?_⟩⟩
      · have h1 := (D.wr2 i o d (lt hi) hi hdo).1
        have h2 := (D.wr2 j p d (lt hj) hj hdp).1
        rw [h1] at h2; cases h2; rfl
      · obtain ⟨i, h1, h2⟩ := D.all s hs; exact ⟨i, by omega, h2⟩
      · have hone := D.one j _ (by omega) (Array.getElem?_eq_getElem hj)
        unfold KOne at hone
        rw [hk] at hone
        exact hone.1.2.2 i s' (by omega) hs' hlt
      · rcases D.pas j o (lt ho) ho d u hu with ⟨i, p, g1, g2, g3, g4, _⟩ | ⟨g1, _, g3⟩
        · exact .inl ⟨i, p, g1, g2, g3, g4⟩
        · exact .inr ⟨g1, fun i p hp hd => g3 i p (lt hp) hp hd⟩
      · have hk := D.one j o (lt ho) ho
        unfold KOne at hk
        cases hkd : kd j with
        | skip => rw [hkd] at hk; exact hk
        | quiet =>
          rw [hkd] at hk
          obtain ⟨k1, k2, k3⟩ := hk
          refine ⟨k1, fun t ht hmay => ?_⟩
          obtain ⟨h', g1, g2⟩ := k2 t ht hmay
          exact aop_sound ok g1 ⟨rfl, g2⟩
        | change s =>
          rw [hkd] at hk
          exact ⟨hk.1.1, hk.1.2.1⟩
        | late s =>
          rw [hkd] at hk
          obtain ⟨⟨k1, rv, ob, q1, q2, q3, q4, q5, q6⟩, _⟩ := hk
          exact ⟨k1, rv, ob, q1, q2, q3, q4, q5, fun h => aop_sound ok (q6 h) ⟨rfl, rfl⟩⟩
    have hd := CWp.drawn (id := id) (aF := σ.a) (Q := Q) hmix R (fun d u hu => by
      rw [D.act d] at hu
      split at hu
      · rename_i j hj
        obtain ⟨_, p, g1, g2⟩ := D.wr d j hj
        simp only [Option.some.injEq] at hu
        exact .inl ⟨j, p, g1, g2, hu.symm⟩
      · rename_i hw
        refine .inr ⟨hu, fun i p hp hdp => ?_⟩
        have := (D.wr2 i p d (lt hp) hp hdp).1
        rw [hw] at this; cases this) (by rw [D.hm]; exact hQ)
    rw [D.hz] at hd
    exact hd
  · cases he
end
structure Env where
  P : Program
  T : Tr TI
  F : Tr Func
  S : FuncId → List Value → AHeap → Option (Value × AHeap)
structure EnvOK (E : Env) : Prop where
  ty : TyOK E.P E.T
  mix : E.P.follows .mixedOrders = true
  fn : ∀ f fn, E.F.get f = some fn → Entered E.P f fn
  sum : ∀ f args h v h', E.S f args h = some (v, h') → (∃ fn, Entered E.P f fn) ∧ FWp E.P f args h fun x y => x = v ∧ y = h'
noncomputable abbrev CodeF := Cx → Code → Tr Value → AHeap → Option (AExit × Tr Value × AHeap)
noncomputable def evYield (code : CodeF) (l : Nat) (vs : List Value) (h : AHeap) : Option (Value × AHeap) :=
  match h.get l with
  | some (.loop lp) => match bindParams lp.nt lp.params.toList vs lp.tmps with
    | some a0 => match code ⟨lp.fn, lp.nt, some l⟩ lp.assign a0 h with
      | some (.normal, a1, h1) => match h1.get l with
        | some (.loop lp1) => match lp1.state with
          | .ready => match code ⟨lp.fn, lp.nt, some l⟩ lp.body a1 (h1.set l (.loop (lp1.with .busy lp1.pending))) with
            | some (e, _, h2) => match h2.get l with
              | some (.loop lp2) => some (.bool (roundEnd lp2 e).2, h2.set l (.loop (roundEnd lp2 e).1))
              | _ => none
            | none => none
          | _ => none
        | _ => none
      | _ => none
    | none => none
  | _ => none
noncomputable def evCall (E : Env) (code : CodeF) (f : FuncId) (args : List Value) (h : AHeap) : Option (Value × AHeap) :=
  match E.S f args h with
  | some r => some r
  | none => match E.F.get f with
    | some fn => match fn.body with
      | some c => bif Nat.ble args.length fn.ntmps then match code ⟨f, fn.ntmps, none⟩ c (entry args 0 .leaf) h with
          | some (.normal, a', h') => match aRet E.T fn a' h' with
            | some v => some (v, h')
            | none => none
          | some (.ret, a', h') => match aRet E.T fn a' h' with
            | some v => some (v, h')
            | none => none
          | _ => none
        else none
      | none => none
    | none => none
noncomputable def evVal (E : Env) (code : CodeF) (fv : Value) (vs : List Value) (h : AHeap) : Option (Value × AHeap) :=
  match fv with
  | .func (.func f) first cap => evCall E code f (first.toList ++ vs ++ cap.toList) h
  | .func (.yield l) first cap => bif first.isEmpty && cap.isEmpty then evYield code l vs h else none
  | _ => none
noncomputable def evOp (E : Env) (code : CodeF) (o : Oper) (ρ : Operand → Option Value) (h : AHeap) : Option (Value × AHeap) :=
  match o.op with
  | .call ⟨.value f, xs, _⟩ => match ρ f, aopnds ρ xs.toList with
    | some fv, some vs => evVal E code fv vs h
    | _, _ => none
  | _ => aop E.P E.T o ρ h
noncomputable def evOps (E : Env) (code : CodeF) (ops : Array Oper) (nt : Nat) : List Oper → Tr Value → AHeap → Option (Tr Value × AHeap)
  | [], a, h => some (a, h)
  | o :: os, a, h => match aguard ops a o with
    | some true => bif isDefer o.op then none else match evOp E code o (aopnd a) h with
      | some (v, h') => match aput nt a o.dst v with
        | some a' => evOps E code ops nt os a' h'
        | none => none
      | none => none
    | some false => match aput nt a o.dst (.tuple #[]) with
      | some a' => evOps E code ops nt os a' h
      | none => none
    | none => none
noncomputable def loopRow (h : AHeap) (l : Nat) : Bool :=
  match h.get l with
  | some (.loop _) => true
  | _ => false
noncomputable def evRange (E : Env) (code : CodeF) (cx : Cx) (f : Operand) (params : Array Tmp) (assign body : Code) (a : Tr Value) (h : AHeap) : Option (AExit × Tr Value × AHeap) :=
  match aopnd a f with
  | some fv => bif (match cx.rd with | none => true | some l => loopRow h l) then
      match evVal E code fv [.func (.yield h.next) #[] #[]] (h.new (.loop ⟨.ready, none, cx.fn, cx.nt, a, params, assign, body⟩)) with
      | some (_, h2) => match h2.get h.next with
        | some (.loop lp) => match lp.state, jumpExit lp.pending with
          | .busy, _ => none
          | _, some e => some (e, a, h2.kill h.next)
          | _, none => none
        | _ => none
      | none => none
    else none
  | none => none
noncomputable def evStep (E : Env) (code : CodeF) (cx : Cx) (c : Code) (a : Tr Value) (h : AHeap) : Option (AExit × Tr Value × AHeap) :=
  match c with
  | .skip => some (.normal, a, h)
  | .label _ => some (.normal, a, h)
  | .region _ ops draw => match (bif draw then evDrawn E.P E.T (evOp E code) ops cx.nt a h else evOps E code ops cx.nt ops.toList a h) with
    | some (a', h') => some (.normal, a', h')
    | none => none
  | .seq x y => match code cx x a h with
    | some (.normal, a', h') => code cx y a' h'
    | r => r
  | .cond c x y => match aopnd a c with
    | some (.bool t) => bif t then code cx x a h else code cx y a h
    | _ => none
  | .block id c => match code cx c a h with
    | some (.exit i, a', h') => some (bif Nat.beq i id then .normal else .exit i, a', h')
    | r => r
  | .loop c => match code cx c a h with
    | some (.normal, a', h') => code cx (.loop c) a' h'
    | r => r
  | .rangeFunc f params assign body => evRange E code cx f params assign body a h
  | .exit id => some (.exit id, a, h)
  | .scope c => code cx c a h
  | .ret => some (.ret, a, h)
  | _ => none
noncomputable def ev (E : Env) : Nat → CodeF
  | 0 => fun _ _ _ _ => none
  | n + 1 => evStep E (ev E n)
section
variable {E : Env} (ok : EnvOK E)
noncomputable def Sound (P : Program) (code : CodeF) : Prop := ∀ cx c a h e a' h', code cx c a h = some (e, a', h') → CWp P cx c a h fun e1 a1 h1 => e1 = e ∧ a1 = a' ∧ h1 = h'
include ok
omit ok in
theorem evYield_sound {code : CodeF} (hs : Sound E.P code) {l : Nat} {vs : List Value} {h h' : AHeap} {v : Value} (he : evYield code l vs h = some (v, h')) : VWp E.P (.func (.yield l) #[] #[]) vs h fun x y => x = v ∧ y = h' := by
  unfold evYield at he
  split at he
  · rename_i lp hl
    split at he
    · rename_i a0 ha0
      split at he
      · rename_i a1 h1 hc
        split at he
        · rename_i lp1 hl1
          split at he
          · rename_i hst
            split at he
            · rename_i e a2 h2 hc2
              split at he
              · rename_i lp2 hl2
                simp only [Option.some.injEq, Prod.mk.injEq] at he
                obtain ⟨rfl, rfl⟩ := he
                refine VWp.yield hl ha0 ((hs _ _ _ _ _ _ _ hc).mono ?_)
                rintro e1 a1' h1' ⟨rfl, rfl, rfl⟩
                refine ⟨rfl, lp1, hl1, hst, (hs _ _ _ _ _ _ _ hc2).mono ?_⟩
                rintro e2 a2' h2' ⟨rfl, rfl, rfl⟩
                exact ⟨lp2, hl2, rfl, rfl⟩
              · cases he
            · cases he
          · cases he
        · cases he
      · cases he
    · cases he
  · cases he
theorem evCall_sound {code : CodeF} (hs : Sound E.P code) {f : FuncId} {args : List Value} {h h' : AHeap} {v : Value} (he : evCall E code f args h = some (v, h')) : (∃ fn, Entered E.P f fn) ∧ FWp E.P f args h fun x y => x = v ∧ y = h' := by
  unfold evCall at he
  split at he
  · rename_i r hr
    cases he
    exact ok.sum _ _ _ _ _ hr
  · split at he
    · rename_i fn hf
      split at he
      · rename_i c hb
        cases hl : Nat.ble args.length fn.ntmps
        · rw [hl, cond_false] at he; cases he
        · rw [hl, cond_true] at he
          refine ⟨⟨fn, ok.fn f fn hf⟩, ?_⟩
          split at he
          · rename_i a' h1 hc
            split at he
            · rename_i u hu
              simp only [Option.some.injEq, Prod.mk.injEq] at he
              obtain ⟨rfl, rfl⟩ := he
              refine FWp.code ok.ty (ok.fn f fn hf).look hb (Nat.le_of_ble_eq_true hl) ((hs _ _ _ _ _ _ _ hc).mono ?_)
              rintro e1 a1 h1' ⟨rfl, rfl, rfl⟩
              exact ⟨_, hu, rfl, rfl⟩
            · cases he
          · rename_i a' h1 hc
            split at he
            · rename_i u hu
              simp only [Option.some.injEq, Prod.mk.injEq] at he
              obtain ⟨rfl, rfl⟩ := he
              refine FWp.code ok.ty (ok.fn f fn hf).look hb (Nat.le_of_ble_eq_true hl) ((hs _ _ _ _ _ _ _ hc).mono ?_)
              rintro e1 a1 h1' ⟨rfl, rfl, rfl⟩
              exact ⟨_, hu, rfl, rfl⟩
            · cases he
          · cases he
      · cases he
    · cases he
theorem evVal_sound {code : CodeF} (hs : Sound E.P code) {fv : Value} {vs : List Value} {h h' : AHeap} {v : Value} (he : evVal E code fv vs h = some (v, h')) : VWp E.P fv vs h fun x y => x = v ∧ y = h' := by
  unfold evVal at he
  split at he
  · obtain ⟨⟨fn, h1⟩, h2⟩ := evCall_sound ok hs he
    exact VWp.func h1 h2
  · rename_i l first cap
    cases hb : first.isEmpty && cap.isEmpty
    · rw [hb, cond_false] at he; cases he
    · rw [hb, cond_true] at he
      simp only [Bool.and_eq_true, Array.isEmpty_iff] at hb
      obtain ⟨rfl, rfl⟩ := hb
      exact evYield_sound hs he
  · cases he
theorem evOp_sound {code : CodeF} (hs : Sound E.P code) (o : Oper) (ρ : Operand → Option Value) (h : AHeap) (v : Value) (h' : AHeap) (he : evOp E code o ρ h = some (v, h')) : OpWp E.P o ρ h fun x y => x = v ∧ y = h' := by
  obtain ⟨dst, op, ty, pos, after, guard⟩ := o
  unfold evOp at he
  split at he
  · rename_i f xs ats hop
    simp only at hop
    subst hop
    split at he
    · rename_i fv vs h1 h2
      exact OpWp.call h1 h2 (evVal_sound ok hs he)
    · cases he
  · exact aop_sound ok.ty he ⟨rfl, rfl⟩
theorem evOps_sound {code : CodeF} (hs : Sound E.P code) {ops : Array Oper} {cx : Cx} : ∀ {os : List Oper} {i : Nat} {a a' : Tr Value} {h h' : AHeap}, ops.toList.drop i = os → evOps E code ops cx.nt os a h = some (a', h') →
    OWp E.P cx ops (List.range' i os.length) a h fun x y => x = a' ∧ y = h'
  | [], i, a, a', h, h', _, he => by simp only [evOps, Option.some.injEq, Prod.mk.injEq] at he; obtain ⟨rfl, rfl⟩ := he; exact OWp.nil ⟨rfl, rfl⟩
  | o :: os, i, a, a', h, h', hd, he => by
    have ho : ops[i]? = some o := by
      rw [← Array.getElem?_toList]
      have := congrArg (fun l : List Oper => l[0]?) hd
      simpa using this
    have hd1 : ops.toList.drop (i + 1) = os := by rw [← List.drop_drop, hd]; rfl
    simp only [evOps] at he
    rw [List.length_cons, List.range'_succ]
    split at he
    · rename_i hg
      cases hdf : isDefer o.op
      · rw [hdf, cond_false] at he
        split at he
        · rename_i v h1 hop
          split at he
          · rename_i a1 hp
            refine OWp.op ho hg hdf ((evOp_sound ok hs o _ _ _ _ hop).mono ?_)
            rintro x y ⟨rfl, rfl⟩
            exact ⟨a1, hp, evOps_sound hs hd1 he⟩
          · cases he
        · cases he
      · rw [hdf, cond_true] at he; cases he
    · rename_i hg
      split at he
      · rename_i a1 hp
        exact OWp.skip ho hg hp (evOps_sound hs hd1 he)
      · cases he
    · cases he
theorem evRange_sound {code : CodeF} (hs : Sound E.P code) {cx : Cx} {f : Operand} {params : Array Tmp} {assign body : Code} {a a' : Tr Value} {h h' : AHeap} {e : AExit} (he : evRange E code cx f params assign body a h = some (e, a', h')) :
    CWp E.P cx (.rangeFunc f params assign body) a h fun e1 a1 h1 => e1 = e ∧ a1 = a' ∧ h1 = h' := by
  unfold evRange at he
  split at he
  · rename_i fv hf
    cases hrd : (match cx.rd with | none => true | some l => loopRow h l)
    · rw [hrd, cond_false] at he; cases he
    · rw [hrd, cond_true] at he
      split at he
      · rename_i x h2 hv
        split at he
        · rename_i lp hl
          have fin : ∀ e0, (lp.state == .busy) = false → jumpExit lp.pending = some e0 → some (e0, a, h2.kill h.next) = some (e, a', h') → CWp E.P cx (.rangeFunc f params assign body) a h fun e1 a1 h1 => e1 = e ∧ a1 = a' ∧ h1 = h' := by
            intro e0 hb hj heq
            simp only [Option.some.injEq, Prod.mk.injEq] at heq
            obtain ⟨rfl, rfl, rfl⟩ := heq
            refine CWp.rangeFunc hf (fun l hl => ?_) ((evVal_sound ok hs hv).mono ?_)
            · rw [hl] at hrd
              simp only [loopRow] at hrd
              split at hrd
              · rename_i lp0 h0; exact ⟨lp0, h0⟩
              · cases hrd
            · rintro u y ⟨rfl, rfl⟩
              exact ⟨lp, e0, hl, hb, hj, rfl, rfl, rfl⟩
          split at he
          · cases he
          · rename_i e0 hj hnb
            refine fin e0 ?_ hj he
            cases hst : lp.state <;> first | rfl | exact (hnb hst).elim
          · cases he
        · cases he
      · cases he
  · cases he
theorem evStep_sound {code : CodeF} (hs : Sound E.P code) : Sound E.P (evStep E code) := by
  intro cx c a h e a' h' he
  cases c with
  | skip => simp only [evStep, Option.some.injEq, Prod.mk.injEq] at he; obtain ⟨rfl, rfl, rfl⟩ := he; exact CWp.skip ⟨rfl, rfl, rfl⟩
  | label l => simp only [evStep, Option.some.injEq, Prod.mk.injEq] at he; obtain ⟨rfl, rfl, rfl⟩ := he; exact CWp.label ⟨rfl, rfl, rfl⟩
  | region id ops draw =>
    simp only [evStep] at he
    cases draw
    · simp only [cond_false] at he
      split at he
      · rename_i a1 h1 hr
        simp only [Option.some.injEq, Prod.mk.injEq] at he
        obtain ⟨rfl, rfl, rfl⟩ := he
        have := evOps_sound ok hs (cx := cx) (i := 0) (by simp) hr
        rw [Array.length_toList, ← List.range_eq_range'] at this
        refine CWp.region (fun μ base tmps defers rd w k cs p => ?_)
        obtain ⟨a2, h2, μ2, t2, w2, ⟨rfl, rfl⟩, q⟩ := this μ base tmps defers rd w k cs p
        exact ⟨_, _, μ2, t2, w2, ⟨rfl, rfl, rfl⟩, q⟩
      · cases he
    · simp only [cond_true] at he
      split at he
      · rename_i a1 h1 hr
        simp only [Option.some.injEq, Prod.mk.injEq] at he
        obtain ⟨rfl, rfl, rfl⟩ := he
        exact evDrawn_sound ok.ty ok.mix (fun o ρ h u h' => evOp_sound ok hs o ρ h u h') hr ⟨rfl, rfl, rfl⟩
      · cases he
  | seq x y =>
    simp only [evStep] at he
    refine CWp.seq ?_
    split at he
    · rename_i a1 h1 hc
      refine (hs _ _ _ _ _ _ _ hc).mono ?_
      rintro e1 a2 h2 ⟨rfl, rfl, rfl⟩
      exact hs _ _ _ _ _ _ _ he
    · rename_i r hne
      refine (hs _ _ _ _ _ _ _ he).mono ?_
      rintro e1 a2 h2 ⟨rfl, rfl, rfl⟩
      cases e1 with
      | normal => exact (hne _ _ he).elim
      | exit i => exact ⟨rfl, rfl, rfl⟩
      | ret => exact ⟨rfl, rfl, rfl⟩
  | cond c x y =>
    simp only [evStep] at he
    split at he
    · rename_i t ht
      refine CWp.cond ht ?_
      cases t
      · exact hs _ _ _ _ _ _ _ he
      · exact hs _ _ _ _ _ _ _ he
    · cases he
  | block id c =>
    simp only [evStep] at he
    refine CWp.block ?_
    split at he
    · rename_i i a1 h1 hc
      simp only [Option.some.injEq, Prod.mk.injEq] at he
      obtain ⟨rfl, rfl, rfl⟩ := he
      refine (hs _ _ _ _ _ _ _ hc).mono ?_
      rintro e1 a2 h2 ⟨rfl, rfl, rfl⟩
      by_cases hi : i = id
      · subst hi; simp
      · have : Nat.beq i id = false := by
          cases hb : Nat.beq i id
          · rfl
          · exact (hi (Nat.eq_of_beq_eq_true hb)).elim
        simp [hi, this]
    · rename_i r hne
      refine (hs _ _ _ _ _ _ _ he).mono ?_
      rintro e1 a2 h2 ⟨rfl, rfl, rfl⟩
      cases e1 with
      | normal => exact ⟨rfl, rfl, rfl⟩
      | exit i => exact (hne _ _ _ he).elim
      | ret => exact ⟨rfl, rfl, rfl⟩
  | loop c =>
    simp only [evStep] at he
    refine CWp.loop1 ?_
    split at he
    · rename_i a1 h1 hc
      refine (hs _ _ _ _ _ _ _ hc).mono ?_
      rintro e1 a2 h2 ⟨rfl, rfl, rfl⟩
      exact hs _ _ _ _ _ _ _ he
    · rename_i r hne
      refine (hs _ _ _ _ _ _ _ he).mono ?_
      rintro e1 a2 h2 ⟨rfl, rfl, rfl⟩
      cases e1 with
      | normal => exact (hne _ _ he).elim
      | exit i => exact ⟨rfl, rfl, rfl⟩
      | ret => exact ⟨rfl, rfl, rfl⟩
  | rangeFunc f params assign body => exact evRange_sound ok hs he
  | exit id => simp only [evStep, Option.some.injEq, Prod.mk.injEq] at he; obtain ⟨rfl, rfl, rfl⟩ := he; exact CWp.exit ⟨rfl, rfl, rfl⟩
  | scope c => exact CWp.scope (hs _ _ _ _ _ _ _ he)
  | goto l => cases he
  | ret => simp only [evStep, Option.some.injEq, Prod.mk.injEq] at he; obtain ⟨rfl, rfl, rfl⟩ := he; exact CWp.ret ⟨rfl, rfl, rfl⟩
  | refuse w => cases he
theorem ev_sound : ∀ n, Sound E.P (ev E n)
  | 0 => fun _ _ _ _ _ _ _ he => by cases he
  | n + 1 => evStep_sound ok (ev_sound n)
theorem call_sound (n : Nat) {f : FuncId} {args : List Value} {h h' : AHeap} {v : Value} (he : evCall E (ev E n) f args h = some (v, h')) : FWp E.P f args h fun x y => x = v ∧ y = h' :=
  (evCall_sound ok (ev_sound ok n) he).2
end
end Go.Ab
