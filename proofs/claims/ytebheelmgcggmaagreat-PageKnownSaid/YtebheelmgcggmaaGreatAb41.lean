/-
  Functions that defer one closure which may recover.
-/
import Derived.Test.YtebheelmgcggmaaGreatAb40
import Derived.Recover
namespace Go.Ab
set_option linter.unusedSimpArgs false
set_option linter.unusedVariables false
noncomputable def GWp (P : Program) (b : Frame) (D : List Deferred) (nt : Nat) (J : Tr Value → Value → AHeap → Prop) (c : Code) (a : Tr Value) (h : AHeap) (Q : Tr Value → AHeap → Prop) : Prop :=
  ∀ (μ : Emb) (tmps : Array Value) (w : World) (k : List Item) (cs : List Frame), ActRel μ h.next a tmps → tmps.size = nt → StRel μ h w →
    (∃ a' h' μ' tmps' w', Q a' h' ∧ ActRel μ' h'.next a' tmps' ∧ tmps'.size = nt ∧ Ext μ h w μ' h' w' ∧ Steps P (lone (b.at ⟨tmps, D⟩ (.code c :: k)) cs w) (lone (b.at ⟨tmps', D⟩ k) cs w')) ∨
      ∃ pv a' h' μ' tmps' todo w', J a' pv h' ∧ ActRel μ' h'.next a' tmps' ∧ Ext μ h w μ' h' w' ∧ Steps P (lone (b.at ⟨tmps, D⟩ (.code c :: k)) cs w) (lone { b.at ⟨tmps', D⟩ todo with mode := .panicking (pe pv) } cs w')
noncomputable def GOps (P : Program) (b : Frame) (D : List Deferred) (nt : Nat) (J : Tr Value → Value → AHeap → Prop) (ops : Array Oper) (l : List Nat) (a : Tr Value) (h : AHeap) (Q : Tr Value → AHeap → Prop) : Prop :=
  ∀ (μ : Emb) (tmps : Array Value) (w : World) (k : List Item) (cs : List Frame), ActRel μ h.next a tmps → tmps.size = nt → StRel μ h w →
    (∃ a' h' μ' tmps' w', Q a' h' ∧ ActRel μ' h'.next a' tmps' ∧ tmps'.size = nt ∧ Ext μ h w μ' h' w' ∧ Steps P (lone (b.at ⟨tmps, D⟩ (.inRegion ops l :: k)) cs w) (lone (b.at ⟨tmps', D⟩ k) cs w')) ∨
      ∃ pv a' h' μ' tmps' todo w', J a' pv h' ∧ ActRel μ' h'.next a' tmps' ∧ Ext μ h w μ' h' w' ∧ Steps P (lone (b.at ⟨tmps, D⟩ (.inRegion ops l :: k)) cs w) (lone { b.at ⟨tmps', D⟩ todo with mode := .panicking (pe pv) } cs w')
section rules
variable {P : Program} {T : Tr TI} {b : Frame} {D : List Deferred} {nt : Nat} {J : Tr Value → Value → AHeap → Prop} {a : Tr Value} {h : AHeap} {Q : Tr Value → AHeap → Prop}
theorem act_eval (tmps : Array Value) (D : List Deferred) : Act.eval ⟨tmps, D⟩ = opnd tmps := by funext x; cases x <;> rfl
theorem act_put (tmps : Array Value) (D : List Deferred) (dst : Option Tmp) (v : Value) : Act.put ⟨tmps, D⟩ dst v = ⟨put tmps dst v, D⟩ := by cases dst <;> rfl
theorem at_push {tmps : Array Value} {k : List Item} {cs : List Frame} {w w' : World} {ops : Array Oper} {i : Nat} {rest : List Nat} {o : Oper} (ho : ops[i]? = some o) (hw : Region.wanted o (yielded ops tmps) = true) {nx : Next} {m : Machine}
    (hr : (execOp (opnd tmps) o).run P w = .ok nx w') (hp : pushed P (b.at ⟨tmps, D⟩ (.inRegion ops (i :: rest) :: k)) cs w' nx = some m) :
    step P (lone (b.at ⟨tmps, D⟩ (.inRegion ops (i :: rest) :: k)) cs w) = .next m := by
  have hg := stepG_op (P := P) (b := b) (a := ⟨tmps, D⟩) (k := k) (cs := cs) (w := w) (rest := rest) ho hw
  rw [act_eval] at hg
  cases nx <;> simp only [pushed, Option.some.injEq] at hp <;> first | (cases hp; done) | (subst hp; refine step_lone_go ?_; rw [hg]; simp [stepG.apply, hr, Frame.at])
theorem at_raise {tmps : Array Value} {k : List Item} {cs : List Frame} {w w' : World} {ops : Array Oper} {i : Nat} {rest : List Nat} {o : Oper} (ho : ops[i]? = some o) (hw : Region.wanted o (yielded ops tmps) = true) {pv : Value}
    (hr : (execOp (opnd tmps) o).run P w = .halt (.panic pv) w') : step P (lone (b.at ⟨tmps, D⟩ (.inRegion ops (i :: rest) :: k)) cs w) = .next (lone { b.at ⟨tmps, D⟩ (.inRegion ops (i :: rest) :: k) with mode := .panicking (pe pv) } cs w') := by
  have hg := stepG_op (P := P) (b := b) (a := ⟨tmps, D⟩) (k := k) (cs := cs) (w := w) (rest := rest) ho hw
  rw [act_eval] at hg
  refine step_lone_go ?_
  rw [hg]
  simp [stepG.apply, hr, Frame.raise, Frame.at, pe]
theorem at_finish {tmps : Array Value} {k : List Item} {ops : Array Oper} {i : Nat} {rest : List Nat} {o : Oper} (ho : ops[i]? = some o) (v : Value) : (b.at ⟨tmps, D⟩ (.inRegion ops (i :: rest) :: k)).finish v = b.at ⟨put tmps o.dst v, D⟩ (.inRegion ops rest :: k) := by
  rw [Frame.finish_at, ho, act_put]; rfl
theorem GWp.skip (hq : Q a h) : GWp P b D nt J .skip a h Q := fun μ tmps w _ _ ha hs st => .inl ⟨a, h, μ, tmps, w, hq, ha, hs, Ext.refl st, .one step_skip⟩
theorem GWp.seq {x y : Code} (hc : GWp P b D nt J x a h fun a' h' => GWp P b D nt J y a' h' Q) : GWp P b D nt J (.seq x y) a h Q := by
  intro μ tmps w k cs ha hs st
  rcases hc μ tmps w (.code y :: k) cs ha hs st with ⟨a1, h1, μ1, t1, w1, q, p1, p2, x1, s1⟩ | ⟨pv, a1, h1, μ1, t1, todo, w1, q, p1, x1, s1⟩
  · rcases q μ1 t1 w1 k cs p1 p2 x1.st with ⟨a2, h2, μ2, t2, w2, q2, r1, r2, x2, s2⟩ | ⟨pv, a2, h2, μ2, t2, todo, w2, q2, r1, x2, s2⟩
    · exact .inl ⟨a2, h2, μ2, t2, w2, q2, r1, r2, x1.trans x2, .head step_seq (s1.trans s2)⟩
    · exact .inr ⟨pv, a2, h2, μ2, t2, todo, w2, q2, r1, x1.trans x2, .head step_seq (s1.trans s2)⟩
  · exact .inr ⟨pv, a1, h1, μ1, t1, todo, w1, q, p1, x1, .head step_seq s1⟩
theorem GWp.cond {c : Operand} {x y : Code} {t : Bool} (hc : aopnd a c = some (.bool t)) (hb : GWp P b D nt J (if t then x else y) a h Q) : GWp P b D nt J (.cond c x y) a h Q := by
  intro μ tmps w k cs ha hs st
  have hv : Act.eval ⟨tmps, D⟩ c = .bool t := by rw [act_eval]; have := ha.opnd c _ hc; cases hx : opnd tmps c <;> rw [hx] at this <;> cases this; rfl
  rcases hb μ tmps w k cs ha hs st with ⟨a1, h1, μ1, t1, w1, q, p1, p2, x1, s1⟩ | ⟨pv, a1, h1, μ1, t1, todo, w1, q, p1, x1, s1⟩
  · exact .inl ⟨a1, h1, μ1, t1, w1, q, p1, p2, x1, .head (step_cond hv) s1⟩
  · exact .inr ⟨pv, a1, h1, μ1, t1, todo, w1, q, p1, x1, .head (step_cond hv) s1⟩
theorem GOps.nil {ops : Array Oper} (hq : Q a h) : GOps P b D nt J ops [] a h Q := fun μ tmps w _ _ ha hs st => .inl ⟨a, h, μ, tmps, w, hq, ha, hs, Ext.refl st, .one step_region_end⟩
theorem GOps.op {ops : Array Oper} {i : Nat} {rest : List Nat} {o : Oper} (ho : ops[i]? = some o) (hg : aguard ops a o = some true) (hop : OpWpP P o (aopnd a) h (fun v h' => ∃ a', aput nt a o.dst v = some a' ∧ GOps P b D nt J ops rest a' h' Q) (J a)) : GOps P b D nt J ops (i :: rest) a h Q := by
  intro μ tmps w k cs ha hs st
  have hw := aguard_wanted ha hg
  rcases hop μ (opnd tmps) w (b.at ⟨tmps, D⟩ (.inRegion ops (i :: rest) :: k)) cs ha.opnd st with ⟨nx, w1, m, e1, e2, ⟨v, v', h', μ', w', e3, ⟨a', e4, e5⟩, e6, e7⟩ | ⟨pv, h', μ', w', e3, e4, e5⟩⟩ | ⟨pv, e1, e2⟩
  · obtain ⟨r1, r2⟩ := (ha.mono e6.agree e6.next).put hs e7 e4
    rw [at_finish ho] at e3
    have hs := Steps.head (at_push ho hw e1 e2) e3
    rcases e5 μ' _ w' k cs r1 r2 e6.st with ⟨a2, h2, μ2, t2, w2, q, p1, p2, x2, s2⟩ | ⟨pv, a2, h2, μ2, t2, todo, w2, q, p1, x2, s2⟩
    · exact .inl ⟨a2, h2, μ2, t2, w2, q, p1, p2, e6.trans x2, hs.trans s2⟩
    · exact .inr ⟨pv, a2, h2, μ2, t2, todo, w2, q, p1, e6.trans x2, hs.trans s2⟩
  · exact .inr ⟨pv, a, h', μ', tmps, _, w', e4, ha.mono e5.agree e5.next, e5, Steps.head (at_push ho hw e1 e2) e3⟩
  · exact .inr ⟨pv, a, h, μ, tmps, _, w, e2, ha, Ext.refl st, .one (at_raise ho hw e1)⟩
theorem OpWpP.of {o : Oper} {ρ : Operand → Option Value} {K J : Value → AHeap → Prop} (hv : OpWp P o ρ h K) : OpWpP P o ρ h K J := by
  intro μ ρ' w c cs h1 h2
  obtain ⟨nx, w1, m, v, v', h', μ', w', e1, e2, e3, e4, e5, e6⟩ := hv μ ρ' w c cs h1 h2
  exact .inl ⟨nx, w1, m, e1, e2, .inl ⟨v, v', h', μ', w', e3, e4, e5, e6⟩⟩
noncomputable def GSuf (P : Program) (b : Frame) (D : List Deferred) (nt : Nat) (J : Tr Value → Value → AHeap → Prop) (ops : Array Oper) (os : List Oper) (a : Tr Value) (h : AHeap) (Q : Tr Value → AHeap → Prop) : Prop :=
  ∀ i, ops.toList.drop i = os → GOps P b D nt J ops (List.range' i os.length) a h Q
theorem GSuf.nil {ops : Array Oper} (hq : Q a h) : GSuf P b D nt J ops [] a h Q := fun _ _ => GOps.nil hq
theorem GSuf.op {ops : Array Oper} {o : Oper} {os : List Oper} (hg : aguard ops a o = some true) (hop : OpWpP P o (aopnd a) h (fun v h' => ∃ a', aput nt a o.dst v = some a' ∧ GSuf P b D nt J ops os a' h' Q) (J a)) : GSuf P b D nt J ops (o :: os) a h Q := by
  intro i hi
  rw [List.length_cons, List.range'_succ]
  refine GOps.op (drop_at hi) hg (hop.mono ?_)
  rintro v h' ⟨a', h1, h2⟩
  exact ⟨a', h1, h2 (i + 1) (by rw [← List.drop_drop, hi]; rfl)⟩
theorem GWp.reg {id : Nat} {ops : Array Oper} (hr : GSuf P b D nt J ops ops.toList a h Q) : GWp P b D nt J (.region id ops false) a h Q := by
  have := hr 0 (by simp)
  rw [Array.length_toList, ← List.range_eq_range'] at this
  intro μ tmps w k cs ha hs st
  rcases this μ tmps w k cs ha hs st with ⟨a2, h2, μ2, t2, w2, q, p1, p2, x2, s2⟩ | ⟨pv, a2, h2, μ2, t2, todo, w2, q, p1, x2, s2⟩
  · exact .inl ⟨a2, h2, μ2, t2, w2, q, p1, p2, x2, .head step_region s2⟩
  · exact .inr ⟨pv, a2, h2, μ2, t2, todo, w2, q, p1, x2, .head step_region s2⟩
variable {ops : Array Oper} {o : Oper} {os : List Oper} {h1 : AHeap} {v : Value} {a1 : Tr Value} {R : Tr Value → AHeap → Prop}
theorem GSuf.aop (ok : TyOK P T) (hg : aguard ops a o = some true) (ho : Ab.aop P T o (aopnd a) h = some (v, h1)) (hp : aput nt a o.dst v = some a1) (t : GSuf P b D nt J ops os a1 h1 R) : GSuf P b D nt J ops (o :: os) a h R :=
  GSuf.op hg (.of (aop_sound ok ho ⟨a1, hp, t⟩))
noncomputable def DefWp (P : Program) (g : FuncId) (caps : List Value) (h : AHeap) (u u' : FrameMode) (K : AHeap → Prop) : Prop :=
  ∀ (μ : Emb) (caps' : Array Value) (w : World), LRel μ h.next caps caps'.toList → StRel μ h w → ∀ (c : Frame) (cs : List Frame), c.mode = u →
    ∃ v h' μ' w' fr, K h' ∧ Ext μ h w μ' h' w' ∧ Steps P (lone (Frame.enter P g caps' .deferred) (c :: cs) w) (lone fr ({ c with mode := u' } :: cs) w') ∧ fr.kind = .deferred ∧ fr.going P w' (.returned v)
noncomputable def Hands (u : FrameMode) (rv : Value) (u' : FrameMode) : Prop := (u = .returning ∧ rv = .nilIface ∧ u' = u) ∨ (∃ t pv, u = .panicking (pe (.iface t pv)) ∧ flat pv = true ∧ rv = .iface t pv ∧ u' = .panicking [{ v := .iface t pv, recovered := true }])
theorem DefWp.code {g : FuncId} {fg : Func} {caps : List Value} {u u' : FrameMode} {rv : Value} {K : AHeap → Prop} {id : Nat} {t5 t2 : Nat} {ats : Array TypeId} {ty ty2 : TypeId} {pos pos2 : String} {af af2 : Array Edge} {Z : Code}
    (hf : P.funcs[g]? = some fg) (hb : fg.body = some (.seq (.region id #[⟨some t5, .call ⟨.builtin .recover, #[], ats⟩, ty, pos, af, none⟩, ⟨some t2, .assign (.tmp t5), ty2, pos2, af2, none⟩] false) Z)) (hres : fg.results = #[]) (hn : caps.length ≤ fg.ntmps) (h5 : t5 < fg.ntmps) (h2 : t2 < fg.ntmps)
    (hh : Hands u rv u') (hz : ∀ b : Frame, GWp P b [] fg.ntmps (fun _ _ _ => False) Z (((entry caps 0 .leaf).put t5 (some rv)).put t2 (some rv)) h fun _ h' => K h') : DefWp P g caps h u u' K := by
  intro μ caps' w hl st c cs hu
  have hlen := hl.length
  simp only [Array.length_toList] at hlen
  have hsz : (caps' ++ Array.replicate (fg.ntmps - caps'.size) undef).size = fg.ntmps := by simp; omega
  have hact : ActRel μ h.next (entry caps 0 .leaf) (caps' ++ Array.replicate (fg.ntmps - caps'.size) undef) := entry_act hl
  let b : Frame := { (default : Frame) with fn := g, kind := .deferred }
  obtain ⟨tm, htm⟩ : ∃ tm, tm = caps' ++ Array.replicate (fg.ntmps - caps'.size) undef := ⟨_, rfl⟩
  rw [← htm] at hsz hact
  have henter : Frame.enter P g caps' .deferred = b.at ⟨tm, []⟩ [.code (.seq (.region id #[⟨some t5, .call ⟨.builtin .recover, #[], ats⟩, ty, pos, af, none⟩, ⟨some t2, .assign (.tmp t5), ty2, pos2, af2, none⟩] false) Z)] := by
    simp [Frame.enter, Frame.at, hf, hb, b, htm]
  have hrv : VRel μ h.next rv rv := by
    rcases hh with ⟨_, rfl, _⟩ | ⟨t, pv, _, hfl, rfl, _⟩
    · exact .nilIface
    · exact .iface (.of_flat _ _ hfl)
  have s1 : step P (lone (b.at ⟨tm, []⟩ (.inRegion #[⟨some t5, .call ⟨.builtin .recover, #[], ats⟩, ty, pos, af, none⟩, ⟨some t2, .assign (.tmp t5), ty2, pos2, af2, none⟩] [0, 1] :: [.code Z])) (c :: cs) w) =
      .next (lone (b.at ⟨put tm (some t5) rv, []⟩ (.inRegion #[⟨some t5, .call ⟨.builtin .recover, #[], ats⟩, ty, pos, af, none⟩, ⟨some t2, .assign (.tmp t5), ty2, pos2, af2, none⟩] [1] :: [.code Z])) ({ c with mode := u' } :: cs) w) := by
    rw [← at_finish (i := 0) (o := ⟨some t5, .call ⟨.builtin .recover, #[], ats⟩, ty, pos, af, none⟩) rfl]
    refine step_lone_go ?_
    have hg := stepG_op (P := P) (b := b) (a := ⟨tm, []⟩) (k := [.code Z]) (cs := c :: cs) (w := w) (rest := [1]) (ops := #[⟨some t5, .call ⟨.builtin .recover, #[], ats⟩, ty, pos, af, none⟩, ⟨some t2, .assign (.tmp t5), ty2, pos2, af2, none⟩]) (i := 0) rfl rfl
    rw [hg]
    rcases hh with ⟨rfl, rfl, rfl⟩ | ⟨t, pv, rfl, _, rfl, rfl⟩
    · have hc : ({ c with mode := .returning } : Frame) = c := by rw [← hu]
      simp [stepG.apply, execOp, resolve, invoke, builtin, Frame.at, b, tryRecover, hu, hc]
    · simp [stepG.apply, execOp, resolve, invoke, builtin, Frame.at, b, tryRecover, hu, pe]
  obtain ⟨r1, r2⟩ := hact.put (nt := fg.ntmps) (dst := some t5) hsz hrv (a' := (entry caps 0 .leaf).put t5 (some rv)) (by simp only [aput]; rw [Nat.ble_eq_true_of_le (by omega : t5 + 1 ≤ fg.ntmps)]; rfl)
  have s2 := at_push (P := P) (b := b) (D := []) (tmps := put tm (some t5) rv) (k := [.code Z]) (cs := { c with mode := u' } :: cs) (w := w) (w' := w) (ops := #[⟨some t5, .call ⟨.builtin .recover, #[], ats⟩, ty, pos, af, none⟩, ⟨some t2, .assign (.tmp t5), ty2, pos2, af2, none⟩]) (i := 1) (rest := []) (o := ⟨some t2, .assign (.tmp t5), ty2, pos2, af2, none⟩) rfl rfl (nx := .value rv)
    (by
      have : (put tm (some t5) rv).getD t5 undef = rv := by simp [put, Array.getD_eq_getD_getElem?, show t5 < tm.size by omega]
      simp [execOp, opnd, this]) rfl
  rw [at_finish (o := ⟨some t2, .assign (.tmp t5), ty2, pos2, af2, none⟩) rfl] at s2
  obtain ⟨q1, q2⟩ := r1.put (nt := fg.ntmps) (dst := some t2) r2 hrv (a' := ((entry caps 0 .leaf).put t5 (some rv)).put t2 (some rv)) (by simp only [aput]; rw [Nat.ble_eq_true_of_le (by omega : t2 + 1 ≤ fg.ntmps)]; rfl)
  rcases hz b μ _ w [] ({ c with mode := u' } :: cs) q1 q2 st with ⟨a2, h2, μ2, tF, w2, q, p1, p2, x2, sF⟩ | ⟨_, _, _, _, _, _, _, q, _⟩
  · refine ⟨.tuple #[], h2, μ2, w2, { b.at ⟨tF, []⟩ [] with mode := .returning }, q, x2, ?_, rfl, rfl, rfl, fg, hf, ?_⟩
    · rw [henter]
      exact .head step_seq (.head step_region (.head s1 (.head s2 (.head step_region_end (sF.trans (.one step_end))))))
    · simp [results, hres]
  · exact q.elim
theorem FWp.guard (ok : TyOK P T) {f g : FuncId} {fn fg : Func} {args : List Value} {K : Value → AHeap → Prop} {A C : Code} {id : Nat} {t4 : Nat} {xs : Array Operand} {ty ty2 : TypeId} {pos pos2 : String} {af af2 : Array Edge} {ats : Array TypeId} (hf : P.funcs[f]? = some fn)
    (hb : fn.body = some (.seq A (.seq (.region id #[⟨some t4, .makeFunc (.func g) #[] xs, ty, pos, af, none⟩, ⟨none, .defer ⟨.value (.tmp t4), #[], ats⟩, ty2, pos2, af2, none⟩] false) (.seq C .ret)))) (he : Entered P g fg) (hn : args.length ≤ fn.ntmps) (h4 : t4 < fn.ntmps)
    (hall : ∀ b : Frame, GWp P b [] fn.ntmps (fun _ _ _ => False) A (entry args 0 .leaf) h fun a1 h1 => ∃ caps, aopnds (aopnd a1) xs.toList = some caps ∧ ∀ D, GWp P b D fn.ntmps
      (fun a pv h3 => DefWp P g caps h3 (.panicking (pe pv)) (.panicking [{ v := pv, recovered := true }]) fun h4 => ∃ v, aRet T fn a h4 = some v ∧ K v h4) C (a1.put t4 (some (.func (.func g) #[] caps.toArray))) h1
      fun a3 h3 => DefWp P g caps h3 .returning .returning fun h4 => ∃ v, aRet T fn a3 h4 = some v ∧ K v h4) : FWp P f args h K := by
  intro μ args' w hl st cs
  have hlen := hl.length
  simp only [Array.length_toList] at hlen
  obtain ⟨tm, htm⟩ : ∃ tm, tm = args' ++ Array.replicate (fn.ntmps - args'.size) undef := ⟨_, rfl⟩
  have hsz : tm.size = fn.ntmps := by rw [htm]; simp; omega
  have hact : ActRel μ h.next (entry args 0 .leaf) tm := by rw [htm]; exact entry_act hl
  let b : Frame := { (default : Frame) with fn := f, kind := .normal }
  have henter : Frame.enter P f args' .normal = b.at ⟨tm, []⟩ [.code (.seq A (.seq (.region id #[⟨some t4, .makeFunc (.func g) #[] xs, ty, pos, af, none⟩, ⟨none, .defer ⟨.value (.tmp t4), #[], ats⟩, ty2, pos2, af2, none⟩] false) (.seq C .ret)))] := by
    simp [Frame.enter, Frame.at, hf, hb, b, htm]
  rw [henter]
  rcases hall b μ tm w [.code (.seq (.region id #[⟨some t4, .makeFunc (.func g) #[] xs, ty, pos, af, none⟩, ⟨none, .defer ⟨.value (.tmp t4), #[], ats⟩, ty2, pos2, af2, none⟩] false) (.seq C .ret))] cs hact hsz st with ⟨a1, h1, μ1, t1, w1, ⟨caps, hc1, hc2⟩, p1, p2, x1, s1⟩ | ⟨_, _, _, _, _, _, _, q, _⟩
  · have hm : OpWp P ⟨some t4, .makeFunc (.func g) #[] xs, ty, pos, af, none⟩ (aopnd a1) h1 fun v h' => v = .func (.func g) #[] caps.toArray ∧ h' = h1 := aop_sound ok (so_makeFunc (us := []) rfl rfl hc1) ⟨rfl, rfl⟩
    have hcr : LRel μ1 h1.next caps ((xs.map (opnd t1)).toList) := by rw [Array.toList_map]; exact aopnds_rel p1.opnd hc1
    have hrun : (execOp (opnd t1) ⟨some t4, .makeFunc (.func g) #[] xs, ty, pos, af, none⟩).run P w1 = .ok (.value (.func (.func g) #[] (xs.map (opnd t1)))) w1 := by
      simp [execOp, Instr.makeFunc]
    have e1 := at_push (P := P) (b := b) (D := []) (tmps := t1) (k := [.code (.seq C .ret)]) (cs := cs) (w := w1) (ops := #[⟨some t4, .makeFunc (.func g) #[] xs, ty, pos, af, none⟩, ⟨none, .defer ⟨.value (.tmp t4), #[], ats⟩, ty2, pos2, af2, none⟩]) (i := 0) (rest := [1]) (o := ⟨some t4, .makeFunc (.func g) #[] xs, ty, pos, af, none⟩) rfl rfl hrun rfl
    rw [at_finish (o := ⟨some t4, .makeFunc (.func g) #[] xs, ty, pos, af, none⟩) rfl] at e1
    have hfv : VRel μ1 h1.next (.func (.func g) #[] caps.toArray) (.func (.func g) #[] (xs.map (opnd t1))) := .func (fun l => by simp) .nil (by simpa using hcr)
    obtain ⟨r1, r2⟩ := p1.put (nt := fn.ntmps) (dst := some t4) p2 hfv (a' := a1.put t4 (some (.func (.func g) #[] caps.toArray))) (by simp only [aput]; rw [Nat.ble_eq_true_of_le (by omega : t4 + 1 ≤ fn.ntmps)]; rfl)
    obtain ⟨d, hd⟩ : ∃ d : Deferred, d = { target := .fn (.func g) (xs.map (opnd t1)), args := #[] } := ⟨_, rfl⟩
    obtain ⟨tq, htq⟩ : ∃ tq, tq = put t1 (some t4) (.func (.func g) #[] (xs.map (opnd t1))) := ⟨_, rfl⟩
    rw [← htq] at e1 r1 r2
    have hget : tq.getD t4 undef = .func (.func g) #[] (xs.map (opnd t1)) := by rw [htq]; simp [put, Array.getD_eq_getD_getElem?, show t4 < t1.size by omega]
    have e2 : step P (lone (b.at ⟨tq, []⟩ (.inRegion #[⟨some t4, .makeFunc (.func g) #[] xs, ty, pos, af, none⟩, ⟨none, .defer ⟨.value (.tmp t4), #[], ats⟩, ty2, pos2, af2, none⟩] [1] :: [.code (.seq C .ret)])) cs w1) =
        .next (lone (b.at ⟨tq, [d]⟩ (.inRegion #[⟨some t4, .makeFunc (.func g) #[] xs, ty, pos, af, none⟩, ⟨none, .defer ⟨.value (.tmp t4), #[], ats⟩, ty2, pos2, af2, none⟩] [] :: [.code (.seq C .ret)])) cs w1) := by
      refine step_lone_go ?_
      have hg := stepG_op (P := P) (b := b) (a := ⟨tq, []⟩) (k := [.code (.seq C .ret)]) (cs := cs) (w := w1) (rest := []) (ops := #[⟨some t4, .makeFunc (.func g) #[] xs, ty, pos, af, none⟩, ⟨none, .defer ⟨.value (.tmp t4), #[], ats⟩, ty2, pos2, af2, none⟩]) (i := 1) (o := ⟨none, .defer ⟨.value (.tmp t4), #[], ats⟩, ty2, pos2, af2, none⟩) rfl rfl
      rw [hg]
      simp [stepG.apply, execOp, resolve, Act.eval, hget, Deferred.ofValue, Frame.at, Frame.finish, hd]
    have sofar : Steps P (lone (b.at ⟨tm, []⟩ [.code (.seq A (.seq (.region id #[⟨some t4, .makeFunc (.func g) #[] xs, ty, pos, af, none⟩, ⟨none, .defer ⟨.value (.tmp t4), #[], ats⟩, ty2, pos2, af2, none⟩] false) (.seq C .ret)))]) cs w) (lone (b.at ⟨tq, [d]⟩ [.code C, .code .ret]) cs w1) :=
      .head step_seq (s1.trans (.head step_seq (.head step_region (.head e1 (.head e2 (.head step_region_end (.one step_seq)))))))
    have hinv : (invoke d.target d.args).run P = fun w => .ok (.enter g (xs.map (opnd t1))) w := by
      funext w; rw [hd]; simp [invoke, he.run]
    have fin : ∀ {a3 : Tr Value} {h3 : AHeap} {μ3 : Emb} {t3 : Array Value} {w3 : World} {todo : List Item} {u u' : FrameMode}, u ≠ .run → settle u' = .returning → ActRel μ3 h3.next a3 t3 → Ext μ h w μ3 h3 w3 → LRel μ3 h3.next caps (xs.map (opnd t1)).toList →
        Steps P (lone (b.at ⟨tm, []⟩ [.code (.seq A (.seq (.region id #[⟨some t4, .makeFunc (.func g) #[] xs, ty, pos, af, none⟩, ⟨none, .defer ⟨.value (.tmp t4), #[], ats⟩, ty2, pos2, af2, none⟩] false) (.seq C .ret)))]) cs w) (lone { b.at ⟨t3, [d]⟩ todo with mode := u } cs w3) →
        DefWp P g caps h3 u u' (fun h4 => ∃ v, aRet T fn a3 h4 = some v ∧ K v h4) →
        ∃ e w' fr, (∃ v v' h' μ', e = Ending.returned v' ∧ K v h' ∧ Ext μ h w μ' h' w' ∧ VRel μ' h'.next v v') ∧ Comes P (lone (b.at ⟨tm, []⟩ [.code (.seq A (.seq (.region id #[⟨some t4, .makeFunc (.func g) #[] xs, ty, pos, af, none⟩, ⟨none, .defer ⟨.value (.tmp t4), #[], ats⟩, ty2, pos2, af2, none⟩] false) (.seq C .ret)))]) cs w) (lone fr cs w') e ∧ fr.fn = f ∧ fr.leaving P w' e := by
      intro a3 h3 μ3 t3 w3 todo u u' hu hu' ha3 x3 hl3 hs hdw
      have g1 := step_defer (P := P) (fr := { b.at ⟨t3, [d]⟩ todo with mode := u }) (cs := cs) (w := w3) (d := d) (ds := []) hu rfl (by rw [hd]) (congrFun hinv w3)
      obtain ⟨v, h4, μ4, w4, fr, ⟨v', k1, k2⟩, x4, g2, g3, g4⟩ := hdw μ3 _ w3 hl3 x3.st { { b.at ⟨t3, [d]⟩ todo with mode := u } with defers := [] } cs rfl
      have g5 := step_going_returned (c := { { { b.at ⟨t3, [d]⟩ todo with mode := u } with defers := [] } with mode := u' }) (cs := cs) g3 g4
      simp only [hu'] at g5
      obtain ⟨v2, r1, r2⟩ := ret_good ok x4.st (ha3.mono x4.agree x4.next) k1
      exact ⟨.returned v2, w4, _, ⟨v', v2, h4, μ4, rfl, k2, x3.trans x4, r2⟩, Steps.trans hs (.head g1 (g2.trans (.one g5))), rfl, rfl, rfl, rfl, fn, hf, r1⟩
    rcases hc2 [d] μ1 tq w1 [.code .ret] cs r1 r2 x1.st with ⟨a3, h3, μ3, t3, w3, q, q1, q2, x3, s3⟩ | ⟨pv, a3, h3, μ3, t3, todo, w3, q, q1, x3, s3⟩
    · exact fin (u := .returning) (by simp) rfl q1 (x1.trans x3) (hcr.mono x3.agree x3.next) ((sofar.trans s3).trans (.one step_ret)) q
    · exact fin (by simp) rfl q1 (x1.trans x3) (hcr.mono x3.agree x3.next) (sofar.trans s3) q
  · exact q.elim
end rules
end Go.Ab
