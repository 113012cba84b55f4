/-
  The machine under the view: a loop over a function, its rounds.
-/
import Derived.Test.YtebheelmgcggmaaGreatAb11
namespace Go.Ab
set_option linter.unusedSimpArgs false
set_option linter.unusedVariables false
section rules
variable {P : Program} {T : Tr TI} {cx : Cx} {a : Tr Value} {h : AHeap}
noncomputable def ALoop.with (l : ALoop) (s : LoopState) (p : Option Code) : ALoop := { l with state := s, pending := p }
theorem StRel.getLoop {μ : Emb} {w : World} (st : StRel μ h w) {l : Nat} {lp : ALoop} (hg : h.get l = some (.loop lp)) {e : Ent} (hm : μ l = some e) :
    ∃ r, w.heap[e.b]? = some (.loop r) ∧ e.d = 0 ∧ r.state = lp.state ∧ r.pending = lp.pending ∧ r.fn = lp.fn ∧ r.tmps.size = lp.nt ∧ ActRel μ h.next lp.tmps r.tmps ∧ r.params = lp.params ∧ r.assign = lp.assign ∧ r.body = lp.body := by
  obtain ⟨_, e', c, h2, h3, h4, r, rfl, h5⟩ := st.live l _ hg
  rw [hm] at h2; cases h2
  exact ⟨r, h3, h4, h5⟩
theorem run_getLoop {w : World} {b : Nat} {r : Loop} (hr : w.heap[b]? = some (.loop r)) : (Instr.getLoop b).run P w = .ok r w := by
  simp only [Instr.getLoop, Sem.run_bind, run_getObj hr (fun _ _ _ => by simp), Result.andThen_ok, Sem.run_pure]
theorem run_setLoop {w : World} {b : Nat} {r : Loop} (hr : w.heap[b]? = some (.loop r)) (o : Obj) : (Go.setObj b o).run P w = .ok () { w with heap := w.heap.setIfInBounds b o } :=
  run_setObj hr (fun _ _ _ => by simp)
theorem StRel.setLoop {μ : Emb} {w : World} (st : StRel μ h w) {l : Nat} {lp : ALoop} (hg : h.get l = some (.loop lp)) {e : Ent} (hm : μ l = some e) {r : Loop} (hr : w.heap[e.b]? = some (.loop r)) (s : LoopState) (p : Option Code) :
    Ext μ h w μ (h.set l (.loop (lp.with s p))) { w with heap := w.heap.setIfInBounds e.b (.loop { r with state := s, pending := p }) } := by
  obtain ⟨r', h3, h4, h5, h6, h7, h8, h9, h10, h11, h12⟩ := st.getLoop hg hm
  rw [hr] at h3; cases h3
  exact st.setObj hg rfl hm ⟨h4, _, rfl, rfl, rfl, h7, h8, h9, h10, h11, h12⟩
noncomputable def bindParams (nt : Nat) : List Tmp → List Value → Tr Value → Option (Tr Value)
  | [], [], a => some a
  | t :: ts, v :: vs, a => bif Nat.ble (t + 1) nt then bindParams nt ts vs (a.put t (some v)) else none
  | _, _, _ => none
theorem bindParams_rel {μ : Emb} {n nt : Nat} : ∀ {ts : List Tmp} {vs vs' : List Value} {a a' : Tr Value} {tmps : Array Value}, LRel μ n vs vs' → ActRel μ n a tmps → tmps.size = nt → bindParams nt ts vs a = some a' →
    ActRel μ n a' ((ts.zip vs').foldl (fun tmps (x : Tmp × Value) => tmps.setIfInBounds x.1 x.2) tmps) ∧ ((ts.zip vs').foldl (fun tmps (x : Tmp × Value) => tmps.setIfInBounds x.1 x.2) tmps).size = nt ∧ ts.length = vs'.length
  | [], _, _, a, a', tmps, .nil, ha, hs, hb => by simp only [bindParams, Option.some.injEq] at hb; subst hb; exact ⟨ha, hs, rfl⟩
  | [], _, _, a, a', tmps, .cons _ _, ha, hs, hb => by cases hb
  | t :: ts, _, _, a, a', tmps, .nil, ha, hs, hb => by cases hb
  | t :: ts, _, _, a, a', tmps, .cons (v := v) (v' := v') hv hl, ha, hs, hb => by
    simp only [bindParams] at hb
    cases hlt : Nat.ble (t + 1) nt
    · rw [hlt, cond_false] at hb; cases hb
    · rw [hlt, cond_true] at hb
      obtain ⟨r1, r2⟩ := ha.put hs (dst := some t) hv (a' := a.put t (some v)) (by simp only [aput, hlt, cond_true])
      obtain ⟨i1, i2, i3⟩ := bindParams_rel hl r1 r2 hb
      exact ⟨i1, i2, by simp [i3]⟩
noncomputable def roundEnd (lp : ALoop) (e : AExit) : ALoop × Bool :=
  match e with
  | .normal => (lp.with .ready none, true)
  | .exit id => (lp.with .done (some (.exit id)), false)
  | .ret => (lp.with .done (some .ret), false)
theorem VWp.yield {l : Nat} {lp : ALoop} {vs : List Value} {a0 : Tr Value} {K : Value → AHeap → Prop} (hg : h.get l = some (.loop lp)) (hp : bindParams lp.nt lp.params.toList vs lp.tmps = some a0)
    (hc : CWp P ⟨lp.fn, lp.nt, some l⟩ lp.assign a0 h fun e a1 h1 => e = .normal ∧ ∃ lp1, h1.get l = some (.loop lp1) ∧ lp1.state = .ready ∧ CWp P ⟨lp.fn, lp.nt, some l⟩ lp.body a1 (h1.set l (.loop (lp1.with .busy lp1.pending)))
      fun e a2 h2 => ∃ lp2, h2.get l = some (.loop lp2) ∧ K (.bool (roundEnd lp2 e).2) (h2.set l (.loop (roundEnd lp2 e).1))) : VWp P (.func (.yield l) #[] #[]) vs h K := by
  intro μ fv' vs' w c cs hf hv st
  cases hf with
  | func hy _ _ => exact (hy l rfl).elim
  | yield hlt hm =>
    rename_i e0
    obtain ⟨r, g1, g2, g3, g4, g5, g6, g7, g8, g9, g10⟩ := st.getLoop hg hm
    obtain ⟨b1, b2, b3⟩ := bindParams_rel hv g7 g6 hp
    obtain ⟨tm, htm⟩ : ∃ tm, (r.params.zip vs').foldl (fun tmps (x : Tmp × Value) => tmps.setIfInBounds x.1 x.2) r.tmps = tm := ⟨_, rfl⟩
    have htm2 : (lp.params.toList.zip vs'.toList).foldl (fun tmps (x : Tmp × Value) => tmps.setIfInBounds x.1 x.2) r.tmps = tm := by
      rw [← htm, ← Array.foldl_toList, Array.toList_zip, g8]
    rw [htm2] at b1 b2
    have hrun : (do let d ← Deferred.ofValue (.func (.yield e0.b) #[] #[]) vs'; invoke d.target d.args : Sem Next).run P w = .ok (.round e0.b lp.fn tm lp.assign lp.body) w := by
      have hps : ¬ vs'.size ≠ r.params.size := by
        rw [g8]; simp only [Array.length_toList] at b3; simp; omega
      simp only [Sem.run_bind, Deferred.ofValue, Sem.run_pure, Result.andThen_ok, invoke, Instr.yield, run_getLoop g1, Array.empty_append]
      rw [if_neg hps]
      simp only [Sem.run_pure, Result.ok.injEq, Next.round.injEq, and_true, true_and]
      exact ⟨g5, htm, g9, g10⟩
    -- the assignment
    obtain ⟨e1, a1, h1, μ1, t1, d1, w1, ⟨rfl, lp1, q1, q2, q3⟩, p1, x1, arr1⟩ := hc μ w.heap.size tm [] (some e0.b) w [.beginRound, .code lp.body] (c :: cs)
      ⟨b1, b2, ⟨hlt, e0, hm, rfl⟩, .nil, fun _ => rfl, fun d hd => (by cases hd), Nat.le_refl _, st⟩
    have hd1 : d1 = [] := p1.dno (by simp)
    subst hd1
    -- the round begins
    have hm1 : μ1 l = some e0 := (x1.agree l hlt).trans hm
    obtain ⟨r1, k1, k2, k3, k4, k5, k6, k7, k8, k9, k10⟩ := p1.st.getLoop q1 hm1
    have xb := p1.st.setLoop q1 hm1 k1 .busy lp1.pending
    have hbegin : step P (lone (frame lp.fn (some e0.b) t1 [] [.beginRound, .code lp.body]) (c :: cs) w1) =
        .next (lone (frame lp.fn (some e0.b) t1 [] [.code lp.body]) (c :: cs) { w1 with heap := w1.heap.setIfInBounds e0.b (.loop { r1 with state := .busy, pending := lp1.pending }) }) := by
      refine step_lone_go ?_
      have hb : (Instr.beginRound e0.b).run P w1 = .ok () { w1 with heap := w1.heap.setIfInBounds e0.b (.loop { r1 with state := .busy, pending := lp1.pending }) } := by
        have hst : r1.state = .ready := k3.trans q2
        have hpd : ({ r1 with state := .busy, pending := lp1.pending } : Loop) = { r1 with state := .busy } := by rw [← k4]
        rw [hpd]
        simp only [Instr.beginRound, Sem.run_bind, run_getLoop k1, Result.andThen_ok, run_setLoop k1, hst, Sem.run_pure]
      simp [stepG, stepG.exec, frame, stepG.apply, hb, Frame.finish]
    have pb := p1.ext xb
    obtain ⟨e2, a2, h2, μ2, t2, d2, w2, ⟨lp2, q4, q5⟩, p2, x2, arr2⟩ := q3 μ1 w.heap.size t1 [] (some e0.b) _ [] (c :: cs) pb
    have hd2 : d2 = [] := p2.dno (by simp)
    subst hd2
    have hl1 : l < (h1.set l (.loop (lp1.with .busy lp1.pending))).next := by have := x1.next; simp; omega
    have hm2 : μ2 l = some e0 := (x2.agree l hl1).trans hm1
    obtain ⟨r2, m1, m2, m3, m4, m5, m6, m7, m8, m9, m10⟩ := p2.st.getLoop q4 hm2
    have hs0 : Steps P (lone (Frame.round e0.b lp.fn tm lp.assign lp.body .normal) (c :: cs) w) (lone (frame lp.fn (some e0.b) t1 [] [.code lp.body]) (c :: cs) { w1 with heap := w1.heap.setIfInBounds e0.b (.loop { r1 with state := .busy, pending := lp1.pending }) }) :=
      Steps.trans arr1 (.one hbegin)
    have hend : ∀ jump, (Instr.endRound e0.b jump).run P w2 = .ok (.bool jump.isNone) { w2 with heap := w2.heap.setIfInBounds e0.b (.loop { r2 with state := if jump.isNone then .ready else .done, pending := jump }) } := by
      intro jump
      simp only [Instr.endRound, Sem.run_bind, run_getLoop m1, Result.andThen_ok, run_setLoop m1, Sem.run_pure]
    cases e2 with
    | normal =>
      refine ⟨.round e0.b lp.fn tm lp.assign lp.body, w, _, .bool true, .bool true, h2.set l (.loop (lp2.with .ready none)), μ2, _, hrun, rfl, ?_, q5, (x1.trans (xb.trans x2)).trans (p2.st.setLoop q4 hm2 m1 .ready none), .bool _⟩
      refine hs0.trans (Steps.trans arr2 (.one (step_lone_go ?_)))
      have := hend none
      simp [stepG, stepG.exec, frame, this, doReturn]
    | exit id =>
      refine ⟨.round e0.b lp.fn tm lp.assign lp.body, w, _, .bool false, .bool false, h2.set l (.loop (lp2.with .done (some (.exit id)))), μ2, _, hrun, rfl, ?_, q5, (x1.trans (xb.trans x2)).trans (p2.st.setLoop q4 hm2 m1 .done (some (.exit id))), .bool _⟩
      obtain ⟨k0, y1, y2⟩ := arr2
      have y3 : exitTo id k0 = none := y1.trans rfl
      refine hs0.trans (y2.trans (.one (step_lone_go ?_)))
      have := hend (some (.exit id))
      simp [stepG, stepG.exec, frame, this, doReturn, y3]
    | ret =>
      refine ⟨.round e0.b lp.fn tm lp.assign lp.body, w, _, .bool false, .bool false, h2.set l (.loop (lp2.with .done (some .ret))), μ2, _, hrun, rfl, ?_, q5, (x1.trans (xb.trans x2)).trans (p2.st.setLoop q4 hm2 m1 .done (some .ret)), .bool _⟩
      obtain ⟨k0, y2⟩ := arr2
      refine hs0.trans (y2.trans (.one (step_lone_go ?_)))
      have := hend (some .ret)
      simp [stepG, stepG.exec, frame, this, doReturn]
noncomputable def jumpExit : Option Code → Option AExit
  | none => some .normal
  | some .ret => some .ret
  | some (.exit id) => some (.exit id)
  | _ => none
theorem CWp.rangeFunc {f : Operand} {params : Array Tmp} {assign body : Code} {fv : Value} {Q : AExit → Tr Value → AHeap → Prop} (hf : aopnd a f = some fv) (hrd : ∀ l, cx.rd = some l → ∃ lp, h.get l = some (.loop lp))
    (hv : VWp P fv [.func (.yield h.next) #[] #[]] (h.new (.loop ⟨.ready, none, cx.fn, cx.nt, a, params, assign, body⟩)) fun _ h2 =>
      ∃ lp e, h2.get h.next = some (.loop lp) ∧ (lp.state == .busy) = false ∧ jumpExit lp.pending = some e ∧ Q e a (h2.kill h.next)) :
    CWp P cx (.rangeFunc f params assign body) a h Q := by
  intro μ base tmps defers rd w k cs p
  -- the loop's record
  have henter : ∃ w1 lb D mark, (Instr.enterLoop cx.fn tmps params assign body rd).run P w = .ok (lb, mark) w1 ∧ lb = w1.heap.size - 1 ∧ w1 = { (match rd with | none => { w with heap := w.heap.push (.deferred (some [])) } | some _ => w) with
        heap := (match rd with | none => w.heap.push (.deferred (some [])) | some _ => w.heap).push (.loop { state := .ready, pending := none, fn := cx.fn, tmps, params, assign, body, defers := D }) } ∧
      mark = (match rd with | none => [{ target := .collected w.heap.size, args := #[] }] | some _ => []) := by
    cases rd with
    | none =>
      refine ⟨_, w.heap.size + 1, w.heap.size, _, ?_, ?_, rfl, rfl⟩
      · simp only [Instr.enterLoop, Sem.run_bind, run_newObj, Result.andThen_ok, Sem.run_pure, Array.size_push]
      · simp
    | some b =>
      have hr := p.rdr
      obtain ⟨l, hl⟩ : ∃ l, cx.rd = some l := by
        cases hc : cx.rd with
        | none => rw [hc] at hr; exact hr.elim
        | some l => exact ⟨l, rfl⟩
      rw [hl] at hr
      obtain ⟨hlt, e, hm, rfl⟩ := hr
      obtain ⟨lp, hg⟩ := hrd l hl
      obtain ⟨r, g1, _⟩ := p.st.getLoop hg hm
      refine ⟨_, w.heap.size, r.defers, _, ?_, ?_, rfl, rfl⟩
      · simp only [Instr.enterLoop, Sem.run_bind, run_getLoop g1, run_newObj, Result.andThen_ok, Sem.run_pure]
      · simp
  obtain ⟨w1, lb, D, mark, hrun, hlb, hw1, hmark⟩ := henter
  -- the view of the world with the record
  have hext : ∃ μ1, Ext μ h w μ1 (h.new (.loop ⟨.ready, none, cx.fn, cx.nt, a, params, assign, body⟩)) w1 ∧ μ1 h.next = some ⟨lb, 0, 0, 0⟩ ∧ DOk μ1 (h.new (.loop ⟨.ready, none, cx.fn, cx.nt, a, params, assign, body⟩)) w1 (mark ++ defers) ∧
      (∀ d ∈ mark ++ defers, ∀ q, d.target = .collected q → base ≤ q) ∧ (cx.rd ≠ none → mark ++ defers = []) := by
    have hcx : cx.rd = none ↔ rd = none := by
      have hr := p.rdr
      cases hc : cx.rd <;> cases rd <;> rw [hc] at hr <;> simp <;> exact hr.elim
    cases rd with
    | none =>
      simp only at hw1 hmark
      have x0 := Ext.alloc p.st (.deferred (some []))
      have x1 := Ext.new x0.st (.loop { state := .ready, pending := none, fn := cx.fn, tmps, params, assign, body, defers := D }) ⟨w.heap.size + 1, 0, 0, 0⟩ (.loop ⟨.ready, none, cx.fn, cx.nt, a, params, assign, body⟩) (by simp)
        ⟨rfl, _, rfl, rfl, rfl, rfl, p.size, p.act.mono (Agree.upd μ _ (Nat.le_refl _)) (by omega), rfl, rfl, rfl⟩
      have hw1' : w1 = { w with heap := (w.heap.push (.deferred (some []))).push (.loop { state := .ready, pending := none, fn := cx.fn, tmps, params, assign, body, defers := D }) } := hw1
      have hlb' : lb = w.heap.size + 1 := by rw [hlb, hw1']; simp
      subst hlb'
      rw [hw1']
      have xx := x0.trans x1
      refine ⟨_, xx, Emb.upd_same _ _ _, ?_, ?_, ?_⟩
      · rw [hmark]
        refine .cons ?_ ?_ ?_ (p.dok.ext xx)
        · rw [Array.getElem?_push, if_neg (by simp)]; simp
        · intro q o e hq ho hm
          rw [AHeap.get_new] at hq
          split at hq
          · rename_i e1; subst e1; rw [Emb.upd_same] at hm; cases hm; simp
          · rename_i e1
            rw [Emb.upd_ne _ _ (Ne.symm e1)] at hm
            obtain ⟨_, e', c', a2, a3, _⟩ := p.st.live q o hq
            rw [hm] at a2; cases a2
            have := lt_of_heap a3
            omega
        · intro d hd q hq
          have := p.dok.lt d hd q hq
          omega
      · rw [hmark]
        intro d hd q hq
        cases hd with
        | head => cases hq; exact p.bsz
        | tail _ hd => exact p.dge d hd q hq
      · intro hne; exact (hne (hcx.2 rfl)).elim
    | some b =>
      simp only at hw1 hmark
      have x1 := Ext.new p.st (.loop { state := .ready, pending := none, fn := cx.fn, tmps, params, assign, body, defers := D }) ⟨w.heap.size, 0, 0, 0⟩ (.loop ⟨.ready, none, cx.fn, cx.nt, a, params, assign, body⟩) rfl
        ⟨rfl, _, rfl, rfl, rfl, rfl, p.size, p.act.mono (Agree.upd μ _ (Nat.le_refl _)) (by omega), rfl, rfl, rfl⟩
      have hw1' : w1 = { w with heap := w.heap.push (.loop { state := .ready, pending := none, fn := cx.fn, tmps, params, assign, body, defers := D }) } := hw1
      have hlb' : lb = w.heap.size := by rw [hlb, hw1']; simp
      subst hlb'
      rw [hw1']
      have hdn : defers = [] := p.dno fun e => by have := hcx.1 e; cases this
      subst hdn
      rw [hmark]
      exact ⟨_, x1, Emb.upd_same _ _ _, .nil, fun d hd => (by cases hd), fun _ => rfl⟩
  obtain ⟨μ1, x1, hμ1, dok1, dge1, dno1⟩ := hext
  have act1 : ActRel μ1 (h.new (.loop ⟨.ready, none, cx.fn, cx.nt, a, params, assign, body⟩)).next a tmps := p.act.mono x1.agree x1.next
  have hfv : VRel μ h.next fv (opnd tmps f) := p.act.opnd f fv hf
  -- the call
  obtain ⟨nx, w2, m, v, v', h2, μ2, w3, c1, c2, c3, ⟨lp, e, c4, c5, c6, c7⟩, c8, c9⟩ := hv μ1 (opnd tmps f) #[.func (.yield lb) #[] #[]] w1 (frame cx.fn rd tmps (mark ++ defers) (.inRangeFunc lb :: k)) cs
    (hfv.mono x1.agree x1.next) (.cons (.yield (by simp) hμ1) .nil) x1.st
  have hstep : step P (lone (frame cx.fn rd tmps defers (.code (.rangeFunc f params assign body) :: k)) cs w) = .next m := by
    have he := frame_eval cx.fn rd tmps (mark ++ defers) (.inRangeFunc lb :: k)
    simp only [frame] at he
    have hcall : (do let d ← resolve (opnd tmps) { callee := .value f, args := #[.const (.func (.yield lb) #[] #[])], argTypes := #[] } 0; invoke d.target d.args : Sem Next).run P w1 = .ok nx w2 := by
      simpa [resolve, opnd] using c1
    cases nx <;> simp only [pushed, Option.some.injEq] at c2 <;> first
      | (cases c2; done)
      | (subst c2; refine step_lone_go ?_
         simp only [stepG, stepG.exec, frame, Sem.runT_eq, hrun, he]
         simp [stepG.apply, hcall, frame])
  -- the loop ends
  have hm2 : μ2 h.next = some ⟨lb, 0, 0, 0⟩ := (c8.agree _ (by simp)).trans hμ1
  obtain ⟨r, g1, g2, g3, g4, _⟩ := c8.st.getLoop c4 hm2
  have xs := c8.st.setLoop c4 hm2 g1 .exhausted lp.pending
  have xk := Ext.kill xs.st h.next
  have hend : (Instr.endLoop lb).run P w3 = .ok lp.pending { w3 with heap := w3.heap.setIfInBounds lb (.loop { r with state := .exhausted, pending := lp.pending }) } := by
    have hpd : ({ r with state := .exhausted, pending := lp.pending } : Loop) = { r with state := .exhausted } := by rw [← g4]
    have g1' : w3.heap[lb]? = some (.loop r) := g1
    rw [hpd]
    have hst : (r.state == .busy) = false := by rw [g3]; exact c5
    simp only [Instr.endLoop, Sem.run_bind, run_getLoop g1', Result.andThen_ok, hst, Bool.false_eq_true, if_false, run_setLoop g1', Sem.run_pure, g4]
  have hback : Steps P (lone (frame cx.fn rd tmps defers (.code (.rangeFunc f params assign body) :: k)) cs w)
      (lone (frame cx.fn rd tmps (mark ++ defers) ((lp.pending.map Item.code).toList ++ k)) cs { w3 with heap := w3.heap.setIfInBounds lb (.loop { r with state := .exhausted, pending := lp.pending }) }) := by
    refine .head hstep (c3.trans (.one (step_lone_go ?_)))
    simp [frame, Frame.finish, stepG, stepG.exec, hend]
  have hk2 : (h2.set h.next (.loop (lp.with .exhausted lp.pending))).kill h.next = h2.kill h.next ∨ True := .inr trivial
  have xfin : Ext μ h w μ2 (h2.kill h.next) { w3 with heap := w3.heap.setIfInBounds lb (.loop { r with state := .exhausted, pending := lp.pending }) } := by
    have x4 := (x1.trans c8).trans (xs.trans xk)
    refine ⟨x4.next, x4.agree, x4.size, x4.os, x4.output, fun b hb hfr => ?_, fun b hb hfr => ?_, ?_⟩
    · obtain ⟨y1, y2⟩ := x4.frame b hb hfr
      refine ⟨y1, fun q o e' hq ho hm => y2 q o e' ?_ ho hm⟩
      rw [AHeap.get_kill] at hq ⊢
      split at hq
      · cases hq
      · rename_i hne; rw [if_neg hne, AHeap.get_set, if_neg hne]; exact hq
    · refine fun q o e' hq hm => x4.free b hb hfr q o e' ?_ hm
      rw [AHeap.get_kill] at hq ⊢
      split at hq
      · cases hq
      · rename_i hne; rw [if_neg hne, AHeap.get_set, if_neg hne]; exact hq
    · have hget : ∀ q, (h2.kill h.next).get q = ((h2.set h.next (.loop (lp.with .exhausted lp.pending))).kill h.next).get q := by
        intro q
        rw [AHeap.get_kill, AHeap.get_kill, AHeap.get_set]
        split <;> rfl
      refine ⟨fun q o hq => ?_, fun q s o o' e1 e2 hq ho hs hm1 hm2 hb => ?_⟩
      · rw [hget] at hq; exact x4.st.live q o hq
      · rw [hget] at hq hs; exact x4.st.apart q s o o' e1 e2 hq ho hs hm1 hm2 hb
  have pfin : Pre μ2 base cx a (h2.kill h.next) tmps (mark ++ defers) rd { w3 with heap := w3.heap.setIfInBounds lb (.loop { r with state := .exhausted, pending := lp.pending }) } := by
    have p1 : Pre μ1 base cx a (h.new (.loop ⟨.ready, none, cx.fn, cx.nt, a, params, assign, body⟩)) tmps (mark ++ defers) rd w1 :=
      ⟨act1, p.size, p.rdr.mono x1.agree x1.next, dok1, dno1, dge1, Nat.le_trans p.bsz x1.size, x1.st⟩
    have p3 := (p1.ext c8).ext xs
    refine ⟨p3.act, p3.size, p3.rdr, ?_, p3.dno, p3.dge, p3.bsz, xfin.st⟩
    have := p3.dok.ext xk
    clear hk2
    generalize mark ++ defers = dd at this
    induction this with
    | nil => exact .nil
    | cons hr ho hne t ih =>
      refine .cons hr (fun q o e' hq hown hm => ho q o e' ?_ hown hm) hne ih
      rw [AHeap.get_kill] at hq ⊢
      split at hq
      · cases hq
      · rename_i hne2; rw [if_neg hne2, AHeap.get_set, if_neg hne2]; exact hq
  refine ⟨e, a, h2.kill h.next, μ2, tmps, mark ++ defers, _, c7, pfin, xfin, ?_⟩
  revert hback
  generalize lp.pending = pd at c6
  intro hback
  unfold jumpExit at c6
  split at c6
  · cases c6; exact hback
  · cases c6; exact ⟨k, hback⟩
  · cases c6; exact ⟨k, rfl, hback⟩
  · cases c6
end rules
end Go.Ab
