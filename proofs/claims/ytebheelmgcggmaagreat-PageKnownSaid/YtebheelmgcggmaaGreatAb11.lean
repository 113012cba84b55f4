/-
  The machine under the view: operations, calls, the return of a function, rounds of a loop over a function.
-/
import Derived.Test.YtebheelmgcggmaaGreatAb10
namespace Go.Ab
set_option linter.unusedSimpArgs false
set_option linter.unusedVariables false
noncomputable def Lands (P : Program) (μ : Emb) (h : AHeap) (w : World) (s : Sem Next) (c : Frame) (cs : List Frame) (K : Value → AHeap → Prop) : Prop :=
  ∃ nx w1 m v v' h' μ' w', s.run P w = .ok nx w1 ∧ pushed P c cs w1 nx = some m ∧ Steps P m (lone (c.finish v') cs w') ∧ K v h' ∧ Ext μ h w μ' h' w' ∧ VRel μ' h'.next v v'
noncomputable def OpWp (P : Program) (o : Oper) (ρ : Operand → Option Value) (h : AHeap) (K : Value → AHeap → Prop) : Prop :=
  ∀ (μ : Emb) (ρ' : Operand → Value) (w : World) (c : Frame) (cs : List Frame), OpRel μ h.next ρ ρ' → StRel μ h w → Lands P μ h w (execOp ρ' o) c cs K
noncomputable def VWp (P : Program) (fv : Value) (vs : List Value) (h : AHeap) (K : Value → AHeap → Prop) : Prop :=
  ∀ (μ : Emb) (fv' : Value) (vs' : Array Value) (w : World) (c : Frame) (cs : List Frame), VRel μ h.next fv fv' → LRel μ h.next vs vs'.toList → StRel μ h w →
    Lands P μ h w (do let d ← Deferred.ofValue fv' vs'; invoke d.target d.args) c cs K
noncomputable def FWp (P : Program) (f : FuncId) (args : List Value) (h : AHeap) (K : Value → AHeap → Prop) : Prop :=
  ∀ (μ : Emb) (args' : Array Value) (w : World), LRel μ h.next args args'.toList → StRel μ h w →
    Calls P f args' w fun e w' => ∃ v v' h' μ', e = .returned v' ∧ K v h' ∧ Ext μ h w μ' h' w' ∧ VRel μ' h'.next v v'
section rules
variable {P : Program} {T : Tr TI} {cx : Cx} {a : Tr Value} {h : AHeap}
theorem VWp.mono {fv : Value} {vs : List Value} {K K' : Value → AHeap → Prop} (hv : VWp P fv vs h K) (hk : ∀ v h, K v h → K' v h) : VWp P fv vs h K' :=
  fun μ fv' vs' w c cs h1 h2 h3 => let ⟨nx, w1, m, v, v', h', μ', w', a, b, d, e, f⟩ := hv μ fv' vs' w c cs h1 h2 h3; ⟨nx, w1, m, v, v', h', μ', w', a, b, d, hk _ _ e, f⟩
theorem FWp.mono {f : FuncId} {args : List Value} {K K' : Value → AHeap → Prop} (hv : FWp P f args h K) (hk : ∀ v h, K v h → K' v h) : FWp P f args h K' :=
  fun μ args' w h1 h2 => (hv μ args' w h1 h2).mono fun _ _ ⟨v, v', h', μ', a, b, c⟩ => ⟨v, v', h', μ', a, hk _ _ b, c⟩
theorem OpWp.mono {o : Oper} {ρ : Operand → Option Value} {K K' : Value → AHeap → Prop} (hv : OpWp P o ρ h K) (hk : ∀ v h, K v h → K' v h) : OpWp P o ρ h K' :=
  fun μ ρ' w c cs h1 h2 => let ⟨nx, w1, m, v, v', h', μ', w', a, b, d, e, f⟩ := hv μ ρ' w c cs h1 h2; ⟨nx, w1, m, v, v', h', μ', w', a, b, d, hk _ _ e, f⟩
theorem Lands.value {μ : Emb} {w : World} {s : Sem Value} {v : Value} {h' : AHeap} {K : Value → AHeap → Prop} {c : Frame} {cs : List Frame} (hg : GoodV P μ h w s v h') (hk : K v h') :
    Lands P μ h w (do pure (.value (← s))) c cs K := by
  obtain ⟨v', w', μ', h1, h2, h3⟩ := hg
  exact ⟨.value v', w', _, v, v', h', μ', w', by simp only [Sem.run_bind, h1, Result.andThen_ok, Sem.run_pure], rfl, .refl _ _, hk, h2, h3⟩
theorem Lands.unit {μ : Emb} {w : World} {s : Sem Unit} {h' : AHeap} {K : Value → AHeap → Prop} {c : Frame} {cs : List Frame} (hg : GoodU P μ h w s h') (hk : K (.tuple #[]) h') :
    Lands P μ h w (do s; pure .skip) c cs K := by
  obtain ⟨w', μ', h1, h2⟩ := hg
  exact ⟨.skip, w', _, .tuple #[], undef, h', μ', w', by simp only [Sem.run_bind, h1, Result.andThen_ok, Sem.run_pure], rfl, .refl _ _, hk, h2, .tuple .nil⟩
theorem GoodV.of_same {μ : Emb} {w : World} {s : Sem Value} {v : Value} (st : StRel μ h w) (hg : ∃ v', s.run P w = .ok v' w ∧ VRel μ h.next v v') : GoodV P μ h w s v h :=
  let ⟨v', h1, h2⟩ := hg; ⟨v', w, μ, h1, Ext.refl st, h2⟩
theorem OWp.nil {ops : Array Oper} {Q : Tr Value → AHeap → Prop} (hq : Q a h) : OWp P cx ops [] a h Q :=
  fun μ _ tmps _ _ w _ _ p => ⟨a, h, μ, tmps, w, hq, p, Ext.refl p.st, .one st_region_end⟩
theorem OWp.skip {ops : Array Oper} {Q : Tr Value → AHeap → Prop} {i : Nat} {rest : List Nat} {o : Oper} {a' : Tr Value} (ho : ops[i]? = some o) (hg : aguard ops a o = some false) (hp : aput cx.nt a o.dst (.tuple #[]) = some a')
    (hr : OWp P cx ops rest a' h Q) : OWp P cx ops (i :: rest) a h Q := by
  intro μ base tmps defers rd w k cs p
  have hw := aguard_wanted p.act hg
  obtain ⟨r1, r2⟩ := p.act.put p.size (v := .tuple #[]) (v' := undef) (.tuple .nil) hp
  obtain ⟨a2, h2, μ2, t2, w2, q, p2, x2, s2⟩ := hr μ base _ defers rd w k cs ⟨r1, r2, p.rdr, p.dok, p.dno, p.dge, p.bsz, p.st⟩
  refine ⟨a2, h2, μ2, t2, w2, q, p2, x2, .head ?_ s2⟩
  have := st_op_skip (P := P) (fn := cx.fn) (rd := rd) (tmps := tmps) (defers := defers) (k := k) (cs := cs) (w := w) (ops := ops) (i := i) (rest := rest) (by simp [ho, hw])
  rw [this, ho]; rfl
theorem OWp.op {ops : Array Oper} {Q : Tr Value → AHeap → Prop} {i : Nat} {rest : List Nat} {o : Oper} (ho : ops[i]? = some o) (hg : aguard ops a o = some true) (hd : isDefer o.op = false)
    (hop : OpWp P o (aopnd a) h fun v h' => ∃ a', aput cx.nt a o.dst v = some a' ∧ OWp P cx ops rest a' h' Q) : OWp P cx ops (i :: rest) a h Q := by
  intro μ base tmps defers rd w k cs p
  have hw := aguard_wanted p.act hg
  obtain ⟨nx, w1, m, v, v', h', μ', w', e1, e2, e3, ⟨a', e4, e5⟩, e6, e7⟩ := hop μ (opnd tmps) w (frame cx.fn rd tmps defers (.inRegion ops (i :: rest) :: k)) cs p.act.opnd p.st
  have p' := p.ext e6
  obtain ⟨r1, r2⟩ := p'.act.put p'.size e7 e4
  obtain ⟨a2, h2, μ2, t2, w2, q, p2, x2, s2⟩ := e5 μ' base _ defers rd w' k cs ⟨r1, r2, p'.rdr, p'.dok, p'.dno, p'.dge, p'.bsz, p'.st⟩
  refine ⟨a2, h2, μ2, t2, w2, q, p2, e6.trans x2, .head (st_op_push ho hw hd e1 e2) (e3.trans ?_)⟩
  rw [finish_region, ho]
  exact s2
theorem CWp.region {id : Nat} {ops : Array Oper} {Q : AExit → Tr Value → AHeap → Prop} (hr : OWp P cx ops (List.range ops.size) a h fun a' h' => Q .normal a' h') : CWp P cx (.region id ops false) a h Q := by
  intro μ base tmps defers rd w k cs p
  obtain ⟨a2, h2, μ2, t2, w2, q, p2, x2, s2⟩ := hr μ base tmps defers rd w k cs p
  exact ⟨.normal, a2, h2, μ2, t2, defers, w2, q, p2, x2, .head st_region s2⟩
theorem Calls.lands {f : FuncId} {args : Array Value} {w : World} {R : Value → World → Prop} (hc : Calls P f args w fun e w' => ∃ v', e = .returned v' ∧ R v' w') (c : Frame) (cs : List Frame) :
    ∃ v' w', R v' w' ∧ Steps P (lone (Frame.enter P f args .normal) (c :: cs) w) (lone (c.finish v') cs w') := by
  obtain ⟨e, w', fr, ⟨v', rfl, hR⟩, hcomes, _, hleave⟩ := hc (c :: cs)
  exact ⟨v', w', hR, Steps.trans hcomes (.one (step_leave_returned hleave))⟩
structure Entered (P : Program) (f : FuncId) (fn : Func) : Prop where
  look : P.funcs[f]? = some fn
  nm : (fn.name == "runtime.NumGoroutine") = false
  bd : fn.body.isNone = false
theorem Entered.run {f : FuncId} {fn : Func} (he : Entered P f fn) (args : Array Value) (w : World) : (callFunc f args).run P w = .ok (.enter f args) w := by
  simp only [callFunc, Sem.run_bind, run_program, Result.andThen_ok, he.look, he.nm, Bool.false_eq_true, if_false, he.bd, Sem.run_pure]
theorem VWp.func {f : FuncId} {fn : Func} {first cap : Array Value} {vs : List Value} {K : Value → AHeap → Prop} (he : Entered P f fn) (hf : FWp P f (first.toList ++ vs ++ cap.toList) h K) :
    VWp P (.func (.func f) first cap) vs h K := by
  intro μ fv' vs' w c cs h1 h2 h3
  cases h1 with
  | func hy ha hc =>
    rename_i a' c'
    have hl : LRel μ h.next (first.toList ++ vs ++ cap.toList) (a' ++ vs' ++ c').toList := by
      simp only [Array.toList_append]
      exact (ha.append h2).append hc
    obtain ⟨v', w', ⟨v, h', μ', b1, b2, b3⟩, b4⟩ := Calls.lands (P := P) (R := fun v' w' => ∃ v h' μ', K v h' ∧ Ext μ h w μ' h' w' ∧ VRel μ' h'.next v v')
      ((hf μ _ w hl h3).mono fun _ _ ⟨v, v', h', μ', a, b, c⟩ => ⟨v', a, v, h', μ', b, c⟩) c cs
    refine ⟨.enter f (a' ++ vs' ++ c'), w, _, v, v', h', μ', w', ?_, rfl, b4, b1, b2, b3⟩
    simp only [Sem.run_bind, Deferred.ofValue, Sem.run_pure, Result.andThen_ok, invoke, he.run]
noncomputable def aopnds (ρ : Operand → Option Value) : List Operand → Option (List Value)
  | [] => some []
  | x :: xs => match ρ x, aopnds ρ xs with
    | some v, some l => some (v :: l)
    | _, _ => none
theorem aopnds_rel {μ : Emb} {n : Nat} {ρ : Operand → Option Value} {ρ' : Operand → Value} (hρ : OpRel μ n ρ ρ') : ∀ {xs : List Operand} {vs : List Value}, aopnds ρ xs = some vs → LRel μ n vs (xs.map ρ')
  | [], vs, h => by simp only [aopnds, Option.some.injEq] at h; subst h; exact .nil
  | x :: xs, vs, h => by
    simp only [aopnds] at h
    split at h
    · rename_i v l h1 h2; cases h; exact .cons (hρ x v h1) (aopnds_rel hρ h2)
    · cases h
theorem OpWp.call {dst : Option Tmp} {f : Operand} {xs : Array Operand} {ats : Array TypeId} {ty : TypeId} {pos : String} {after : Array Edge} {guard : Option (Nat × Bool)} {ρ : Operand → Option Value} {fv : Value} {vs : List Value} {K : Value → AHeap → Prop}
    (hf : ρ f = some fv) (hx : aopnds ρ xs.toList = some vs) (hv : VWp P fv vs h K) : OpWp P ⟨dst, .call ⟨.value f, xs, ats⟩, ty, pos, after, guard⟩ ρ h K := by
  intro μ ρ' w c cs hρ st
  have := hv μ (ρ' f) (xs.map ρ') w c cs (hρ f fv hf) (by rw [Array.toList_map]; exact aopnds_rel hρ hx) st
  simpa only [execOp, resolve] using this
noncomputable def aResult (T : Tr TI) (a : Tr Value) (h : AHeap) : ResultVar → Option Value
  | .tmp t => a.get t
  | .cell x t => match a.get x with
    | some v => aLoad T t v h
    | none => none
noncomputable def aResults (T : Tr TI) (a : Tr Value) (h : AHeap) : List ResultVar → Option (List Value)
  | [] => some []
  | x :: xs => match aResult T a h x, aResults T a h xs with
    | some v, some l => some (v :: l)
    | _, _ => none
noncomputable def aRet (T : Tr TI) (fn : Func) (a : Tr Value) (h : AHeap) : Option Value :=
  match aResults T a h fn.results.toList with
  | some [v] => some v
  | some l => some (.tuple l.toArray)
  | none => none
theorem results_good (ok : TyOK P T) {μ : Emb} {w : World} (st : StRel μ h w) {tmps : Array Value} (ha : ActRel μ h.next a tmps) {g : ResultVar → Sem Value} (hg1 : ∀ t, g (.tmp t) = pure (tmps.getD t undef))
    (hg2 : ∀ x t, g (.cell x t) = (do loadVar t (← asAddr (tmps.getD x undef)))) : ∀ {xs : List ResultVar} {l : List Value}, aResults T a h xs = some l → ∃ l', (xs.mapM g).run P w = .ok l' w ∧ LRel μ h.next l l'
  | [], l, hl => by simp only [aResults, Option.some.injEq] at hl; subst hl; exact ⟨[], rfl, .nil⟩
  | x :: xs, l, hl => by
    simp only [aResults] at hl
    split at hl
    · rename_i v l0 h1 h2
      cases hl
      obtain ⟨l', e1, e2⟩ := results_good ok st ha hg1 hg2 h2
      have hx : ∃ v', (g x).run P w = .ok v' w ∧ VRel μ h.next v v' := by
        cases x with
        | tmp t =>
          obtain ⟨v', g1, g2⟩ := ha t v h1
          exact ⟨v', by rw [hg1]; simp [Array.getD_eq_getD_getElem?, g1], g2⟩
        | cell x t =>
          simp only [aResult] at h1
          split at h1
          · rename_i u hu
            obtain ⟨u', g1, g2⟩ := ha x u hu
            obtain ⟨v', g3, g4⟩ := load_good ok st g2 h1
            refine ⟨v', ?_, g4⟩
            have hgd : tmps.getD x undef = u' := by simp [Array.getD_eq_getD_getElem?, g1]
            rw [hg2, hgd]
            unfold aLoad at h1
            split at h1
            · cases g2
              simpa only [Instr.loadAt, Instr.sureAddr, asAddr] using g3
            · cases h1
          · cases h1
      obtain ⟨v', f1, f2⟩ := hx
      refine ⟨v' :: l', ?_, .cons f2 e2⟩
      rw [List.mapM_cons]
      simp only [Sem.run_bind, f1, Result.andThen_ok, e1, Sem.run_pure]
    · cases hl
theorem ret_good (ok : TyOK P T) {μ : Emb} {w : World} (st : StRel μ h w) {tmps : Array Value} (ha : ActRel μ h.next a tmps) {fn : Func} {v : Value} (hr : aRet T fn a h = some v) :
    ∃ v', (results fn tmps).run P w = .ok v' w ∧ VRel μ h.next v v' := by
  unfold aRet at hr
  have key : ∀ l, aResults T a h fn.results.toList = some l → ∃ l', LRel μ h.next l l' ∧ (results fn tmps).run P w = .ok (if hs : l'.toArray.size = 1 then l'.toArray[0] else .tuple l'.toArray) w := by
    intro l hl
    obtain ⟨g, hg0, hg1, hg2⟩ : ∃ g : ResultVar → Sem Value, results fn tmps = (do let vs ← fn.results.mapM g; pure (if h : vs.size = 1 then vs[0] else .tuple vs)) ∧ (∀ t, g (.tmp t) = pure (tmps.getD t undef)) ∧
        (∀ x t, g (.cell x t) = (do loadVar t (← asAddr (tmps.getD x undef)))) := ⟨_, rfl, fun _ => rfl, fun _ _ => rfl⟩
    obtain ⟨l', e1, e2⟩ := results_good ok st ha hg1 hg2 hl
    refine ⟨l', e2, ?_⟩
    rw [hg0, Array.mapM_eq_mapM_toList]
    simp only [Sem.run_bind, Sem.run_map, e1, Result.andThen_ok, Sem.run_pure]
  split at hr
  · rename_i v0 hl
    cases hr
    obtain ⟨l', e1, e2⟩ := key _ hl
    cases e1 with
    | cons h1 h2 => cases h2; exact ⟨_, e2, h1⟩
  · rename_i l hne hl
    cases hr
    obtain ⟨l', e1, e2⟩ := key _ hl
    have hlen := e1.length
    refine ⟨.tuple l'.toArray, ?_, .tuple (by simpa using e1)⟩
    rw [e2, dif_neg]
    intro h1
    simp only [List.size_toArray] at h1
    match l, hne, hlen with
    | [x], hne, _ => exact hne x rfl
    | [], _, hlen => simp at hlen; omega
    | _ :: _ :: _, _, hlen => simp at hlen; omega
  · cases hr
noncomputable def entry : List Value → Nat → Tr Value → Tr Value
  | [], _, t => t
  | v :: vs, i, t => entry vs (i + 1) (t.put i (some v))
theorem entry_get : ∀ (vs : List Value) (i : Nat) (t : Tr Value) (j : Nat), (entry vs i t).get j = if i ≤ j ∧ j < i + vs.length then vs[j - i]? else t.get j
  | [], i, t, j => by rw [if_neg (by simp)]; rfl
  | v :: vs, i, t, j => by
    rw [entry, entry_get vs (i + 1), Tr.get_put, List.length_cons]
    by_cases hj : i = j
    · subst hj; rw [if_neg (by omega), if_pos rfl, if_pos (by omega)]; simp
    · rw [if_neg hj]
      by_cases hc : i + 1 ≤ j ∧ j < i + 1 + vs.length
      · rw [if_pos hc, if_pos (by omega), show j - i = (j - (i + 1)) + 1 by omega, List.getElem?_cons_succ]
      · rw [if_neg hc, if_neg (by omega)]
theorem take_marks {μ : Emb} {fn : FuncId} {tmps : Array Value} {todo : List Item} {cs : List Frame} : ∀ {defers : List Deferred} {w : World}, StRel μ h w → DOk μ h w defers →
    ∃ w', Steps P (lone { frame fn none tmps defers todo with mode := .returning } cs w) (lone { frame fn none tmps [] todo with mode := .returning } cs w') ∧ StRel μ h w' ∧ w'.heap.size = w.heap.size ∧ w'.os = w.os ∧ w'.output = w.output ∧
      ∀ b, (∀ d ∈ defers, ∀ q, d.target = .collected q → q ≠ b) → w'.heap[b]? = w.heap[b]?
  | _, w, st, .nil => ⟨w, .refl _ _, st, rfl, rfl, rfl, fun _ _ => rfl⟩
  | _, w, st, .cons (r := r) (l := l) hr ho hne t => by
    have hlt := lt_of_heap hr
    have hrun : (Instr.takeDeferred r).run P w = .ok [] { w with heap := w.heap.setIfInBounds r (.deferred none) } := by
      simp only [Instr.takeDeferred, Sem.run_bind, run_getObj hr (fun _ _ _ => by simp), Result.andThen_ok, run_setObj hr (fun _ _ _ => by simp), Sem.run_pure]
    have hstep : step P (lone { frame fn none tmps ({ target := .collected r, args := #[] } :: l) todo with mode := .returning } cs w) =
        .next (lone { frame fn none tmps l todo with mode := .returning } cs { w with heap := w.heap.setIfInBounds r (.deferred none) }) :=
      step_lone_go (by simp [stepG, unwind, frame, hrun])
    have st' : StRel μ h { w with heap := w.heap.setIfInBounds r (.deferred none) } := by
      refine ⟨fun q o hq => ?_, st.apart⟩
      obtain ⟨h1, e, c, h2, h3, h4⟩ := st.live q o hq
      refine ⟨h1, e, c, h2, ?_, h4⟩
      have hne2 : r ≠ e.b := by
        intro he
        cases hown : o.own
        · cases o <;> simp only [AObj.own] at hown <;> first | (cases hown; done) | skip
          obtain ⟨cs', t', fz, rfl, _⟩ := h4
          rw [← he, hr] at h3; cases h3
        · exact ho q o e hq hown h2 he.symm
      simp only [Array.getElem?_setIfInBounds_ne hne2, h3]
    have dok' : DOk μ h { w with heap := w.heap.setIfInBounds r (.deferred none) } l := by
      have : ∀ {l' : List Deferred}, DOk μ h w l' → (∀ d ∈ l', ∀ q, d.target = .collected q → q ≠ r) → DOk μ h { w with heap := w.heap.setIfInBounds r (.deferred none) } l' := by
        intro l' hd
        induction hd with
        | nil => intro _; exact .nil
        | cons hr2 ho2 hne2 t2 ih =>
          intro hn
          refine .cons ?_ ho2 hne2 (ih fun d hd => hn d (List.mem_cons_of_mem _ hd))
          have : r ≠ _ := fun e => hn _ List.mem_cons_self _ rfl e.symm
          simp only [Array.getElem?_setIfInBounds_ne this, hr2]
      exact this t hne
    obtain ⟨w', g1, g2, g3, g4, g5, g6⟩ := take_marks (fn := fn) (tmps := tmps) (todo := todo) (cs := cs) st' dok'
    refine ⟨w', .head hstep g1, g2, by simpa using g3, g4, g5, fun b hb => ?_⟩
    rw [g6 b fun d hd => hb d (List.mem_cons_of_mem _ hd)]
    have : r ≠ b := hb _ List.mem_cons_self _ rfl
    simp only [Array.getElem?_setIfInBounds_ne this]
theorem FWp.code (ok : TyOK P T) {f : FuncId} {fn : Func} {c : Code} {args : List Value} {K : Value → AHeap → Prop} (hf : P.funcs[f]? = some fn) (hb : fn.body = some c) (hn : args.length ≤ fn.ntmps)
    (hc : CWp P ⟨f, fn.ntmps, none⟩ c (entry args 0 .leaf) h fun e a' h' => match e with | .exit _ => False | _ => ∃ v, aRet T fn a' h' = some v ∧ K v h') : FWp P f args h K := by
  intro μ args' w hl st cs
  have hlen := hl.length
  simp only [Array.length_toList] at hlen
  have hact : ActRel μ h.next (entry args 0 .leaf) (args' ++ Array.replicate (fn.ntmps - args'.size) undef) := by
    intro t v hv
    rw [entry_get] at hv
    split at hv
    · rename_i hc
      obtain ⟨v', h1, h2⟩ := hl.getElem? _ hv
      rw [Nat.sub_zero, Array.getElem?_toList] at h1
      have hlt := (Array.getElem?_eq_some_iff.1 h1).1
      exact ⟨v', by rw [Array.getElem?_append_left hlt]; exact h1, h2⟩
    · cases hv
  have hsz : (args' ++ Array.replicate (fn.ntmps - args'.size) undef).size = fn.ntmps := by simp; omega
  obtain ⟨e, a', h', μ', t', d', w', q, p', x', arr⟩ := hc μ w.heap.size _ [] none w [] cs ⟨hact, hsz, trivial, .nil, fun _ => rfl, fun d hd => (by cases hd), Nat.le_refl _, st⟩
  have henter : Frame.enter P f args' .normal = frame f none (args' ++ Array.replicate (fn.ntmps - args'.size) undef) [] [.code c] := by simp [Frame.enter, frame, hf, hb]
  have fin : ∀ todo v, aRet T fn a' h' = some v → K v h' → Steps P (lone (Frame.enter P f args' .normal) cs w) (lone { frame f none t' d' todo with mode := .returning } cs w') →
      ∃ e w'' fr, (∃ v v' h' μ', e = Ending.returned v' ∧ K v h' ∧ Ext μ h w μ' h' w'' ∧ VRel μ' h'.next v v') ∧ Comes P (lone (Frame.enter P f args' .normal) cs w) (lone fr cs w'') e ∧ fr.fn = f ∧ fr.leaving P w'' e := by
    intro todo v hr hk hs
    obtain ⟨w2, g1, g2, g3, g4, g5, g6⟩ := take_marks (P := P) (fn := f) (tmps := t') (todo := todo) (cs := cs) p'.st p'.dok
    obtain ⟨v', r1, r2⟩ := ret_good ok g2 p'.act hr
    refine ⟨.returned v', w2, { frame f none t' [] todo with mode := .returning }, ⟨v, v', h', μ', rfl, hk, ?_, r2⟩, Steps.trans hs g1, rfl, rfl, rfl, rfl, fn, hf, r1⟩
    refine ⟨x'.next, x'.agree, by have := x'.size; omega, g4.trans x'.os, g5.trans x'.output, fun b hb hfr => ?_, x'.free, g2⟩
    obtain ⟨y1, y2⟩ := x'.frame b hb hfr
    refine ⟨(g6 b fun d hd q hq => ?_).trans y1, y2⟩
    have := p'.dge d hd q hq
    omega
  rw [henter] at fin ⊢
  cases e with
  | exit id => exact q.elim
  | normal =>
    obtain ⟨v, q1, q2⟩ := q
    refine fin [] v q1 q2 (Steps.trans arr (.one ?_))
    exact step_lone_go (by simp [stepG, stepG.exec, frame])
  | ret =>
    obtain ⟨v, q1, q2⟩ := q
    obtain ⟨k0, hs⟩ := arr
    refine fin (.code .ret :: k0) v q1 q2 (Steps.trans hs (.one ?_))
    exact step_lone_go (by simp [stepG, stepG.exec, frame])
end rules
end Go.Ab
