/-
  Calls that may panic: code, regions and functions with what is known where a panic comes out.
-/
import Derived.Test.YtebheelmgcggmaaGreatAb39
import Derived.Defers
namespace Go.Ab
set_option linter.unusedSimpArgs false
set_option linter.unusedVariables false
noncomputable def pe (pv : Value) : List PanicEntry := [{ v := pv, recovered := false }]
noncomputable def Raised (P : Program) (m : Machine) (μ : Emb) (base : Nat) (fn : FuncId) (rd : Option Nat) (cs : List Frame) (h : AHeap) (w : World) (J : Value → AHeap → Prop) : Prop :=
  ∃ pv h' μ' tmps' defers' todo w', J pv h' ∧ Ext μ h w μ' h' w' ∧ DOk μ' h' w' defers' ∧ (∀ d ∈ defers', ∀ q, d.target = .collected q → base ≤ q) ∧ Steps P m (lone { frame fn rd tmps' defers' todo with mode := .panicking (pe pv) } cs w')
theorem Raised.of_steps {P : Program} {m m' : Machine} {μ : Emb} {base : Nat} {fn : FuncId} {rd : Option Nat} {cs : List Frame} {h : AHeap} {w : World} {J : Value → AHeap → Prop} (hs : Steps P m m') (r : Raised P m' μ base fn rd cs h w J) : Raised P m μ base fn rd cs h w J := by
  obtain ⟨pv, h', μ', t, d, todo, w', a1, a2, a3, a4, a5⟩ := r; exact ⟨pv, h', μ', t, d, todo, w', a1, a2, a3, a4, hs.trans a5⟩
theorem Raised.ext {P : Program} {m : Machine} {μ μ1 : Emb} {base : Nat} {fn : FuncId} {rd : Option Nat} {cs : List Frame} {h h1 : AHeap} {w w1 : World} {J : Value → AHeap → Prop} (x : Ext μ h w μ1 h1 w1) (r : Raised P m μ1 base fn rd cs h1 w1 J) : Raised P m μ base fn rd cs h w J := by
  obtain ⟨pv, h', μ', t, d, todo, w', a1, a2, a3, a4, a5⟩ := r; exact ⟨pv, h', μ', t, d, todo, w', a1, x.trans a2, a3, a4, a5⟩
noncomputable def CWpP (P : Program) (cx : Cx) (J : Value → AHeap → Prop) (c : Code) (a : Tr Value) (h : AHeap) (Q : AExit → Tr Value → AHeap → Prop) : Prop :=
  ∀ (μ : Emb) (base : Nat) (tmps : Array Value) (defers : List Deferred) (rd : Option Nat) (w : World) (k : List Item) (cs : List Frame), Pre μ base cx a h tmps defers rd w →
    (∃ e a' h' μ' tmps' defers' w', Q e a' h' ∧ Pre μ' base cx a' h' tmps' defers' rd w' ∧ Ext μ h w μ' h' w' ∧ Arr P (lone (frame cx.fn rd tmps defers (.code c :: k)) cs w) cx.fn rd k cs e tmps' defers' w') ∨
      Raised P (lone (frame cx.fn rd tmps defers (.code c :: k)) cs w) μ base cx.fn rd cs h w J
noncomputable def OWpP (P : Program) (cx : Cx) (J : Value → AHeap → Prop) (ops : Array Oper) (l : List Nat) (a : Tr Value) (h : AHeap) (Q : Tr Value → AHeap → Prop) : Prop :=
  ∀ (μ : Emb) (base : Nat) (tmps : Array Value) (defers : List Deferred) (rd : Option Nat) (w : World) (k : List Item) (cs : List Frame), Pre μ base cx a h tmps defers rd w →
    (∃ a' h' μ' tmps' w', Q a' h' ∧ Pre μ' base cx a' h' tmps' defers rd w' ∧ Ext μ h w μ' h' w' ∧ Steps P (lone (frame cx.fn rd tmps defers (.inRegion ops l :: k)) cs w) (lone (frame cx.fn rd tmps' defers k) cs w')) ∨
      Raised P (lone (frame cx.fn rd tmps defers (.inRegion ops l :: k)) cs w) μ base cx.fn rd cs h w J
noncomputable def FWpP (P : Program) (f : FuncId) (args : List Value) (h : AHeap) (K J : Value → AHeap → Prop) : Prop :=
  ∀ (μ : Emb) (args' : Array Value) (w : World), LRel μ h.next args args'.toList → StRel μ h w →
    Calls P f args' w fun e w' => (∃ v v' h' μ', e = .returned v' ∧ K v h' ∧ Ext μ h w μ' h' w' ∧ VRel μ' h'.next v v') ∨ (∃ pv h' μ', e = .panicked (pe pv) ∧ J pv h' ∧ Ext μ h w μ' h' w')
noncomputable def OpWpP (P : Program) (o : Oper) (ρ : Operand → Option Value) (h : AHeap) (K J : Value → AHeap → Prop) : Prop :=
  ∀ (μ : Emb) (ρ' : Operand → Value) (w : World) (c : Frame) (cs : List Frame), OpRel μ h.next ρ ρ' → StRel μ h w →
    (∃ nx w1 m, (execOp ρ' o).run P w = .ok nx w1 ∧ pushed P c cs w1 nx = some m ∧ ((∃ v v' h' μ' w', Steps P m (lone (c.finish v') cs w') ∧ K v h' ∧ Ext μ h w μ' h' w' ∧ VRel μ' h'.next v v') ∨ (∃ pv h' μ' w', Steps P m (lone (c.raise (pe pv)) cs w') ∧ J pv h' ∧ Ext μ h w μ' h' w'))) ∨
      ∃ pv, (execOp ρ' o).run P w = .halt (.panic pv) w ∧ J pv h
section rules
variable {P : Program} {T : Tr TI} {cx : Cx} {J : Value → AHeap → Prop} {a : Tr Value} {h : AHeap} {Q : AExit → Tr Value → AHeap → Prop}
theorem CWpP.of {c : Code} (hc : CWp P cx c a h Q) : CWpP P cx J c a h Q := fun μ base tmps defers rd w k cs p => .inl (hc μ base tmps defers rd w k cs p)
theorem CWpP.mono {c : Code} {Q' : AExit → Tr Value → AHeap → Prop} (hc : CWpP P cx J c a h Q) (hq : ∀ e a h, Q e a h → Q' e a h) : CWpP P cx J c a h Q' :=
  fun μ base tmps defers rd w k cs p => (hc μ base tmps defers rd w k cs p).imp (fun ⟨e, a', h', μ', t', d', w', q, r⟩ => ⟨e, a', h', μ', t', d', w', hq _ _ _ q, r⟩) id
theorem CWpP.seq {x y : Code} (hc : CWpP P cx J x a h fun e a' h' => match e with | .normal => CWpP P cx J y a' h' Q | e => Q e a' h') : CWpP P cx J (.seq x y) a h Q := by
  intro μ base tmps defers rd w k cs p
  rcases hc μ base tmps defers rd w (.code y :: k) cs p with ⟨e, a1, h1, μ1, t1, d1, w1, q, p1, x1, arr⟩ | r
  · cases e with
    | normal =>
      rcases q μ1 base t1 d1 rd w1 k cs p1 with ⟨e2, a2, h2, μ2, t2, d2, w2, q2, p2, x2, arr2⟩ | r
      · exact .inl ⟨e2, a2, h2, μ2, t2, d2, w2, q2, p2, x1.trans x2, .of_steps (.head st_seq arr) arr2⟩
      · exact .inr ((r.ext x1).of_steps (.head st_seq arr))
    | exit id => exact .inl ⟨.exit id, a1, h1, μ1, t1, d1, w1, q, p1, x1, .of_steps (.one st_seq) (.pass (by simp) (fun _ _ => rfl) arr)⟩
    | ret => exact .inl ⟨.ret, a1, h1, μ1, t1, d1, w1, q, p1, x1, .of_steps (.one st_seq) (.pass (by simp) (fun _ _ => rfl) arr)⟩
  · exact .inr (r.of_steps (.one st_seq))
theorem CWpP.cond {c : Operand} {x y : Code} {t : Bool} (hc : aopnd a c = some (.bool t)) (hb : CWpP P cx J (if t then x else y) a h Q) : CWpP P cx J (.cond c x y) a h Q := by
  intro μ base tmps defers rd w k cs p
  have hv : opnd tmps c = .bool t := by have := p.act.opnd c _ hc; cases hx : opnd tmps c <;> rw [hx] at this <;> cases this; rfl
  rcases hb μ base tmps defers rd w k cs p with ⟨e, a1, h1, μ1, t1, d1, w1, q, p1, x1, arr⟩ | r
  · exact .inl ⟨e, a1, h1, μ1, t1, d1, w1, q, p1, x1, .of_steps (.one (st_cond hv)) arr⟩
  · exact .inr (r.of_steps (.one (st_cond hv)))
theorem CWpP.block {id : Nat} {c : Code} (hc : CWpP P cx J c a h fun e a' h' => match e with | .exit i => if i = id then Q .normal a' h' else Q (.exit i) a' h' | e => Q e a' h') : CWpP P cx J (.block id c) a h Q := by
  intro μ base tmps defers rd w k cs p
  rcases hc μ base tmps defers rd w (.inBlock id :: k) cs p with ⟨e, a1, h1, μ1, t1, d1, w1, q, p1, x1, arr⟩ | r
  · refine .inl ?_
    cases e with
    | normal => exact ⟨.normal, a1, h1, μ1, t1, d1, w1, q, p1, x1, .head st_block (Steps.trans arr (.one st_inBlock))⟩
    | exit i =>
      by_cases hi : i = id
      · simp only [hi, if_true] at q
        obtain ⟨k0, hk, hs⟩ := arr
        refine ⟨.normal, a1, h1, μ1, t1, d1, w1, q, p1, x1, .head st_block (hs.trans (.one (st_exit ?_)))⟩
        rw [hk]; simp [exitTo, hi]
      · simp only [hi, if_false] at q
        refine ⟨.exit i, a1, h1, μ1, t1, d1, w1, q, p1, x1, .of_steps (.one st_block) (.pass (by simp) (fun j hj => ?_) arr)⟩
        cases hj
        have : (id == i) = false := by simp; exact fun e => hi e.symm
        simp [exitTo, this]
    | ret => exact ⟨.ret, a1, h1, μ1, t1, d1, w1, q, p1, x1, .of_steps (.one st_block) (.pass (by simp) (fun _ hj => by cases hj) arr)⟩
  · exact .inr (r.of_steps (.one st_block))
theorem CWpP.loop1 {c : Code} (hc : CWpP P cx J c a h fun e a' h' => match e with | .normal => CWpP P cx J (.loop c) a' h' Q | e => Q e a' h') : CWpP P cx J (.loop c) a h Q := by
  intro μ base tmps defers rd w k cs p
  rcases hc μ base tmps defers rd w (.inLoop c :: k) cs p with ⟨e, a1, h1, μ1, t1, d1, w1, q, p1, x1, arr⟩ | r
  · cases e with
    | normal =>
      have hs : Steps P (lone (frame cx.fn rd tmps defers (.code (.loop c) :: k)) cs w) (lone (frame cx.fn rd t1 d1 (.code c :: .inLoop c :: k)) cs w1) := .head st_loop (Steps.trans arr (.one st_inLoop))
      rcases q μ1 base t1 d1 rd w1 k cs p1 with ⟨e2, a2, h2, μ2, t2, d2, w2, q2, p2, x2, arr2⟩ | r
      · exact .inl ⟨e2, a2, h2, μ2, t2, d2, w2, q2, p2, x1.trans x2, Arr.of_loop hs arr2⟩
      · obtain ⟨pv, h', μ', t, d, todo, w', b1, b2, b3, b4, b5⟩ := r
        refine .inr ⟨pv, h', μ', t, d, todo, w', b1, x1.trans b2, b3, b4, hs.trans (Steps.tail b5 st_loop fun e => ?_)⟩
        simp only [lone, Machine.mk.injEq] at e
        have := e.2.1
        simp [frame] at this
    | exit i => exact .inl ⟨.exit i, a1, h1, μ1, t1, d1, w1, q, p1, x1, .of_steps (.one st_loop) (.pass (by simp) (fun _ _ => rfl) arr)⟩
    | ret => exact .inl ⟨.ret, a1, h1, μ1, t1, d1, w1, q, p1, x1, .of_steps (.one st_loop) (.pass (by simp) (fun _ _ => rfl) arr)⟩
  · exact .inr (r.of_steps (.one st_loop))
theorem CWpP.loopI {c : Code} (I : Nat → Tr Value → AHeap → Prop) (round : ∀ n a h, I n a h → CWpP P cx J c a h fun e a' h' => match e with | .normal => ∃ m, m < n ∧ I m a' h' | e => Q e a' h') :
    ∀ n a h, I n a h → CWpP P cx J (.loop c) a h Q := by
  intro n
  induction n using Nat.strongRecOn with
  | _ n ih =>
    intro a h hI
    refine CWpP.loop1 ((round n a h hI).mono fun e a' h' hq => ?_)
    cases e with
    | normal => obtain ⟨m, hm, hI'⟩ := hq; exact ih m hm a' h' hI'
    | exit i => exact hq
    | ret => exact hq
theorem CWpP.known {c : Code} {L : List (Nat × Value)} (hb : HasA a L) (hc : CWpP P cx J c (mkA L) h Q) : CWpP P cx J c a h Q :=
  fun μ base tmps defers rd w k cs p => hc μ base tmps defers rd w k cs ⟨fun t v hv => p.act t v (hb.get t v hv), p.size, p.rdr, p.dok, p.dno, p.dge, p.bsz, p.st⟩
theorem OWpP.nil {ops : Array Oper} {Q : Tr Value → AHeap → Prop} (hq : Q a h) : OWpP P cx J ops [] a h Q :=
  fun μ _ tmps _ _ w _ _ p => .inl ⟨a, h, μ, tmps, w, hq, p, Ext.refl p.st, .one st_region_end⟩
theorem OWpP.skip {ops : Array Oper} {Q : Tr Value → AHeap → Prop} {i : Nat} {rest : List Nat} {o : Oper} {a' : Tr Value} (ho : ops[i]? = some o) (hg : aguard ops a o = some false) (hp : aput cx.nt a o.dst (.tuple #[]) = some a')
    (hr : OWpP P cx J ops rest a' h Q) : OWpP P cx J ops (i :: rest) a h Q := by
  intro μ base tmps defers rd w k cs p
  have hw := aguard_wanted p.act hg
  obtain ⟨r1, r2⟩ := p.act.put p.size (v := .tuple #[]) (v' := undef) (.tuple .nil) hp
  have hst := st_op_skip (P := P) (fn := cx.fn) (rd := rd) (tmps := tmps) (defers := defers) (k := k) (cs := cs) (w := w) (ops := ops) (i := i) (rest := rest) (by simp [ho, hw])
  rw [ho] at hst
  rcases hr μ base _ defers rd w k cs ⟨r1, r2, p.rdr, p.dok, p.dno, p.dge, p.bsz, p.st⟩ with ⟨a2, h2, μ2, t2, w2, q, p2, x2, s2⟩ | r
  · exact .inl ⟨a2, h2, μ2, t2, w2, q, p2, x2, .head hst s2⟩
  · exact .inr (r.of_steps (.one hst))
theorem OWpP.op {ops : Array Oper} {Q : Tr Value → AHeap → Prop} {i : Nat} {rest : List Nat} {o : Oper} (ho : ops[i]? = some o) (hg : aguard ops a o = some true) (hd : isDefer o.op = false)
    (hop : OpWp P o (aopnd a) h fun v h' => ∃ a', aput cx.nt a o.dst v = some a' ∧ OWpP P cx J ops rest a' h' Q) : OWpP P cx J ops (i :: rest) a h Q := by
  intro μ base tmps defers rd w k cs p
  have hw := aguard_wanted p.act hg
  obtain ⟨nx, w1, m, v, v', h', μ', w', e1, e2, e3, ⟨a', e4, e5⟩, e6, e7⟩ := hop μ (opnd tmps) w (frame cx.fn rd tmps defers (.inRegion ops (i :: rest) :: k)) cs p.act.opnd p.st
  have p' := p.ext e6
  obtain ⟨r1, r2⟩ := p'.act.put p'.size e7 e4
  rw [finish_region, ho] at e3
  have hs := Steps.head (st_op_push ho hw hd e1 e2) e3
  rcases e5 μ' base _ defers rd w' k cs ⟨r1, r2, p'.rdr, p'.dok, p'.dno, p'.dge, p'.bsz, p'.st⟩ with ⟨a2, h2, μ2, t2, w2, q, p2, x2, s2⟩ | r
  · exact .inl ⟨a2, h2, μ2, t2, w2, q, p2, e6.trans x2, hs.trans s2⟩
  · exact .inr ((r.ext e6).of_steps hs)
theorem st_op_raise {fn : FuncId} {rd : Option Nat} {tmps : Array Value} {defers : List Deferred} {k : List Item} {cs : List Frame} {w w' : World} {ops : Array Oper} {i : Nat} {rest : List Nat} {o : Oper} (ho : ops[i]? = some o) (hw : Region.wanted o (yielded ops tmps) = true) (hd : isDefer o.op = false) {pv : Value}
    (hr : (execOp (opnd tmps) o).run P w = .halt (.panic pv) w') : step P (lone (frame fn rd tmps defers (.inRegion ops (i :: rest) :: k)) cs w) = .next (lone { frame fn rd tmps defers (.inRegion ops (i :: rest) :: k) with mode := .panicking (pe pv) } cs w') := by
  have hg := stG_op (P := P) (fn := fn) (rd := rd) (defers := defers) (k := k) (cs := cs) (w := w) (rest := rest) ho hw hd
  refine step_lone_go ?_
  rw [hg]
  simp [stepG.apply, hr, Frame.raise, frame, pe]
theorem OWpP.opP {ops : Array Oper} {Q : Tr Value → AHeap → Prop} {i : Nat} {rest : List Nat} {o : Oper} (ho : ops[i]? = some o) (hg : aguard ops a o = some true) (hd : isDefer o.op = false)
    (hop : OpWpP P o (aopnd a) h (fun v h' => ∃ a', aput cx.nt a o.dst v = some a' ∧ OWpP P cx J ops rest a' h' Q) J) : OWpP P cx J ops (i :: rest) a h Q := by
  intro μ base tmps defers rd w k cs p
  have hw := aguard_wanted p.act hg
  rcases hop μ (opnd tmps) w (frame cx.fn rd tmps defers (.inRegion ops (i :: rest) :: k)) cs p.act.opnd p.st with ⟨nx, w1, m, e1, e2, ⟨v, v', h', μ', w', e3, ⟨a', e4, e5⟩, e6, e7⟩ | ⟨pv, h', μ', w', e3, e4, e5⟩⟩ | ⟨pv, e1, e2⟩
  · have p' := p.ext e6
    obtain ⟨r1, r2⟩ := p'.act.put p'.size e7 e4
    rw [finish_region, ho] at e3
    have hs := Steps.head (st_op_push ho hw hd e1 e2) e3
    rcases e5 μ' base _ defers rd w' k cs ⟨r1, r2, p'.rdr, p'.dok, p'.dno, p'.dge, p'.bsz, p'.st⟩ with ⟨a2, h2, μ2, t2, w2, q, p2, x2, s2⟩ | r
    · exact .inl ⟨a2, h2, μ2, t2, w2, q, p2, e6.trans x2, hs.trans s2⟩
    · exact .inr ((r.ext e6).of_steps hs)
  · have p' := p.ext e5
    exact .inr ⟨pv, h', μ', tmps, defers, _, w', e4, e5, p'.dok, p'.dge, Steps.head (st_op_push ho hw hd e1 e2) e3⟩
  · exact .inr ⟨pv, h, μ, tmps, defers, _, w, e2, Ext.refl p.st, p.dok, p.dge, .one (st_op_raise ho hw hd e1)⟩
noncomputable def OSufP (P : Program) (cx : Cx) (J : Value → AHeap → Prop) (ops : Array Oper) (os : List Oper) (a : Tr Value) (h : AHeap) (Q : Tr Value → AHeap → Prop) : Prop :=
  ∀ i, ops.toList.drop i = os → OWpP P cx J ops (List.range' i os.length) a h Q
theorem drop_at {ops : Array Oper} {i : Nat} {o : Oper} {os : List Oper} (hi : ops.toList.drop i = o :: os) : ops[i]? = some o := by
  rw [← Array.getElem?_toList]
  have := congrArg (fun l : List Oper => l[0]?) hi
  simpa using this
theorem OSufP.nil {ops : Array Oper} {Q : Tr Value → AHeap → Prop} (hq : Q a h) : OSufP P cx J ops [] a h Q := fun _ _ => OWpP.nil hq
theorem OSufP.op {ops : Array Oper} {Q : Tr Value → AHeap → Prop} {o : Oper} {os : List Oper} (hg : aguard ops a o = some true) (hd : isDefer o.op = false)
    (hop : OpWp P o (aopnd a) h fun v h' => ∃ a', aput cx.nt a o.dst v = some a' ∧ OSufP P cx J ops os a' h' Q) : OSufP P cx J ops (o :: os) a h Q := by
  intro i hi
  rw [List.length_cons, List.range'_succ]
  refine OWpP.op (drop_at hi) hg hd (hop.mono ?_)
  rintro v h' ⟨a', h1, h2⟩
  exact ⟨a', h1, h2 (i + 1) (by rw [← List.drop_drop, hi]; rfl)⟩
theorem OpWpP.mono {o : Oper} {ρ : Operand → Option Value} {K K' : Value → AHeap → Prop} (hv : OpWpP P o ρ h K J) (hk : ∀ v h, K v h → K' v h) : OpWpP P o ρ h K' J := by
  intro μ ρ' w c cs h1 h2
  rcases hv μ ρ' w c cs h1 h2 with ⟨nx, w1, m, e1, e2, ⟨v, v', h', μ', w', e3, e4, e5⟩ | e⟩ | e
  · exact .inl ⟨nx, w1, m, e1, e2, .inl ⟨v, v', h', μ', w', e3, hk _ _ e4, e5⟩⟩
  · exact .inl ⟨nx, w1, m, e1, e2, .inr e⟩
  · exact .inr e
theorem OSufP.opP {ops : Array Oper} {Q : Tr Value → AHeap → Prop} {o : Oper} {os : List Oper} (hg : aguard ops a o = some true) (hd : isDefer o.op = false)
    (hop : OpWpP P o (aopnd a) h (fun v h' => ∃ a', aput cx.nt a o.dst v = some a' ∧ OSufP P cx J ops os a' h' Q) J) : OSufP P cx J ops (o :: os) a h Q := by
  intro i hi
  rw [List.length_cons, List.range'_succ]
  refine OWpP.opP (drop_at hi) hg hd (hop.mono ?_)
  rintro v h' ⟨a', h1, h2⟩
  exact ⟨a', h1, h2 (i + 1) (by rw [← List.drop_drop, hi]; rfl)⟩
theorem OSufP.pass {ops : Array Oper} {Q : Tr Value → AHeap → Prop} {o : Oper} {os : List Oper} {a' : Tr Value} (hg : aguard ops a o = some false) (hp : aput cx.nt a o.dst (.tuple #[]) = some a') (hr : OSufP P cx J ops os a' h Q) : OSufP P cx J ops (o :: os) a h Q := by
  intro i hi
  rw [List.length_cons, List.range'_succ]
  exact OWpP.skip (drop_at hi) hg hp (hr (i + 1) (by rw [← List.drop_drop, hi]; rfl))
theorem CWpP.reg {id : Nat} {ops : Array Oper} (hr : OSufP P cx J ops ops.toList a h fun a' h' => Q .normal a' h') : CWpP P cx J (.region id ops false) a h Q := by
  have := hr 0 (by simp)
  rw [Array.length_toList, ← List.range_eq_range'] at this
  intro μ base tmps defers rd w k cs p
  rcases this μ base tmps defers rd w k cs p with ⟨a2, h2, μ2, t2, w2, q, p2, x2, s2⟩ | r
  · exact .inl ⟨.normal, a2, h2, μ2, t2, defers, w2, q, p2, x2, .head st_region s2⟩
  · exact .inr (r.of_steps (.one st_region))
theorem OpWpP.fcall {ρ : Operand → Option Value} {dst : Option Tmp} {k : FuncId} {fn : Func} {xs : Array Operand} {ats : Array TypeId} {ty : TypeId} {pos : String} {after : Array Edge} {guard : Option (Nat × Bool)} {args : List Value} {K : Value → AHeap → Prop}
    (hf : ρ (.func k) = some (.func (.func k) #[] #[])) (hx : aopnds ρ xs.toList = some args) (he : Entered P k fn) (hF : FWpP P k args h K J) : OpWpP P ⟨dst, .call ⟨.value (.func k), xs, ats⟩, ty, pos, after, guard⟩ ρ h K J := by
  intro μ ρ' w c cs hρ st
  have hfv := hρ _ _ hf
  have hxs := aopnds_rel hρ hx
  have hρf : ρ' (.func k) = .func (.func k) #[] #[] := by
    generalize ρ' (.func k) = z at hfv
    cases hfv with
    | func hy ha hc =>
      rename_i a' c'
      have e1 : a'.toList.length = 0 := ha.length.symm
      have e2 : c'.toList.length = 0 := hc.length.symm
      rw [show a' = #[] from Array.toList_eq_nil_iff.1 (List.length_eq_zero_iff.1 e1), show c' = #[] from Array.toList_eq_nil_iff.1 (List.length_eq_zero_iff.1 e2)]
  refine .inl ⟨.enter k (xs.map ρ'), w, _, ?_, rfl, ?_⟩
  · simp [execOp, resolve, hρf, Deferred.ofValue, invoke, he.run]
  · obtain ⟨e, w', fr, hR, hcomes, _, hleave⟩ := hF μ (xs.map ρ') w (by rw [Array.toList_map]; exact hxs) st (c :: cs)
    rcases hR with ⟨v, v', h', μ', rfl, b1, b2, b3⟩ | ⟨pv, h', μ', rfl, b1, b2⟩
    · exact .inl ⟨v, v', h', μ', w', Steps.trans hcomes (.one (step_leave_returned hleave)), b1, b2, b3⟩
    · exact .inr ⟨pv, h', μ', w', Steps.trans hcomes (.one (step_leave_panicked hleave)), b1, b2⟩
theorem take_marksP {chain : List PanicEntry} {μ : Emb} {fn : FuncId} {tmps : Array Value} {todo : List Item} {cs : List Frame} : ∀ {defers : List Deferred} {w : World}, StRel μ h w → DOk μ h w defers →
    ∃ w', Steps P (lone { frame fn none tmps defers todo with mode := .panicking chain } cs w) (lone { frame fn none tmps [] todo with mode := .panicking chain } cs w') ∧ StRel μ h w' ∧ w'.heap.size = w.heap.size ∧ w'.os = w.os ∧ w'.output = w.output ∧
      ∀ b, (∀ d ∈ defers, ∀ q, d.target = .collected q → q ≠ b) → w'.heap[b]? = w.heap[b]?
  | _, w, st, .nil => ⟨w, .refl _ _, st, rfl, rfl, rfl, fun _ _ => rfl⟩
  | _, w, st, .cons (r := r) (l := l) hr ho hne t => by
    have hrun : (Instr.takeDeferred r).run P w = .ok [] { w with heap := w.heap.setIfInBounds r (.deferred none) } := by
      simp only [Instr.takeDeferred, Sem.run_bind, run_getObj hr (fun _ _ _ => by simp), Result.andThen_ok, run_setObj hr (fun _ _ _ => by simp), Sem.run_pure]
    have hstep : step P (lone { frame fn none tmps ({ target := .collected r, args := #[] } :: l) todo with mode := .panicking chain } cs w) =
        .next (lone { frame fn none tmps l todo with mode := .panicking chain } cs { w with heap := w.heap.setIfInBounds r (.deferred none) }) :=
      step_lone_go (by simp [stepG, unwind, frame, hrun])
    have st' : StRel μ h { w with heap := w.heap.setIfInBounds r (.deferred none) } := by
      refine ⟨fun q o hq => ?_, st.apart⟩
      obtain ⟨h1, e, c, h2, h3, h4⟩ := st.live q o hq
      refine ⟨h1, e, c, h2, ?_, h4⟩
      have hne2 : r ≠ e.b := by
        intro he
        cases hown : o.own
        · cases o <;> simp only [AObj.own] at hown <;> first | (cases hown; done) | skip
          obtain ⟨cs', t', fz, rfl, _⟩ := h4
          rw [← he, hr] at h3; cases h3
        · exact ho q o e hq hown h2 he.symm
      simp only [Array.getElem?_setIfInBounds_ne hne2, h3]
    have dok' : DOk μ h { w with heap := w.heap.setIfInBounds r (.deferred none) } l := by
      have : ∀ {l' : List Deferred}, DOk μ h w l' → (∀ d ∈ l', ∀ q, d.target = .collected q → q ≠ r) → DOk μ h { w with heap := w.heap.setIfInBounds r (.deferred none) } l' := by
        intro l' hd
        induction hd with
        | nil => intro _; exact .nil
        | cons hr2 ho2 hne2 t2 ih =>
          intro hn
          refine .cons ?_ ho2 hne2 (ih fun d hd => hn d (List.mem_cons_of_mem _ hd))
          have : r ≠ _ := fun e => hn _ List.mem_cons_self _ rfl e.symm
          simp only [Array.getElem?_setIfInBounds_ne this, hr2]
      exact this t hne
    obtain ⟨w', g1, g2, g3, g4, g5, g6⟩ := take_marksP (fn := fn) (tmps := tmps) (todo := todo) (cs := cs) st' dok'
    refine ⟨w', .head hstep g1, g2, by simpa using g3, g4, g5, fun b hb => ?_⟩
    rw [g6 b fun d hd => hb d (List.mem_cons_of_mem _ hd)]
    have : r ≠ b := hb _ List.mem_cons_self _ rfl
    simp only [Array.getElem?_setIfInBounds_ne this]
theorem entry_act {μ : Emb} {args : List Value} {args' : Array Value} {n : Nat} (hl : LRel μ h.next args args'.toList) : ActRel μ h.next (entry args 0 .leaf) (args' ++ Array.replicate n undef) := by
  intro t v hv
  rw [entry_get] at hv
  split at hv
  · obtain ⟨v', h1, h2⟩ := hl.getElem? _ hv
    rw [Nat.sub_zero, Array.getElem?_toList] at h1
    exact ⟨v', by rw [Array.getElem?_append_left (Array.getElem?_eq_some_iff.1 h1).1]; exact h1, h2⟩
  · cases hv
theorem FWpP.code (ok : TyOK P T) {f : FuncId} {fn : Func} {c : Code} {args : List Value} {K : Value → AHeap → Prop} (hf : P.funcs[f]? = some fn) (hb : fn.body = some c) (hn : args.length ≤ fn.ntmps)
    (hc : CWpP P ⟨f, fn.ntmps, none⟩ J c (entry args 0 .leaf) h fun e a' h' => match e with | .exit _ => False | _ => ∃ v, aRet T fn a' h' = some v ∧ K v h') : FWpP P f args h K J := by
  intro μ args' w hl st cs
  have hlen := hl.length
  simp only [Array.length_toList] at hlen
  have hsz : (args' ++ Array.replicate (fn.ntmps - args'.size) undef).size = fn.ntmps := by simp; omega
  have hcc := hc μ w.heap.size _ [] none w [] cs ⟨entry_act hl, hsz, trivial, .nil, fun _ => rfl, fun d hd => (by cases hd), Nat.le_refl _, st⟩
  have henter : Frame.enter P f args' .normal = frame f none (args' ++ Array.replicate (fn.ntmps - args'.size) undef) [] [.code c] := by simp [Frame.enter, frame, hf, hb]
  rw [henter]
  have marks : ∀ {μ' : Emb} {h' : AHeap} {d' : List Deferred} {w' w2 : World}, Ext μ h w μ' h' w' → (∀ d ∈ d', ∀ q, d.target = .collected q → w.heap.size ≤ q) → StRel μ' h' w2 → w2.heap.size = w'.heap.size → w2.os = w'.os → w2.output = w'.output →
      (∀ b, (∀ d ∈ d', ∀ q, d.target = .collected q → q ≠ b) → w2.heap[b]? = w'.heap[b]?) → Ext μ h w μ' h' w2 := by
    intro μ' h' d' w' w2 x' dge g2 g3 g4 g5 g6
    refine ⟨x'.next, x'.agree, by have := x'.size; omega, g4.trans x'.os, g5.trans x'.output, fun b hb hfr => ?_, x'.free, g2⟩
    obtain ⟨y1, y2⟩ := x'.frame b hb hfr
    refine ⟨(g6 b fun d hd q hq => ?_).trans y1, y2⟩
    have := dge d hd q hq
    omega
  rcases hcc with ⟨e, a', h', μ', t', d', w', q, p', x', arr⟩ | ⟨pv, h', μ', t', d', todo, w', b1, b2, b3, b4, b5⟩
  · have fin : ∀ todo v, aRet T fn a' h' = some v → K v h' → Steps P (lone (frame f none (args' ++ Array.replicate (fn.ntmps - args'.size) undef) [] [.code c]) cs w) (lone { frame f none t' d' todo with mode := .returning } cs w') →
        ∃ e w'' fr, ((∃ v v' h' μ', e = Ending.returned v' ∧ K v h' ∧ Ext μ h w μ' h' w'' ∧ VRel μ' h'.next v v') ∨ (∃ pv h' μ', e = .panicked (pe pv) ∧ J pv h' ∧ Ext μ h w μ' h' w'')) ∧
          Comes P (lone (frame f none (args' ++ Array.replicate (fn.ntmps - args'.size) undef) [] [.code c]) cs w) (lone fr cs w'') e ∧ fr.fn = f ∧ fr.leaving P w'' e := by
      intro todo v hr hk hs
      obtain ⟨w2, g1, g2, g3, g4, g5, g6⟩ := take_marks (P := P) (fn := f) (tmps := t') (todo := todo) (cs := cs) p'.st p'.dok
      obtain ⟨v', r1, r2⟩ := ret_good ok g2 p'.act hr
      exact ⟨.returned v', w2, { frame f none t' [] todo with mode := .returning }, .inl ⟨v, v', h', μ', rfl, hk, marks x' p'.dge g2 g3 g4 g5 g6, r2⟩, Steps.trans hs g1, rfl, rfl, rfl, rfl, fn, hf, r1⟩
    cases e with
    | exit id => exact q.elim
    | normal =>
      obtain ⟨v, q1, q2⟩ := q
      exact fin [] v q1 q2 (Steps.trans arr (.one (step_lone_go (by simp [stepG, stepG.exec, frame]))))
    | ret =>
      obtain ⟨v, q1, q2⟩ := q
      obtain ⟨k0, hs⟩ := arr
      exact fin (.code .ret :: k0) v q1 q2 (Steps.trans hs (.one (step_lone_go (by simp [stepG, stepG.exec, frame]))))
  · obtain ⟨w2, g1, g2, g3, g4, g5, g6⟩ := take_marksP (P := P) (chain := pe pv) (fn := f) (tmps := t') (todo := todo) (cs := cs) b2.st b3
    exact ⟨.panicked (pe pv), w2, { frame f none t' [] todo with mode := .panicking (pe pv) }, .inr ⟨pv, h', μ', rfl, b1, marks b2 b4 g2 g3 g4 g5 g6⟩, Steps.trans b5 g1, rfl, rfl, rfl, fn, hf⟩
noncomputable def SQP (P : Program) (cx : Cx) (J : Value → AHeap → Prop) (z : Code) (Q : AExit → Tr Value → AHeap → Prop) : AExit → Tr Value → AHeap → Prop := fun e a h => match e with | .normal => CWpP P cx J z a h Q | e => Q e a h
theorem SQP.normal {z : Code} (hc : CWpP P cx J z a h Q) : SQP P cx J z Q .normal a h := hc
theorem SQP.exit {z : Code} {i : Nat} (hq : Q (.exit i) a h) : SQP P cx J z Q (.exit i) a h := hq
theorem SQP.ret {z : Code} (hq : Q .ret a h) : SQP P cx J z Q .ret a h := hq
theorem V.seq {x z : Code} (hc : CWpP P cx J x a h (SQP P cx J z Q)) : CWpP P cx J (.seq x z) a h Q := CWpP.seq (hc.mono fun e a h hq => by cases e <;> exact hq)
theorem V.block {id : Nat} {c : Code} (hc : CWpP P cx J c a h (BQ id Q)) : CWpP P cx J (.block id c) a h Q := CWpP.block (hc.mono fun e a h hq => by cases e <;> exact hq)
theorem V.cut {x : Code} (R : List (Nat × Value) → AHeap → Prop) (hx : CWpP P cx J x a h (NQ R Q)) (hz : ∀ L a' h', HasA a' L → R L h' → Q .normal a' h') : CWpP P cx J x a h Q := by
  refine (hx.mono fun e a h hq => ?_)
  cases e with
  | normal => obtain ⟨L, h1, h2⟩ := hq; exact hz L _ _ h1 h2
  | exit i => exact hq
  | ret => exact hq
theorem V.loop {c : Code} (I : Nat → List (Nat × Value) → AHeap → Prop) {n : Nat} {L : List (Nat × Value)} (hI : I n L h) (ha : HasA a L) (round : ∀ n L h, I n L h → CWpP P cx J c (mkA L) h (LQ n I Q)) : CWpP P cx J (.loop c) a h Q := by
  refine CWpP.loopI (fun n a h => ∃ L, HasA a L ∧ I n L h) ?_ n a h ⟨L, ha, hI⟩
  rintro n a h ⟨L, ha, hI⟩
  refine CWpP.known ha ((round n L h hI).mono fun e a' h' hq => ?_)
  cases e with
  | normal => obtain ⟨m, L', h1, h2, h3⟩ := hq; exact ⟨m, h1, L', h2, h3⟩
  | exit i => exact hq
  | ret => exact hq
theorem V.enter (ok : TyOK P T) {f : FuncId} {fn : Func} {c : Code} {args : List Value} {K : Value → AHeap → Prop} (hf : P.funcs[f]? = some fn) (hb : fn.body = some c) (hn : Nat.ble args.length fn.ntmps = true)
    (hc : CWpP P ⟨f, fn.ntmps, none⟩ J c (entry args 0 .leaf) h (FQ T fn K)) : FWpP P f args h K J :=
  FWpP.code ok hf hb (Nat.le_of_ble_eq_true hn) (hc.mono fun e a h hq => by cases e <;> exact hq)
theorem V.yes {c : Operand} {x y : Code} (hc : aopnd a c = some (.bool true)) (h1 : CWpP P cx J x a h Q) : CWpP P cx J (.cond c x y) a h Q := CWpP.cond hc h1
theorem V.no {c : Operand} {x y : Code} (hc : aopnd a c = some (.bool false)) (h1 : CWpP P cx J y a h Q) : CWpP P cx J (.cond c x y) a h Q := CWpP.cond hc h1
theorem V.reg {id : Nat} {ops : Array Oper} (hr : OSuf P cx ops ops.toList a h fun a' h' => Q .normal a' h') : CWpP P cx J (.region id ops false) a h Q := .of (W.reg hr)
theorem V.regP {id : Nat} {ops : Array Oper} (hr : OSufP P cx J ops ops.toList a h fun a' h' => Q .normal a' h') : CWpP P cx J (.region id ops false) a h Q := .reg hr
variable {ops : Array Oper} {o : Oper} {os : List Oper} {h1 : AHeap} {v : Value} {a1 : Tr Value} {R : Tr Value → AHeap → Prop} {b : Bool} {F : Bool → Tr Value}
theorem OSufP.aop (ok : TyOK P T) (hg : aguard ops a o = some true) (ho : Ab.aop P T o (aopnd a) h = some (v, h1)) (hp : aput cx.nt a o.dst v = some a1) (t : OSufP P cx J ops os a1 h1 R) : OSufP P cx J ops (o :: os) a h R :=
  OSufP.op hg (aop_nodefer ho) (aop_sound ok ho ⟨a1, hp, t⟩)
theorem OSufP.aopT (ok : TyOK P T) (hg : aguard ops a o = some true) (ho : Ab.aop P T o (aopnd a) h = some (.bool b, h1)) (hp : ∀ b, aput cx.nt a o.dst (.bool b) = some (F b)) (hb : b = true) (t : OSufP P cx J ops os (F true) h1 R) : OSufP P cx J ops (o :: os) a h R := by
  subst hb; exact OSufP.aop ok hg ho (hp true) t
theorem OSufP.aopF (ok : TyOK P T) (hg : aguard ops a o = some true) (ho : Ab.aop P T o (aopnd a) h = some (.bool b, h1)) (hp : ∀ b, aput cx.nt a o.dst (.bool b) = some (F b)) (hb : b = false) (t : OSufP P cx J ops os (F false) h1 R) : OSufP P cx J ops (o :: os) a h R := by
  subst hb; exact OSufP.aop ok hg ho (hp false) t
variable {dst : Option Tmp} {k : FuncId} {fn : Func} {xs : Array Operand} {ats : Array TypeId} {ty : TypeId} {pos : String} {after : Array Edge} {guard : Option (Nat × Bool)} {args : List Value} {K : Value → AHeap → Prop}
theorem OSufP.call (hg : aguard ops a ⟨dst, .call ⟨.value (.func k), xs, ats⟩, ty, pos, after, guard⟩ = some true) (hx : aopnds (aopnd a) xs.toList = some args) (he : Entered P k fn) (hF : FWp P k args h K)
    (t : ∀ u h', K u h' → ∃ a1, aput cx.nt a dst u = some a1 ∧ OSufP P cx J ops os a1 h' R) : OSufP P cx J ops (⟨dst, .call ⟨.value (.func k), xs, ats⟩, ty, pos, after, guard⟩ :: os) a h R :=
  OSufP.op hg rfl (OpWp.fcall rfl hx he (hF.mono t))
theorem OSufP.callP (hg : aguard ops a ⟨dst, .call ⟨.value (.func k), xs, ats⟩, ty, pos, after, guard⟩ = some true) (hx : aopnds (aopnd a) xs.toList = some args) (he : Entered P k fn) (hF : FWpP P k args h K J)
    (t : ∀ u h', K u h' → ∃ a1, aput cx.nt a dst u = some a1 ∧ OSufP P cx J ops os a1 h' R) : OSufP P cx J ops (⟨dst, .call ⟨.value (.func k), xs, ats⟩, ty, pos, after, guard⟩ :: os) a h R :=
  OSufP.opP hg rfl ((OpWpP.fcall rfl hx he hF).mono t)
theorem OSufP.callD (hg : aguard ops a ⟨dst, .call ⟨.value (.func k), xs, ats⟩, ty, pos, after, guard⟩ = some true) (hx : aopnds (aopnd a) xs.toList = some args) (he : Entered P k fn) (hF : FWp P k args h fun u h' => u = v ∧ h' = h1)
    (hp : aput cx.nt a dst v = some a1) (t : OSufP P cx J ops os a1 h1 R) : OSufP P cx J ops (⟨dst, .call ⟨.value (.func k), xs, ats⟩, ty, pos, after, guard⟩ :: os) a h R :=
  OSufP.call hg hx he hF (fun u h' hk => by obtain ⟨rfl, rfl⟩ := hk; exact ⟨a1, hp, t⟩)
theorem FWpP.monoJ {f : FuncId} {J' : Value → AHeap → Prop} (hv : FWpP P f args h K J) (hj : ∀ v h, J v h → J' v h) : FWpP P f args h K J' :=
  fun μ args' w h1 h2 => (hv μ args' w h1 h2).mono fun _ _ hr => hr.imp id fun ⟨pv, h', μ', a, b, c⟩ => ⟨pv, h', μ', a, hj _ _ b, c⟩
theorem CWpP.skip (hq : Q .normal a h) : CWpP P cx J .skip a h Q := .of (CWp.skip hq)
theorem CWpP.exit {id : Nat} (hq : Q (.exit id) a h) : CWpP P cx J (.exit id) a h Q := .of (CWp.exit hq)
theorem CWpP.ret (hq : Q .ret a h) : CWpP P cx J .ret a h Q := .of (CWp.ret hq)
theorem OSufP.panic {x : Operand} {t : TypeId} {pv : Value} (hx : aopnd a x = some (.iface t pv)) (hg : aguard ops a ⟨dst, .panic x, ty, pos, after, guard⟩ = some true) (hf : flat pv = true) (hJ : J (.iface t pv) h) :
    OSufP P cx J ops (⟨dst, .panic x, ty, pos, after, guard⟩ :: os) a h R := by
  refine OSufP.opP hg rfl fun μ ρ' w c cs hρ st => .inr ⟨.iface t pv, ?_, hJ⟩
  have h1 := hρ x _ hx
  have e : ρ' x = .iface t pv := by
    cases hz : ρ' x <;> rw [hz] at h1 <;> cases h1
    rename_i h2; rw [h2.flat_eq hf]
  simp [execOp, e, Instr.panic, goPanic]
end rules
end Go.Ab
