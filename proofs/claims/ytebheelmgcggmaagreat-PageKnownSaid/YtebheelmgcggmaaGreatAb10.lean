/-
  The machine under the view: frames, the code of a frame, regions of operations.
-/
import Derived.Test.YtebheelmgcggmaaGreatAb9
namespace Go.Ab
set_option linter.unusedSimpArgs false
set_option linter.unusedVariables false
noncomputable def frame (fn : FuncId) (rd : Option Nat) (tmps : Array Value) (defers : List Deferred) (todo : List Item) : Frame :=
  { fn, tmps, todo, defers, mode := .run, kind := .normal, roundOf := rd }
noncomputable def opnd (tmps : Array Value) : Operand → Value
  | .tmp t => tmps.getD t undef
  | .const v => v
  | .global g => .pointer (some ⟨g, 0, none⟩)
  | .func f => .func (.func f) #[] #[]
theorem frame_eval (fn : FuncId) (rd : Option Nat) (tmps : Array Value) (defers : List Deferred) (todo : List Item) : (frame fn rd tmps defers todo).eval = opnd tmps := by
  funext x; cases x <;> rfl
inductive AExit where
  | normal
  | exit (id : Nat)
  | ret
noncomputable def Arr (P : Program) (m : Machine) (fn : FuncId) (rd : Option Nat) (k : List Item) (cs : List Frame) (e : AExit) (tmps : Array Value) (defers : List Deferred) (w : World) : Prop :=
  match e with
  | .normal => Steps P m (lone (frame fn rd tmps defers k) cs w)
  | .exit id => ∃ k0, exitTo id k0 = exitTo id k ∧ Steps P m (lone (frame fn rd tmps defers (.code (.exit id) :: k0)) cs w)
  | .ret => ∃ k0, Steps P m (lone (frame fn rd tmps defers (.code .ret :: k0)) cs w)
theorem Arr.of_steps {P : Program} {m m₁ : Machine} {fn : FuncId} {rd : Option Nat} {k : List Item} {cs : List Frame} {e : AExit} {tmps : Array Value} {defers : List Deferred} {w : World} (h : Steps P m m₁)
    (h' : Arr P m₁ fn rd k cs e tmps defers w) : Arr P m fn rd k cs e tmps defers w := by
  cases e with
  | normal => exact h.trans h'
  | exit id => obtain ⟨k0, h1, h2⟩ := h'; exact ⟨k0, h1, h.trans h2⟩
  | ret => obtain ⟨k0, h2⟩ := h'; exact ⟨k0, h.trans h2⟩
theorem Arr.pass {P : Program} {m : Machine} {fn : FuncId} {rd : Option Nat} {x : Item} {k : List Item} {cs : List Frame} {e : AExit} {tmps : Array Value} {defers : List Deferred} {w : World} (he : e ≠ .normal)
    (hx : ∀ id, e = .exit id → exitTo id (x :: k) = exitTo id k) (h : Arr P m fn rd (x :: k) cs e tmps defers w) : Arr P m fn rd k cs e tmps defers w := by
  cases e with
  | normal => exact (he rfl).elim
  | exit id => obtain ⟨k0, h1, h2⟩ := h; exact ⟨k0, h1.trans (hx id rfl), h2⟩
  | ret => exact h
section moves
variable {P : Program} {fn : FuncId} {rd : Option Nat} {tmps : Array Value} {defers : List Deferred} {k : List Item} {cs : List Frame} {w : World}
theorem st_skip : step P (lone (frame fn rd tmps defers (.code .skip :: k)) cs w) = .next (lone (frame fn rd tmps defers k) cs w) := step_lone_go (by simp [stepG, stepG.exec, frame])
theorem st_label {l : Nat} : step P (lone (frame fn rd tmps defers (.code (.label l) :: k)) cs w) = .next (lone (frame fn rd tmps defers k) cs w) := step_lone_go (by simp [stepG, stepG.exec, frame])
theorem st_inBlock {id : Nat} : step P (lone (frame fn rd tmps defers (.inBlock id :: k)) cs w) = .next (lone (frame fn rd tmps defers k) cs w) := step_lone_go (by simp [stepG, stepG.exec, frame])
theorem st_inScope {b : Code} : step P (lone (frame fn rd tmps defers (.inScope b :: k)) cs w) = .next (lone (frame fn rd tmps defers k) cs w) := step_lone_go (by simp [stepG, stepG.exec, frame])
theorem st_seq {x y : Code} : step P (lone (frame fn rd tmps defers (.code (.seq x y) :: k)) cs w) = .next (lone (frame fn rd tmps defers (.code x :: .code y :: k)) cs w) := step_lone_go (by simp [stepG, stepG.exec, frame])
theorem st_cond {c : Operand} {x y : Code} {t : Bool} (h : opnd tmps c = .bool t) :
    step P (lone (frame fn rd tmps defers (.code (.cond c x y) :: k)) cs w) = .next (lone (frame fn rd tmps defers (.code (if t then x else y) :: k)) cs w) :=
  step_lone_go (by
    have e := congrFun (frame_eval fn rd tmps defers (.code (.cond c x y) :: k)) c
    simp only [frame] at e
    simp [stepG, stepG.exec, frame, e, h])
theorem st_block {id : Nat} {c : Code} : step P (lone (frame fn rd tmps defers (.code (.block id c) :: k)) cs w) = .next (lone (frame fn rd tmps defers (.code c :: .inBlock id :: k)) cs w) := step_lone_go (by simp [stepG, stepG.exec, frame])
theorem st_scope {c : Code} : step P (lone (frame fn rd tmps defers (.code (.scope c) :: k)) cs w) = .next (lone (frame fn rd tmps defers (.code c :: .inScope c :: k)) cs w) := step_lone_go (by simp [stepG, stepG.exec, frame])
theorem st_loop {c : Code} : step P (lone (frame fn rd tmps defers (.code (.loop c) :: k)) cs w) = .next (lone (frame fn rd tmps defers (.code c :: .inLoop c :: k)) cs w) := step_lone_go (by simp [stepG, stepG.exec, frame])
theorem st_inLoop {c : Code} : step P (lone (frame fn rd tmps defers (.inLoop c :: k)) cs w) = .next (lone (frame fn rd tmps defers (.code c :: .inLoop c :: k)) cs w) := step_lone_go (by simp [stepG, stepG.exec, frame])
theorem st_exit {id : Nat} {k' : List Item} (h : exitTo id k = some k') : step P (lone (frame fn rd tmps defers (.code (.exit id) :: k)) cs w) = .next (lone (frame fn rd tmps defers k') cs w) := step_lone_go (by simp [stepG, stepG.exec, frame, h])
theorem st_region {id : Nat} {ops : Array Oper} : step P (lone (frame fn rd tmps defers (.code (.region id ops false) :: k)) cs w) = .next (lone (frame fn rd tmps defers (.inRegion ops (List.range ops.size) :: k)) cs w) := step_lone_go (by simp [stepG, stepG.exec, frame])
theorem st_region_draw {id : Nat} {ops : Array Oper} : step P (lone (frame fn rd tmps defers (.code (.region id ops true) :: k)) cs w) =
    .next (lone (frame fn rd tmps defers (.inRegion ops (Region.schedule (P.follows .mixedOrders) ops (w.tape w.drawn (.order fn id))) :: k)) cs { w with drawn := w.drawn + 1 }) :=
  step_lone_go (by simp [stepG, stepG.exec, frame, choose, Sem.run, Question.forced, Question.cut])
theorem st_region_end {ops : Array Oper} : step P (lone (frame fn rd tmps defers (.inRegion ops [] :: k)) cs w) = .next (lone (frame fn rd tmps defers k) cs w) := step_lone_go (by simp [stepG, stepG.exec, frame])
noncomputable def put (tmps : Array Value) (dst : Option Tmp) (v : Value) : Array Value :=
  match dst with
  | some d => tmps.setIfInBounds d v
  | none => tmps
theorem finish_region {ops : Array Oper} {i : Nat} {rest : List Nat} (v : Value) :
    (frame fn rd tmps defers (.inRegion ops (i :: rest) :: k)).finish v = frame fn rd (put tmps ((ops[i]?).bind (·.dst)) v) defers (.inRegion ops rest :: k) := by
  cases h : (ops[i]?).bind (·.dst) <;> simp [Frame.finish, frame, put, h]
theorem st_op_skip {ops : Array Oper} {i : Nat} {rest : List Nat} (h : ((ops[i]?).map (Region.wanted · (yielded ops tmps))).getD false = false) :
    step P (lone (frame fn rd tmps defers (.inRegion ops (i :: rest) :: k)) cs w) = .next (lone (frame fn rd (put tmps ((ops[i]?).bind (·.dst)) undef) defers (.inRegion ops rest :: k)) cs w) := by
  rw [← finish_region]
  exact step_lone_go (by
    have h' := h
    simp only [frame] at *
    simp [stepG, stepG.exec, h'])
noncomputable def isDefer : Op → Bool
  | .defer _ => true
  | _ => false
theorem stG_op {ops : Array Oper} {i : Nat} {rest : List Nat} {o : Oper} (ho : ops[i]? = some o) (hw : Region.wanted o (yielded ops tmps) = true) (hd : isDefer o.op = false) :
    stepG P true { frame := frame fn rd tmps defers (.inRegion ops (i :: rest) :: k), callers := cs, status := .running, dying := none } w =
      stepG.apply P true (frame fn rd tmps defers (.inRegion ops (i :: rest) :: k)) cs none (execOp (opnd tmps) o) w := by
  have he := frame_eval fn rd tmps defers (.inRegion ops (i :: rest) :: k)
  simp only [frame] at he
  have hap : stepG.oper P true (frame fn rd tmps defers (.inRegion ops (i :: rest) :: k)) cs none w = stepG.apply P true (frame fn rd tmps defers (.inRegion ops (i :: rest) :: k)) cs none (execOp (opnd tmps) o) w := by
    simp only [stepG.oper, Frame.oper?, frame, ho, he]
    split
    · rename_i hop; rw [hop] at hd; cases hd
    · rfl
  simp only [frame] at hap ⊢
  simp [stepG, stepG.exec, ho, hw, hap]
noncomputable def pushed (P : Program) (c : Frame) (cs : List Frame) (w : World) : Next → Option Machine
  | .enter f args => some (lone (Frame.enter P f args .normal) (c :: cs) w)
  | .round l f tmps assign body => some (lone (Frame.round l f tmps assign body .normal) (c :: cs) w)
  | .value v => some (lone (c.finish v) cs w)
  | .skip => some (lone (c.finish undef) cs w)
  | _ => none
theorem st_op_push {ops : Array Oper} {i : Nat} {rest : List Nat} {o : Oper} (ho : ops[i]? = some o) (hw : Region.wanted o (yielded ops tmps) = true) (hd : isDefer o.op = false) {nx : Next} {w' : World} {m : Machine}
    (hr : (execOp (opnd tmps) o).run P w = .ok nx w') (hp : pushed P (frame fn rd tmps defers (.inRegion ops (i :: rest) :: k)) cs w' nx = some m) :
    step P (lone (frame fn rd tmps defers (.inRegion ops (i :: rest) :: k)) cs w) = .next m := by
  have hg := stG_op (P := P) (fn := fn) (rd := rd) (defers := defers) (k := k) (cs := cs) (w := w) (rest := rest) ho hw hd
  cases nx <;> simp only [pushed, Option.some.injEq] at hp <;> first | (cases hp; done) | (subst hp; refine step_lone_go ?_; rw [hg]; simp [stepG.apply, hr, frame])
end moves
structure Cx where
  fn : FuncId
  nt : Nat
  rd : Option Nat
noncomputable def RdRel (μ : Emb) (n : Nat) : Option Nat → Option Nat → Prop
  | none, none => True
  | some l, some b => l < n ∧ ∃ e, μ l = some e ∧ e.b = b
  | _, _ => False
theorem RdRel.mono {μ μ' : Emb} {n m : Nat} {a b : Option Nat} (h : RdRel μ n a b) (ha : Agree n μ μ') (hn : n ≤ m) : RdRel μ' m a b := by
  cases a <;> cases b <;> first | exact h | skip
  obtain ⟨h1, e, h2, h3⟩ := h
  exact ⟨by omega, e, (ha _ h1).trans h2, h3⟩
inductive DOk (μ : Emb) (h : AHeap) (w : World) : List Deferred → Prop
  | nil : DOk μ h w []
  | cons {r : Nat} {l : List Deferred} (hr : w.heap[r]? = some (.deferred (some []))) (hown : ∀ q o e, h.get q = some o → o.own = true → μ q = some e → e.b ≠ r)
      (hne : ∀ d ∈ l, ∀ q, d.target = .collected q → q ≠ r) (t : DOk μ h w l) : DOk μ h w ({ target := .collected r, args := #[] } :: l)
theorem DOk.ext {μ μ' : Emb} {h h' : AHeap} {w w' : World} (e : Ext μ h w μ' h' w') : ∀ {l : List Deferred}, DOk μ h w l → DOk μ' h' w' l
  | _, .nil => .nil
  | _, .cons hr ho hne t => have ⟨h1, h2⟩ := e.frame _ (lt_of_heap hr) ho; .cons (h1.trans hr) h2 hne (t.ext e)
theorem DOk.lt {μ : Emb} {h : AHeap} {w : World} : ∀ {l : List Deferred}, DOk μ h w l → ∀ d ∈ l, ∀ q, d.target = .collected q → q < w.heap.size
  | _, .nil, d, hd, _, _ => by cases hd
  | _, .cons hr _ _ t, d, hd, q, hq => by
    cases hd with
    | head => cases hq; exact lt_of_heap hr
    | tail _ hd => exact t.lt d hd q hq
structure Pre (μ : Emb) (base : Nat) (cx : Cx) (a : Tr Value) (h : AHeap) (tmps : Array Value) (defers : List Deferred) (rd : Option Nat) (w : World) : Prop where
  act : ActRel μ h.next a tmps
  size : tmps.size = cx.nt
  rdr : RdRel μ h.next cx.rd rd
  dok : DOk μ h w defers
  dno : cx.rd ≠ none → defers = []
  dge : ∀ d ∈ defers, ∀ q, d.target = .collected q → base ≤ q
  bsz : base ≤ w.heap.size
  st : StRel μ h w
theorem Pre.ext {μ μ' : Emb} {base : Nat} {cx : Cx} {a : Tr Value} {h h' : AHeap} {tmps : Array Value} {defers : List Deferred} {rd : Option Nat} {w w' : World} (p : Pre μ base cx a h tmps defers rd w) (e : Ext μ h w μ' h' w') : Pre μ' base cx a h' tmps defers rd w' :=
  ⟨p.act.mono e.agree e.next, p.size, p.rdr.mono e.agree e.next, p.dok.ext e, p.dno, p.dge, Nat.le_trans p.bsz e.size, e.st⟩
noncomputable def aopnd (a : Tr Value) : Operand → Option Value
  | .tmp t => a.get t
  | .const v => bif flat v then some v else none
  | .global _ => none
  | .func f => some (.func (.func f) #[] #[])
noncomputable def OpRel (μ : Emb) (n : Nat) (ρ : Operand → Option Value) (ρ' : Operand → Value) : Prop := ∀ x v, ρ x = some v → VRel μ n v (ρ' x)
theorem ActRel.opnd {μ : Emb} {n : Nat} {a : Tr Value} {tmps : Array Value} (h : ActRel μ n a tmps) : OpRel μ n (aopnd a) (Ab.opnd tmps) := by
  intro x v hv
  cases x with
  | tmp t =>
    obtain ⟨v', h1, h2⟩ := h t v hv
    have : tmps.getD t undef = v' := by simp [Array.getD_eq_getD_getElem?, h1]
    simp only [Ab.opnd, this]; exact h2
  | const c =>
    simp only [aopnd] at hv
    cases hf : flat c
    · rw [hf, cond_false] at hv; cases hv
    · rw [hf, cond_true] at hv; cases hv; exact .of_flat _ _ hf
  | global g => cases hv
  | func f => simp only [aopnd, Option.some.injEq] at hv; subst hv; exact .func (fun l => by simp) .nil .nil
noncomputable def aput (nt : Nat) (a : Tr Value) (dst : Option Tmp) (v : Value) : Option (Tr Value) :=
  match dst with
  | some d => bif Nat.ble (d + 1) nt then some (a.put d (some v)) else none
  | none => some a
theorem ActRel.put {μ : Emb} {n nt : Nat} {a a' : Tr Value} {tmps : Array Value} (h : ActRel μ n a tmps) (hs : tmps.size = nt) {dst : Option Tmp} {v v' : Value} (hv : VRel μ n v v') (hp : aput nt a dst v = some a') :
    ActRel μ n a' (Ab.put tmps dst v') ∧ (Ab.put tmps dst v').size = nt := by
  cases dst with
  | none => simp only [aput, Option.some.injEq] at hp; subst hp; exact ⟨h, hs⟩
  | some d =>
    simp only [aput] at hp
    cases hb : Nat.ble (d + 1) nt
    · rw [hb, cond_false] at hp; cases hp
    · rw [hb, cond_true] at hp
      cases hp
      have hlt : d < tmps.size := by rw [hs]; exact Nat.le_of_ble_eq_true hb
      refine ⟨fun t u hu => ?_, by simp [Ab.put, hs]⟩
      rw [Tr.get_put] at hu
      by_cases hd : d = t
      · subst hd; rw [if_pos rfl] at hu; cases hu; exact ⟨v', by simp [Ab.put, hlt], hv⟩
      · rw [if_neg hd] at hu
        obtain ⟨u', h1, h2⟩ := h t u hu
        exact ⟨u', by simp only [Ab.put]; rw [Array.getElem?_setIfInBounds_ne hd]; exact h1, h2⟩
noncomputable def aguard (ops : Array Oper) (a : Tr Value) (o : Oper) : Option Bool :=
  match o.guard with
  | none => some true
  | some (j, want) => match (ops[j]?).bind (·.dst) with
    | none => some false
    | some d => match a.get d with
      | some (.bool b) => some (b == want)
      | some _ => some false
      | none => none
theorem aguard_wanted {μ : Emb} {n : Nat} {ops : Array Oper} {a : Tr Value} {tmps : Array Value} (h : ActRel μ n a tmps) {o : Oper} {b : Bool} (hg : aguard ops a o = some b) : Region.wanted o (yielded ops tmps) = b := by
  unfold aguard at hg
  unfold Region.wanted
  split at hg
  · rename_i hn; rw [hn]; simpa using hg
  · rename_i j want hn
    rw [hn]
    simp only
    split at hg
    · rename_i hd; simp only [yielded, hd, Option.bind_none]; cases hg; rfl
    · rename_i d hd
      split at hg
      · rename_i b' hb
        obtain ⟨v', h1, h2⟩ := h _ _ hb
        cases h2
        simp only [yielded, hd, Option.bind_some, h1]
        cases hg
        cases b' <;> cases want <;> rfl
      · rename_i v hv hnb
        obtain ⟨v', h1, h2⟩ := h _ _ hnb
        cases hg
        simp only [yielded, hd, Option.bind_some, h1]
        cases h2 <;> first | rfl | exact (hv _ rfl).elim
      · cases hg
noncomputable def CWp (P : Program) (cx : Cx) (c : Code) (a : Tr Value) (h : AHeap) (Q : AExit → Tr Value → AHeap → Prop) : Prop :=
  ∀ (μ : Emb) (base : Nat) (tmps : Array Value) (defers : List Deferred) (rd : Option Nat) (w : World) (k : List Item) (cs : List Frame), Pre μ base cx a h tmps defers rd w →
    ∃ e a' h' μ' tmps' defers' w', Q e a' h' ∧ Pre μ' base cx a' h' tmps' defers' rd w' ∧ Ext μ h w μ' h' w' ∧ Arr P (lone (frame cx.fn rd tmps defers (.code c :: k)) cs w) cx.fn rd k cs e tmps' defers' w'
noncomputable def OWp (P : Program) (cx : Cx) (ops : Array Oper) (l : List Nat) (a : Tr Value) (h : AHeap) (Q : Tr Value → AHeap → Prop) : Prop :=
  ∀ (μ : Emb) (base : Nat) (tmps : Array Value) (defers : List Deferred) (rd : Option Nat) (w : World) (k : List Item) (cs : List Frame), Pre μ base cx a h tmps defers rd w →
    ∃ a' h' μ' tmps' w', Q a' h' ∧ Pre μ' base cx a' h' tmps' defers rd w' ∧ Ext μ h w μ' h' w' ∧ Steps P (lone (frame cx.fn rd tmps defers (.inRegion ops l :: k)) cs w) (lone (frame cx.fn rd tmps' defers k) cs w')
section rules
variable {P : Program} {cx : Cx} {a : Tr Value} {h : AHeap} {Q : AExit → Tr Value → AHeap → Prop}
theorem CWp.mono {c : Code} {Q' : AExit → Tr Value → AHeap → Prop} (hc : CWp P cx c a h Q) (hq : ∀ e a h, Q e a h → Q' e a h) : CWp P cx c a h Q' :=
  fun μ base tmps defers rd w k cs p => let ⟨e, a', h', μ', t', d', w', q, r⟩ := hc μ base tmps defers rd w k cs p; ⟨e, a', h', μ', t', d', w', hq _ _ _ q, r⟩
theorem CWp.skip (hq : Q .normal a h) : CWp P cx .skip a h Q := fun μ _ tmps defers _ w _ _ p => ⟨.normal, a, h, μ, tmps, defers, w, hq, p, Ext.refl p.st, .one st_skip⟩
theorem CWp.label {l : Nat} (hq : Q .normal a h) : CWp P cx (.label l) a h Q := fun μ _ tmps defers _ w _ _ p => ⟨.normal, a, h, μ, tmps, defers, w, hq, p, Ext.refl p.st, .one st_label⟩
theorem CWp.exit {id : Nat} (hq : Q (.exit id) a h) : CWp P cx (.exit id) a h Q := fun μ _ tmps defers _ w k _ p => ⟨.exit id, a, h, μ, tmps, defers, w, hq, p, Ext.refl p.st, k, rfl, .refl _ _⟩
theorem CWp.ret (hq : Q .ret a h) : CWp P cx .ret a h Q := fun μ _ tmps defers _ w k _ p => ⟨.ret, a, h, μ, tmps, defers, w, hq, p, Ext.refl p.st, k, .refl _ _⟩
theorem CWp.seq {x y : Code} (hc : CWp P cx x a h fun e a' h' => match e with | .normal => CWp P cx y a' h' Q | e => Q e a' h') : CWp P cx (.seq x y) a h Q := by
  intro μ base tmps defers rd w k cs p
  obtain ⟨e, a1, h1, μ1, t1, d1, w1, q, p1, x1, arr⟩ := hc μ base tmps defers rd w (.code y :: k) cs p
  cases e with
  | normal =>
    obtain ⟨e2, a2, h2, μ2, t2, d2, w2, q2, p2, x2, arr2⟩ := q μ1 base t1 d1 rd w1 k cs p1
    exact ⟨e2, a2, h2, μ2, t2, d2, w2, q2, p2, x1.trans x2, .of_steps (.head st_seq arr) arr2⟩
  | exit id => exact ⟨.exit id, a1, h1, μ1, t1, d1, w1, q, p1, x1, .of_steps (.one st_seq) (.pass (by simp) (fun _ _ => rfl) arr)⟩
  | ret => exact ⟨.ret, a1, h1, μ1, t1, d1, w1, q, p1, x1, .of_steps (.one st_seq) (.pass (by simp) (fun _ _ => rfl) arr)⟩
theorem CWp.cond {c : Operand} {x y : Code} {t : Bool} (hc : aopnd a c = some (.bool t)) (hb : CWp P cx (if t then x else y) a h Q) : CWp P cx (.cond c x y) a h Q := by
  intro μ base tmps defers rd w k cs p
  have hv : opnd tmps c = .bool t := by have := p.act.opnd c _ hc; cases hx : opnd tmps c <;> rw [hx] at this <;> cases this; rfl
  obtain ⟨e, a1, h1, μ1, t1, d1, w1, q, p1, x1, arr⟩ := hb μ base tmps defers rd w k cs p
  exact ⟨e, a1, h1, μ1, t1, d1, w1, q, p1, x1, .of_steps (.one (st_cond hv)) arr⟩
theorem CWp.block {id : Nat} {c : Code} (hc : CWp P cx c a h fun e a' h' => match e with | .exit i => if i = id then Q .normal a' h' else Q (.exit i) a' h' | e => Q e a' h') : CWp P cx (.block id c) a h Q := by
  intro μ base tmps defers rd w k cs p
  obtain ⟨e, a1, h1, μ1, t1, d1, w1, q, p1, x1, arr⟩ := hc μ base tmps defers rd w (.inBlock id :: k) cs p
  cases e with
  | normal => exact ⟨.normal, a1, h1, μ1, t1, d1, w1, q, p1, x1, .head st_block (Steps.trans arr (.one st_inBlock))⟩
  | exit i =>
    by_cases hi : i = id
    · simp only [hi, if_true] at q
      obtain ⟨k0, hk, hs⟩ := arr
      refine ⟨.normal, a1, h1, μ1, t1, d1, w1, q, p1, x1, .head st_block (hs.trans (.one (st_exit ?_)))⟩
      rw [hk]; simp [exitTo, hi]
    · simp only [hi, if_false] at q
      refine ⟨.exit i, a1, h1, μ1, t1, d1, w1, q, p1, x1, .of_steps (.one st_block) (.pass (by simp) (fun j hj => ?_) arr)⟩
      cases hj
      have : (id == i) = false := by simp; exact fun e => hi e.symm
      simp [exitTo, this]
  | ret => exact ⟨.ret, a1, h1, μ1, t1, d1, w1, q, p1, x1, .of_steps (.one st_block) (.pass (by simp) (fun _ hj => by cases hj) arr)⟩
theorem CWp.scope {c : Code} (hc : CWp P cx c a h Q) : CWp P cx (.scope c) a h Q := by
  intro μ base tmps defers rd w k cs p
  obtain ⟨e, a1, h1, μ1, t1, d1, w1, q, p1, x1, arr⟩ := hc μ base tmps defers rd w (.inScope c :: k) cs p
  cases e with
  | normal => exact ⟨.normal, a1, h1, μ1, t1, d1, w1, q, p1, x1, .head st_scope (Steps.trans arr (.one st_inScope))⟩
  | exit i => exact ⟨.exit i, a1, h1, μ1, t1, d1, w1, q, p1, x1, .of_steps (.one st_scope) (.pass (by simp) (fun _ _ => rfl) arr)⟩
  | ret => exact ⟨.ret, a1, h1, μ1, t1, d1, w1, q, p1, x1, .of_steps (.one st_scope) (.pass (by simp) (fun _ _ => rfl) arr)⟩
theorem Steps.tail {m m₁ m₂ : Machine} (h : Steps P m m₂) (h1 : step P m = .next m₁) (hne : m ≠ m₂) : Steps P m₁ m₂ := by
  obtain ⟨n, hn⟩ := h
  cases n with
  | zero => simp only [runN, Stepped.next.injEq] at hn; exact (hne hn).elim
  | succ n => simp only [runN, h1] at hn; exact ⟨n, hn⟩
theorem lone_ne {fr fr' : Frame} {cs cs' : List Frame} {w w' : World} (h : fr.todo ≠ fr'.todo) : lone fr cs w ≠ lone fr' cs' w' := fun e => by
  simp only [lone, Machine.mk.injEq] at e
  have := e.2.1
  simp at this
  exact h (by rw [this.1])
theorem Arr.of_loop {m : Machine} {fn : FuncId} {rd : Option Nat} {tmps tmps' : Array Value} {defers defers' : List Deferred} {c : Code} {k : List Item} {cs : List Frame} {w w' : World} {e : AExit}
    (hs : Steps P m (lone (frame fn rd tmps defers (.code c :: .inLoop c :: k)) cs w)) (h : Arr P (lone (frame fn rd tmps defers (.code (.loop c) :: k)) cs w) fn rd k cs e tmps' defers' w') : Arr P m fn rd k cs e tmps' defers' w' := by
  cases e with
  | normal =>
    refine hs.trans (Steps.tail h st_loop (lone_ne fun e => ?_))
    have := congrArg List.length e
    simp [frame] at this
  | exit id =>
    obtain ⟨k0, h1, h2⟩ := h
    exact ⟨k0, h1, hs.trans (Steps.tail h2 st_loop (lone_ne fun e => by simp [frame] at e))⟩
  | ret =>
    obtain ⟨k0, h2⟩ := h
    exact ⟨k0, hs.trans (Steps.tail h2 st_loop (lone_ne fun e => by simp [frame] at e))⟩
theorem CWp.loop1 {c : Code} (hc : CWp P cx c a h fun e a' h' => match e with | .normal => CWp P cx (.loop c) a' h' Q | e => Q e a' h') : CWp P cx (.loop c) a h Q := by
  intro μ base tmps defers rd w k cs p
  obtain ⟨e, a1, h1, μ1, t1, d1, w1, q, p1, x1, arr⟩ := hc μ base tmps defers rd w (.inLoop c :: k) cs p
  cases e with
  | normal =>
    obtain ⟨e2, a2, h2, μ2, t2, d2, w2, q2, p2, x2, arr2⟩ := q μ1 base t1 d1 rd w1 k cs p1
    refine ⟨e2, a2, h2, μ2, t2, d2, w2, q2, p2, x1.trans x2, ?_⟩
    -- the loop's own first step and 'inLoop' come to the same
    have hs : Steps P (lone (frame cx.fn rd tmps defers (.code (.loop c) :: k)) cs w) (lone (frame cx.fn rd t1 d1 (.code c :: .inLoop c :: k)) cs w1) := .head st_loop (Steps.trans arr (.one st_inLoop))
    exact Arr.of_loop hs arr2
  | exit i => exact ⟨.exit i, a1, h1, μ1, t1, d1, w1, q, p1, x1, .of_steps (.one st_loop) (.pass (by simp) (fun _ _ => rfl) arr)⟩
  | ret => exact ⟨.ret, a1, h1, μ1, t1, d1, w1, q, p1, x1, .of_steps (.one st_loop) (.pass (by simp) (fun _ _ => rfl) arr)⟩
end rules
end Go.Ab
