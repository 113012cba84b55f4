/-
  Calls that panic, by the evaluator; functions that defer a closure which recovers. What was shown once of a call, taken as a step wherever its arguments are the same up to the numbers of the rows. A call with a slice whose capacity isn't known: what holds at every capacity.
-/
import Derived.Test.YtimbhgkiohbkdaaGreatAb56
import Derived.Test.YtimbhgkiohbkdaaGreatAb22
namespace Go.Ab.Nx.Dx
open Go.Ab Go.Ab.Nx Go.Ab.Nx.Zx
set_option linter.unusedSimpArgs false
set_option linter.unusedVariables false
noncomputable def PWp (P : Program) (cx : Cx) (c : Code) (a : Tr Value) (h : AHeap) (K : Tr Value → Value → AHeap → Prop) : Prop :=
  ∀ (μ : Emb) (base : Bs) (tmps : Array Value) (defers : List Deferred) (rd : RK) (w : World) (k : List Item) (cs : List Frame), Pre μ base cx a h tmps defers rd w →
    ∃ pv a' h' μ' tmps' defers' todo w', K a' pv h' ∧ ActRel μ' h'.next a' tmps' ∧ Ext μ h w μ' h' w' ∧ DOk base.D μ' h' w' defers' ∧ (∀ d ∈ defers', ∀ q, d.target = .collected q → base.n ≤ q) ∧
      Steps P (lone (frame cx.fn rd tmps defers (.code c :: k)) cs w) (lone { frame cx.fn rd tmps' defers' todo with mode := .panicking (pe pv) } cs w')
noncomputable def POp (P : Program) (cx : Cx) (ops : Array Oper) (l : List Nat) (a : Tr Value) (h : AHeap) (K : Tr Value → Value → AHeap → Prop) : Prop :=
  ∀ (μ : Emb) (base : Bs) (tmps : Array Value) (defers : List Deferred) (rd : RK) (w : World) (k : List Item) (cs : List Frame), Pre μ base cx a h tmps defers rd w →
    ∃ pv a' h' μ' tmps' defers' todo w', K a' pv h' ∧ ActRel μ' h'.next a' tmps' ∧ Ext μ h w μ' h' w' ∧ DOk base.D μ' h' w' defers' ∧ (∀ d ∈ defers', ∀ q, d.target = .collected q → base.n ≤ q) ∧
      Steps P (lone (frame cx.fn rd tmps defers (.inRegion ops l :: k)) cs w) (lone { frame cx.fn rd tmps' defers' todo with mode := .panicking (pe pv) } cs w')
section
variable {P : Program} {T : Tr TI} {cx : Cx} {a : Tr Value} {h : AHeap} {K : Tr Value → Value → AHeap → Prop}
theorem PWp.seqL {x y : Code} (hx : PWp P cx x a h K) : PWp P cx (.seq x y) a h K := by
  intro μ base tmps defers rd w k cs p
  obtain ⟨pv, a', h', μ', t', d', todo, w', q, q1, q2, q3, q4, q5⟩ := hx μ base tmps defers rd w (.code y :: k) cs p
  exact ⟨pv, a', h', μ', t', d', todo, w', q, q1, q2, q3, q4, .head st_seq q5⟩
theorem PWp.seqR {x y : Code} (hx : CWp P cx x a h fun e a' h' => match e with | .normal => PWp P cx y a' h' K | _ => False) : PWp P cx (.seq x y) a h K := by
  intro μ base tmps defers rd w k cs p
  obtain ⟨e, a1, h1, μ1, t1, d1, w1, q, p1, x1, arr⟩ := hx μ base tmps defers rd w (.code y :: k) cs p
  cases e with
  | exit i => exact q.elim
  | ret => exact q.elim
  | normal =>
    obtain ⟨pv, a', h', μ', t', d', todo, w', q, q1, q2, q3, q4, q5⟩ := q μ1 base t1 d1 rd w1 k cs p1
    exact ⟨pv, a', h', μ', t', d', todo, w', q, q1, x1.trans q2, q3, q4, .head st_seq (Steps.trans arr q5)⟩
theorem PWp.cond {c : Operand} {x y : Code} {t : Bool} (hc : aopnd a c = some (.bool t)) (hb : PWp P cx (if t then x else y) a h K) : PWp P cx (.cond c x y) a h K := by
  intro μ base tmps defers rd w k cs p
  have hv : opnd tmps c = .bool t := by have := p.act.opnd c _ hc; cases hx : opnd tmps c <;> rw [hx] at this <;> cases this; rfl
  obtain ⟨pv, a', h', μ', t', d', todo, w', q, q1, q2, q3, q4, q5⟩ := hb μ base tmps defers rd w k cs p
  exact ⟨pv, a', h', μ', t', d', todo, w', q, q1, q2, q3, q4, .head (st_cond hv) q5⟩
theorem PWp.block {id : Nat} {c : Code} (hb : PWp P cx c a h K) : PWp P cx (.block id c) a h K := by
  intro μ base tmps defers rd w k cs p
  obtain ⟨pv, a', h', μ', t', d', todo, w', q, q1, q2, q3, q4, q5⟩ := hb μ base tmps defers rd w (.inBlock id :: k) cs p
  exact ⟨pv, a', h', μ', t', d', todo, w', q, q1, q2, q3, q4, .head st_block q5⟩
theorem PWp.scope {c : Code} (hb : PWp P cx c a h K) : PWp P cx (.scope c) a h K := by
  intro μ base tmps defers rd w k cs p
  obtain ⟨pv, a', h', μ', t', d', todo, w', q, q1, q2, q3, q4, q5⟩ := hb μ base tmps defers rd w (.inScope c :: k) cs p
  exact ⟨pv, a', h', μ', t', d', todo, w', q, q1, q2, q3, q4, .head st_scope q5⟩
theorem PWp.region {id : Nat} {ops : Array Oper} (hb : POp P cx ops (List.range ops.size) a h K) : PWp P cx (.region id ops false) a h K := by
  intro μ base tmps defers rd w k cs p
  obtain ⟨pv, a', h', μ', t', d', todo, w', q, q1, q2, q3, q4, q5⟩ := hb μ base tmps defers rd w k cs p
  exact ⟨pv, a', h', μ', t', d', todo, w', q, q1, q2, q3, q4, .head st_region q5⟩
theorem POp.skip {ops : Array Oper} {i : Nat} {rest : List Nat} {o : Oper} {a' : Tr Value} (ho : ops[i]? = some o) (hg : aguard ops a o = some false) (hp : aput cx.nt a o.dst (.tuple #[]) = some a') (hr : POp P cx ops rest a' h K) : POp P cx ops (i :: rest) a h K := by
  intro μ base tmps defers rd w k cs p
  have hw := aguard_wanted p.act hg
  obtain ⟨r1, r2⟩ := p.act.put p.size (v := .tuple #[]) (v' := undef) (.tuple .nil) hp
  have hst := st_op_skip (P := P) (fn := cx.fn) (rd := rd) (tmps := tmps) (defers := defers) (k := k) (cs := cs) (w := w) (ops := ops) (i := i) (rest := rest) (by simp [ho, hw])
  rw [ho] at hst
  obtain ⟨pv, a', h', μ', t', d', todo, w', q, q1, q2, q3, q4, q5⟩ := hr μ base _ defers rd w k cs ⟨r1, r2, p.rdr, p.dok, p.dno, p.dge, p.bsz, p.st⟩
  exact ⟨pv, a', h', μ', t', d', todo, w', q, q1, q2, q3, q4, .head hst q5⟩
theorem POp.op {ops : Array Oper} {i : Nat} {rest : List Nat} {o : Oper} (ho : ops[i]? = some o) (hg : aguard ops a o = some true) (hd : isDefer o.op = false)
    (hop : OpWp P o (aopnd a) h fun v h' => ∃ a', aput cx.nt a o.dst v = some a' ∧ POp P cx ops rest a' h' K) : POp P cx ops (i :: rest) a h K := by
  intro μ base tmps defers rd w k cs p
  have hw := aguard_wanted p.act hg
  obtain ⟨nx, w1, m, v, v', h', μ', w', e1, e2, e3, ⟨a', e4, e5⟩, e6, e7⟩ := hop μ (opnd tmps) w (frame cx.fn rd tmps defers (.inRegion ops (i :: rest) :: k)) cs p.act.opnd p.st
  have p' := p.ext e6
  obtain ⟨r1, r2⟩ := p'.act.put p'.size e7 e4
  rw [finish_region, ho] at e3
  have hs := Steps.head (st_op_push ho hw hd e1 e2) e3
  obtain ⟨pv, a', h', μ', t', d', todo, w', q, q1, q2, q3, q4, q5⟩ := e5 μ' base _ defers rd w' k cs ⟨r1, r2, p'.rdr, p'.dok, p'.dno, p'.dge, p'.bsz, p'.st⟩
  exact ⟨pv, a', h', μ', t', d', todo, w', q, q1, e6.trans q2, q3, q4, hs.trans q5⟩
theorem POp.raise {ops : Array Oper} {i : Nat} {rest : List Nat} {o : Oper} (ho : ops[i]? = some o) (hg : aguard ops a o = some true) (hd : isDefer o.op = false)
    (hop : OpWpP P o (aopnd a) h (fun _ _ => False) fun pv h' => K a pv h') : POp P cx ops (i :: rest) a h K := by
  intro μ base tmps defers rd w k cs p
  have hw := aguard_wanted p.act hg
  rcases hop μ (opnd tmps) w (frame cx.fn rd tmps defers (.inRegion ops (i :: rest) :: k)) cs p.act.opnd p.st with ⟨nx, w1, m, e1, e2, ⟨v, v', h', μ', w', e3, e4, e6, e7⟩ | ⟨pv, h', μ', w', e3, e4, e5⟩⟩ | ⟨pv, e1, e2⟩
  · exact e4.elim
  · have p' := p.ext e5
    exact ⟨pv, a, h', μ', tmps, defers, _, w', e4, p'.act, e5, p'.dok, p'.dge, Steps.head (st_op_push ho hw hd e1 e2) e3⟩
  · exact ⟨pv, a, h, μ, tmps, defers, _, w, e2, p.act, Ext.refl p.st, p.dok, p.dge, .one (st_op_raise ho hw hd e1)⟩
theorem PWp.fn {f : FuncId} {fn : Func} {c : Code} {args : List Value} {J : Value → AHeap → Prop} (hf : P.funcs[f]? = some fn) (hb : fn.body = some c) (hn : args.length ≤ fn.ntmps)
    (hc : PWp P ⟨f, fn.ntmps, none⟩ c (entry args 0 .leaf) h fun _ pv h' => J pv h') : FWpP P f args h (fun _ _ => False) J := by
  intro μ args' w hl st cs
  have hlen := hl.length
  simp only [Array.length_toList] at hlen
  have hsz : (args' ++ Array.replicate (fn.ntmps - args'.size) undef).size = fn.ntmps := by simp; omega
  obtain ⟨pv, a', h', μ', t', d', todo, w', q, q1, q2, q3, q4, q5⟩ := hc μ ⟨w.heap.size, []⟩ _ [] ⟨none, false⟩ w [] cs ⟨entry_act2 hl, hsz, trivial, .nil (fun _ hd => by cases hd), fun _ => rfl, fun d hd => (by cases hd), Nat.le_refl _, st⟩
  have henter : Frame.enter P f args' .normal = frame f ⟨none, false⟩ (args' ++ Array.replicate (fn.ntmps - args'.size) undef) [] [.code c] := by simp [Frame.enter, frame, RK.kind, hf, hb]
  rw [henter]
  obtain ⟨w2, g1, g2, g3, g4, g5, g6⟩ := take_marksP (P := P) (chain := pe pv) (fn := f) (rd := ⟨none, false⟩) (tmps := t') (todo := todo) (cs := cs) q2.st q3
  exact ⟨.panicked (pe pv), w2, { frame f ⟨none, false⟩ t' [] todo with mode := .panicking (pe pv) }, .inr ⟨pv, h', μ', rfl, q, ext_marks q2 q4 g2 g3 g4 g5 fun b hb => g6 b (.inl hb)⟩, Steps.trans q5 g1, rfl, rfl, rfl, fn, hf⟩
noncomputable def DefP (P : Program) (g : FuncId) (caps : List Value) (h : AHeap) (pv : Value) (K : AHeap → Prop) : Prop :=
  ∀ (μ : Emb) (caps' : Array Value) (w : World), LRel μ h.next caps caps'.toList → StRel μ h w → ∀ (c : Frame) (cs : List Frame), c.mode = .panicking (pe pv) →
    ∃ v h' μ' w' fr, K h' ∧ Ext μ h w μ' h' w' ∧ Steps P (lone (Frame.enter P g caps' .deferred) (c :: cs) w) (lone fr ({ c with mode := .panicking [{ v := pv, recovered := true }] } :: cs) w') ∧ fr.kind = .deferred ∧ fr.going P w' (.returned v)
theorem DefP.recover {g : FuncId} {fg : Func} {caps : List Value} {K : AHeap → Prop} {id : Nat} {t5 t2 : Nat} {ats : Array TypeId} {ty ty2 : TypeId} {pos pos2 : String} {af af2 : Array Edge} {Z : Code} {t : TypeId} {u : Value} (hu2 : flat u = true)
    (hf : P.funcs[g]? = some fg) (hb : fg.body = some (.seq (.region id #[⟨some t5, .call ⟨.builtin .recover, #[], ats⟩, ty, pos, af, none⟩, ⟨some t2, .assign (.tmp t5), ty2, pos2, af2, none⟩] false) Z)) (hres : fg.results = #[]) (hn : caps.length ≤ fg.ntmps) (h5 : t5 < fg.ntmps) (h2 : t2 < fg.ntmps)
    (hc : CWp P ⟨g, fg.ntmps, none⟩ Z (((entry caps 0 .leaf).put t5 (some (.iface t u))).put t2 (some (.iface t u))) h fun e _ h' => (∀ i, e ≠ .exit i) ∧ K h') : DefP P g caps h (.iface t u) K := by
  intro μ caps' w hl st c cs hu
  have hlen := hl.length
  simp only [Array.length_toList] at hlen
  obtain ⟨tm, htm⟩ : ∃ tm, tm = caps' ++ Array.replicate (fg.ntmps - caps'.size) undef := ⟨_, rfl⟩
  have hsz : tm.size = fg.ntmps := by rw [htm]; simp; omega
  have hact : ActRel μ h.next (entry caps 0 .leaf) tm := by rw [htm]; exact entry_act2 hl
  obtain ⟨R, hR⟩ : ∃ R : Array Oper, R = #[⟨some t5, .call ⟨.builtin .recover, #[], ats⟩, ty, pos, af, none⟩, ⟨some t2, .assign (.tmp t5), ty2, pos2, af2, none⟩] := ⟨_, rfl⟩
  have henter : Frame.enter P g caps' .deferred = frame g ⟨none, true⟩ tm [] [.code (.seq (.region id R false) Z)] := by simp [Frame.enter, frame, RK.kind, hf, hb, htm, hR]
  have o0 : R[0]? = some ⟨some t5, .call ⟨.builtin .recover, #[], ats⟩, ty, pos, af, none⟩ := by rw [hR]; rfl
  have o1 : R[1]? = some ⟨some t2, .assign (.tmp t5), ty2, pos2, af2, none⟩ := by rw [hR]; rfl
  obtain ⟨c', hc'⟩ : ∃ c' : Frame, c' = { c with mode := .panicking [{ v := .iface t u, recovered := true }] } := ⟨_, rfl⟩
  have s1 : step P (lone (frame g ⟨none, true⟩ tm [] (.inRegion R [0, 1] :: [.code Z])) (c :: cs) w) = .next (lone (frame g ⟨none, true⟩ (put tm (some t5) (.iface t u)) [] (.inRegion R [1] :: [.code Z])) (c' :: cs) w) := by
    have hfin : (frame g ⟨none, true⟩ tm [] (.inRegion R [0, 1] :: [.code Z])).finish (.iface t u) = frame g ⟨none, true⟩ (put tm (some t5) (.iface t u)) [] (.inRegion R [1] :: [.code Z]) := by rw [finish_region, o0]; rfl
    rw [← hfin, hc']
    refine step_lone_go ?_
    have hg := stG_op (P := P) (fn := g) (rd := ⟨none, true⟩) (tmps := tm) (defers := []) (k := [.code Z]) (cs := c :: cs) (w := w) (rest := [1]) o0 rfl rfl
    rw [hg]
    simp [stepG.apply, execOp, resolve, invoke, builtin, frame, RK.kind, tryRecover, hu, pe]
  rw [← hc']
  have hrv : VRel μ h.next (.iface t u) (.iface t u) := .iface (.of_flat _ _ hu2)
  obtain ⟨r1, r2⟩ := hact.put (nt := fg.ntmps) (dst := some t5) hsz hrv (a' := (entry caps 0 .leaf).put t5 (some (.iface t u))) (by simp only [aput]; rw [Nat.ble_eq_true_of_le (by omega : t5 + 1 ≤ fg.ntmps)]; rfl)
  have s2 : step P (lone (frame g ⟨none, true⟩ (put tm (some t5) (.iface t u)) [] (.inRegion R [1] :: [.code Z])) (c' :: cs) w) = .next (lone (frame g ⟨none, true⟩ (put (put tm (some t5) (.iface t u)) (some t2) (.iface t u)) [] (.inRegion R [] :: [.code Z])) (c' :: cs) w) := by
    refine st_op_value o1 rfl rfl (nx := .value (.iface t u)) ?_ (.inl rfl)
    have : (put tm (some t5) (.iface t u)).getD t5 undef = .iface t u := by simp [put, Array.getD_eq_getD_getElem?, show t5 < tm.size by omega]
    simp [execOp, opnd, this]
  obtain ⟨q1, q2⟩ := r1.put (nt := fg.ntmps) (dst := some t2) r2 hrv (a' := ((entry caps 0 .leaf).put t5 (some (.iface t u))).put t2 (some (.iface t u))) (by simp only [aput]; rw [Nat.ble_eq_true_of_le (by omega : t2 + 1 ≤ fg.ntmps)]; rfl)
  obtain ⟨e, a', h', μ', t', d', w', ⟨z1, z2⟩, p', x', arr⟩ := hc μ ⟨w.heap.size, []⟩ _ [] ⟨none, true⟩ w [] (c' :: cs) ⟨q1, q2, trivial, .nil (fun _ hd => by cases hd), fun _ => rfl, fun d hd => (by cases hd), Nat.le_refl _, st⟩
  obtain ⟨todo, hs⟩ := ends z1 arr
  obtain ⟨w2, g1, g2, g3, g4, g5, g6⟩ := take_marks (P := P) (fn := g) (rd := ⟨none, true⟩) (tmps := t') (todo := todo) (cs := c' :: cs) p'.st p'.dok
  refine ⟨.tuple #[], h', μ', w2, { frame g ⟨none, true⟩ t' [] todo with mode := .returning }, z2, ext_marks x' p'.dge g2 g3 g4 g5 fun b hb => g6 b (.inl hb), ?_, rfl, rfl, rfl, fg, hf, ?_⟩
  · rw [henter]
    have hrange : List.range R.size = [0, 1] := by rw [hR]; rfl
    have s0 : step P (lone (frame g ⟨none, true⟩ tm [] (.code (.region id R false) :: [.code Z])) (c :: cs) w) = .next (lone (frame g ⟨none, true⟩ tm [] (.inRegion R [0, 1] :: [.code Z])) (c :: cs) w) := by rw [← hrange]; exact st_region
    exact .head st_seq (.head s0 (.head s1 (.head s2 (.head st_region_end (hs.trans g1)))))
  · simp [results, hres]
theorem DWp.deferP (ok : TyOK P T) {f g : FuncId} {fn fg : Func} {K : Value → AHeap → Prop} (hf : P.funcs[f]? = some fn) (he : Entered P g fg) {C : Code} {a : Tr Value} {id : Nat} {t4 : Nat} {xs : Array Operand} {ty ty2 : TypeId} {pos pos2 : String} {af af2 : Array Edge} {ats : Array TypeId} {caps : List Value} (h4 : t4 < fn.ntmps)
    (hx : aopnds (aopnd a) xs.toList = some caps)
    (hc : PWp P ⟨f, fn.ntmps, none⟩ C (a.put t4 (some (.func (.func g) #[] caps.toArray))) h fun a3 pv h3 => DefP P g caps h3 pv fun h4 => ∃ v, aRet T fn a3 h4 = some v ∧ K v h4) :
    DWp P f fn.ntmps (.seq (.region id #[⟨some t4, .makeFunc (.func g) #[] xs, ty, pos, af, none⟩, ⟨none, .defer ⟨.value (.tmp t4), #[], ats⟩, ty2, pos2, af2, none⟩] false) C) a h K := by
  intro μ0 h0 w0 μ tmps d w cs m0 x p hs
  obtain ⟨R, hR⟩ : ∃ R : Array Oper, R = #[⟨some t4, .makeFunc (.func g) #[] xs, ty, pos, af, none⟩, ⟨none, .defer ⟨.value (.tmp t4), #[], ats⟩, ty2, pos2, af2, none⟩] := ⟨_, rfl⟩
  rw [← hR] at hs
  have o0 : R[0]? = some ⟨some t4, .makeFunc (.func g) #[] xs, ty, pos, af, none⟩ := by rw [hR]; rfl
  have o1 : R[1]? = some ⟨none, .defer ⟨.value (.tmp t4), #[], ats⟩, ty2, pos2, af2, none⟩ := by rw [hR]; rfl
  have hrange : List.range R.size = [0, 1] := by rw [hR]; rfl
  have s0 : step P (lone (frame f ⟨none, false⟩ tmps d (.code (.region id R false) :: [.code C])) cs w) = .next (lone (frame f ⟨none, false⟩ tmps d (.inRegion R [0, 1] :: [.code C])) cs w) := by rw [← hrange]; exact st_region
  have hcr : LRel μ h.next caps ((xs.map (opnd tmps)).toList) := by rw [Array.toList_map]; exact aopnds_rel p.act.opnd hx
  have s1 : step P (lone (frame f ⟨none, false⟩ tmps d (.inRegion R [0, 1] :: [.code C])) cs w) = .next (lone (frame f ⟨none, false⟩ (put tmps (some t4) (.func (.func g) #[] (xs.map (opnd tmps)))) d (.inRegion R [1] :: [.code C])) cs w) :=
    st_op_value o0 rfl rfl (nx := .value (.func (.func g) #[] (xs.map (opnd tmps)))) (by simp [execOp, Instr.makeFunc]) (.inl rfl)
  have hfv : VRel μ h.next (.func (.func g) #[] caps.toArray) (.func (.func g) #[] (xs.map (opnd tmps))) := .func (fun l => by simp) .nil (by simpa using hcr)
  obtain ⟨r1, r2⟩ := p.act.put (nt := fn.ntmps) (dst := some t4) p.size hfv (a' := a.put t4 (some (.func (.func g) #[] caps.toArray))) (by simp only [aput]; rw [Nat.ble_eq_true_of_le (by omega : t4 + 1 ≤ fn.ntmps)]; rfl)
  obtain ⟨dd, hdd⟩ : ∃ dd : Deferred, dd = { target := .fn (.func g) (xs.map (opnd tmps)), args := #[] } := ⟨_, rfl⟩
  obtain ⟨tq, htq⟩ : ∃ tq, tq = put tmps (some t4) (.func (.func g) #[] (xs.map (opnd tmps))) := ⟨_, rfl⟩
  rw [← htq] at s1 r1 r2
  have hget : tq.getD t4 undef = .func (.func g) #[] (xs.map (opnd tmps)) := by
    have := p.size
    simp only at this
    rw [htq]; simp [put, Array.getD_eq_getD_getElem?, show t4 < tmps.size by omega]
  have s2 : step P (lone (frame f ⟨none, false⟩ tq d (.inRegion R [1] :: [.code C])) cs w) = .next (lone (frame f ⟨none, false⟩ tq (dd :: d) (.inRegion R [] :: [.code C])) cs w) := by
    refine step_lone_go ?_
    have hev : (frame f ⟨none, false⟩ tq d (.inRegion R [1] :: [.code C])).eval = opnd tq := frame_eval ..
    simp only [frame, RK.kind, cond_false] at hev
    have hw : Region.wanted ⟨none, .defer ⟨.value (.tmp t4), #[], ats⟩, ty2, pos2, af2, none⟩ (yielded R tq) = true := rfl
    simp [stepG, stepG.exec, stepG.oper, Frame.oper?, frame, RK.kind, o1, hw, hev, stepG.apply, execOp, resolve, opnd, hget, Deferred.ofValue, Frame.finish, hdd]
  have hlt : ∀ e ∈ dd :: d, ∀ q, e.target = .collected q → q < w.heap.size := by
    intro e he q hq
    cases he with
    | head => rw [hdd] at hq; cases hq
    | tail _ he => exact p.dok.lt e he q hq
  obtain ⟨pv, a3, h3, μ3, t3, d3, todo, w3, q2, q1, x3, dk3, dg3, hs3⟩ := hc μ ⟨w0.heap.size, dd :: d⟩ tq (dd :: d) ⟨none, false⟩ w [] cs ⟨r1, r2, trivial, .nil hlt, fun e => (e rfl).elim, fun e he q hq => by
    cases he with
    | head => rw [hdd] at hq; cases hq
    | tail _ he => exact p.dge e he q hq, p.bsz, p.st⟩
  obtain ⟨w4, g1, g2, g3, g4, g5, g6⟩ := take_marksP (P := P) (chain := pe pv) (fn := f) (rd := ⟨none, false⟩) (tmps := t3) (todo := todo) (cs := cs) x3.st dk3
  have x4 : Ext μ0 h0 w0 μ3 h3 w4 := ext_marks (x.trans x3) dg3 g2 g3 g4 g5 fun b hb => g6 b (.inl hb)
  have keep : ∀ {l : List Deferred}, (∀ e ∈ l, e ∈ d) → DOk [] μ3 h3 w3 l → DOk [] μ3 h3 w4 l := by
    intro l hs hl
    induction hl with
    | nil hD => exact .nil fun d hd => (by cases hd)
    | cons hr ho hne t ih =>
      exact .cons ((g6 _ (.inr ⟨_, List.mem_cons_of_mem _ (hs _ List.mem_cons_self), rfl⟩)).trans hr) ho hne (ih fun e he => hs e (List.mem_cons_of_mem _ he))
  have dok4 : DOk [] μ3 h3 w4 d := keep (fun _ h => h) (p.dok.ext x3)
  have hcr4 : LRel μ3 h3.next caps (xs.map (opnd tmps)).toList := hcr.mono x3.agree x3.next
  have hinv : (invoke dd.target dd.args).run P = fun w => .ok (.enter g (xs.map (opnd tmps))) w := by
    funext w; rw [hdd]; simp [invoke, he.run]
  have s4 := step_defer (P := P) (fr := { frame f ⟨none, false⟩ t3 (dd :: d) todo with mode := .panicking (pe pv) }) (cs := cs) (w := w4) (d := dd) (ds := d) (by simp) rfl (by rw [hdd]) (congrFun hinv w4)
  obtain ⟨v0, h5, μ5, w5, fr, ⟨v, k1, k2⟩, x5, y2, y3, y4⟩ := q2 μ3 _ w4 hcr4 g2 { { frame f ⟨none, false⟩ t3 (dd :: d) todo with mode := .panicking (pe pv) } with defers := d } cs rfl
  have s5 := step_going_returned (c := { { { frame f ⟨none, false⟩ t3 (dd :: d) todo with mode := .panicking (pe pv) } with defers := d } with mode := .panicking [{ v := pv, recovered := true }] }) (cs := cs) y3 y4
  have hset : settle (.panicking [{ v := pv, recovered := true }]) = .returning := rfl
  simp only [hset] at s5
  have hsF : Steps P m0 (lone { frame f ⟨none, false⟩ t3 d todo with mode := .returning } cs w5) :=
    hs.trans (.head st_seq (.head s0 (.head s1 (.head s2 (.head st_region_end (hs3.trans (g1.trans (.head s4 (y2.trans (.one s5))))))))))
  exact DWp.fin ok hf (x4.trans x5) (q1.mono x5.agree x5.next) (dok4.ext x5) p.dge k1 k2 hsF
end
noncomputable abbrev CallP := FuncId → List Value → AHeap → Option (Value × AHeap)
noncomputable def raiseP (callP : CallP) (o : Oper) (ρ : Operand → Option Value) (h : AHeap) : Option (Value × AHeap) :=
  match o.op with
  | .panic x => match ρ x with
    | some (.iface t v) => bif flat v then some (.iface t v, h) else none
    | _ => none
  | .call ⟨.value (.func g), xs, _⟩ => match aopnds ρ xs.toList with
    | some vs => callP g vs h
    | none => none
  | _ => none
noncomputable def pOps (E : Env) (call : CallV) (callP : CallP) (ops : Array Oper) (nt : Nat) : List Oper → Tr Value → AHeap → Option (Tr Value × Value × AHeap)
  | [], _, _ => none
  | o :: os, a, h => match aguard ops a o with
    | some true => bif isDefer o.op then none else match zOp E call o (aopnd a) h with
      | some (v, h') => match aput nt a o.dst v with
        | some a' => pOps E call callP ops nt os a' h'
        | none => none
      | none => match raiseP callP o (aopnd a) h with
        | some (pv, h') => some (a, pv, h')
        | none => none
    | some false => match aput nt a o.dst (.tuple #[]) with
      | some a' => pOps E call callP ops nt os a' h
      | none => none
    | none => none
noncomputable def pC (E : Env) (call : CallV) (callP : CallP) (f : FuncId) (nt : Nat) : Code → Tr Value → AHeap → Option (Tr Value × Value × AHeap)
  | .seq x y, a, h => match (compC x E f nt).run none call a h with
    | some (.normal, a', h') => pC E call callP f nt y a' h'
    | some _ => none
    | none => pC E call callP f nt x a h
  | .cond c x y, a, h => match aopnd a c with
    | some (.bool t) => bif t then pC E call callP f nt x a h else pC E call callP f nt y a h
    | _ => none
  | .block _ c, a, h => pC E call callP f nt c a h
  | .scope c, a, h => pC E call callP f nt c a h
  | .region _ ops false, a, h => pOps E call callP ops nt ops.toList a h
  | _, _, _ => none
noncomputable def pF (E : Env) (call : CallV) : Nat → CallP
  | 0 => fun _ _ _ => none
  | n + 1 => fun g args h => match E.F.get g with
    | some fn => match fn.body with
      | some c => bif Nat.ble args.length fn.ntmps then match pC E call (pF E call n) g fn.ntmps c (entry args 0 .leaf) h with
        | some (_, pv, h') => some (pv, h')
        | none => none
        else none
      | none => none
    | none => none
noncomputable def PSound (P : Program) (callP : CallP) : Prop := ∀ g vs h pv h', callP g vs h = some (pv, h') → (∃ fn, Entered P g fn) ∧ FWpP P g vs h (fun _ _ => False) fun x y => x = pv ∧ y = h'
noncomputable def defEvP (E : Env) (call : CallV) (g : FuncId) (caps : List Value) (h : AHeap) (pv : Value) : Option AHeap :=
  match pv with
  | .iface ti u => bif flat u then (match E.F.get g with
    | some fg => match fg.body with
      | some c => bif fg.results.isEmpty && Nat.ble caps.length fg.ntmps then match recOf c with
          | some (t, s, z) => bif Nat.ble (t + 1) fg.ntmps && Nat.ble (s + 1) fg.ntmps then runC E call g fg.ntmps z (((entry caps 0 .leaf).put t (some (.iface ti u))).put s (some (.iface ti u))) h else none
          | none => none
        else none
      | none => none
    | none => none) else none
  | _ => none
noncomputable def dEvP (E : Env) (call : CallV) (callP : CallP) (f : FuncId) (fn : Func) : Code → Tr Value → AHeap → ZV
  | .seq x y, a, h => match deferOf x with
    | some (t, g, xs) => bif Nat.ble (t + 1) fn.ntmps then match aopnds (aopnd a) xs.toList with
      | some caps => match pC E call callP f fn.ntmps y (a.put t (some (.func (.func g) #[] caps.toArray))) h with
        | some (a3, pv, h3) => match defEvP E call g caps h3 pv with
          | some h4 => retD E fn a3 h4
          | none => none
        | none => none
      | none => none
      else none
    | none => match (compC x E f fn.ntmps).run none call a h with
      | some (.normal, a', h') => dEvP E call callP f fn y a' h'
      | _ => none
  | _, _, _ => none
noncomputable def dFunP (E : Env) (call : CallV) (callP : CallP) (f : FuncId) (args : List Value) (h : AHeap) : ZV :=
  match E.F.get f with
  | some fn => match fn.body with
    | some c => bif Nat.ble args.length fn.ntmps then dEvP E call callP f fn c (entry args 0 .leaf) h else none
    | none => none
  | none => none
noncomputable def dSP (E : Env) (n : Nat) (B : List FuncId) (f : FuncId) (args : List Value) (h : AHeap) : ZV :=
  bif B.any (Nat.beq f) then (match dFun E (evZ E n) f args h with
    | some r => some r
    | none => dFunP E (evZ E n) (pF E (evZ E n) 20) f args h) else E.S f args h
noncomputable def envP (E : Env) (n : Nat) (B : List FuncId) : Env := { E with S := dSP E n B }
section
variable {E : Env} (ok : EnvOK E) {call : CallV} (hv : VSound E.P call) {callP : CallP} (hp : PSound E.P callP)
include ok hv hp
omit ok hv in
theorem raiseP_sound {o : Oper} {ρ : Operand → Option Value} {h h' : AHeap} {pv : Value} (hρ : ∀ f, ρ (.func f) = some (.func (.func f) #[] #[])) (he : raiseP callP o ρ h = some (pv, h')) : OpWpP E.P o ρ h (fun _ _ => False) fun x y => x = pv ∧ y = h' := by
  obtain ⟨dst, op, ty, pos, after, guard⟩ := o
  unfold raiseP at he
  split at he
  · rename_i x hop
    simp only at hop
    subst hop
    split at he
    · rename_i t v hx
      cases hfl : flat v
      · rw [hfl, cond_false] at he; cases he
      · rw [hfl, cond_true] at he
        cases he
        intro μ ρ' w c cs hρ' st
        refine .inr ⟨.iface t v, ?_, rfl, rfl⟩
        have h1 := hρ' x _ hx
        have e : ρ' x = .iface t v := by
          cases hz : ρ' x <;> rw [hz] at h1 <;> cases h1
          rename_i h2; rw [h2.flat_eq hfl]
        simp [execOp, e, Instr.panic, goPanic]
    · cases he
  · rename_i g xs ats hop
    simp only at hop
    subst hop
    split at he
    · rename_i vs hx
      obtain ⟨⟨fn, h1⟩, h2⟩ := hp _ _ _ _ _ he
      exact OpWpP.fcall (hρ g) hx h1 h2
    · cases he
  · cases he
theorem pOps_good {ops : Array Oper} {cx : Cx} : ∀ {os : List Oper} {i : Nat} {a a' : Tr Value} {h h' : AHeap} {pv : Value}, ops.toList.drop i = os → pOps E call callP ops cx.nt os a h = some (a', pv, h') →
    POp E.P cx ops (List.range' i os.length) a h fun x y z => x = a' ∧ y = pv ∧ z = h'
  | [], i, a, a', h, h', pv, _, he => by cases he
  | o :: os, i, a, a', h, h', pv, hd, he => by
    have ho : ops[i]? = some o := drop_at hd
    have hd1 : ops.toList.drop (i + 1) = os := by rw [← List.drop_drop, hd]; rfl
    simp only [pOps] at he
    rw [List.length_cons, List.range'_succ]
    split at he
    · rename_i hg
      cases hdf : isDefer o.op
      · rw [hdf, cond_false] at he
        split at he
        · rename_i v h1 hop
          split at he
          · rename_i a1 hpt
            refine POp.op ho hg hdf ((zOp_sound ok hv o _ _ _ _ hop).mono ?_)
            rintro x y ⟨rfl, rfl⟩
            exact ⟨a1, hpt, pOps_good hd1 he⟩
          · cases he
        · split at he
          · rename_i pv1 h1 hr
            cases he
            refine POp.raise ho hg hdf ?_
            have := raiseP_sound hp (ρ := aopnd a) (fun f => rfl) hr
            intro μ ρ' w c cs h2 h3
            rcases this μ ρ' w c cs h2 h3 with ⟨nx, w1, m, e1, e2, e3 | ⟨pv, h', μ', w', e3, e4, e5⟩⟩ | ⟨pv, e1, e2⟩
            · obtain ⟨_, _, _, _, _, _, e4, _⟩ := e3; exact e4.elim
            · exact .inl ⟨nx, w1, m, e1, e2, .inr ⟨pv, h', μ', w', e3, ⟨rfl, e4.1, e4.2⟩, e5⟩⟩
            · exact .inr ⟨pv, e1, rfl, e2.1, e2.2⟩
          · cases he
      · rw [hdf, cond_true] at he; cases he
    · rename_i hg
      split at he
      · rename_i a1 hpt
        exact POp.skip ho hg hpt (pOps_good hd1 he)
      · cases he
    · cases he
theorem pC_good {f : FuncId} {nt : Nat} : ∀ (c : Code) (a : Tr Value) (h : AHeap) (a' : Tr Value) (pv : Value) (h' : AHeap), pC E call callP f nt c a h = some (a', pv, h') → PWp E.P ⟨f, nt, none⟩ c a h fun x y z => x = a' ∧ y = pv ∧ z = h'
  | .seq x y, a, h, a', pv, h', he => by
    simp only [pC] at he
    split at he
    · rename_i a1 h1 hx
      refine PWp.seqR ((compC_good ok hv _ _ _ _ _ _ _ hx).mono ?_)
      rintro e1 a2 h2 ⟨rfl, rfl, rfl⟩
      exact pC_good y a2 h2 a' pv h' he
    · cases he
    · exact PWp.seqL (pC_good x a h a' pv h' he)
  | .cond c x y, a, h, a', pv, h', he => by
    simp only [pC] at he
    split at he
    · rename_i t ht
      refine PWp.cond ht ?_
      cases t
      · exact pC_good y a h a' pv h' he
      · exact pC_good x a h a' pv h' he
    · cases he
  | .block id c, a, h, a', pv, h', he => PWp.block (pC_good c a h a' pv h' he)
  | .scope c, a, h, a', pv, h', he => PWp.scope (pC_good c a h a' pv h' he)
  | .region id ops false, a, h, a', pv, h', he => by
    have := pOps_good ok hv hp (cx := ⟨f, nt, none⟩) (i := 0) (by simp) (show pOps E call callP ops nt ops.toList a h = _ from he)
    rw [Array.length_toList, ← List.range_eq_range'] at this
    exact PWp.region this
  | .region id ops true, a, h, a', pv, h', he => by cases he
  | .skip, _, _, _, _, _, he => by cases he
  | .label _, _, _, _, _, _, he => by cases he
  | .loop _, _, _, _, _, _, he => by cases he
  | .rangeFunc .., _, _, _, _, _, he => by cases he
  | .exit _, _, _, _, _, _, he => by cases he
  | .goto _, _, _, _, _, _, he => by cases he
  | .ret, _, _, _, _, _, he => by cases he
  | .refuse _, _, _, _, _, _, he => by cases he
omit hp
theorem pF_sound : ∀ n, PSound E.P (pF E call n)
  | 0 => fun _ _ _ _ _ he => by cases he
  | n + 1 => by
    intro g vs h pv h' he
    simp only [pF] at he
    split at he
    · rename_i fn hf
      split at he
      · rename_i c hb
        cases hn : Nat.ble vs.length fn.ntmps
        · rw [hn, cond_false] at he; cases he
        · rw [hn, cond_true] at he
          split at he
          · rename_i a1 pv1 h1 hc
            cases he
            refine ⟨⟨fn, ok.fn g fn hf⟩, PWp.fn (ok.fn g fn hf).look hb (Nat.le_of_ble_eq_true hn) ?_⟩
            have := pC_good ok hv (pF_sound n) _ _ _ _ _ _ hc
            intro μ base tmps defers rd w k cs p
            obtain ⟨pv, a', h', μ', t', d', todo, w', ⟨_, q, q0⟩, q1⟩ := this μ base tmps defers rd w k cs p
            exact ⟨pv, a', h', μ', t', d', todo, w', ⟨q, q0⟩, q1⟩
          · cases he
      · cases he
    · cases he
theorem defEvP_good {g : FuncId} {caps : List Value} {h h' : AHeap} {pv : Value} (he : defEvP E call g caps h pv = some h') : DefP E.P g caps h pv fun h2 => h2 = h' := by
  unfold defEvP at he
  split at he
  · rename_i ti u
    cases hfl : flat u
    · rw [hfl, cond_false] at he; cases he
    · rw [hfl, cond_true] at he
      split at he
      · rename_i fg hf
        split at he
        · rename_i c hb
          cases hbb : fg.results.isEmpty && Nat.ble caps.length fg.ntmps
          · rw [hbb, cond_false] at he; cases he
          · rw [hbb, cond_true] at he
            simp only [Bool.and_eq_true, Array.isEmpty_iff] at hbb
            obtain ⟨b1, b2⟩ := hbb
            have hl := (ok.fn g fg hf).look
            split at he
            · rename_i t s z hr
              cases hb3 : Nat.ble (t + 1) fg.ntmps && Nat.ble (s + 1) fg.ntmps
              · rw [hb3, cond_false] at he; cases he
              · rw [hb3, cond_true] at he
                simp only [Bool.and_eq_true] at hb3
                obtain ⟨id, ty, ty2, pos, pos2, af, af2, ats, rfl⟩ := recOf_eq hr
                exact DefP.recover hfl hl hb b1 (Nat.le_of_ble_eq_true b2) (Nat.le_of_ble_eq_true hb3.1) (Nat.le_of_ble_eq_true hb3.2) (runC_good ok hv he)
            · cases he
        · cases he
      · cases he
  · cases he
include hp
theorem dEvP_good {f : FuncId} {fn : Func} (hf : E.F.get f = some fn) : ∀ (c : Code) (a : Tr Value) (h : AHeap) (v : Value) (h' : AHeap), dEvP E call callP f fn c a h = some (v, h') → DWp E.P f fn.ntmps c a h fun x y => x = v ∧ y = h'
  | .seq x y, a, h, v, h', he => by
    have hl := (ok.fn f fn hf).look
    rw [dEvP] at he
    split at he
    · rename_i t g xs hd
      obtain ⟨id, ty, ty2, pos, pos2, af, af2, ats, rfl⟩ := deferOf_eq hd
      cases hb : Nat.ble (t + 1) fn.ntmps
      · rw [hb, cond_false] at he; cases he
      · rw [hb, cond_true] at he
        split at he
        · rename_i caps hx
          split at he
          · rename_i a3 pv h3 hc
            split at he
            · rename_i h4 hd4
              obtain ⟨r1, rfl⟩ := retD_some he
              obtain ⟨fg, hg⟩ : ∃ fg, E.F.get g = some fg := by
                unfold defEvP at hd4
                split at hd4
                · rename_i ti u
                  cases hfl : flat u
                  · rw [hfl, cond_false] at hd4; cases hd4
                  · rw [hfl, cond_true] at hd4
                    split at hd4
                    · exact ⟨_, by assumption⟩
                    · cases hd4
                · cases hd4
              refine DWp.deferP ok.ty hl (ok.fn g fg hg) (Nat.le_of_ble_eq_true hb) hx ?_
              have := pC_good ok hv hp _ _ _ _ _ _ hc
              intro μ base tmps defers rd w k cs p
              obtain ⟨pv', a', h2, μ', t', d', todo, w', ⟨rfl, rfl, rfl⟩, q1⟩ := this μ base tmps defers rd w k cs p
              refine ⟨pv', a', h2, μ', t', d', todo, w', fun μ caps' w q1 q2 c cs q3 => ?_, q1⟩
              obtain ⟨v0, h5, μ5, w5, fr, rfl, z⟩ := defEvP_good ok hv hd4 μ caps' w q1 q2 c cs q3
              exact ⟨v0, h5, μ5, w5, fr, ⟨v, r1, rfl, rfl⟩, z⟩
            · cases he
          · cases he
        · cases he
    · split at he
      · rename_i a1 h1 hx
        refine DWp.seq ok.ty hl ((compC_good ok hv _ _ _ _ _ _ _ hx).mono ?_)
        rintro e1 a2 h2 ⟨rfl, rfl, rfl⟩
        exact dEvP_good hf y a2 h2 v h' he
      · cases he
  | .skip, _, _, _, _, he => by cases he
  | .label _, _, _, _, _, he => by cases he
  | .region .., _, _, _, _, he => by cases he
  | .cond .., _, _, _, _, he => by cases he
  | .block .., _, _, _, _, he => by cases he
  | .loop _, _, _, _, _, he => by cases he
  | .rangeFunc .., _, _, _, _, he => by cases he
  | .exit _, _, _, _, _, he => by cases he
  | .scope _, _, _, _, _, he => by cases he
  | .goto _, _, _, _, _, he => by cases he
  | .ret, _, _, _, _, he => by cases he
  | .refuse _, _, _, _, _, he => by cases he
theorem dFunP_good {f : FuncId} {args : List Value} {h h' : AHeap} {v : Value} (he : dFunP E call callP f args h = some (v, h')) : (∃ fn, Entered E.P f fn) ∧ FWp E.P f args h fun x y => x = v ∧ y = h' := by
  unfold dFunP at he
  split at he
  · rename_i fn hf
    split at he
    · rename_i c hb
      cases hn : Nat.ble args.length fn.ntmps
      · rw [hn, cond_false] at he; cases he
      · rw [hn, cond_true] at he
        have hn := Nat.le_of_ble_eq_true hn
        refine ⟨⟨fn, ok.fn f fn hf⟩, fun μ args' w hl st cs => ?_⟩
        have hlen := hl.length
        simp only [Array.length_toList] at hlen
        have hsz : (args' ++ Array.replicate (fn.ntmps - args'.size) undef).size = fn.ntmps := by simp; omega
        have henter : Frame.enter E.P f args' .normal = frame f ⟨none, false⟩ (args' ++ Array.replicate (fn.ntmps - args'.size) undef) [] [.code c] := by simp [Frame.enter, frame, RK.kind, (ok.fn f fn hf).look, hb]
        rw [henter]
        exact dEvP_good ok hv hp hf c _ h v h' he μ h w μ _ [] w cs _ (Ext.refl st) ⟨entry_act2 hl, hsz, trivial, .nil (fun _ hd => by cases hd), fun _ => rfl, fun d hd => (by cases hd), Nat.le_refl _, st⟩ (.refl _ _)
    · cases he
  · cases he
end
theorem envP_ok {E : Env} (ok : EnvOK E) (n : Nat) (B : List FuncId) : EnvOK (envP E n B) := by
  refine ⟨ok.ty, ok.mix, ok.fn, fun f args h v h' he => ?_⟩
  have he : dSP E n B f args h = some (v, h') := he
  unfold dSP at he
  cases hb : B.any (Nat.beq f)
  · rw [hb, cond_false] at he; exact ok.sum f args h v h' he
  · rw [hb, cond_true] at he
    split at he
    · rename_i r hr
      cases he
      exact dFun_good ok (evZ_sound ok n) hr
    · exact dFunP_good ok (evZ_sound ok n) (pF_sound ok (evZ_sound ok n) 20) he
end Go.Ab.Nx.Dx
namespace Go.Ab.Nx.Mx
open Go.Ab Go.Ab.Nx Go.Ab.Nx.Zx Go.Ab.Nx.Lx Go.Ab.Nx.Sx Go.Ab.Nx.Dx
set_option linter.unusedSimpArgs false
set_option linter.unusedVariables false
noncomputable def SubE (μ μ' : Emb) : Prop := ∀ r e, μ r = some e → μ' r = some e
mutual
theorem VRel.sub {μ μ' : Emb} {n : Nat} (ha : SubE μ μ') : ∀ {v v' : Value}, VRel μ n v v' → VRel μ' n v v'
  | _, _, .bool b => .bool b
  | _, _, .int k i => .int k i
  | _, _, .float k x => .float k x
  | _, _, .complex k x y => .complex k x y
  | _, _, .string s => .string s
  | _, _, .ptr0 => .ptr0
  | _, _, .ptr hr hm => .ptr hr (ha _ _ hm)
  | _, _, .slice0 => .slice0
  | _, _, .sliceK hr hm => .sliceK hr (ha _ _ hm)
  | _, _, .sliceU hr hm hl hc => .sliceU hr (ha _ _ hm) hl hc
  | _, _, .sliceZ hr hm => .sliceZ hr (ha _ _ hm)
  | _, _, .sliceKZ hr hm => .sliceKZ hr (ha _ _ hm)
  | _, _, .map0 => .map0
  | _, _, .map hr hm => .map hr (ha _ _ hm)
  | _, _, .func hf h1 h2 => .func hf (LRel.sub ha h1) (LRel.sub ha h2)
  | _, _, .yield hr hm => .yield hr (ha _ _ hm)
  | _, _, .nilFunc => .nilFunc
  | _, _, .iface h => .iface (VRel.sub ha h)
  | _, _, .nilIface => .nilIface
  | _, _, .agg h => .agg (LRel.sub ha h)
  | _, _, .tuple h => .tuple (LRel.sub ha h)
theorem LRel.sub {μ μ' : Emb} {n : Nat} (ha : SubE μ μ') : ∀ {l l' : List Value}, LRel μ n l l' → LRel μ' n l l'
  | _, _, .nil => .nil
  | _, _, .cons h t => .cons (VRel.sub ha h) (LRel.sub ha t)
end
theorem EsRel.sub {μ μ' : Emb} {n : Nat} (ha : SubE μ μ') : ∀ {l : List AEnt} {l' : List MapEntry}, EsRel μ n l l' → EsRel μ' n l l'
  | _, _, .nil => .nil
  | _, _, .cons h t => .cons ⟨h.key, h.kflat, VRel.sub ha h.val, h.born⟩ (EsRel.sub ha t)
theorem osim_sub {ρ : Nat → Option Nat} {n : Nat} {o p : AObj} (hs : osim ρ n o p = true) {μ : Emb} {e : Ent} {c : Obj} (hO : ORel μ n e c o) {μ' : Emb} (ha : SubE μ μ') : ORel μ' n e c o := by
  have cells : ∀ {vs}, CellsAt μ n e c vs → CellsAt μ' n e c vs := fun ⟨cs, t, fz, h1, h2, h3, h4, h5⟩ => ⟨cs, t, fz, h1, h2, h3, h4, fun i v hv => let ⟨v', a, b⟩ := h5 i v hv; ⟨v', a, VRel.sub ha b⟩⟩
  unfold osim at hs
  split at hs
  · exact ⟨hO.1, cells hO.2⟩
  · obtain ⟨h0, ms, h1, h2⟩ := hO
    exact ⟨h0, ms, h1, EsRel.sub ha h2⟩
  · exact ⟨hO.1, hO.2.1, cells hO.2.2⟩
  · exact hO
  · exact hO
  · cases hs
structure Img (g h : AHeap) (ρ : Nat → Option Nat) : Prop where
  rows : ∀ r o, g.get r = some o → r < g.next ∧ ∃ s p, ρ r = some s ∧ h.get s = some p ∧ osim ρ g.next o p = true
  inj : ∀ r q s, ρ r = some s → ρ q = some s → r = q
structure Turns (g h y m : AHeap) (v u : Value) (ρ σ : Nat → Option Nat) : Prop where
  next : h.next ≤ m.next
  val : VSim σ m.next v u
  old : ∀ r s, r < h.next → σ r = some s → s < g.next ∧ ρ s = some r
  new : ∀ r s, h.next ≤ r → σ r = some s → g.next ≤ s
  inj : ∀ r q s, σ r = some s → σ q = some s → r = q
  rows : ∀ r o, m.get r = some o → (h.get r = some o ∧ ∀ q, ρ q ≠ some r) ∨ ∃ s p, σ r = some s ∧ y.get s = some p ∧ r < m.next ∧ osim σ m.next o p = true
theorem FWp.turned {P : Program} {f : FuncId} {args0 args : List Value} {g h : AHeap} {ρ : Nat → Option Nat} {K : Value → AHeap → Prop} (G : Img g h ρ)
    (ha : ∀ (μ : Emb) (k : Nat) (l' : List Value), LRel μ k args l' → LRel (fun r => (ρ r).bind μ) g.next args0 l')
    (hf : FWp P f args0 g fun u y => ∃ v m σ, K v m ∧ Turns g h y m v u ρ σ) : FWp P f args h K := by
  intro μ args' w hl st
  have st0 : StRel (fun r => (ρ r).bind μ) g w := by
    refine ⟨fun r o hr => ?_, fun r q o p e f hr ho hq hmr hmq hb => ?_⟩
    · obtain ⟨lt, s, p, k1, k2, k3⟩ := G.rows r o hr
      obtain ⟨_, e, c, m1, m2, m3⟩ := st.live s p k2
      exact ⟨lt, e, c, by simp only [k1]; exact m1, m2, (osim_spec k3 m3).1⟩
    · obtain ⟨_, s, p1, k1, k2, k3⟩ := G.rows r o hr
      obtain ⟨_, t, p2, l1, l2, l3⟩ := G.rows q p hq
      simp only [k1] at hmr
      simp only [l1] at hmq
      obtain ⟨_, e1, c1, z1, z2, z3⟩ := st.live s p1 k2
      have := st.apart s t p1 p2 e f k2 (by rw [← (osim_spec k3 z3).2]; exact ho) l2 hmr hmq hb
      subst this
      exact G.inj r q s k1 l1
  refine (hf _ args' w (ha μ h.next args'.toList hl) st0).mono ?_
  rintro e w' ⟨u, v', y, μ', rfl, ⟨v, m, σ, hK, F⟩, x, hr⟩
  obtain ⟨f1, f2, f3, f4, f5, f6⟩ := F
  have hμ : ∃ μ2 : Emb, (∀ r, r < h.next → μ2 r = μ r) ∧ (∀ r s, σ r = some s → μ2 r = μ' s) := by
    refine ⟨fun r => if r < h.next then μ r else (σ r).bind μ', fun r hr => if_pos hr, fun r s hs => ?_⟩
    show (if r < h.next then μ r else (σ r).bind μ') = μ' s
    by_cases hr : r < h.next
    · rw [if_pos hr]
      obtain ⟨h1, h2⟩ := f3 r s hr hs
      have k := x.agree s h1
      simp only [h2] at k
      exact k.symm
    · rw [if_neg hr, hs]; rfl
  obtain ⟨μ2, a1, a2⟩ := hμ
  have sub : SubE (fun r => (σ r).bind μ') μ2 := by
    intro r e he
    cases hs : σ r with
    | none => simp only [hs] at he; cases he
    | some s => simp only [hs] at he; rw [a2 r s hs]; exact he
  refine ⟨v, v', m, μ2, rfl, hK, ⟨f1, fun r hr => a1 r hr, x.size, x.os, x.output, fun b hb hown => ?_, fun b hb hown => ?_, ?_, ?_⟩, VRel.sub sub (f2 _ _ _ hr)⟩
  · obtain ⟨x1, x2⟩ := x.frame b hb fun r o e hr ho hm => by
      obtain ⟨_, s, p, k1, k2, k3⟩ := G.rows r o hr
      simp only [k1] at hm
      obtain ⟨_, e1, c1, z1, z2, z3⟩ := st.live s p k2
      exact hown s p e k2 (by rw [← (osim_spec k3 z3).2]; exact ho) hm
    refine ⟨x1, fun r o e hr ho hm => ?_⟩
    rcases f6 r o hr with ⟨h1, _⟩ | ⟨s, p, h1, h2, h3, h4⟩
    · rw [a1 r (st.live r o h1).1] at hm
      exact hown r o e h1 ho hm
    · rw [a2 r s h1] at hm
      obtain ⟨_, e', c', k1, k2, k3⟩ := x.st.live s p h2
      exact x2 s p e h2 (by rw [← (osim_spec h4 k3).2]; exact ho) hm
  · have x2 := x.free b hb fun r o e hr hm => by
      obtain ⟨_, s, p, k1, k2, k3⟩ := G.rows r o hr
      simp only [k1] at hm
      exact hown s p e k2 hm
    intro r o e hr hm
    rcases f6 r o hr with ⟨h1, _⟩ | ⟨s, p, h1, h2, h3, h4⟩
    · rw [a1 r (st.live r o h1).1] at hm
      exact hown r o e h1 hm
    · rw [a2 r s h1] at hm
      exact x2 s p e h2 hm
  · intro r o hr
    rcases f6 r o hr with ⟨h1, h2⟩ | ⟨s, p, h1, h2, h3, h4⟩
    · obtain ⟨lt, e, c, k1, k2, k3⟩ := st.live r o h1
      refine ⟨by omega, e, c, by rw [a1 r lt]; exact k1, ?_, k3.mono (fun q hq => a1 q hq) f1⟩
      rw [← k2]
      refine (x.frame e.b (lt_of_heap k2) fun q p f hq hp hm hb => ?_).1
      obtain ⟨_, s, p', l1, l2, l3⟩ := G.rows q p hq
      simp only [l1] at hm
      obtain ⟨_, e1, c1, z1, z2, z3⟩ := st.live s p' l2
      have := st.apart s r p' o f e l2 (by rw [← (osim_spec l3 z3).2]; exact hp) h1 hm k1 hb
      subst this
      exact h2 q l1
    · obtain ⟨lt, e, c, k1, k2, k3⟩ := x.st.live s p h2
      exact ⟨h3, e, c, by rw [a2 r s h1]; exact k1, k2, osim_sub h4 (osim_spec h4 k3).1 sub⟩
  · intro r q o p e f hr ho hq hmr hmq hb
    have far : ∀ r o e s p f, h.get r = some o → (∀ q, ρ q ≠ some r) → μ r = some e → y.get s = some p → μ' s = some f → e.b = f.b → (o.own = true ∨ p.own = true) → False := by
      intro r o e s p f r1 r2 hmr q2 hmq hb how
      obtain ⟨_, e', c, k1, k2, k3⟩ := st.live r o r1
      rw [hmr] at k1; cases k1
      rcases how with ho | ho
      · refine x.free e.b (lt_of_heap k2) (fun a pa fa ha hma hba => ?_) s p f q2 hmq hb.symm
        obtain ⟨_, s', p', l1, l2, l3⟩ := G.rows a pa ha
        simp only [l1] at hma
        have := st.apart r s' o p' e fa r1 ho l2 hmr hma hba.symm
        subst this
        exact r2 a l1
      · refine (x.frame e.b (lt_of_heap k2) fun a pa fa ha hoa hma hba => ?_).2 s p f q2 ho hmq hb.symm
        obtain ⟨_, s', p', l1, l2, l3⟩ := G.rows a pa ha
        simp only [l1] at hma
        obtain ⟨_, e1, c1, z1, z2, z3⟩ := st.live s' p' l2
        have := st.apart s' r p' o fa e l2 (by rw [← (osim_spec l3 z3).2]; exact hoa) r1 hma hmr hba
        subst this
        exact r2 a l1
    rcases f6 r o hr with ⟨r1, r2⟩ | ⟨s, p1, r1, r2, r3, r4⟩ <;> rcases f6 q p hq with ⟨q1, q2⟩ | ⟨t, p2, q1, q2, q3, q4⟩
    · rw [a1 r (st.live r o r1).1] at hmr
      rw [a1 q (st.live q p q1).1] at hmq
      exact st.apart r q o p e f r1 ho q1 hmr hmq hb
    · rw [a1 r (st.live r o r1).1] at hmr
      rw [a2 q t q1] at hmq
      exact (far r o e t p2 f r1 r2 hmr q2 hmq hb (.inl ho)).elim
    · rw [a1 q (st.live q p q1).1] at hmq
      rw [a2 r s r1] at hmr
      obtain ⟨_, e2, c2, z1, z2, z3⟩ := x.st.live s p1 r2
      exact (far q p f s p1 e q1 q2 hmq r2 hmr hb.symm (.inr (by rw [← (osim_spec r4 z3).2]; exact ho))).elim
    · rw [a2 r s r1] at hmr
      rw [a2 q t q1] at hmq
      obtain ⟨_, e2, c2, z1, z2, z3⟩ := x.st.live s p1 r2
      have := x.st.apart s t p1 p2 e f r2 (by rw [← (osim_spec r4 z3).2]; exact ho) q2 hmr hmq hb
      subst this
      exact f5 r q s r1 q1
structure Memo where
  f : FuncId
  args : List Value
  n0 : Nat
  gl : List (Nat × AObj)
  v : Value
  n1 : Nat
  R : List (Nat × AObj)
noncomputable def Memo.Holds (M : Memo) (P : Program) : Prop := (∃ fn, Entered P M.f fn) ∧ FWp P M.f M.args (mkH M.n0 M.gl) fun u y => u = M.v ∧ y = mkH M.n1 M.R
noncomputable def ren1 (φ : Nat → Nat) : Value → Value
  | .pointer (some ⟨r, o, s⟩) => .pointer (some ⟨φ r, o, s⟩)
  | .slice (some ⟨r, o, s⟩) n c => .slice (some ⟨φ r, o, s⟩) n c
  | .map (some r) => .map (some (φ r))
  | v => v
noncomputable def renUp (φ : Nat → Nat) (g : Value → Value) : Value → Value
  | .agg a => .agg (a.toList.map g).toArray
  | .tuple a => .tuple (a.toList.map g).toArray
  | .func f a c => .func f (a.toList.map g).toArray (c.toList.map g).toArray
  | .iface t v => .iface t (g v)
  | v => ren1 φ v
noncomputable def ren (φ : Nat → Nat) : Value → Value := renUp φ (renUp φ (renUp φ (ren1 φ)))
noncomputable def renF (φ : Nat → Nat) (v : Value) : Value :=
  match v with
  | .int _ _ => v
  | .string _ => v
  | .bool _ => v
  | _ => ren φ v
noncomputable def renO (φ : Nat → Nat) : AObj → AObj
  | .cells a n => .cells (a.map (renF φ)) n
  | .tcells a n => .tcells (a.map (renF φ)) n
  | .map a n => .map (a.map fun e => ⟨e.key, ren φ e.val, e.born⟩) n
  | o => o
noncomputable def dropP : Prs → Tr AObj → Tr AObj
  | [], t => t
  | (_, s) :: l, t => (dropP l t).put s none
theorem dropP_get : ∀ {l : Prs} {t : Tr AObj} {r : Nat} {o : AObj}, (dropP l t).get r = some o → t.get r = some o ∧ ∀ q, (q, r) ∉ l
  | [], t, r, o, h => ⟨h, fun _ hm => by cases hm⟩
  | (q, p) :: l, t, r, o, h => by
    simp only [dropP, Tr.get_put] at h
    split at h
    · cases h
    · rename_i e
      obtain ⟨h1, h2⟩ := dropP_get h
      refine ⟨h1, fun p2 hm => ?_⟩
      cases hm with
      | head => exact e rfl
      | tail _ hm => exact h2 p2 hm
noncomputable def nodup2 : Prs → Bool
  | [] => true
  | (_, s) :: l => l.all (fun x => !Nat.beq x.2 s) && nodup2 l
theorem nodup2_inj : ∀ {L : Prs}, nodup2 L = true → ∀ r q s, (r, s) ∈ L → (q, s) ∈ L → r = q
  | (a, t) :: L, h, r, q, s, h1, h2 => by
    simp only [nodup2, Bool.and_eq_true, List.all_eq_true] at h
    have key : ∀ b, (b, t) ∉ L := fun b hm => by
      have := h.1 _ hm
      simp at this
    cases h1 with
    | head => cases h2 with
      | head => rfl
      | tail _ h2 => exact (key q h2).elim
    | tail _ h1 => cases h2 with
      | head => exact (key r h1).elim
      | tail _ h2 => exact nodup2_inj h.2 r q s h1 h2
noncomputable def imgB (M : Memo) (h : AHeap) (L : Prs) (x : Nat × AObj) : Bool :=
  Nat.ble (x.1 + 1) M.n0 && (match atP x.1 L with
    | some s => (match h.get s with
      | some p => osim (fun r => atP r L) M.n0 x.2 p
      | none => false)
    | none => false)
noncomputable def sOk (h : AHeap) (n0 : Nat) (L : Prs) (x : Nat × Nat) : Bool :=
  bif Nat.ble (x.1 + 1) h.next then Nat.ble (x.2 + 1) n0 && (match atP x.2 L with | some t => Nat.beq t x.1 | none => false) else Nat.ble n0 x.2
noncomputable def sFit (y : AHeap) (n : Nat) (S : Prs) (x : Nat × AObj) : Bool :=
  Nat.ble (x.1 + 1) n && (match atP x.1 S with
    | some s => (match y.get s with
      | some p => osim (fun r => atP r S) n x.2 p
      | none => false)
    | none => false)
noncomputable def phi (h : AHeap) (n0 : Nat) (L : Prs) (r : Nat) : Nat := bif Nat.ble (r + 1) n0 then (match atP r L with | some s => s | none => 0) else h.next + (r - n0)
noncomputable def turnB (M : Memo) (h : AHeap) (L S : Prs) (v : Value) (R : List (Nat × AObj)) : Bool :=
  (M.gl.all (imgB M h L) && nodup2 L) && ((nodup2 S && S.all (sOk h M.n0 L)) && (vsim (fun r => atP r S) (h.next + (M.n1 - M.n0)) v M.v && R.all (sFit (mkH M.n1 M.R) (h.next + (M.n1 - M.n0)) S)))
noncomputable def turnS (M : Memo) (h : AHeap) (L S : Prs) (v : Value) (R : List (Nat × AObj)) : Option (Value × AHeap) :=
  bif turnB M h L S v R then some (v, ⟨h.next + (M.n1 - M.n0), addR R (dropP L h.rows)⟩) else none
noncomputable def turnL (M : Memo) (args : List Value) (h : AHeap) (L : Prs) : Option (Value × AHeap) :=
  bif veqL (vsim (fun r => atP r L) M.n0) M.args args then turnS M h L (M.R.map fun x => (phi h M.n0 L x.1, x.1)) (ren (phi h M.n0 L) M.v) (M.R.map fun x => (phi h M.n0 L x.1, renO (phi h M.n0 L) x.2)) else none
noncomputable def turnM (M : Memo) (args : List Value) (h : AHeap) : Option (Value × AHeap) :=
  turnL M args h (closeP (mkH M.n0 M.gl) h 100000 (prL pr M.args args) [])
theorem turnM_sound {P : Program} {M : Memo} (hM : M.Holds P) {args : List Value} {h h' : AHeap} {v : Value} (he : turnM M args h = some (v, h')) : (∃ fn, Entered P M.f fn) ∧ FWp P M.f args h fun x y => x = v ∧ y = h' := by
  unfold turnM turnL turnS at he
  obtain ⟨L, hL⟩ : ∃ L, L = closeP (mkH M.n0 M.gl) h 100000 (prL pr M.args args) [] := ⟨_, rfl⟩
  rw [← hL] at he
  obtain ⟨S, hS⟩ : ∃ S : Prs, S = M.R.map fun x => (phi h M.n0 L x.1, x.1) := ⟨_, rfl⟩
  obtain ⟨R, hR⟩ : ∃ R : List (Nat × AObj), R = M.R.map fun x => (phi h M.n0 L x.1, renO (phi h M.n0 L) x.2) := ⟨_, rfl⟩
  rw [← hS, ← hR] at he
  obtain ⟨nv, hnv⟩ : ∃ nv, nv = ren (phi h M.n0 L) M.v := ⟨_, rfl⟩
  rw [← hnv] at he
  cases hA : veqL (vsim (fun r => atP r L) M.n0) M.args args
  · rw [hA, cond_false] at he; cases he
  rw [hA, cond_true] at he
  cases hB : turnB M h L S nv R
  · rw [hB, cond_false] at he; cases he
  rw [hB, cond_true] at he
  cases he
  simp only [turnB, Bool.and_eq_true, List.all_eq_true] at hB
  obtain ⟨⟨b1, b2⟩, ⟨b3, b4⟩, b5, b6⟩ := hB
  refine ⟨hM.1, FWp.turned (g := mkH M.n0 M.gl) (args0 := M.args) (ρ := fun r => atP r L) ⟨fun r o hr => ?_, fun r q s h1 h2 => nodup2_inj b2 r q s (atP_mem h1) (atP_mem h2)⟩ (fun μ k l' hl => LSim vsim_spec hA μ k l' hl) (hM.2.mono ?_)⟩
  · have := b1 _ (mkH_get hr)
    simp only [imgB, Bool.and_eq_true] at this
    obtain ⟨k1, k2⟩ := this
    refine ⟨Nat.le_of_ble_eq_true k1, ?_⟩
    split at k2
    · rename_i s hs
      split at k2
      · rename_i p hp
        exact ⟨s, p, hs, hp, k2⟩
      · cases k2
    · cases k2
  · rintro u y ⟨rfl, rfl⟩
    refine ⟨v, _, fun r => atP r S, ⟨rfl, rfl⟩, ⟨Nat.le_add_right _ _, vsim_spec b5, fun r s hr hs => ?_, fun r s hr hs => ?_, fun r q s h1 h2 => nodup2_inj b3 r q s (atP_mem h1) (atP_mem h2), fun r o hr => ?_⟩⟩
    · have := b4 _ (atP_mem hs)
      simp only [sOk, Nat.ble_eq_true_of_le (Nat.succ_le_of_lt hr), cond_true, Bool.and_eq_true] at this
      obtain ⟨k1, k2⟩ := this
      refine ⟨Nat.le_of_ble_eq_true k1, ?_⟩
      split at k2
      · rename_i t ht
        rw [ht, Nat.eq_of_beq_eq_true k2]
      · cases k2
    · have := b4 _ (atP_mem hs)
      have hn : Nat.ble (r + 1) h.next = false := by
        cases hb : Nat.ble (r + 1) h.next
        · rfl
        · have := Nat.le_of_ble_eq_true hb; omega
      simp only [sOk, hn, cond_false] at this
      exact Nat.le_of_ble_eq_true this
    · have hr : (addR R (dropP L h.rows)).get r = some o := hr
      rcases addR_get hr with h1 | h1
      · have := b6 _ h1
        simp only [sFit, Bool.and_eq_true] at this
        obtain ⟨k1, k2⟩ := this
        split at k2
        · rename_i s hs
          split at k2
          · rename_i p hp
            exact .inr ⟨s, p, hs, hp, Nat.le_of_ble_eq_true k1, k2⟩
          · cases k2
        · cases k2
      · obtain ⟨k1, k2⟩ := dropP_get h1
        exact .inl ⟨k1, fun q hq => k2 q (atP_mem hq)⟩
noncomputable def turnAny : List Memo → FuncId → List Value → AHeap → Option (Value × AHeap)
  | [], _, _, _ => none
  | M :: l, f, args, h => bif Nat.beq M.f f then (match turnM M args h with
    | some r => some r
    | none => turnAny l f args h) else turnAny l f args h
theorem turnAny_sound {P : Program} : ∀ {l : List Memo}, (∀ M ∈ l, M.Holds P) → ∀ {f : FuncId} {args : List Value} {h h' : AHeap} {v : Value}, turnAny l f args h = some (v, h') → (∃ fn, Entered P f fn) ∧ FWp P f args h fun x y => x = v ∧ y = h'
  | [], _, f, args, h, h', v, he => by cases he
  | M :: l, hl, f, args, h, h', v, he => by
    simp only [turnAny] at he
    have rest := fun he => turnAny_sound (l := l) (fun M hM => hl M (List.mem_cons_of_mem _ hM)) (f := f) (args := args) (h := h) (h' := h') (v := v) he
    cases hb : Nat.beq M.f f
    · rw [hb, cond_false] at he; exact rest he
    · rw [hb, cond_true] at he
      obtain rfl := Nat.eq_of_beq_eq_true hb
      split at he
      · rename_i r hr
        cases he
        exact turnM_sound (hl M List.mem_cons_self) hr
      · exact rest he
noncomputable def envR (E : Env) (l : List Memo) : Env := { E with S := fun f args h => match turnAny l f args h with
  | some r => some r
  | none => E.S f args h }
theorem envR_ok {E : Env} (ok : EnvOK E) {l : List Memo} (hl : ∀ M ∈ l, M.Holds E.P) : EnvOK (envR E l) := by
  refine ⟨ok.ty, ok.mix, ok.fn, fun f args h v h' he => ?_⟩
  have he : (match turnAny l f args h with | some r => some r | none => E.S f args h) = some (v, h') := he
  split at he
  · rename_i r hr
    cases he
    exact turnAny_sound hl hr
  · exact ok.sum f args h v h' he
theorem addR_of_rows : ∀ {R : List (Nat × AObj)} {n : Nat} {t : Tr AObj} {r : Nat} {o : AObj}, (mkH n R).get r = some o → (addR R t).get r = some o
  | [], n, t, r, o, h => by have e := (Tr.get_leaf (α := AObj) r).symm.trans h; cases e
  | (q, p) :: l, n, t, r, o, h => by
    have h : ((rowsT l).put q (some p)).get r = some o := h
    rw [Tr.get_put] at h
    simp only [addR, Tr.get_put]
    split at h
    · rename_i e; rw [if_pos e]; exact h
    · rename_i e; rw [if_neg e]; exact addR_of_rows (n := n) h
noncomputable def memoB (M : Memo) (x : Value × AHeap) : Bool := fitB (mkH M.n0 M.gl) M.gl ⟨M.v, M.R, M.n1⟩ x
noncomputable def okMemo (E : Env) (call : CallV) (callL : CallL) (n : Nat) (M : Memo) : Bool :=
  match lFun E call callL n M.f M.args (mkH M.n0 M.gl) with
  | some outs => outs.all (memoB M)
  | none => false
theorem okMemo_holds {E : Env} (ok : EnvOK E) {call : CallV} (hv : VSound E.P call) {callL : CallL} (hl : LSound E.P callL) {n : Nat} {M : Memo} (he : okMemo E call callL n M = true) : M.Holds E.P := by
  unfold okMemo at he
  split at he
  · rename_i outs ho
    obtain ⟨h1, h2⟩ := lFun_sound ok hv hl ho
    refine ⟨h1, FWp.fits (g := mkH M.n0 M.gl) (h := mkH M.n0 M.gl) (fun _ _ h => h) rfl (h2.mono fun u y hm => ?_)⟩
    have hb := List.all_eq_true.1 he (u, y) hm
    obtain ⟨ρ, F⟩ := fitB_spec (show fitB (mkH M.n0 M.gl) M.gl ⟨M.v, M.R, M.n1⟩ (u, y) = true from hb)
    refine ⟨M.v, mkH M.n1 M.R, ρ, ⟨rfl, rfl⟩, ⟨F.next, F.val, F.old, F.inj, F.new, fun r o hr => ?_⟩⟩
    have hm := mkH_get hr
    have hg : (outH (mkH M.n0 M.gl) M.gl ⟨M.v, M.R, M.n1⟩).get r = some o := addR_of_rows hr
    rcases F.rows r o hg with ⟨k1, k2⟩ | h4
    · exact absurd (k1.symm.trans k2) (by simp)
    · exact .inr h4
  · cases he
end Go.Ab.Nx.Mx
namespace Go.Ab.Nx.Mx
open Go.Ab Go.Ab.Nx Go.Ab.Nx.Zx Go.Ab.Nx.Lx Go.Ab.Nx.Sx Go.Ab.Nx.Dx
set_option linter.unusedSimpArgs false
set_option linter.unusedVariables false
theorem FWp.uncap {P : Program} {f : FuncId} {r off n m : Nat} {rest : List Value} {h h' : AHeap} (hn : 0 < n) (hm : m ≤ n)
    (hf : ∀ d, FWp P f (.slice (some ⟨r, off, none⟩) n (d + n + 1) :: rest) h fun u y => u = .slice (some ⟨r, off, none⟩) m (d + n + 1) ∧ y = h') :
    FWp P f (.slice (some ⟨r, off, none⟩) n 0 :: rest) h fun u y => u = .slice (some ⟨r, off, none⟩) m 0 ∧ y = h' := by
  intro μ args' w hl st
  obtain ⟨l', hl'⟩ : ∃ l', l' = args'.toList := ⟨_, rfl⟩
  rw [← hl'] at hl
  cases hl with
  | cons hv ht =>
    cases hv with
    | sliceZ hr hmm => omega
    | sliceU hr hmm hle hc =>
      rename_i cap e
      obtain ⟨d, rfl⟩ : ∃ d, cap = d + n := ⟨cap - n, by omega⟩
      refine (hf d μ args' w (by rw [← hl']; exact .cons (.sliceK hr hmm) ht) st).mono ?_
      rintro e' w' ⟨v, v', y, μ', rfl, ⟨rfl, rfl⟩, x, hvr⟩
      refine ⟨_, v', _, μ', rfl, ⟨rfl, rfl⟩, x, ?_⟩
      have ha : μ' r = μ r := x.agree r hr
      obtain ⟨c, hcc⟩ : ∃ c, c = d + n + 1 := ⟨_, rfl⟩
      rw [← hcc] at hvr
      cases hvr with
      | sliceK hr' hm' =>
        rename_i c' e'
        rw [ha, hmm] at hm'
        cases hm'
        obtain rfl : c' = d + n := by omega
        exact .sliceU hr' (ha.trans hmm) (by omega) hc
      | sliceU hr' hm' _ _ => omega
      | sliceZ hr' hm' => omega
      | sliceKZ hr' hm' => omega
theorem uncap_memo {E : Env} (ok : EnvOK E) (N : Nat) {f : FuncId} {r off n m : Nat} {rest : List Value} {n0 : Nat} {gl R : List (Nat × AObj)} (hn : 0 < n) (hm : m ≤ n)
    (he : (fun d => zCall f E (evZ E N) (.slice (some ⟨r, off, none⟩) n (d + n + 1) :: rest) (mkH n0 gl)) = fun d => some (.slice (some ⟨r, off, none⟩) m (d + n + 1), mkH n0 R)) :
    Memo.Holds ⟨f, .slice (some ⟨r, off, none⟩) n 0 :: rest, n0, gl, .slice (some ⟨r, off, none⟩) m 0, n0, R⟩ E.P :=
  ⟨(zCall_sound ok (evZ_sound ok N) (congrFun he 0)).1, FWp.uncap hn hm fun d => (zCall_sound ok (evZ_sound ok N) (congrFun he d)).2⟩
noncomputable def nS (E : Env) (n : Nat) (B : List FuncId) (f : FuncId) (args : List Value) (h : AHeap) : ZV :=
  bif B.any (Nat.beq f) then (match lFun E (evZ E n) (lCall E (evZ E n) [] 1000 2) 1000 f args h with
    | some [r] => some r
    | _ => none) else E.S f args h
noncomputable def envN (E : Env) (n : Nat) (B : List FuncId) : Env := { E with S := nS E n B }
theorem envN_ok {E : Env} (ok : EnvOK E) (n : Nat) (B : List FuncId) : EnvOK (envN E n B) := by
  refine ⟨ok.ty, ok.mix, ok.fn, fun f args h v h' he => ?_⟩
  have he : nS E n B f args h = some (v, h') := he
  unfold nS at he
  cases hb : B.any (Nat.beq f)
  · rw [hb, cond_false] at he; exact ok.sum f args h v h' he
  · rw [hb, cond_true] at he
    split at he
    · rename_i r hr
      cases he
      obtain ⟨h1, h2⟩ := lFun_sound ok (evZ_sound ok n) (lCall_sound ok (evZ_sound ok n) [] 1000 2) hr
      refine ⟨h1, h2.mono fun x y hm => ?_⟩
      have := List.mem_singleton.1 hm
      cases this
      exact ⟨rfl, rfl⟩
    · cases he
noncomputable def setT : List Nat → Tr Unit
  | [] => .leaf
  | f :: l => (setT l).put f (some ())
noncomputable def envU (E : Env) (U : Tr Unit) : Env := { E with S := fun f args h => match U.get f with
  | some _ => E.S f args h
  | none => none }
theorem envU_ok {E : Env} (ok : EnvOK E) (U : Tr Unit) : EnvOK (envU E U) := by
  refine ⟨ok.ty, ok.mix, ok.fn, fun f args h v h' he => ?_⟩
  have he : (match U.get f with | some _ => E.S f args h | none => none) = some (v, h') := he
  split at he
  · exact ok.sum f args h v h' he
  · cases he
noncomputable def pP (r : Nat) : Value := .pointer (some ⟨r, 0, none⟩)
noncomputable def pS (r n : Nat) : Value := .slice (some ⟨r, 0, none⟩) n 0
noncomputable def pI (n : Nat) : Value := .int .i64 (.ofNat n)
noncomputable def pU (n : Nat) : Value := .int .u64 (.ofNat n)
noncomputable def pT (l : List UInt8) : Value := .string ⟨⟨l⟩⟩
noncomputable def pY : Value := .bool true
noncomputable def pN : Value := .bool false
theorem dropS_dropS : ∀ (a b : Nat) (c : Code), dropS a (dropS b c) = dropS (b + a) c
  | a, 0, c => by rw [Nat.zero_add]; cases c <;> rfl
  | a, b + 1, c => by
    cases c with
    | seq x y =>
      have e : b + 1 + a = (b + a) + 1 := by omega
      rw [e]
      exact dropS_dropS a b y
    | _ =>
      have e : b + 1 + a = (b + a) + 1 := by omega
      rw [e]
      cases a <;> rfl
end Go.Ab.Nx.Mx
