/-
  Walking code in the text's order, with names for what is asked behind each piece.
-/
import Derived.Test.YtebheelmgcggmaaGreatAb26
namespace Go.Ab
set_option linter.unusedSimpArgs false
set_option linter.unusedVariables false
theorem AHeap.get_set_same (h : AHeap) (r : Nat) (o : AObj) : (h.set r o).get r = some o := by rw [AHeap.get_set, if_pos rfl]
theorem AHeap.get_set_ne {h : AHeap} {r q : Nat} {o : AObj} (e : ¬ r = q) : (h.set r o).get q = h.get q := by rw [AHeap.get_set, if_neg e]
theorem AHeap.get_new_same (h : AHeap) (o : AObj) : (h.new o).get h.next = some o := by rw [AHeap.get_new, if_pos rfl]
theorem AHeap.get_new_eq {h : AHeap} {q : Nat} {o : AObj} (e : h.next = q) : (h.new o).get q = some o := by rw [AHeap.get_new, if_pos e]
theorem AHeap.get_new_at {h : AHeap} {q : Nat} {o : AObj} (e : h.next ≤ q ∧ q ≤ h.next) : (h.new o).get q = some o := AHeap.get_new_eq (by omega)
theorem AHeap.get_new_ne {h : AHeap} {q : Nat} {o : AObj} (e : ¬ h.next = q) : (h.new o).get q = h.get q := by rw [AHeap.get_new, if_neg e]
theorem AHeap.get_kill_ne {h : AHeap} {r q : Nat} (e : ¬ r = q) : (h.kill r).get q = h.get q := by rw [AHeap.get_kill, if_neg e]
theorem lk : (∀ (a : Tr Value) (t : Tmp), aopnd a (.tmp t) = a.get t) ∧ (∀ (a : Tr Value) (f : FuncId), aopnd a (.func f) = some (.func (.func f) #[] #[])) ∧ (∀ (a : Tr Value) (k : IntKind) (n : Int), aopnd a (.const (.int k n)) = some (.int k n)) ∧ (∀ (a : Tr Value) (b : Bool), aopnd a (.const (.bool b)) = some (.bool b)) ∧
    (∀ (a : Tr Value) (s : ByteArray), aopnd a (.const (.string s)) = some (.string s)) ∧ (∀ (a : Tr Value), aopnd a (.const (.pointer none)) = some (.pointer none)) ∧ (∀ (a : Tr Value), aopnd a (.const (.slice none 0 0)) = some (.slice none 0 0)) ∧ (∀ (a : Tr Value), aopnd a (.const (.map none)) = some (.map none)) ∧
    (∀ (a : Tr Value), aopnd a (.const .nilFunc) = some .nilFunc) ∧ (∀ (a : Tr Value), aopnd a (.const .nilIface) = some .nilIface) ∧ (∀ (x : Option Value) (t : Tr Value) (n m : Nat), (t.put n x).get m = if n = m then x else t.get m) :=
  ⟨fun _ _ => rfl, fun _ _ => rfl, fun _ _ _ => rfl, fun _ _ => rfl, fun _ _ => rfl, fun _ => rfl, fun _ => rfl, fun _ => rfl, fun _ => rfl, fun _ => rfl, Tr.get_put⟩
theorem nx : (∀ (h : AHeap) (r : Nat) (o : AObj), (h.set r o).next = h.next) ∧ (∀ (h : AHeap) (r : Nat), (h.kill r).next = h.next) ∧ (∀ (h : AHeap) (o : AObj), (h.new o).next = h.next + 1) ∧ (∀ {α : Type} (d : Array α) (i : Nat) (x : α), (d.setIfInBounds i x).size = d.size) := ⟨fun _ _ _ => rfl, fun _ _ => rfl, fun _ _ => rfl, fun _ _ _ => by simp⟩
theorem hpl : (∀ (h : AHeap) (r : Nat) (o : AObj), (h.set r o).get r = some o) ∧ (∀ (h : AHeap) (o : AObj), (h.new o).get h.next = some o) ∧ (∀ {h : AHeap} {q : Nat} {o : AObj}, (h.next ≤ q ∧ q ≤ h.next) → (h.new o).get q = some o) ∧ (∀ {h : AHeap} {r q : Nat} {o : AObj}, (¬ r = q) → (h.set r o).get q = h.get q) ∧
    (∀ {h : AHeap} {q : Nat} {o : AObj}, (¬ h.next = q) → (h.new o).get q = h.get q) ∧ (∀ {h : AHeap} {r q : Nat}, (¬ r = q) → (h.kill r).get q = h.get q) ∧ (∀ (h : AHeap) (r : Nat) (o : AObj), (h.set r o).next = h.next) ∧ (∀ (h : AHeap) (r : Nat), (h.kill r).next = h.next) ∧ (∀ (h : AHeap) (o : AObj), (h.new o).next = h.next + 1) :=
  ⟨AHeap.get_set_same, AHeap.get_new_same, AHeap.get_new_at, AHeap.get_set_ne, AHeap.get_new_ne, AHeap.get_kill_ne, fun _ _ _ => rfl, fun _ _ => rfl, fun _ _ => rfl⟩
theorem bl : (∀ (p : Prop) [Decidable p], (decide p = true) = p) ∧ (∀ (p : Prop) [Decidable p], (decide p = false) = ¬ p) ∧ (∀ {α : Type} [BEq α] [LawfulBEq α] (a b : α), ((a == b) = true) = (a = b)) ∧ (∀ {α : Type} [BEq α] [LawfulBEq α] (a b : α), ((a != b) = true) = ¬ (a = b)) ∧ (∀ {α : Type} [BEq α] [LawfulBEq α] (a b : α), ((a == b) = false) = ¬ (a = b)) ∧
    (∀ {α : Type} [BEq α] [LawfulBEq α] (a b : α), ((a != b) = false) = (a = b)) ∧ (∀ {α : Type} (a b : α), (a ≠ b) = ¬ (a = b)) ∧ (∀ b : Bool, (¬ b = true) = (b = false)) ∧ (∀ b : Bool, (¬ b = false) = (b = true)) ∧ ((!true) = false) ∧ ((!false) = true) :=
  ⟨fun _ => by simp, fun _ => by simp, fun _ _ => by simp, fun _ _ => by simp, fun _ _ => by simp, fun _ _ => by simp, fun _ _ => rfl, fun _ => by simp, fun _ => by simp, rfl, rfl⟩
section
variable {P : Program} {T : Tr TI} {cx : Cx} {a : Tr Value} {h : AHeap} {Q : AExit → Tr Value → AHeap → Prop}
noncomputable def SQ (P : Program) (cx : Cx) (z : Code) (Q : AExit → Tr Value → AHeap → Prop) : AExit → Tr Value → AHeap → Prop := fun e a h => match e with | .normal => CWp P cx z a h Q | e => Q e a h
theorem SQ.normal {z : Code} (hc : CWp P cx z a h Q) : SQ P cx z Q .normal a h := hc
theorem SQ.exit {z : Code} {i : Nat} (hq : Q (.exit i) a h) : SQ P cx z Q (.exit i) a h := hq
theorem SQ.ret {z : Code} (hq : Q .ret a h) : SQ P cx z Q .ret a h := hq
theorem W.seq {x z : Code} (hc : CWp P cx x a h (SQ P cx z Q)) : CWp P cx (.seq x z) a h Q := CWp.seq (hc.mono fun e a h hq => by cases e <;> exact hq)
noncomputable def BQ (id : Nat) (Q : AExit → Tr Value → AHeap → Prop) : AExit → Tr Value → AHeap → Prop := fun e a h => match e with | .exit i => if i = id then Q .normal a h else Q (.exit i) a h | e => Q e a h
theorem BQ.normal {id : Nat} (hq : Q .normal a h) : BQ id Q .normal a h := hq
theorem BQ.exit {id : Nat} (hq : Q .normal a h) : BQ id Q (.exit id) a h := by simp only [BQ, if_true]; exact hq
theorem BQ.out {id i : Nat} (hne : Nat.beq i id = false) (hq : Q (.exit i) a h) : BQ id Q (.exit i) a h := by
  have : ¬ i = id := fun e => by rw [e, Nat.beq_refl] at hne; cases hne
  simp only [BQ, this, if_false]; exact hq
theorem BQ.ret {id : Nat} (hq : Q .ret a h) : BQ id Q .ret a h := hq
theorem W.block {id : Nat} {c : Code} (hc : CWp P cx c a h (BQ id Q)) : CWp P cx (.block id c) a h Q := CWp.block (hc.mono fun e a h hq => by cases e <;> exact hq)
noncomputable def NQ (R : List (Nat × Value) → AHeap → Prop) (Q : AExit → Tr Value → AHeap → Prop) : AExit → Tr Value → AHeap → Prop := fun e a h => match e with | .normal => ∃ L, HasA a L ∧ R L h | e => Q e a h
theorem NQ.normal {R : List (Nat × Value) → AHeap → Prop} {L : List (Nat × Value)} (ha : HasA a L) (hr : R L h) : NQ R Q .normal a h := ⟨L, ha, hr⟩
theorem NQ.exit {R : List (Nat × Value) → AHeap → Prop} {i : Nat} (hq : Q (.exit i) a h) : NQ R Q (.exit i) a h := hq
theorem NQ.ret {R : List (Nat × Value) → AHeap → Prop} (hq : Q .ret a h) : NQ R Q .ret a h := hq
theorem W.cut {x : Code} (R : List (Nat × Value) → AHeap → Prop) (hx : CWp P cx x a h (NQ R Q)) (hz : ∀ L a' h', HasA a' L → R L h' → Q .normal a' h') : CWp P cx x a h Q := by
  refine (hx.mono fun e a h hq => ?_)
  cases e with
  | normal => obtain ⟨L, h1, h2⟩ := hq; exact hz L _ _ h1 h2
  | exit i => exact hq
  | ret => exact hq
noncomputable def LQ (n : Nat) (I : Nat → List (Nat × Value) → AHeap → Prop) (Q : AExit → Tr Value → AHeap → Prop) : AExit → Tr Value → AHeap → Prop := fun e a h => match e with | .normal => ∃ m L, m < n ∧ HasA a L ∧ I m L h | e => Q e a h
theorem LQ.normal {n m : Nat} {I : Nat → List (Nat × Value) → AHeap → Prop} {L : List (Nat × Value)} (hm : m < n) (ha : HasA a L) (hi : I m L h) : LQ n I Q .normal a h := ⟨m, L, hm, ha, hi⟩
theorem LQ.exit {n : Nat} {I : Nat → List (Nat × Value) → AHeap → Prop} {i : Nat} (hq : Q (.exit i) a h) : LQ n I Q (.exit i) a h := hq
theorem LQ.ret {n : Nat} {I : Nat → List (Nat × Value) → AHeap → Prop} (hq : Q .ret a h) : LQ n I Q .ret a h := hq
theorem W.loop {c : Code} (I : Nat → List (Nat × Value) → AHeap → Prop) {n : Nat} {L : List (Nat × Value)} (hI : I n L h) (ha : HasA a L) (round : ∀ n L h, I n L h → CWp P cx c (mkA L) h (LQ n I Q)) : CWp P cx (.loop c) a h Q :=
  CWp.loopA I (fun n L h hi => (round n L h hi).mono fun e a h hq => by cases e <;> exact hq) ha hI
noncomputable def FQ (T : Tr TI) (fn : Func) (K : Value → AHeap → Prop) : AExit → Tr Value → AHeap → Prop := fun e a h => match e with | .exit _ => False | _ => ∃ v, aRet T fn a h = some v ∧ K v h
theorem FQ.ret {fn : Func} {K : Value → AHeap → Prop} {v : Value} (hr : aRet T fn a h = some v) (hk : K v h) : FQ T fn K .ret a h := ⟨v, hr, hk⟩
theorem FQ.normal {fn : Func} {K : Value → AHeap → Prop} {v : Value} (hr : aRet T fn a h = some v) (hk : K v h) : FQ T fn K .normal a h := ⟨v, hr, hk⟩
theorem W.enter (ok : TyOK P T) {f : FuncId} {fn : Func} {c : Code} {args : List Value} {K : Value → AHeap → Prop} (hf : P.funcs[f]? = some fn) (hb : fn.body = some c) (hn : Nat.ble args.length fn.ntmps = true)
    (hc : CWp P ⟨f, fn.ntmps, none⟩ c (entry args 0 .leaf) h (FQ T fn K)) : FWp P f args h K :=
  FWp.code ok hf hb (Nat.le_of_ble_eq_true hn) (hc.mono fun e a h hq => by cases e <;> exact hq)
theorem W.yes {c : Operand} {x y : Code} (hc : aopnd a c = some (.bool true)) (h1 : CWp P cx x a h Q) : CWp P cx (.cond c x y) a h Q := CWp.cond hc h1
theorem W.no {c : Operand} {x y : Code} (hc : aopnd a c = some (.bool false)) (h1 : CWp P cx y a h Q) : CWp P cx (.cond c x y) a h Q := CWp.cond hc h1
theorem W.reg {id : Nat} {ops : Array Oper} (hr : OSuf P cx ops ops.toList a h fun a' h' => Q .normal a' h') : CWp P cx (.region id ops false) a h Q := CWp.reg hr
noncomputable def SqW (P : Program) (T : Tr TI) (cx : Cx) (ops : Array Oper) (os : List Oper) (a : Tr Value) (h : AHeap) (Q : Tr Value → AHeap → Prop) : Prop := ∃ a' h', Sq P T ops cx.nt os a h a' h' ∧ Q a' h'
theorem W.regD (ok : TyOK P T) (hmix : P.follows .mixedOrders = true) {id : Nat} {ops : Array Oper} (hs : Ab.anyOrder T ops cx.nt = true) (hr : SqW P T cx ops ops.toList a h fun a' h' => Q .normal a' h') : CWp P cx (.region id ops true) a h Q := by
  obtain ⟨a', h', h1, h2⟩ := hr
  exact CWp.anyOrder ok hmix hs h1 h2
variable {ops : Array Oper} {o : Oper} {os : List Oper} {h1 : AHeap} {v : Value} {a1 : Tr Value} {R : Tr Value → AHeap → Prop} {b : Bool} {F : Bool → Tr Value}
theorem OSuf.aop (ok : TyOK P T) (hg : aguard ops a o = some true) (ho : Ab.aop P T o (aopnd a) h = some (v, h1)) (hp : aput cx.nt a o.dst v = some a1) (t : OSuf P cx ops os a1 h1 R) : OSuf P cx ops (o :: os) a h R :=
  OSuf.op hg (aop_nodefer ho) (aop_sound ok ho ⟨a1, hp, t⟩)
theorem OSuf.aopB (ok : TyOK P T) (hg : aguard ops a o = some true) (ho : Ab.aop P T o (aopnd a) h = some (.bool b, h1)) (hp : ∀ b, aput cx.nt a o.dst (.bool b) = some (F b)) (t1 : b = true → OSuf P cx ops os (F true) h1 R) (t0 : b = false → OSuf P cx ops os (F false) h1 R) : OSuf P cx ops (o :: os) a h R := by
  refine OSuf.aop ok hg ho (hp b) ?_
  cases b
  · exact t0 rfl
  · exact t1 rfl
theorem OSuf.aopT (ok : TyOK P T) (hg : aguard ops a o = some true) (ho : Ab.aop P T o (aopnd a) h = some (.bool b, h1)) (hp : ∀ b, aput cx.nt a o.dst (.bool b) = some (F b)) (hb : b = true) (t : OSuf P cx ops os (F true) h1 R) : OSuf P cx ops (o :: os) a h R := by
  subst hb; exact OSuf.aop ok hg ho (hp true) t
theorem OSuf.aopF (ok : TyOK P T) (hg : aguard ops a o = some true) (ho : Ab.aop P T o (aopnd a) h = some (.bool b, h1)) (hp : ∀ b, aput cx.nt a o.dst (.bool b) = some (F b)) (hb : b = false) (t : OSuf P cx ops os (F false) h1 R) : OSuf P cx ops (o :: os) a h R := by
  subst hb; exact OSuf.aop ok hg ho (hp false) t
theorem OSuf.pass (hg : aguard ops a o = some false) (hp : aput cx.nt a o.dst (.tuple #[]) = some a1) (t : OSuf P cx ops os a1 h R) : OSuf P cx ops (o :: os) a h R := OSuf.skip hg hp t
theorem SqW.nil (hr : R a h) : SqW P T cx ops [] a h R := ⟨a, h, .nil, hr⟩
theorem SqW.aop (hg : aguard ops a o = some true) (ho : Ab.aop P T o (aopnd a) h = some (v, h1)) (hp : aput cx.nt a o.dst v = some a1) (t : SqW P T cx ops os a1 h1 R) : SqW P T cx ops (o :: os) a h R := by
  obtain ⟨a', h', g1, g2⟩ := t; exact ⟨a', h', .op hg ho hp g1, g2⟩
theorem SqW.pass (hg : aguard ops a o = some false) (hp : aput cx.nt a o.dst (.tuple #[]) = some a1) (t : SqW P T cx ops os a1 h R) : SqW P T cx ops (o :: os) a h R := by
  obtain ⟨a', h', g1, g2⟩ := t; exact ⟨a', h', .skip hg hp g1, g2⟩
theorem SqW.aopB (hg : aguard ops a o = some true) (ho : Ab.aop P T o (aopnd a) h = some (.bool b, h1)) (hp : ∀ b, aput cx.nt a o.dst (.bool b) = some (F b)) (t1 : b = true → SqW P T cx ops os (F true) h1 R) (t0 : b = false → SqW P T cx ops os (F false) h1 R) : SqW P T cx ops (o :: os) a h R := by
  refine SqW.aop hg ho (hp b) ?_
  cases b
  · exact t0 rfl
  · exact t1 rfl
theorem SqW.aopT (hg : aguard ops a o = some true) (ho : Ab.aop P T o (aopnd a) h = some (.bool b, h1)) (hp : ∀ b, aput cx.nt a o.dst (.bool b) = some (F b)) (hb : b = true) (t : SqW P T cx ops os (F true) h1 R) : SqW P T cx ops (o :: os) a h R := by
  subst hb; exact SqW.aop hg ho (hp true) t
theorem SqW.aopF (hg : aguard ops a o = some true) (ho : Ab.aop P T o (aopnd a) h = some (.bool b, h1)) (hp : ∀ b, aput cx.nt a o.dst (.bool b) = some (F b)) (hb : b = false) (t : SqW P T cx ops os (F false) h1 R) : SqW P T cx ops (o :: os) a h R := by
  subst hb; exact SqW.aop hg ho (hp false) t
theorem OpWp.fcall {ρ : Operand → Option Value} {dst : Option Tmp} {k : FuncId} {fn : Func} {xs : Array Operand} {ats : Array TypeId} {ty : TypeId} {pos : String} {after : Array Edge} {guard : Option (Nat × Bool)} {args : List Value} {K : Value → AHeap → Prop}
    (hf : ρ (.func k) = some (.func (.func k) #[] #[])) (hx : aopnds ρ xs.toList = some args) (he : Entered P k fn) (hF : FWp P k args h K) : OpWp P ⟨dst, .call ⟨.value (.func k), xs, ats⟩, ty, pos, after, guard⟩ ρ h K :=
  OpWp.call hf hx (VWp.func he (by simpa using hF))
variable {dst : Option Tmp} {k : FuncId} {fn : Func} {xs : Array Operand} {ats : Array TypeId} {ty : TypeId} {pos : String} {after : Array Edge} {guard : Option (Nat × Bool)} {args : List Value} {K : Value → AHeap → Prop} {f : Operand} {fv : Value}
theorem OSuf.call (hg : aguard ops a ⟨dst, .call ⟨.value (.func k), xs, ats⟩, ty, pos, after, guard⟩ = some true) (hx : aopnds (aopnd a) xs.toList = some args) (he : Entered P k fn) (hF : FWp P k args h K)
    (t : ∀ u h', K u h' → ∃ a1, aput cx.nt a dst u = some a1 ∧ OSuf P cx ops os a1 h' R) : OSuf P cx ops (⟨dst, .call ⟨.value (.func k), xs, ats⟩, ty, pos, after, guard⟩ :: os) a h R :=
  OSuf.op hg rfl (OpWp.fcall rfl hx he (hF.mono t))
theorem OSuf.callD (hg : aguard ops a ⟨dst, .call ⟨.value (.func k), xs, ats⟩, ty, pos, after, guard⟩ = some true) (hx : aopnds (aopnd a) xs.toList = some args) (he : Entered P k fn) (hF : FWp P k args h fun u h' => u = v ∧ h' = h1)
    (hp : aput cx.nt a dst v = some a1) (t : OSuf P cx ops os a1 h1 R) : OSuf P cx ops (⟨dst, .call ⟨.value (.func k), xs, ats⟩, ty, pos, after, guard⟩ :: os) a h R :=
  OSuf.call hg hx he hF (fun u h' hk => by obtain ⟨rfl, rfl⟩ := hk; exact ⟨a1, hp, t⟩)
theorem OSuf.vcall (hg : aguard ops a ⟨dst, .call ⟨.value f, xs, ats⟩, ty, pos, after, guard⟩ = some true) (hf : aopnd a f = some fv) (hx : aopnds (aopnd a) xs.toList = some args) (hV : VWp P fv args h K)
    (t : ∀ u h', K u h' → ∃ a1, aput cx.nt a dst u = some a1 ∧ OSuf P cx ops os a1 h' R) : OSuf P cx ops (⟨dst, .call ⟨.value f, xs, ats⟩, ty, pos, after, guard⟩ :: os) a h R :=
  OSuf.op hg rfl (OpWp.call hf hx (hV.mono t))
theorem OSuf.vcallD (hg : aguard ops a ⟨dst, .call ⟨.value f, xs, ats⟩, ty, pos, after, guard⟩ = some true) (hf : aopnd a f = some fv) (hx : aopnds (aopnd a) xs.toList = some args) (hV : VWp P fv args h fun u h' => u = v ∧ h' = h1)
    (hp : aput cx.nt a dst v = some a1) (t : OSuf P cx ops os a1 h1 R) : OSuf P cx ops (⟨dst, .call ⟨.value f, xs, ats⟩, ty, pos, after, guard⟩ :: os) a h R :=
  OSuf.vcall hg hf hx hV (fun u h' hk => by obtain ⟨rfl, rfl⟩ := hk; exact ⟨a1, hp, t⟩)
theorem aopnds_at {ρ ρ' : Operand → Option Value} {xs : List Operand} {vs : List Value} (hx : aopnds ρ xs = some vs) (he : ∀ x ∈ xs, ρ' x = ρ x) : aopnds ρ' xs = some vs := by
  rw [← hx]; exact aopnds_congr he
theorem SqW.callD (hg : aguard ops a ⟨dst, .call ⟨.value (.func k), xs, ats⟩, ty, pos, after, guard⟩ = some true) (hx : aopnds (aopnd a) xs.toList = some args) (he : Entered P k fn) (hF : FWp P k args h fun u h' => u = v ∧ h' = h1)
    (hp : aput cx.nt a dst v = some a1) (t : SqW P T cx ops os a1 h1 R) : SqW P T cx ops (⟨dst, .call ⟨.value (.func k), xs, ats⟩, ty, pos, after, guard⟩ :: os) a h R := by
  obtain ⟨a', h', g1, g2⟩ := t
  refine ⟨a', h', .call hg rfl rfl (fun ρ hρ => ?_) hp g1, g2⟩
  refine OpWp.fcall ?_ (aopnds_at hx fun x hm => hρ x ?_) he hF
  · rw [hρ _ (by simp [Op.operands, Call.operands])]; rfl
  · simp only [Op.operands, Call.operands, Array.toList_append, List.mem_append]; exact .inr hm
theorem SqW.vcallD (hg : aguard ops a ⟨dst, .call ⟨.value f, xs, ats⟩, ty, pos, after, guard⟩ = some true) (hf : aopnd a f = some fv) (hx : aopnds (aopnd a) xs.toList = some args) (hV : VWp P fv args h fun u h' => u = v ∧ h' = h1)
    (hp : aput cx.nt a dst v = some a1) (t : SqW P T cx ops os a1 h1 R) : SqW P T cx ops (⟨dst, .call ⟨.value f, xs, ats⟩, ty, pos, after, guard⟩ :: os) a h R := by
  obtain ⟨a', h', g1, g2⟩ := t
  refine ⟨a', h', .call hg rfl rfl (fun ρ hρ => ?_) hp g1, g2⟩
  refine OpWp.call ?_ (aopnds_at hx fun x hm => hρ x ?_) hV
  · rw [hρ _ (by simp [Op.operands, Call.operands])]; exact hf
  · simp only [Op.operands, Call.operands, Array.toList_append, List.mem_append]; exact .inr hm
end
section
variable {P : Program} {T : Tr TI} {h : AHeap} {ρ : Operand → Option Value} {dst : Option Tmp} {ty : TypeId} {pos : String} {af : Array Edge} {g : Option (Nat × Bool)} {x : Operand} {u : Value}
theorem ag {ops : Array Oper} {a : Tr Value} {o : Oper} {j : Nat} {want b r : Bool} {d : Tmp} (h1 : o.guard = some (j, want) := by exact rfl) (h2 : (ops[j]?).bind (·.dst) = some d := by exact rfl) (h3 : a.get d = some (.bool b) := by simp only [lk] <;> rfl) (h4 : (b == want) = r := by exact rfl) : aguard ops a o = some r := aguard_of h1 h2 h3 h4
theorem sm (hx : ρ x = some u := by simp only [lk] <;> rfl) : aop P T ⟨dst, .move x, ty, pos, af, g⟩ ρ h = some (u, h) := so_move hx
theorem za (hx : ρ x = some u := by simp only [lk] <;> rfl) : aop P T ⟨dst, .assign x, ty, pos, af, g⟩ ρ h = some (u, h) := so_assign hx
theorem zl {t : TypeId} {v : Value} (hx : ρ x = some u := by simp only [lk] <;> rfl) (hv : aLoad T t u h = some v) : aop P T ⟨dst, .load t x, ty, pos, af, g⟩ ρ h = some (v, h) := so_load hx hv
theorem zf {s : TypeId} {f : Nat} {v : Value} (hx : ρ x = some u := by simp only [lk] <;> rfl) (hv : aFieldAddr T s u f = some v) : aop P T ⟨dst, .fieldAddr s x f, ty, pos, af, g⟩ ρ h = some (v, h) := so_fieldAddr hx hv
theorem zi {s : TypeId} {y : Operand} {w v : Value} (hx : ρ x = some u := by simp only [lk] <;> rfl) (hy : ρ y = some w := by simp only [lk] <;> rfl) (hv : aIndexAddr T s u w = some v) : aop P T ⟨dst, .indexAddr s x y, ty, pos, af, g⟩ ρ h = some (v, h) := so_indexAddr hx hy hv
theorem zb {op : BinOp} {t t2 : TypeId} {y : Operand} {w v : Value} (hx : ρ x = some u := by simp only [lk] <;> rfl) (hy : ρ y = some w := by simp only [lk] <;> rfl) (hv : aBin P T op t x y u w = some v) : aop P T ⟨dst, .binOp op t x y t2, ty, pos, af, g⟩ ρ h = some (v, h) := so_bin hx hy hv
theorem zs {t : TypeId} {y : Operand} {v : Value} {h' : AHeap} (hx : ρ x = some u := by simp only [lk] <;> rfl) (hy : ρ y = some v := by simp only [lk] <;> rfl) (hv : aStore T t u v h = some h') : aop P T ⟨dst, .store t x y, ty, pos, af, g⟩ ρ h = some (.tuple #[], h') := so_store hx hy hv
theorem ze {i : Nat} {v : Value} (hx : ρ x = some u := by simp only [lk] <;> rfl) (hv : aExtract u i = some v) : aop P T ⟨dst, .extract x i, ty, pos, af, g⟩ ρ h = some (v, h) := so_extract hx hv
end
end Go.Ab
