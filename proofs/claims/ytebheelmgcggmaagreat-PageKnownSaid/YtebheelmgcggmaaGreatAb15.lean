/-
  All operations but calls of functions, as one function of the view, and that it is right.
-/
import Derived.Test.YtebheelmgcggmaaGreatAb14
namespace Go.Ab
set_option linter.unusedSimpArgs false
set_option linter.unusedVariables false
section ops
variable {P : Program} {T : Tr TI}
noncomputable def keep (h : AHeap) : Option Value → Option (Value × AHeap)
  | some v => some (v, h)
  | none => none
noncomputable def unit : Option AHeap → Option (Value × AHeap)
  | some h => some (.tuple #[], h)
  | none => none
noncomputable def aparts (ρ : Operand → Option Value) : List (Nat × Operand) → Option (List (Nat × Value))
  | [] => some []
  | (i, x) :: xs => match ρ x, aparts ρ xs with
    | some v, some l => some ((i, v) :: l)
    | _, _ => none
noncomputable def aPure (P : Program) (ok : Bool) (s : Sem Value) : Option Value :=
  bif ok then match pureRun P s with
    | some v => bif flat v then some v else none
    | none => none
  else none
noncomputable def oopnd (ρ : Operand → Option Value) : Option Operand → Option (Option Value)
  | none => some none
  | some x => match ρ x with
    | some v => some (some v)
    | none => none
noncomputable def aNilCheck : Value → Option Value
  | .pointer (some a) => some (.pointer (some a))
  | .func (.func f) a c => some (.func (.func f) a c)
  | .func (.yield l) a c => some (.func (.yield l) a c)
  | _ => none
noncomputable def noYield : Fn → Bool
  | .yield _ => false
  | _ => true
noncomputable def isIface : TypeDesc → Bool
  | .interface _ => true
  | _ => false
noncomputable def aCapOf (T : Tr TI) (argTypes : Array TypeId) (x : Value) : Option Value :=
  match argTypes.toList with
  | t :: _ => match T.get t with
    | some ti => match ti.und, x with
      | .slice _, .slice none 0 0 => some (.int .i64 0)
      | .slice _, .slice (some _) _ (c + 1) => some (.int .i64 c)
      | _, _ => none
    | none => none
  | [] => none
theorem cap_good (ok : TyOK P T) {μ : Emb} {n : Nat} {argTypes : Array TypeId} (ty : TypeId) {x x' v : Value} (w : World) (hx : VRel μ n x x') (ha : aCapOf T argTypes x = some v) :
    ∃ v', (Builtin.cap_ argTypes ty #[x']).run P w = .ok v' w ∧ VRel μ n v v' := by
  unfold aCapOf at ha
  split at ha
  · rename_i t rest hat
    have h0 : argTypes[0]? = some t := by rw [← Array.getElem?_toList, hat]; rfl
    split at ha
    · rename_i ti ht
      split at ha
      · rename_i e hti
        cases ha
        cases hx
        exact ⟨.int .i64 0, by simp only [Builtin.cap_, h0, List.getElem?_toArray, List.getElem?_cons_zero, Sem.run_bind, run_underlying ok ht, hti, Result.andThen_ok, Sem.run_pure, goInt]; rfl, .int _ _⟩
      · rename_i e a l c hti
        cases ha
        cases hx with
        | sliceK hr hm => exact ⟨.int .i64 c, by simp only [Builtin.cap_, h0, List.getElem?_toArray, List.getElem?_cons_zero, Sem.run_bind, run_underlying ok ht, hti, Result.andThen_ok, Sem.run_pure, goInt], .int _ _⟩
        | sliceKZ hr hm => exact ⟨.int .i64 0, by simp only [Builtin.cap_, h0, List.getElem?_toArray, List.getElem?_cons_zero, Sem.run_bind, run_underlying ok ht, hti, Result.andThen_ok, Sem.run_pure, goInt]; rfl, .int _ _⟩
      · cases ha
    · cases ha
  · cases ha
noncomputable def aAppendZ (T : Tr TI) (argTypes : Array TypeId) (s x : Value) (h : AHeap) : Option (Value × AHeap) :=
  match argTypes.toList, s, x with
  | [t, u], .slice none 0 0, .int _ nx => match T.get t, T.get u with
    | some ti, some ui => match ti.und, ui.und with
      | .slice elem, .int _ => match T.get elem with
        | some ei => match ei.zero with
          | some z =>
            if (z.cells.toList.all flat1 = true ∧ z.cells.size = ei.size ∧ 1 ≤ ei.size ∧ 1 ≤ ei.bytes) ∧ (1 ≤ nx ∧ nx ≤ 16777216) ∧ (2 * nx.toNat + 256) * ei.bytes ≤ 281474976710656 then
              some (.slice (some ⟨h.next, 0, none⟩) nx.toNat 0, h.new (.cells (zeros z.cells.toList nx.toNat) ei.size))
            else none
          | none => none
        | none => none
      | _, _ => none
    | _, _ => none
  | _, _, _ => none
theorem appendZ_good (ok : TyOK P T) {μ : Emb} {h h' : AHeap} {w : World} (st : StRel μ h w) {argTypes : Array TypeId} (ty : TypeId) {s s' x x' v : Value} (hs : VRel μ h.next s s') (hx : VRel μ h.next x x')
    (ha : aAppendZ T argTypes s x h = some (v, h')) : GoodV P μ h w (Builtin.append_ argTypes ty #[s', x']) v h' := by
  unfold aAppendZ at ha
  split at ha
  · rename_i t u k nx hat
    cases hs
    cases hx
    have h0 : argTypes[0]? = some t := by rw [← Array.getElem?_toList, hat]; rfl
    have h1 : argTypes[1]? = some u := by rw [← Array.getElem?_toList, hat]; rfl
    split at ha
    · rename_i ti ui ht hu
      split at ha
      · rename_i elem k2 hti hui
        split at ha
        · rename_i ei he
          split at ha
          · rename_i z hz
            split at ha
            · rename_i hc
              obtain ⟨⟨c1, c2, c3, c4⟩, ⟨c5, c6⟩, c7⟩ := hc
              simp only [Option.some.injEq, Prod.mk.injEq] at ha
              obtain ⟨rfl, rfl⟩ := ha
              obtain ⟨n, rfl⟩ := Int.eq_ofNat_of_zero_le (a := nx) (by omega)
              simp only [Int.toNat_natCast] at c7 ⊢
              obtain ⟨i, hi0, hi2, hi3, hi4, _⟩ := ok.ok _ _ he
              have hi1 : ∀ w : World, (typeInfo elem).run P w = .ok i w := fun w' => by simp [typeInfo, hi0]
              have wl : IntKind.i64.wrap (n : Int) = (n : Int) := by
                simp only [IntKind.wrap, IntKind.bits, IntKind.signed]; simp; omega
              have hb : n * i.bytes ≤ 281474976710656 := by
                rw [hi3]
                exact Nat.le_trans (Nat.mul_le_mul_right _ (by omega)) c7
              have hl0 : ¬ ((n : Int) < 0) := by omega
              have hl1 : ¬ ((n : Int) * (i.bytes : Int) > 2 ^ 48) := by
                have : ((n * i.bytes : Nat) : Int) ≤ 281474976710656 := by omega
                rw [Int.natCast_mul] at this; omega
              have hns : ¬ n * ei.size = 0 := by
                intro e
                rcases Nat.mul_eq_zero.1 e with e | e <;> omega
              have hcap : ¬ Builtin.nextslicecap n 0 * i.bytes > 2 ^ 48 := by
                have e : Builtin.nextslicecap n 0 = n := by simp only [Builtin.nextslicecap]; rw [if_pos (by omega)]
                rw [e]; omega
              have hnz : ¬ i.bytes = 0 := by rw [hi3]; omega
              have hle : ¬ n ≤ 0 := by omega
              have hmx : ¬ ((n : Int) > IntKind.i64.max) := by
                simp only [IntKind.max, IntKind.bits, IntKind.signed]; simp; omega
              generalize hq : (Question.appendCap n 0 elem).cut (w.tape w.drawn (Question.appendCap n 0 elem)) = ncap
              have hge : n ≤ ncap := by rw [← hq]; simp [Question.cut]
              have e8 : (Builtin.zeroCells z.cells n).size = n * ei.size := by simp [Builtin.zeroCells, c2]
              obtain ⟨μ', e1, e2⟩ := append_new (at_ := ⟨elem, ei.size, ei.bytes, z.cells.toList⟩) (cs := #[] ++ Builtin.zeroCells z.cells n ++ Builtin.zeroCells z.cells (ncap - n)) (need := n) (ncap := ncap) (vs := zeros z.cells.toList n) st (by
                have e9 : (Builtin.zeroCells z.cells n).toList = zeros z.cells.toList n := by simp only [Builtin.zeroCells]; exact zeros_eq _ _
                rw [Array.toList_append, Array.toList_append, e9, List.nil_append, List.take_left]
                exact LRel.of_flat1 _ _ (zeros_flat c1 _)) (by rw [zeros_length, Array.length_toList, c2]) (by
                simp only [Array.size_append, Builtin.zeroCells, Array.size_map, Array.size_range, c2]
                rw [Array.size_empty, Nat.zero_add, ← Nat.add_mul]; congr 1; omega) hge
              refine ⟨_, _, μ', ?_, e1, e2⟩
              simp only [Builtin.append_, h0, h1, List.getElem?_toArray, List.getElem?_cons_zero, List.getElem?_cons_succ, Sem.run_bind, run_underlying ok ht, hti, Result.andThen_ok, run_sizeOf ok he]
              simp only [Result.andThen_ok, Sem.run_pure, run_underlying ok hu, hui, if_true, asInt, asIntOf, wl, Sem.run_ite, hl0, if_false, hi1, hl1, Int.toNat_natCast, Sem.run_bind, hns, Nat.zero_add, hle, hmx, false_and, hcap, run_choose, Question.forced, hq, run_askRoom, Builtin.firstCells, run_zeroValue ok he _ hz, Go.newRow, run_newObj, Bool.not_true, Bool.false_eq_true]
            · cases ha
          · cases ha
        · cases ha
      · cases ha
    · cases ha
  · cases ha
noncomputable def aBuiltin (P : Program) (T : Tr TI) (b : Builtin) (ats : Array TypeId) (ty : TypeId) (vs : List Value) (h : AHeap) : Option (Value × AHeap) :=
  match b, vs with
  | .append, [s, x] => match aAppend T ats s x h with
    | some r => some r
    | none => aAppendZ T ats s x h
  | .copy, [d, s] => aCopy T ats d s h
  | .clear, [x] => unit (aClear T ats x h)
  | .delete, [m, k] => unit (aDelete P T ats m k h)
  | .len, [x] => keep h (aLenOf T ats x h)
  | .cap, [x] => keep h (aCapOf T ats x)
  | .max, vs => keep h (aPure P (vs.all flat) (Builtin.max_ ats ty vs.toArray))
  | .min, vs => keep h (aPure P (vs.all flat) (Builtin.min_ ats ty vs.toArray))
  | _, _ => none
noncomputable def aop (P : Program) (T : Tr TI) (o : Oper) (ρ : Operand → Option Value) (h : AHeap) : Option (Value × AHeap) :=
  match o.op with
  | .move x => keep h (ρ x)
  | .assign x => keep h (ρ x)
  | .pick c a b => match ρ c with
    | some (.bool t) => keep h (bif t then ρ a else ρ b)
    | _ => none
  | .alloc t => aAlloc T t h
  | .box _ x => match ρ x with
    | some v => some (aBox v h)
    | none => none
  | .build t parts => match aparts ρ parts.toList with
    | some ps => keep h (aBuild T t ps)
    | none => none
  | .buildSlice t len parts => match aparts ρ parts.toList with
    | some ps => aBuildSlice T t len ps h
    | none => none
  | .load t x => match ρ x with
    | some v => keep h (aLoad T t v h)
    | none => none
  | .store t x y => match ρ x, ρ y with
    | some a, some v => unit (aStore T t a v h)
    | _, _ => none
  | .nilCheck x => match ρ x with
    | some v => keep h (aNilCheck v)
    | none => none
  | .binOp op t x y _ => match ρ x, ρ y with
    | some a, some b => keep h (aBin P T op t x y a b)
    | _, _ => none
  | .unOp op _ x => match ρ x with
    | some v => keep h (aPure P (flat v) (Op.unary op v))
    | none => none
  | .convert src dst x => match ρ x with
    | some v => match aConv T src dst v h with
      | some r => some r
      | none => keep h (aPure P (flat v) (convert src dst v))
    | none => none
  | .makeInterface t x => match ρ x, T.get t with
    | some v, some ti => bif isIface ti.und then none else some (.iface t v, h)
    | _, _ => none
  | .makeFunc fn first cap => match aopnds ρ first.toList, aopnds ρ cap.toList with
    | some a, some c => bif noYield fn then some (.func fn a.toArray c.toArray, h) else none
    | _, _ => none
  | .makeMap _ none => some (aMakeMap h)
  | .makeSlice t l c => match ρ l, ρ c with
    | some a, some b => aMakeSlice T t a b h
    | _, _ => none
  | .slice t x lo hi mx => match ρ x, oopnd ρ lo, oopnd ρ hi, oopnd ρ mx with
    | some v, some l, some r, some m => keep h (aSlice T t v l r m h)
    | _, _, _, _ => none
  | .fieldAddr s x f => match ρ x with
    | some v => keep h (aFieldAddr T s v f)
    | none => none
  | .field t x f => match ρ x with
    | some v => keep h (aField T t v f)
    | none => none
  | .indexAddr t x i => match ρ x, ρ i with
    | some v, some j => keep h (aIndexAddr T t v j)
    | _, _ => none
  | .index t x i => match ρ x, ρ i with
    | some v, some j => keep h (aIndex T t v j)
    | _, _ => none
  | .lookup t x i c => match ρ x, ρ i with
    | some v, some k => keep h (aLookup P T t v k c h)
    | _, _ => none
  | .mapUpdate t m k x => match ρ m, ρ k, ρ x with
    | some a, some b, some v => unit (aMapUpdate P T t a b v h)
    | _, _, _ => none
  | .insert t m k x => match ρ m, ρ k, ρ x with
    | some a, some b, some v => unit (aMapUpdate P T t a b v h)
    | _, _, _ => none
  | .range t x => match ρ x with
    | some v => aRange T t v h
    | none => none
  | .next x s => match ρ x with
    | some v => aNext v s h
    | none => none
  | .entry x => match ρ x with
    | some v => keep h (aEntry v h)
    | none => none
  | .extract x i => match ρ x with
    | some v => keep h (aExtract v i)
    | none => none
  | .call ⟨.builtin b, xs, ats⟩ => match aopnds ρ xs.toList with
    | some vs => aBuiltin P T b ats o.type vs h
    | none => none
  | _ => none
theorem keep_some {h h' : AHeap} {x : Option Value} {v : Value} (hk : keep h x = some (v, h')) : x = some v ∧ h' = h := by
  cases x <;> simp only [keep, Option.some.injEq, Prod.mk.injEq] at hk <;> first | (cases hk; done) | exact ⟨by rw [hk.1], hk.2.symm⟩
theorem unit_some {h' : AHeap} {x : Option AHeap} {v : Value} (hk : unit x = some (v, h')) : x = some h' ∧ v = .tuple #[] := by
  cases x <;> simp only [unit, Option.some.injEq, Prod.mk.injEq] at hk <;> first | (cases hk; done) | exact ⟨by rw [hk.2], hk.1.symm⟩
theorem aPure_some {ok : Bool} {s : Sem Value} {v : Value} (ha : aPure P ok s = some v) : ok = true ∧ pureRun P s = some v ∧ flat v = true := by
  unfold aPure at ha
  cases ok
  · cases ha
  · simp only [cond_true] at ha
    split at ha
    · rename_i u hu
      cases hf : flat u
      · rw [hf, cond_false] at ha; cases ha
      · rw [hf, cond_true] at ha; cases ha; exact ⟨rfl, hu, hf⟩
    · cases ha
theorem aparts_rel {μ : Emb} {n : Nat} {ρ : Operand → Option Value} {ρ' : Operand → Value} (hρ : OpRel μ n ρ ρ') : ∀ {xs : List (Nat × Operand)} {vs : List (Nat × Value)}, aparts ρ xs = some vs → PRel μ n vs (xs.map fun x => (x.1, ρ' x.2))
  | [], vs, h => by simp only [aparts, Option.some.injEq] at h; subst h; exact .nil
  | (i, x) :: xs, vs, h => by
    simp only [aparts] at h
    split at h
    · rename_i v l h1 h2; cases h; exact .cons (hρ x v h1) (aparts_rel hρ h2)
    · cases h
theorem oopnd_rel {μ : Emb} {n : Nat} {ρ : Operand → Option Value} {ρ' : Operand → Value} (hρ : OpRel μ n ρ ρ') {x : Option Operand} {v : Option Value} (h : oopnd ρ x = some v) : OV μ n v (x.map ρ') := by
  cases x with
  | none => simp only [oopnd, Option.some.injEq] at h; subst h; trivial
  | some x =>
    simp only [oopnd] at h
    split at h
    · rename_i u hu; cases h; exact hρ x u hu
    · cases h
theorem LRel.flat_eq {μ : Emb} {n : Nat} : ∀ {l l' : List Value}, LRel μ n l l' → l.all flat = true → l' = l
  | _, _, .nil, _ => rfl
  | _, _, .cons h t, hf => by
    simp only [List.all_cons, Bool.and_eq_true] at hf
    rw [h.flat_eq hf.1, LRel.flat_eq t hf.2]
theorem LRel.two {μ : Emb} {n : Nat} {x y : Value} {a : Array Value} (h : LRel μ n [x, y] a.toList) : ∃ x' y', a = #[x', y'] ∧ VRel μ n x x' ∧ VRel μ n y y' := by
  generalize hl : a.toList = l at h
  cases h with
  | cons h1 t => cases t with
    | cons h2 t => cases t; exact ⟨_, _, Array.toList_inj.1 hl, h1, h2⟩
theorem LRel.one {μ : Emb} {n : Nat} {x : Value} {a : Array Value} (h : LRel μ n [x] a.toList) : ∃ x', a = #[x'] ∧ VRel μ n x x' := by
  generalize hl : a.toList = l at h
  cases h with
  | cons h1 t => cases t; exact ⟨_, Array.toList_inj.1 hl, h1⟩
theorem builtin_good (ok : TyOK P T) {μ : Emb} {h h' : AHeap} {w : World} (st : StRel μ h w) {b : Builtin} {ats : Array TypeId} {ty : TypeId} {cn : Array Bool} {vs : List Value} {vs' : Array Value} {v : Value} (hv : LRel μ h.next vs vs'.toList)
    (ha : aBuiltin P T b ats ty vs h = some (v, h')) {K : Value → AHeap → Prop} (hk : K v h') (c : Frame) (cs : List Frame) : Lands P μ h w (builtin b ats ty cn vs') c cs K := by
  unfold aBuiltin at ha
  split at ha
  · obtain ⟨x', y', rfl, h1, h2⟩ := hv.two
    split at ha
    · rename_i r hr
      cases ha
      exact Lands.value (append_good ok st ty h1 h2 hr) hk
    · exact Lands.value (appendZ_good ok st ty h1 h2 ha) hk
  · obtain ⟨x', y', rfl, h1, h2⟩ := hv.two
    exact Lands.value (copy_good ok st ty h1 h2 ha) hk
  · obtain ⟨x', rfl, h1⟩ := hv.one
    obtain ⟨h0, rfl⟩ := unit_some ha
    exact Lands.value (clear_good ok st ty h1 h0) hk
  · obtain ⟨x', y', rfl, h1, h2⟩ := hv.two
    obtain ⟨h0, rfl⟩ := unit_some ha
    exact Lands.value (delete_good ok st ty h1 h2 h0) hk
  · obtain ⟨x', rfl, h1⟩ := hv.one
    obtain ⟨h0, rfl⟩ := keep_some ha
    exact Lands.value (.of_same st (len_good ok st ty h1 h0)) hk
  · obtain ⟨x', rfl, h1⟩ := hv.one
    obtain ⟨h0, rfl⟩ := keep_some ha
    exact Lands.value (.of_same st (cap_good ok ty w h1 h0)) hk
  · obtain ⟨h0, rfl⟩ := keep_some ha
    obtain ⟨h1, h2, h3⟩ := aPure_some h0
    have e : vs' = vs.toArray := by rw [← hv.flat_eq h1]
    subst e
    exact Lands.value (pure_good st h2 h3) hk
  · obtain ⟨h0, rfl⟩ := keep_some ha
    obtain ⟨h1, h2, h3⟩ := aPure_some h0
    have e : vs' = vs.toArray := by rw [← hv.flat_eq h1]
    subst e
    exact Lands.value (pure_good st h2 h3) hk
  · cases ha
set_option maxHeartbeats 2000000 in
theorem aop_sound (ok : TyOK P T) {o : Oper} {ρ : Operand → Option Value} {h h' : AHeap} {v : Value} (ha : aop P T o ρ h = some (v, h')) {K : Value → AHeap → Prop} (hk : K v h') : OpWp P o ρ h K := by
  intro μ ρ' w c cs hρ st
  obtain ⟨dst, op, ty, pos, after, guard⟩ := o
  have val : ∀ v', VRel μ h.next v v' → h' = h → Lands P μ h w (pure (.value v')) c cs K := by
    rintro v' hv rfl
    exact ⟨.value v', w, _, v, v', h', μ, w, rfl, rfl, .refl _ _, hk, Ext.refl st, hv⟩
  cases op with
  | move x => obtain ⟨h1, h2⟩ := keep_some ha; exact val _ (hρ x v h1) h2
  | assign x => obtain ⟨h1, h2⟩ := keep_some ha; exact val _ (hρ x v h1) h2
  | pick x y z =>
    simp only [aop] at ha
    split at ha
    · rename_i t ht
      obtain ⟨h1, rfl⟩ := keep_some ha
      have hc := hρ x _ ht
      have hx : ρ' x = .bool t := by cases hx : ρ' x <;> rw [hx] at hc <;> cases hc; rfl
      refine ⟨.value (if t then ρ' y else ρ' z), w, _, v, _, h', μ, w, by simp only [execOp, hx, asBool, Sem.run_bind, Sem.run_pure, Result.andThen_ok], rfl, .refl _ _, hk, Ext.refl st, ?_⟩
      cases t
      · exact hρ z v h1
      · exact hρ y v h1
    · cases ha
  | alloc t =>
    simp only [execOp]
    exact Lands.value (alloc_good ok st ha) hk
  | box t x =>
    simp only [aop] at ha
    split at ha
    · rename_i u hu
      simp only [Option.some.injEq] at ha
      have := box_good (P := P) st t (hρ x u hu)
      rw [ha] at this
      simp only [execOp]; exact Lands.value this hk
    · cases ha
  | build t parts =>
    simp only [aop] at ha
    split at ha
    · rename_i ps hp
      obtain ⟨h1, rfl⟩ := keep_some ha
      have := aparts_rel hρ hp
      simp only [execOp]; exact Lands.value (.of_same st (build_good (ps' := parts.map fun (i, x) => (i, ρ' x)) ok (by simpa using this) h1 w)) hk
    · cases ha
  | buildSlice t len parts =>
    simp only [aop] at ha
    split at ha
    · rename_i ps hp
      have := aparts_rel hρ hp
      simp only [execOp]; exact Lands.value (buildSlice_good (ps' := parts.map fun (i, x) => (i, ρ' x)) ok st (by simpa using this) ha) hk
    · cases ha
  | load t x =>
    simp only [aop] at ha
    split at ha
    · rename_i u hu
      obtain ⟨h1, rfl⟩ := keep_some ha
      simp only [execOp]; exact Lands.value (.of_same st (load_good ok st (hρ x u hu) h1)) hk
    · cases ha
  | store t x y =>
    simp only [aop] at ha
    split at ha
    · rename_i u z hu hz
      obtain ⟨h1, rfl⟩ := unit_some ha
      simp only [execOp]; exact Lands.unit (store_good ok st (hρ x u hu) (hρ y z hz) h1) hk
    · cases ha
  | nilCheck x =>
    simp only [aop] at ha
    split at ha
    · rename_i u hu
      obtain ⟨h1, h2⟩ := keep_some ha
      have hx := hρ x u hu
      unfold aNilCheck at h1
      simp only [execOp]
      generalize ρ' x = y at hx
      split at h1
      · cases h1; cases hx with
        | ptr hlt hm => exact val _ (.ptr hlt hm) h2
      · cases h1; cases hx with
        | func a b d => exact val _ (.func a b d) h2
      · cases h1; cases hx with
        | func a b d => exact val _ (.func a b d) h2
        | yield a b => exact val _ (.yield a b) h2
      · cases h1
    · cases ha
  | binOp op t x y u =>
    simp only [aop] at ha
    split at ha
    · rename_i a b hx hy
      obtain ⟨h1, rfl⟩ := keep_some ha
      simp only [execOp]; exact Lands.value (bin_good ok st x y (hρ x a hx) (hρ y b hy) h1) hk
    · cases ha
  | unOp op t x =>
    simp only [aop] at ha
    split at ha
    · rename_i u hu
      obtain ⟨h1, rfl⟩ := keep_some ha
      obtain ⟨g1, g2, g3⟩ := aPure_some h1
      have e := (hρ x u hu).flat_eq g1
      simp only [execOp, e]
      exact Lands.value (pure_good st g2 g3) hk
    · cases ha
  | convert src dst' x =>
    simp only [aop] at ha
    split at ha
    · rename_i u hu
      split at ha
      · rename_i r hr
        cases ha
        simp only [execOp]; exact Lands.value (conv_good ok st (hρ x u hu) hr) hk
      · obtain ⟨h1, rfl⟩ := keep_some ha
        obtain ⟨g1, g2, g3⟩ := aPure_some h1
        have e := (hρ x u hu).flat_eq g1
        simp only [execOp, e]
        exact Lands.value (pure_good st g2 g3) hk
    · cases ha
  | makeInterface t x =>
    simp only [aop] at ha
    split at ha
    · rename_i u ti hu ht
      cases hi : isIface ti.und
      · rw [hi, cond_false] at ha
        simp only [Option.some.injEq, Prod.mk.injEq] at ha
        obtain ⟨rfl, rfl⟩ := ha
        simp only [execOp]; refine Lands.value (.of_same st ⟨.iface t (ρ' x), ?_, .iface (hρ x u hu)⟩) hk
        simp only [Instr.makeInterface, Sem.run_bind, run_underlying ok ht, Result.andThen_ok]
        split
        · rename_i e; rw [e] at hi; cases hi
        · rfl
      · rw [hi, cond_true] at ha; cases ha
    · cases ha
  | makeFunc fn first cap =>
    simp only [aop] at ha
    split at ha
    · rename_i a b h1 h2
      cases hy : noYield fn
      · rw [hy, cond_false] at ha; cases ha
      · rw [hy, cond_true] at ha
        simp only [Option.some.injEq, Prod.mk.injEq] at ha
        obtain ⟨rfl, rfl⟩ := ha
        simp only [execOp]; refine Lands.value (.of_same st ⟨.func fn (first.map ρ') (cap.map ρ'), rfl, .func (fun l e => by subst e; cases hy) ?_ ?_⟩) hk
        · simpa using aopnds_rel hρ h1
        · simpa using aopnds_rel hρ h2
    · cases ha
  | makeMap t r =>
    cases r with
    | some _ => cases ha
    | none =>
      simp only [aop, Option.some.injEq] at ha
      have := makeMap_good (P := P) st (t := t) (r := none) (r' := none) trivial rfl
      rw [ha] at this
      simp only [execOp]; exact Lands.value this hk
  | makeSlice t x y =>
    simp only [aop] at ha
    split at ha
    · rename_i a b hx hy
      simp only [execOp]; exact Lands.value (makeSlice_good ok st (hρ x a hx) (hρ y b hy) ha) hk
    · cases ha
  | slice t x lo hi mx =>
    simp only [aop] at ha
    split at ha
    · rename_i u l r m hu h1 h2 h3
      obtain ⟨g1, rfl⟩ := keep_some ha
      simp only [execOp]; exact Lands.value (.of_same st (slice_good ok st (hρ x u hu) (oopnd_rel hρ h1) (oopnd_rel hρ h2) (oopnd_rel hρ h3) g1)) hk
    · cases ha
  | fieldAddr s x f =>
    simp only [aop] at ha
    split at ha
    · rename_i u hu
      obtain ⟨g1, rfl⟩ := keep_some ha
      simp only [execOp]; exact Lands.value (.of_same st (fieldAddr_good ok (hρ x u hu) g1 w)) hk
    · cases ha
  | field t x f =>
    simp only [aop] at ha
    split at ha
    · rename_i u hu
      obtain ⟨g1, rfl⟩ := keep_some ha
      simp only [execOp]; exact Lands.value (.of_same st (field_good ok (hρ x u hu) g1 w)) hk
    · cases ha
  | indexAddr t x i =>
    simp only [aop] at ha
    split at ha
    · rename_i u j hu hj
      obtain ⟨g1, rfl⟩ := keep_some ha
      simp only [execOp]; exact Lands.value (.of_same st (indexAddr_good ok (hρ x u hu) (hρ i j hj) g1 w)) hk
    · cases ha
  | index t x i =>
    simp only [aop] at ha
    split at ha
    · rename_i u j hu hj
      obtain ⟨g1, rfl⟩ := keep_some ha
      simp only [execOp]; exact Lands.value (.of_same st (index_good ok (hρ x u hu) (hρ i j hj) g1 w)) hk
    · cases ha
  | lookup t x i co =>
    simp only [aop] at ha
    split at ha
    · rename_i u j hu hj
      obtain ⟨g1, rfl⟩ := keep_some ha
      simp only [execOp]; exact Lands.value (.of_same st (lookup_good ok st (hρ x u hu) (hρ i j hj) g1)) hk
    · cases ha
  | mapUpdate t m k x =>
    simp only [aop] at ha
    split at ha
    · rename_i a b d ha' hb hd
      obtain ⟨g1, rfl⟩ := unit_some ha
      simp only [execOp]; exact Lands.unit (mapUpdate_good ok st (hρ m a ha') (hρ k b hb) (hρ x d hd) g1) hk
    · cases ha
  | insert t m k x =>
    simp only [aop] at ha
    split at ha
    · rename_i a b d ha' hb hd
      obtain ⟨g1, rfl⟩ := unit_some ha
      simp only [execOp]; exact Lands.unit (mapUpdate_good ok st (hρ m a ha') (hρ k b hb) (hρ x d hd) g1) hk
    · cases ha
  | range t x =>
    simp only [aop] at ha
    split at ha
    · rename_i u hu
      simp only [execOp]; exact Lands.value (range_good ok st (hρ x u hu) ha) hk
    · cases ha
  | next x s =>
    simp only [aop] at ha
    split at ha
    · rename_i u hu
      simp only [execOp]; exact Lands.value (next_good st (hρ x u hu) ty ha) hk
    · cases ha
  | entry x =>
    simp only [aop] at ha
    split at ha
    · rename_i u hu
      obtain ⟨g1, rfl⟩ := keep_some ha
      simp only [execOp]; exact Lands.value (.of_same st (entry_good st (hρ x u hu) g1)) hk
    · cases ha
  | extract x i =>
    simp only [aop] at ha
    split at ha
    · rename_i u hu
      obtain ⟨g1, rfl⟩ := keep_some ha
      simp only [execOp]; exact Lands.value (.of_same st (extract_good (hρ x u hu) g1 w)) hk
    · cases ha
  | call cl =>
    obtain ⟨callee, xs, ats⟩ := cl
    cases callee with
    | builtin b =>
      simp only [aop] at ha
      split at ha
      · rename_i vs hvs
        simp only [execOp, resolve, pure_bind, invoke]
        exact builtin_good ok st (by simpa using aopnds_rel hρ hvs) ha hk c cs
      · cases ha
    | value f => cases ha
    | invoke f m => cases ha
  | _ => cases ha
end ops
end Go.Ab
