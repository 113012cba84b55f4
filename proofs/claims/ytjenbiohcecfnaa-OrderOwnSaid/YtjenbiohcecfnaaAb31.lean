/-
  Maps whose keys are numbers; going through a map.
-/
import Derived.Test.YtjenbiohcecfnaaAb30
namespace Go.Ab
set_option linter.unusedSimpArgs false
set_option linter.unusedVariables false

/-- Entries by number: the key, the value, when it was born. -/
def mkE (k : IntKind) (l : List (Int × Value × Nat)) : List AEnt := l.map fun x => ⟨.int k x.1, x.2.1, x.2.2⟩
def idxI (n : Int) : List (Int × Value × Nat) → Nat → Option (Nat × Value)
  | [], _ => none
  | x :: l, i => bif n == x.1 then some (i, x.2.1) else idxI n l (i + 1)
theorem mkE_append (k : IntKind) (l m : List (Int × Value × Nat)) : mkE k (l ++ m) = mkE k l ++ mkE k m := List.map_append
theorem mkE_isEmpty (k : IntKind) (l : List (Int × Value × Nat)) : (mkE k l).isEmpty = l.isEmpty := by cases l <;> rfl
theorem idxI_none {n : Int} : ∀ {l : List (Int × Value × Nat)} {i : Nat}, (∀ x ∈ l, ¬ n = x.1) → idxI n l i = none
  | [], _, _ => rfl
  | x :: l, i, h => by
    have h1 : (n == x.1) = false := by simpa using h x List.mem_cons_self
    simp only [idxI, h1, cond_false]
    exact idxI_none fun y hy => h y (List.mem_cons_of_mem _ hy)
theorem idxI_some {n : Int} : ∀ {l : List (Int × Value × Nat)} {i j : Nat} {v : Value}, idxI n l i = some (j, v) → ∃ m b, j = i + m ∧ l[m]? = some (n, v, b)
  | [], _, _, _, h => by cases h
  | x :: l, i, j, v, h => by
    simp only [idxI] at h
    cases hx : n == x.1
    · rw [hx, cond_false] at h
      obtain ⟨m, b, h1, h2⟩ := idxI_some h
      exact ⟨m + 1, b, by omega, by simpa using h2⟩
    · rw [hx, cond_true] at h
      cases h
      have e : n = x.1 := by simpa using hx
      exact ⟨0, x.2.2, rfl, by rw [e]; rfl⟩
theorem idxI_none' {n : Int} : ∀ {l : List (Int × Value × Nat)} {i : Nat}, idxI n l i = none → ∀ x ∈ l, ¬ n = x.1
  | [], _, _, x, hx => by cases hx
  | y :: l, i, h, x, hx => by
    simp only [idxI] at h
    cases hy : n == y.1
    · rw [hy, cond_false] at h
      cases hx with
      | head => simpa using hy
      | tail _ hm => exact idxI_none' h x hm
    · rw [hy, cond_true] at h; cases h

section
variable {P : Program} {T : Tr TI} {h : AHeap}
theorem aFind_int {kt : TypeId} {ki : TI} {k : IntKind} {n : Int} (hk : T.get kt = some ki) (hu : ki.und = .int k) (l : List (Int × Value × Nat)) : aFind P T kt (.int k n) (mkE k l) = some (idxI n l 0) := by
  have key : ∀ (l : List (Int × Value × Nat)) (i : Nat), aFindNow (.int k) (.int k n) (mkE k l) i = some (idxI n l i) := by
    intro l
    induction l with
    | nil => intro i; rfl
    | cons x l ih =>
      intro i
      have ih' := ih (i + 1)
      simp only [mkE] at ih'
      simp only [mkE, List.map_cons, aFindNow, Instr.sameNow, if_true, idxI]
      cases n == x.1
      · simp only [cond_false]; exact ih'
      · rfl
  simp only [aFind, hk, hu, key]
theorem keyOk_int (ok : TyOK P T) {kt : TypeId} {ki : TI} {k : IntKind} {n : Int} {e : Bool} (hk : T.get kt = some ki) (hu : ki.und = .int k) : keyOk P e kt (.int k n) = true := by
  obtain ⟨_, _, _, _, _, u1⟩ := ok.ok kt ki hk
  rw [hu] at u1
  have key : ∀ m, pureRun P (Instr.checkKey e (m + 1) kt (.int k n)) = some () := by
    intro m
    simp only [Instr.checkKey, underlying, bind_assoc, pureRun_program, u1, pure_bind, pureRun_pure]
  have := key 9999
  unfold keyOk
  rw [this]; rfl
theorem mapTypes_mk {t kt et : TypeId} {ti : TI} (ht : T.get t = some ti) (hu : ti.und = .map kt et) : mapTypes T t = some (kt, et) := by simp only [mapTypes, ht, hu]

/-- A key that is there. -/
theorem lk_some (ok : TyOK P T) {t kt et : TypeId} {ti ki : TI} {k : IntKind} {n : Int} {r j clock : Nat} {l : List (Int × Value × Nat)} {v : Value} {c : Bool} (ht : T.get t = some ti) (hu : ti.und = .map kt et) (hk : T.get kt = some ki) (hku : ki.und = .int k)
    (hr : h.get r = some (.map (mkE k l) clock)) (hi : idxI n l 0 = some (j, v)) : aLookup P T t (.map (some r)) (.int k n) c h = some (bif c then .tuple #[v, .bool true] else v) := by
  simp only [aLookup, mapTypes_mk ht hu, aEntries, hr, keyOk_int ok hk hku, cond_true, aFind_int hk hku, hi]
/-- A key that is not there. -/
theorem lk_none (ok : TyOK P T) {t kt et : TypeId} {ti ki ei : TI} {k : IntKind} {n : Int} {r clock : Nat} {l : List (Int × Value × Nat)} {z : Value} {c : Bool} (ht : T.get t = some ti) (hu : ti.und = .map kt et) (hk : T.get kt = some ki) (hku : ki.und = .int k) (he : T.get et = some ei) (hz : ei.zero = some z) (hf : flat z = true)
    (hr : h.get r = some (.map (mkE k l) clock)) (hi : idxI n l 0 = none) : aLookup P T t (.map (some r)) (.int k n) c h = some (bif c then .tuple #[z, .bool false] else z) := by
  simp only [aLookup, mapTypes_mk ht hu, aEntries, hr, keyOk_int ok hk hku, cond_true, aFind_int hk hku, hi, he, hz, hf]
/-- A new key. -/
theorem mu_new (ok : TyOK P T) {t kt et : TypeId} {ti ki : TI} {k : IntKind} {n : Int} {r clock : Nat} {l : List (Int × Value × Nat)} {v : Value} (ht : T.get t = some ti) (hu : ti.und = .map kt et) (hk : T.get kt = some ki) (hku : ki.und = .int k)
    (hr : h.get r = some (.map (mkE k l) clock)) (hi : idxI n l 0 = none) : aMapUpdate P T t (.map (some r)) (.int k n) v h = some (h.set r (.map (mkE k (l ++ [(n, v, clock)])) (clock + 1))) := by
  simp only [aMapUpdate, mapTypes_mk ht hu, hr, keyOk_int ok hk hku, cond_true, aFind_int hk hku, hi, mkE_append]; rfl
/-- A key that is there gets another value. -/
theorem mu_old (ok : TyOK P T) {t kt et : TypeId} {ti ki : TI} {k : IntKind} {n : Int} {r clock j b : Nat} {l : List (Int × Value × Nat)} {v u : Value} (ht : T.get t = some ti) (hu : ti.und = .map kt et) (hk : T.get kt = some ki) (hku : ki.und = .int k)
    (hr : h.get r = some (.map (mkE k l) clock)) (hi : idxI n l 0 = some (j, u)) (hj : l[j]? = some (n, u, b)) : aMapUpdate P T t (.map (some r)) (.int k n) v h = some (h.set r (.map (mkE k (l.set j (n, v, b))) clock)) := by
  have e1 : (mkE k l)[j]? = some ⟨.int k n, u, b⟩ := by simp [mkE, hj]
  have e2 : mkE k (l.set j (n, v, b)) = (mkE k l).set j ⟨.int k n, v, b⟩ := by simp [mkE, List.map_set]
  have e3 : Instr.sameBits 10000 (.int k n) (.int k n) = true := by simp [Instr.sameBits]
  simp only [aMapUpdate, mapTypes_mk ht hu, hr, keyOk_int ok hk hku, cond_true, aFind_int hk hku, hi, e1, e2, e3]
theorem de_some (ok : TyOK P T) {t kt et : TypeId} {ats : Array TypeId} {ti ki : TI} {k : IntKind} {n : Int} {r j clock : Nat} {l : List (Int × Value × Nat)} {v : Value} (ha : ats.toList.head? = some t) (ht : T.get t = some ti) (hu : ti.und = .map kt et) (hk : T.get kt = some ki) (hku : ki.und = .int k)
    (hr : h.get r = some (.map (mkE k l) clock)) (hi : idxI n l 0 = some (j, v)) : aDelete P T ats (.map (some r)) (.int k n) h = some (h.set r (.map (mkE k (l.eraseIdx j)) clock)) := by
  obtain ⟨ts, hts⟩ : ∃ ts, ats.toList = t :: ts := by
    cases hl : ats.toList with
    | nil => rw [hl] at ha; cases ha
    | cons x ts => rw [hl] at ha; simp at ha; subst ha; exact ⟨ts, rfl⟩
  have e : mkE k (l.eraseIdx j) = (mkE k l).eraseIdx j := by
    have : ∀ (l : List (Int × Value × Nat)) (j : Nat), mkE k (l.eraseIdx j) = (mkE k l).eraseIdx j := by
      intro l
      induction l with
      | nil => intro j; rfl
      | cons x l ih => intro j; cases j with
        | zero => rfl
        | succ j => have := ih j; simp only [mkE, List.eraseIdx_cons_succ, List.map_cons] at this ⊢; rw [this]
    exact this l j
  simp only [aDelete, hts, mapTypes_mk ht hu, hr, keyOk_int ok hk hku, cond_true, aFind_int hk hku, hi, e]
theorem de_none (ok : TyOK P T) {t kt et : TypeId} {ats : Array TypeId} {ti ki : TI} {k : IntKind} {n : Int} {r clock : Nat} {l : List (Int × Value × Nat)} (ha : ats.toList.head? = some t) (ht : T.get t = some ti) (hu : ti.und = .map kt et) (hk : T.get kt = some ki) (hku : ki.und = .int k)
    (hr : h.get r = some (.map (mkE k l) clock)) (hi : idxI n l 0 = none) : aDelete P T ats (.map (some r)) (.int k n) h = some (h.set r (.map (mkE k l) clock)) := by
  obtain ⟨ts, hts⟩ : ∃ ts, ats.toList = t :: ts := by
    cases hl : ats.toList with
    | nil => rw [hl] at ha; cases ha
    | cons x ts => rw [hl] at ha; simp at ha; subst ha; exact ⟨ts, rfl⟩
  simp only [aDelete, hts, mapTypes_mk ht hu, hr, keyOk_int ok hk hku, cond_true, aFind_int hk hku, hi]

variable {ρ : Operand → Option Value} {dst : Option Tmp} {ty : TypeId} {pos : String} {af : Array Edge} {g : Option (Nat × Bool)} {x y z : Operand} {u v w : Value} {t : TypeId} {h' : AHeap}
theorem so_lookup {c : Bool} (hx : ρ x = some u) (hy : ρ y = some w) (hv : aLookup P T t u w c h = some v) : aop P T ⟨dst, .lookup t x y c, ty, pos, af, g⟩ ρ h = some (v, h) := by simp only [aop, hx, hy, hv, keep]
theorem so_mapUpdate (hx : ρ x = some u) (hy : ρ y = some w) (hz : ρ z = some v) (hv : aMapUpdate P T t u w v h = some h') : aop P T ⟨dst, .mapUpdate t x y z, ty, pos, af, g⟩ ρ h = some (.tuple #[], h') := by simp only [aop, hx, hy, hz, hv, unit]
theorem so_insert (hx : ρ x = some u) (hy : ρ y = some w) (hz : ρ z = some v) (hv : aMapUpdate P T t u w v h = some h') : aop P T ⟨dst, .insert t x y z, ty, pos, af, g⟩ ρ h = some (.tuple #[], h') := by simp only [aop, hx, hy, hz, hv, unit]
theorem so_delete {ats : Array TypeId} {xs : Array Operand} (hx : aopnds ρ xs.toList = some [u, w]) (hv : aDelete P T ats u w h = some h') : aop P T ⟨dst, .call ⟨.builtin .delete, xs, ats⟩, ty, pos, af, g⟩ ρ h = some (.tuple #[], h') := by simp only [aop, hx, aBuiltin, hv, unit]
theorem so_makeMap : aop P T ⟨dst, .makeMap t none, ty, pos, af, g⟩ ρ h = some (.map (some h.next), h.new (.map [] 0)) := by simp only [aop, aMakeMap]
theorem so_makeFunc {fn : Fn} {xs ys : Array Operand} {us ws : List Value} (hf : noYield fn = true) (hx : aopnds ρ xs.toList = some us) (hy : aopnds ρ ys.toList = some ws) : aop P T ⟨dst, .makeFunc fn xs ys, ty, pos, af, g⟩ ρ h = some (.func fn us.toArray ws.toArray, h) := by simp only [aop, hx, hy, hf, cond_true]
theorem so_range {r : Value × AHeap} (hx : ρ x = some u) (hv : aRange T t u h = some r) : aop P T ⟨dst, .range t x, ty, pos, af, g⟩ ρ h = some r := by simp only [aop, hx, hv]
theorem so_convert {s d : TypeId} {r : Value × AHeap} (hx : ρ x = some u) (hv : aConv T s d u h = some r) : aop P T ⟨dst, .convert s d x, ty, pos, af, g⟩ ρ h = some r := by simp only [aop, hx, hv]
theorem so_makeInterface {ti : TI} (hx : ρ x = some v) (ht : T.get t = some ti) (hi : isIface ti.und = false) : aop P T ⟨dst, .makeInterface t x, ty, pos, af, g⟩ ρ h = some (.iface t v, h) := by simp only [aop, hx, ht, hi, cond_false]
theorem so_entry (hx : ρ x = some u) (hv : aEntry u h = some v) : aop P T ⟨dst, .entry x, ty, pos, af, g⟩ ρ h = some (v, h) := by simp only [aop, hx, hv, keep]
theorem so_bw {o : Oper} {b b' : Bool} (ho : aop P T o ρ h = some (.bool b, h')) (e : b = b') : aop P T o ρ h = some (.bool b', h') := by rw [ho, e]
end

/-! The next entry of a map. -/
section
variable {P : Program} {T : Tr TI} {cx : Cx} {a : Tr Value} {h : AHeap} {ops : Array Oper} {os : List Oper} {R : Tr Value → AHeap → Prop} {dst : Option Tmp} {ty : TypeId} {pos : String} {af : Array Edge} {g : Option (Nat × Bool)} {x : Operand}
theorem OSuf.next (hg : aguard ops a ⟨dst, .next x false, ty, pos, af, g⟩ = some true) {r m since last clock : Nat} {seen : Array Nat} {es : List AEnt} (hx : aopnd a x = some (.pointer (some ⟨r, 0, none⟩))) (hr : h.get r = some (.mapIter (some m) since seen last)) (hm : h.get m = some (.map es clock))
    (hc : (!seen.isEmpty && !es.isEmpty && es.all (fun e => decide (e.born ≥ last))) = false)
    (t0 : (left es seen).filter (fun e => decide (e.born < since)) = [] → ∃ a1, aput cx.nt a dst (.tuple #[.bool false]) = some a1 ∧ OSuf P cx ops os a1 h R)
    (t1 : ∀ e ∈ left es seen, ∃ a1, aput cx.nt a dst (.tuple #[.bool true, e.key, e.val]) = some a1 ∧ OSuf P cx ops os a1 (h.set r (.mapIter (some m) since (seen.push e.born) clock)) R) :
    OSuf P cx ops (⟨dst, .next x false, ty, pos, af, g⟩ :: os) a h R := by
  refine OSuf.op hg rfl ?_
  intro μ ρ' w c cs hρ st
  have hv := hρ x _ hx
  simp only [execOp]
  rcases next_map (P := P) st hr hm hc hv ty with ⟨h1, h2⟩ | ⟨e, he, h2⟩
  · exact Lands.value h2 (t0 h1)
  · exact Lands.value h2 (t1 e he)
end
end Go.Ab
