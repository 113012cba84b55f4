/-
  Maps with keys of whatever kind; going through a map.
-/
import Derived.Test.YtebheelmgcggmaaAb34
namespace Go.Ab
set_option linter.unusedSimpArgs false
set_option linter.unusedVariables false
section
variable {κ : Type}
def mkK (enc : κ → Value) (l : List (κ × Value × Nat)) : List AEnt := l.map fun x => ⟨enc x.1, x.2.1, x.2.2⟩
def idxK [DecidableEq κ] (a : κ) : List (κ × Value × Nat) → Nat → Option (Nat × Value)
  | [], _ => none
  | x :: l, i => bif decide (a = x.1) then some (i, x.2.1) else idxK a l (i + 1)
theorem mkK_append (enc : κ → Value) (l m : List (κ × Value × Nat)) : mkK enc (l ++ m) = mkK enc l ++ mkK enc m := List.map_append
theorem idxK_none' [DecidableEq κ] {a : κ} : ∀ {l : List (κ × Value × Nat)} {i : Nat}, idxK a l i = none → ∀ x ∈ l, ¬ a = x.1
  | [], _, _, x, hx => by cases hx
  | y :: l, i, h, x, hx => by
    simp only [idxK] at h
    by_cases hy : a = y.1
    · rw [decide_eq_true hy, cond_true] at h; cases h
    · rw [decide_eq_false hy, cond_false] at h
      cases hx with
      | head => exact hy
      | tail _ hm => exact idxK_none' h x hm
theorem idxK_some [DecidableEq κ] {a : κ} : ∀ {l : List (κ × Value × Nat)} {i j : Nat} {v : Value}, idxK a l i = some (j, v) → ∃ m b, j = i + m ∧ l[m]? = some (a, v, b)
  | [], _, _, _, h => by cases h
  | x :: l, i, j, v, h => by
    simp only [idxK] at h
    by_cases hx : a = x.1
    · rw [decide_eq_true hx, cond_true] at h
      cases h
      exact ⟨0, x.2.2, rfl, by rw [hx]; rfl⟩
    · rw [decide_eq_false hx, cond_false] at h
      obtain ⟨m, b, h1, h2⟩ := idxK_some h
      exact ⟨m + 1, b, by omega, by simpa using h2⟩
structure KeyOK [DecidableEq κ] (P : Program) (T : Tr TI) (kt : TypeId) (enc : κ → Value) : Prop where
  find : ∀ (a : κ) (l : List (κ × Value × Nat)), aFind P T kt (enc a) (mkK enc l) = some (idxK a l 0)
  ok : ∀ (e : Bool) (a : κ), keyOk P e kt (enc a) = true
  bits : ∀ a : κ, Instr.sameBits 10000 (enc a) (enc a) = true
variable {P : Program} {T : Tr TI} {h : AHeap} {enc : κ → Value}
theorem find_now [DecidableEq κ] {kt : TypeId} {ki : TI} (hk : T.get kt = some ki) (hs : ∀ a b : κ, Instr.sameNow ki.und (enc a) (enc b) = some (decide (a = b))) (a : κ) (l : List (κ × Value × Nat)) : aFind P T kt (enc a) (mkK enc l) = some (idxK a l 0) := by
  have key : ∀ (l : List (κ × Value × Nat)) (i : Nat), aFindNow ki.und (enc a) (mkK enc l) i = some (idxK a l i) := by
    intro l
    induction l with
    | nil => intro i; rfl
    | cons x l ih =>
      intro i
      have ih' := ih (i + 1)
      simp only [mkK] at ih'
      simp only [mkK, List.map_cons, aFindNow, idxK, hs]
      cases decide (a = x.1)
      · simp only [cond_false]; exact ih'
      · rfl
  simp only [aFind, hk, key]
variable {t kt et : TypeId} {ti : TI} {a : κ} {r j clock : Nat} {l : List (κ × Value × Nat)} {v u : Value}
theorem kl_some [DecidableEq κ] (K : KeyOK P T kt enc) {c : Bool} (ht : T.get t = some ti) (hu : ti.und = .map kt et) (hr : h.get r = some (.map (mkK enc l) clock)) (hi : idxK a l 0 = some (j, v)) :
    aLookup P T t (.map (some r)) (enc a) c h = some (bif c then .tuple #[v, .bool true] else v) := by
  simp only [aLookup, mapTypes_mk ht hu, aEntries, hr, K.ok, cond_true, K.find, hi]
theorem kl_none [DecidableEq κ] (K : KeyOK P T kt enc) {c : Bool} {ei : TI} {z : Value} (ht : T.get t = some ti) (hu : ti.und = .map kt et) (he : T.get et = some ei) (hz : ei.zero = some z) (hf : flat z = true) (hr : h.get r = some (.map (mkK enc l) clock)) (hi : idxK a l 0 = none) :
    aLookup P T t (.map (some r)) (enc a) c h = some (bif c then .tuple #[z, .bool false] else z) := by
  simp only [aLookup, mapTypes_mk ht hu, aEntries, hr, K.ok, cond_true, K.find, hi, he, hz, hf]
theorem ku_new [DecidableEq κ] (K : KeyOK P T kt enc) (ht : T.get t = some ti) (hu : ti.und = .map kt et) (hr : h.get r = some (.map (mkK enc l) clock)) (hi : idxK a l 0 = none) :
    aMapUpdate P T t (.map (some r)) (enc a) v h = some (h.set r (.map (mkK enc (l ++ [(a, v, clock)])) (clock + 1))) := by
  simp only [aMapUpdate, mapTypes_mk ht hu, hr, K.ok, cond_true, K.find, hi, mkK_append]; rfl
theorem ku_old [DecidableEq κ] (K : KeyOK P T kt enc) {b : Nat} (ht : T.get t = some ti) (hu : ti.und = .map kt et) (hr : h.get r = some (.map (mkK enc l) clock)) (hi : idxK a l 0 = some (j, u)) (hj : l[j]? = some (a, u, b)) :
    aMapUpdate P T t (.map (some r)) (enc a) v h = some (h.set r (.map (mkK enc (l.set j (a, v, b))) clock)) := by
  have e1 : (mkK enc l)[j]? = some ⟨enc a, u, b⟩ := by simp [mkK, hj]
  have e2 : mkK enc (l.set j (a, v, b)) = (mkK enc l).set j ⟨enc a, v, b⟩ := by simp [mkK, List.map_set]
  simp only [aMapUpdate, mapTypes_mk ht hu, hr, K.ok, cond_true, K.find, hi, e1, e2, K.bits]
end
end Go.Ab
