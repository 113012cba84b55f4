/-
  Maps with keys of whatever kind; going through a map.
-/
import Derived.Test.YtjenbiohcecfnaaAb34
namespace Go.Ab
set_option linter.unusedSimpArgs false
set_option linter.unusedVariables false

section
variable {κ : Type}
def mkK (enc : κ → Value) (l : List (κ × Value × Nat)) : List AEnt := l.map fun x => ⟨enc x.1, x.2.1, x.2.2⟩
def idxK [DecidableEq κ] (a : κ) : List (κ × Value × Nat) → Nat → Option (Nat × Value)
  | [], _ => none
  | x :: l, i => bif decide (a = x.1) then some (i, x.2.1) else idxK a l (i + 1)
theorem mkK_append (enc : κ → Value) (l m : List (κ × Value × Nat)) : mkK enc (l ++ m) = mkK enc l ++ mkK enc m := List.map_append
theorem idxK_none [DecidableEq κ] {a : κ} : ∀ {l : List (κ × Value × Nat)} {i : Nat}, (∀ x ∈ l, ¬ a = x.1) → idxK a l i = none
  | [], _, _ => rfl
  | x :: l, i, h => by
    simp only [idxK, decide_eq_false (h x List.mem_cons_self), cond_false]
    exact idxK_none fun y hy => h y (List.mem_cons_of_mem _ hy)
theorem idxK_none' [DecidableEq κ] {a : κ} : ∀ {l : List (κ × Value × Nat)} {i : Nat}, idxK a l i = none → ∀ x ∈ l, ¬ a = x.1
  | [], _, _, x, hx => by cases hx
  | y :: l, i, h, x, hx => by
    simp only [idxK] at h
    by_cases hy : a = y.1
    · rw [decide_eq_true hy, cond_true] at h; cases h
    · rw [decide_eq_false hy, cond_false] at h
      cases hx with
      | head => exact hy
      | tail _ hm => exact idxK_none' h x hm
theorem idxK_some [DecidableEq κ] {a : κ} : ∀ {l : List (κ × Value × Nat)} {i j : Nat} {v : Value}, idxK a l i = some (j, v) → ∃ m b, j = i + m ∧ l[m]? = some (a, v, b)
  | [], _, _, _, h => by cases h
  | x :: l, i, j, v, h => by
    simp only [idxK] at h
    by_cases hx : a = x.1
    · rw [decide_eq_true hx, cond_true] at h
      cases h
      exact ⟨0, x.2.2, rfl, by rw [hx]; rfl⟩
    · rw [decide_eq_false hx, cond_false] at h
      obtain ⟨m, b, h1, h2⟩ := idxK_some h
      exact ⟨m + 1, b, by omega, by simpa using h2⟩

/-- Keys of a type. -/
structure KeyOK [DecidableEq κ] (P : Program) (T : Tr TI) (kt : TypeId) (enc : κ → Value) : Prop where
  find : ∀ (a : κ) (l : List (κ × Value × Nat)), aFind P T kt (enc a) (mkK enc l) = some (idxK a l 0)
  ok : ∀ (e : Bool) (a : κ), keyOk P e kt (enc a) = true
  bits : ∀ a : κ, Instr.sameBits 10000 (enc a) (enc a) = true
variable {P : Program} {T : Tr TI} {h : AHeap} {enc : κ → Value}
theorem find_now [DecidableEq κ] {kt : TypeId} {ki : TI} (hk : T.get kt = some ki) (hs : ∀ a b : κ, Instr.sameNow ki.und (enc a) (enc b) = some (decide (a = b))) (a : κ) (l : List (κ × Value × Nat)) : aFind P T kt (enc a) (mkK enc l) = some (idxK a l 0) := by
  have key : ∀ (l : List (κ × Value × Nat)) (i : Nat), aFindNow ki.und (enc a) (mkK enc l) i = some (idxK a l i) := by
    intro l
    induction l with
    | nil => intro i; rfl
    | cons x l ih =>
      intro i
      have ih' := ih (i + 1)
      simp only [mkK] at ih'
      simp only [mkK, List.map_cons, aFindNow, idxK, hs]
      cases decide (a = x.1)
      · simp only [cond_false]; exact ih'
      · rfl
  simp only [aFind, hk, key]
theorem find_ask [DecidableEq κ] {kt : TypeId} {ki : TI} (hk : T.get kt = some ki) (hs : ∀ a b : κ, Instr.sameNow ki.und (enc a) (enc b) = none) (hq : ∀ a b : κ, pureRun P (Op.equal kt (enc a) (enc b)) = some (decide (a = b))) (a : κ) (l : List (κ × Value × Nat)) : aFind P T kt (enc a) (mkK enc l) = some (idxK a l 0) := by
  have key : ∀ (l : List (κ × Value × Nat)) (i : Nat), aFindAsk P kt (enc a) (mkK enc l) i = some (idxK a l i) := by
    intro l
    induction l with
    | nil => intro i; rfl
    | cons x l ih =>
      intro i
      have ih' := ih (i + 1)
      simp only [mkK] at ih'
      simp only [mkK, List.map_cons, aFindAsk, idxK, hq]
      cases decide (a = x.1)
      · simp only [cond_false]; exact ih'
      · rfl
  cases l with
  | nil => simp only [aFind, hk, mkK, List.map_nil, aFindNow, idxK]
  | cons x l =>
    have e : aFindNow ki.und (enc a) (mkK enc (x :: l)) 0 = none := by simp only [mkK, List.map_cons, aFindNow, hs]
    simp only [aFind, hk, e, key]

variable {t kt et : TypeId} {ti : TI} {a : κ} {r j clock : Nat} {l : List (κ × Value × Nat)} {v u : Value}
theorem kl_some [DecidableEq κ] (K : KeyOK P T kt enc) {c : Bool} (ht : T.get t = some ti) (hu : ti.und = .map kt et) (hr : h.get r = some (.map (mkK enc l) clock)) (hi : idxK a l 0 = some (j, v)) :
    aLookup P T t (.map (some r)) (enc a) c h = some (bif c then .tuple #[v, .bool true] else v) := by
  simp only [aLookup, mapTypes_mk ht hu, aEntries, hr, K.ok, cond_true, K.find, hi]
theorem kl_none [DecidableEq κ] (K : KeyOK P T kt enc) {c : Bool} {ei : TI} {z : Value} (ht : T.get t = some ti) (hu : ti.und = .map kt et) (he : T.get et = some ei) (hz : ei.zero = some z) (hf : flat z = true) (hr : h.get r = some (.map (mkK enc l) clock)) (hi : idxK a l 0 = none) :
    aLookup P T t (.map (some r)) (enc a) c h = some (bif c then .tuple #[z, .bool false] else z) := by
  simp only [aLookup, mapTypes_mk ht hu, aEntries, hr, K.ok, cond_true, K.find, hi, he, hz, hf]
theorem ku_new [DecidableEq κ] (K : KeyOK P T kt enc) (ht : T.get t = some ti) (hu : ti.und = .map kt et) (hr : h.get r = some (.map (mkK enc l) clock)) (hi : idxK a l 0 = none) :
    aMapUpdate P T t (.map (some r)) (enc a) v h = some (h.set r (.map (mkK enc (l ++ [(a, v, clock)])) (clock + 1))) := by
  simp only [aMapUpdate, mapTypes_mk ht hu, hr, K.ok, cond_true, K.find, hi, mkK_append]; rfl
theorem ku_old [DecidableEq κ] (K : KeyOK P T kt enc) {b : Nat} (ht : T.get t = some ti) (hu : ti.und = .map kt et) (hr : h.get r = some (.map (mkK enc l) clock)) (hi : idxK a l 0 = some (j, u)) (hj : l[j]? = some (a, u, b)) :
    aMapUpdate P T t (.map (some r)) (enc a) v h = some (h.set r (.map (mkK enc (l.set j (a, v, b))) clock)) := by
  have e1 : (mkK enc l)[j]? = some ⟨enc a, u, b⟩ := by simp [mkK, hj]
  have e2 : mkK enc (l.set j (a, v, b)) = (mkK enc l).set j ⟨enc a, v, b⟩ := by simp [mkK, List.map_set]
  simp only [aMapUpdate, mapTypes_mk ht hu, hr, K.ok, cond_true, K.find, hi, e1, e2, K.bits]
theorem mkK_erase (enc : κ → Value) : ∀ (l : List (κ × Value × Nat)) (j : Nat), mkK enc (l.eraseIdx j) = (mkK enc l).eraseIdx j
  | [], j => rfl
  | x :: l, 0 => rfl
  | x :: l, j + 1 => by have := mkK_erase enc l j; simp only [mkK, List.eraseIdx_cons_succ, List.map_cons] at this ⊢; rw [this]
theorem kd_some [DecidableEq κ] (K : KeyOK P T kt enc) {ats : Array TypeId} (ha : ats.toList.head? = some t) (ht : T.get t = some ti) (hu : ti.und = .map kt et) (hr : h.get r = some (.map (mkK enc l) clock)) (hi : idxK a l 0 = some (j, v)) :
    aDelete P T ats (.map (some r)) (enc a) h = some (h.set r (.map (mkK enc (l.eraseIdx j)) clock)) := by
  obtain ⟨ts, hts⟩ : ∃ ts, ats.toList = t :: ts := by
    cases hl : ats.toList with
    | nil => rw [hl] at ha; cases ha
    | cons x ts => rw [hl] at ha; simp at ha; subst ha; exact ⟨ts, rfl⟩
  simp only [aDelete, hts, mapTypes_mk ht hu, hr, K.ok, cond_true, K.find, hi, mkK_erase]
theorem kd_none [DecidableEq κ] (K : KeyOK P T kt enc) {ats : Array TypeId} (ha : ats.toList.head? = some t) (ht : T.get t = some ti) (hu : ti.und = .map kt et) (hr : h.get r = some (.map (mkK enc l) clock)) (hi : idxK a l 0 = none) :
    aDelete P T ats (.map (some r)) (enc a) h = some (h.set r (.map (mkK enc l) clock)) := by
  obtain ⟨ts, hts⟩ : ∃ ts, ats.toList = t :: ts := by
    cases hl : ats.toList with
    | nil => rw [hl] at ha; cases ha
    | cons x ts => rw [hl] at ha; simp at ha; subst ha; exact ⟨ts, rfl⟩
  simp only [aDelete, hts, mapTypes_mk ht hu, hr, K.ok, cond_true, K.find, hi]
theorem len_map {ats : Array TypeId} {es : List AEnt} (ha : ats.toList.head? = some t) (ht : T.get t = some ti) (hu : ti.und = .map kt et) (hr : h.get r = some (.map es clock)) : aLenOf T ats (.map (some r)) h = some (.int .i64 es.length) := by
  obtain ⟨ts, hts⟩ : ∃ ts, ats.toList = t :: ts := by
    cases hl : ats.toList with
    | nil => rw [hl] at ha; cases ha
    | cons x ts => rw [hl] at ha; simp at ha; subst ha; exact ⟨ts, rfl⟩
  simp only [aLenOf, hts, ht, hu, hr]

/-! Going through. -/
theorem it_cond {seen : Array Nat} (hlt : ∀ x ∈ l, x.2.2 < clock) : (!seen.isEmpty && !(mkK enc l).isEmpty && (mkK enc l).all (fun e => decide (e.born ≥ clock))) = false := by
  cases l with
  | nil => simp [mkK]
  | cons x l =>
    have := hlt x List.mem_cons_self
    have e1 : decide (x.2.2 ≥ clock) = false := by simp; omega
    simp [mkK, e1]
theorem it_left {seen : Array Nat} {e : AEnt} (he : e ∈ left (mkK enc l) seen) : ∃ x ∈ l, x.2.2 ∉ seen.toList ∧ e = ⟨enc x.1, x.2.1, x.2.2⟩ := by
  simp only [left, mkK, List.mem_filter, List.mem_map] at he
  obtain ⟨⟨x, hx, rfl⟩, h9⟩ := he
  exact ⟨x, hx, by simpa using h9, rfl⟩
theorem it_done {seen : Array Nat} {since : Nat} (he : (left (mkK enc l) seen).filter (fun e => decide (e.born < since)) = []) {x : κ × Value × Nat} (hx : x ∈ l) (hs : x.2.2 < since) : x.2.2 ∈ seen.toList := by
  refine Classical.byContradiction fun hc => ?_
  refine List.filter_eq_nil_iff.1 he ⟨enc x.1, x.2.1, x.2.2⟩ ?_ (by simpa using hs)
  simp only [left, List.mem_filter]
  exact ⟨List.mem_map.2 ⟨x, hx, rfl⟩, by simpa using hc⟩
theorem it_find : ∀ {l : List (κ × Value × Nat)}, (l.map (·.2.2)).Nodup → ∀ {x : κ × Value × Nat}, x ∈ l → (mkK enc l).find? (fun e => e.born == x.2.2) = some ⟨enc x.1, x.2.1, x.2.2⟩
  | y :: l, hn, x, hx => by
    simp only [List.map_cons, List.nodup_cons] at hn
    simp only [mkK, List.map_cons, List.find?_cons]
    cases hx with
    | head => simp
    | tail _ hm =>
      have : ¬ y.2.2 = x.2.2 := fun e => hn.1 (e ▸ List.mem_map.2 ⟨x, hm, rfl⟩)
      have e1 : (y.2.2 == x.2.2) = false := by simpa using this
      rw [e1]; exact it_find hn.2 hm
theorem nodup_len : ∀ {a b : List Nat}, a.Nodup → (∀ x ∈ a, x ∈ b) → a.length ≤ b.length
  | [], b, _, _ => Nat.zero_le _
  | x :: a, b, hn, hs => by
    have hx := hs x List.mem_cons_self
    have hn' := List.nodup_cons.1 hn
    have := nodup_len (a := a) (b := b.erase x) hn'.2 (fun y hy => (List.mem_erase_of_ne (fun e => hn'.1 (by rw [← e]; exact hy))).2 (hs y (List.mem_cons_of_mem _ hy)))
    rw [List.length_erase_of_mem hx] at this
    have : 0 < b.length := List.length_pos_of_mem hx
    simp; omega
theorem seen_lt {s b : List Nat} (hn : s.Nodup) (hs : ∀ x ∈ s, x ∈ b) {x : Nat} (hx : x ∈ b) (hnx : x ∉ s) : s.length < b.length := by
  have := nodup_len (a := x :: s) (b := b) (List.nodup_cons.2 ⟨hnx, hn⟩) (fun y hy => by cases hy with | head => exact hx | tail _ h9 => exact hs y h9)
  simp at this; omega
theorem seen_push {s : Array Nat} (hn : s.toList.Nodup) {x : Nat} (hx : x ∉ s.toList) : (s.push x).toList.Nodup := by
  rw [Array.toList_push]
  exact List.nodup_append.2 ⟨hn, by simp, fun a ha b hb => by simp at hb; subst hb; rintro rfl; exact hx ha⟩
theorem mem_push {s : Array Nat} {x y : Nat} : y ∈ (s.push x).toList ↔ y ∈ s.toList ∨ y = x := by simp
theorem idxK_mem [DecidableEq κ] : ∀ {l : List (κ × Value × Nat)} {k : Nat}, (l.map (·.1)).Nodup → ∀ {x : κ × Value × Nat}, x ∈ l → ∃ j, idxK x.1 l k = some (k + j, x.2.1) ∧ l[j]? = some x
  | y :: l, k, hn, x, hx => by
    simp only [List.map_cons, List.nodup_cons] at hn
    simp only [idxK]
    cases hx with
    | head => exact ⟨0, by simp, by simp⟩
    | tail _ hm =>
      have : ¬ x.1 = y.1 := fun e => hn.1 (e ▸ List.mem_map.2 ⟨x, hm, rfl⟩)
      obtain ⟨j, h1, h2⟩ := idxK_mem (k := k + 1) hn.2 hm
      exact ⟨j + 1, by rw [decide_eq_false this, cond_false, h1, Nat.add_assoc, Nat.add_comm 1 j], by simpa using h2⟩
theorem erase_filter [DecidableEq κ] : ∀ {l : List (κ × Value × Nat)} {j : Nat} {x : κ × Value × Nat}, (l.map (·.1)).Nodup → l[j]? = some x → l.eraseIdx j = l.filter (fun y => !decide (y.1 = x.1))
  | y :: l, 0, x, hn, hj => by
    simp only [List.map_cons, List.nodup_cons] at hn
    simp at hj; subst hj
    rw [List.eraseIdx_cons_zero, List.filter_cons, if_neg (by simp)]
    exact (List.filter_eq_self.2 fun z hz => by simp; exact fun e => hn.1 (e ▸ List.mem_map.2 ⟨z, hz, rfl⟩)).symm
  | y :: l, j + 1, x, hn, hj => by
    simp only [List.map_cons, List.nodup_cons] at hn
    simp at hj
    have : ¬ y.1 = x.1 := fun e => hn.1 (e ▸ List.mem_map.2 ⟨x, List.mem_of_getElem? hj, rfl⟩)
    rw [List.eraseIdx_cons_succ, List.filter_cons, if_pos (by simpa using this), erase_filter hn.2 hj]
end

/-! Numbers as keys. -/
theorem key_int {P : Program} {T : Tr TI} (ok : TyOK P T) {kt : TypeId} {ki : TI} {k : IntKind} (hk : T.get kt = some ki) (hu : ki.und = .int k) : KeyOK P T kt (Value.int k) :=
  ⟨find_now hk fun a b => by rw [hu]; simp only [Instr.sameNow, if_true]; congr 1, fun e a => keyOk_int ok hk hu, fun a => by simp [Instr.sameBits]⟩
end Go.Ab
