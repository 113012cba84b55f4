/-
  A table's memory when one of its chains changes; what a table holds.
-/
import Derived.Test.YtldhcjfhlfgleaaTableB
namespace Go.Proofs.Ytldhcjfhlfgleaa
open Go.Ab
set_option linter.unusedSimpArgs false
set_option linter.unusedVariables false
set_option maxRecDepth 10000
set_option maxHeartbeats 4000000

theorem ch_split {α : Type} {l : List α} {i : Nat} {c : α} (h : l[i]? = some c) : ∃ A B, l = A ++ c :: B ∧ A.length = i ∧ ∀ c', l.set i c' = A ++ c' :: B := by
  obtain ⟨hi, hc⟩ := List.getElem?_eq_some_iff.1 h
  refine ⟨l.take i, l.drop (i + 1), ?_, by simp; omega, fun c' => ?_⟩
  · rw [← hc]; simp
  · rw [List.set_eq_take_append_cons_drop, if_pos hi]
/-- All links, when chain i is c'. -/
theorem all_split {M : TM} {i : Nat} {c : List Lk} (h : M.ch[i]? = some c) : ∃ P Q, M.all = P ++ (c ++ Q) ∧ (∀ c', (M.ch.set i c').flatten = P ++ (c' ++ Q)) ∧ (∀ l, l ∈ P ++ Q → ∃ j d, ¬ j = i ∧ M.ch[j]? = some d ∧ l ∈ d) ∧ ∀ j d, ¬ j = i → M.ch[j]? = some d → ∀ l ∈ d, l ∈ P ++ Q := by
  obtain ⟨A, B, e1, e2, e3⟩ := ch_split h
  refine ⟨A.flatten, B.flatten, by rw [TM.all, e1]; simp, fun c' => by rw [e3]; simp, fun l hl => ?_, fun j d hj hd l hl => ?_⟩
  · rcases List.mem_append.1 hl with h9 | h9
    · obtain ⟨d, hd, hm⟩ := List.mem_flatten.1 h9
      obtain ⟨j, hj⟩ := List.getElem?_of_mem hd
      have hjl := (List.getElem?_eq_some_iff.1 hj).1
      exact ⟨j, d, by omega, by rw [e1, List.getElem?_append_left hjl]; exact hj, hm⟩
    · obtain ⟨d, hd, hm⟩ := List.mem_flatten.1 h9
      obtain ⟨j, hj⟩ := List.getElem?_of_mem hd
      refine ⟨A.length + (j + 1), d, by omega, ?_, hm⟩
      rw [e1, List.getElem?_append_right (by omega)]
      have : A.length + (j + 1) - A.length = j + 1 := by omega
      rw [this, List.getElem?_cons_succ]; exact hj
  · rw [e1] at hd
    by_cases hlt : j < A.length
    · rw [List.getElem?_append_left hlt] at hd
      exact List.mem_append_left _ (List.mem_flatten.2 ⟨d, List.mem_of_getElem? hd, hl⟩)
    · rw [List.getElem?_append_right (by omega)] at hd
      obtain ⟨k, hk⟩ : ∃ k, j - A.length = k + 1 := ⟨j - A.length - 1, by omega⟩
      rw [hk, List.getElem?_cons_succ] at hd
      exact List.mem_append_right _ (List.mem_flatten.2 ⟨d, List.mem_of_getElem? hd, hl⟩)
def TM.put (M : TM) (i : Nat) (c : List Lk) : TM := { M with ch := M.ch.set i c }
theorem avo_mono {h h' : AHeap} {V : List Vr} {v : Value} (a : AVo h V v) (hn : h.next ≤ h'.next) (hk : ∀ y w, y < h.next → h.get y = some (.cells w 5) → h'.get y = h.get y) : AVo h' V v := by
  cases a with
  | nil => exact .nil
  | emp hy => exact .emp (by omega)
  | some hne hy hg => exact .some hne (by omega) (by rw [hk _ _ hy hg]; exact hg)

/-- A chain changes. -/
theorem TA.put {h h' : AHeap} {r : Nat} {fl fl' : Int} {M : TM} (hA : TA h r fl M) {i : Nat} {c c' : List Lk} (hc : M.ch[i]? = some c) (hn : h.next ≤ h'.next)
    (hrow : h'.get r = some (.cells [.slice (some ⟨M.s, 0, none⟩) M.n (M.n + 1), U64 fl', I64 (M.put i c').all.length] 1))
    (hs : h'.get M.s = some (.cells ((M.ch.map headV).set i (headV c')) 1)) (hchn : Chn h' c')
    (hk : ∀ z, z < h.next → ¬ z = r → ¬ z = M.s → (∀ l ∈ c, ¬ z = l.row) → h'.get z = h.get z)
    (hrows : ∀ l ∈ c', (∃ m ∈ c, m.row = l.row) ∨ h.next ≤ l.row) (hnd : (c'.map Lk.row).Nodup) (hkd : (c'.map Lk.key).Nodup) (hix : ∀ l ∈ c', ix l.key M.n = i)
    (hav : ∀ l ∈ c', AVo h' l.V l.vers) : TA h' r fl' (M.put i c') := by
  obtain ⟨P, Q, e1, e2, e3, e4⟩ := all_split hc
  have hall : (M.put i c').all = P ++ (c' ++ Q) := e2 c'
  have nd := hA.nd
  have kd := hA.keys
  simp only [TM.rows, e1, List.map_append, List.nodup_cons, List.nodup_append, List.mem_cons, List.mem_append, not_or] at nd
  simp only [e1, List.map_append, List.nodup_append, List.mem_append] at kd
  have hlt : ∀ l ∈ M.all, l.row < h.next := fun l hl => by
    obtain ⟨d, hd, hm⟩ := List.mem_flatten.1 hl
    exact (hA.chn d hd).lt l hm
  have hold : ∀ l, l ∈ P ++ Q → h'.get l.row = h.get l.row := fun l hl => by
    have hla : l ∈ M.all := by rw [e1]; simp at hl ⊢; rcases hl with h9 | h9 <;> simp [h9]
    have hmr : l.row ∈ P.map Lk.row ++ Q.map Lk.row := by rw [← List.map_append]; exact List.mem_map.2 ⟨l, hl, rfl⟩
    have hmr := List.mem_append.1 hmr
    refine hk _ (hlt l hla) (fun e => ?_) (fun e => ?_) (fun m hm e => ?_)
    · rcases hmr with h9 | h9
      · exact nd.1.2.1 (by rw [← e]; exact h9)
      · exact nd.1.2.2.2 (by rw [← e]; exact h9)
    · rcases hmr with h9 | h9
      · exact nd.2.1.1 (by rw [← e]; exact h9)
      · exact nd.2.1.2.2 (by rw [← e]; exact h9)
    · have hm' : m.row ∈ c.map Lk.row := List.mem_map.2 ⟨m, hm, rfl⟩
      rcases hmr with h9 | h9
      · exact nd.2.2.2.2 _ h9 m.row (.inl hm') e
      · exact nd.2.2.2.1.2.2 _ hm' _ h9 e.symm
  refine ⟨Nat.lt_of_lt_of_le hA.lt hn, Nat.lt_of_lt_of_le hA.slt hn, hA.pos, hA.small, by rw [TM.put]; simp [hA.len], hrow, ?_, ?_, hA.rs, ?_, ?_, ?_, ?_⟩
  · rw [TM.put]; simp only [List.map_set]; exact hs
  · intro d hd
    rw [TM.put] at hd
    obtain ⟨j, hj⟩ := List.getElem?_of_mem hd
    simp only [List.getElem?_set] at hj
    split at hj
    · split at hj
      · cases hj; exact hchn
      · cases hj
    · rename_i hij
      have hdm := List.mem_of_getElem? hj
      exact (hA.chn d hdm).mono hn fun l hl => hold l (e4 j d (fun e => hij e.symm) hj l hl)
  · have hnew : ∀ l ∈ c', ¬ l.row = r ∧ ¬ l.row = M.s ∧ ∀ x ∈ P ++ Q, ¬ x.row = l.row := fun l hl => by
      rcases hrows l hl with ⟨m, hm, hml⟩ | h9
      · have hm' : m.row ∈ c.map Lk.row := List.mem_map.2 ⟨m, hm, rfl⟩
        rw [← hml]
        refine ⟨fun e => nd.1.2.2.1 (by rw [← e]; exact hm'), fun e => nd.2.1.2.1 (by rw [← e]; exact hm'), fun x hx e => ?_⟩
        rcases List.mem_append.1 hx with h9 | h9
        · exact nd.2.2.2.2 _ (List.mem_map.2 ⟨x, h9, rfl⟩) m.row (.inl hm') e
        · exact nd.2.2.2.1.2.2 _ hm' _ (List.mem_map.2 ⟨x, h9, rfl⟩) e.symm
      · have h1 := hA.lt
        have h2 := hA.slt
        refine ⟨by omega, by omega, fun x hx e => ?_⟩
        have := hlt x (by rw [e1]; simp at hx ⊢; rcases hx with h8 | h8 <;> simp [h8])
        omega
    rw [TM.rows, hall]
    simp only [List.map_append, List.nodup_cons, List.nodup_append, List.mem_cons, List.mem_append, not_or]
    refine ⟨⟨nd.1.1, nd.1.2.1, fun hm => ?_, nd.1.2.2.2⟩, ⟨nd.2.1.1, fun hm => ?_, nd.2.1.2.2⟩, nd.2.2.1, ⟨hnd, nd.2.2.2.1.2.1, fun a ha b hb => ?_⟩, fun a ha b hb => ?_⟩
    · obtain ⟨l, hl, e⟩ := List.mem_map.1 hm; exact (hnew l hl).1 e
    · obtain ⟨l, hl, e⟩ := List.mem_map.1 hm; exact (hnew l hl).2.1 e
    · obtain ⟨l, hl, rfl⟩ := List.mem_map.1 ha
      obtain ⟨x, hx, rfl⟩ := List.mem_map.1 hb
      exact fun e => (hnew l hl).2.2 x (List.mem_append_right _ hx) e.symm
    · obtain ⟨x, hx, rfl⟩ := List.mem_map.1 ha
      rcases hb with hb | hb
      · obtain ⟨l, hl, rfl⟩ := List.mem_map.1 hb
        exact fun e => (hnew l hl).2.2 x (List.mem_append_left _ hx) e
      · exact nd.2.2.2.2 _ ha b (.inr hb)
  · intro l hl
    rw [hall] at hl
    simp only [List.mem_append] at hl
    have old : l ∈ P ++ Q → AVo h' l.V l.vers := fun h9 => by
      have hla : l ∈ M.all := by rw [e1]; simp at h9 ⊢; rcases h9 with h8 | h8 <;> simp [h8]
      refine avo_mono (hA.av l hla) hn fun y w hy hg => hk y hy (fun e => ?_) (fun e => ?_) fun m hm e => ?_
      · subst e; rw [hA.row] at hg; cases hg
      · subst e; rw [hA.srow] at hg; cases hg
      · subst e
        have hcm : Chn h c := hA.chn c (List.mem_of_getElem? hc)
        obtain ⟨pre, post, rfl⟩ := List.append_of_mem hm
        obtain ⟨rest, hr⟩ := chn_get hcm
        rw [hr] at hg; cases hg
    rcases hl with h9 | h9 | h9
    · exact old (List.mem_append_left _ h9)
    · exact hav l h9
    · exact old (List.mem_append_right _ h9)
  · intro j d hd l hl
    rw [TM.put] at hd
    simp only [List.getElem?_set] at hd
    split at hd
    · split at hd
      · rename_i hij _; cases hd; subst hij; exact hix l hl
      · cases hd
    · exact hA.hash j d hd l hl
  · have hxx : ∀ x ∈ P ++ Q, ∀ l ∈ c', ¬ x.key = l.key := fun x hx l hl e => by
      obtain ⟨j, d, hj, hd, hm⟩ := e3 x hx
      have h1 := hA.hash j d hd x hm
      rw [e, hix l hl] at h1
      exact hj h1.symm
    rw [hall]
    simp only [List.map_append, List.nodup_append, List.mem_append]
    refine ⟨kd.1, ⟨hkd, kd.2.1.2.1, fun a ha b hb => ?_⟩, fun a ha b hb => ?_⟩
    · obtain ⟨l, hl, rfl⟩ := List.mem_map.1 ha
      obtain ⟨x, hx, rfl⟩ := List.mem_map.1 hb
      exact fun e => hxx x (List.mem_append_right _ hx) l hl e.symm
    · obtain ⟨x, hx, rfl⟩ := List.mem_map.1 ha
      rcases hb with hb | hb
      · obtain ⟨l, hl, rfl⟩ := List.mem_map.1 hb
        exact hxx x (List.mem_append_left _ hx) l hl
      · exact kd.2.2 _ ha b (.inr hb)

/-! What a table holds. -/
structure Rec where
  key : List UInt8
  rts : Int
  here : Bool
  V : List Vr
def Lk.rc (l : Lk) : Rec := ⟨l.key, l.rts, l.here, l.V⟩
/-- A table holds some rows. -/
structure TB (h : AHeap) (r : Nat) (fl : Int) (M : TM) (A : List Rec) : Prop where
  ta : TA h r fl M
  perm : (M.all.map Lk.rc).Perm A
theorem TB.nodup {h : AHeap} {r : Nat} {fl : Int} {M : TM} {A : List Rec} (t : TB h r fl M A) : (A.map Rec.key).Nodup := by
  refine ((t.perm.map Rec.key).nodup_iff).1 ?_
  rw [List.map_map]; exact t.ta.keys
/-- Where a key is. -/
structure Site (M : TM) (k : List UInt8) (c pre : List Lk) (l : Lk) (post : List Lk) : Prop where
  at_ : M.ch[ix k M.n]? = some c
  split : c = pre ++ l :: post
  pre : ∀ x ∈ pre, ¬ x.key = k
  key : l.key = k
theorem site {h : AHeap} {r : Nat} {fl : Int} {M : TM} (hA : TA h r fl M) (k : List UInt8) : (∀ l ∈ M.all, ¬ l.key = k) ∨ ∃ c pre l post, Site M k c pre l post := by
  by_cases hn : ∀ l ∈ M.all, ¬ l.key = k
  · exact .inl hn
  · refine .inr ?_
    have first : ∀ c : List Lk, (∃ l ∈ c, l.key = k) → ∃ pre l post, c = pre ++ l :: post ∧ (∀ x ∈ pre, ¬ x.key = k) ∧ l.key = k := by
      intro c
      induction c with
      | nil => rintro ⟨l, hl, _⟩; cases hl
      | cons x c ih =>
        rintro ⟨l, hl, e⟩
        by_cases hx : x.key = k
        · exact ⟨[], x, c, rfl, fun _ h => (List.not_mem_nil h).elim, hx⟩
        · cases hl with
          | head => exact (hx e).elim
          | tail _ hm =>
            obtain ⟨p, l', q, e1, e2, e3⟩ := ih ⟨l, hm, e⟩
            refine ⟨x :: p, l', q, by rw [e1]; rfl, fun y hy => ?_, e3⟩
            cases hy with
            | head => exact hx
            | tail _ h9 => exact e2 y h9
    obtain ⟨l, hl, he⟩ : ∃ l ∈ M.all, l.key = k := Classical.byContradiction fun h9 => hn fun l hl e => h9 ⟨l, hl, e⟩
    obtain ⟨c, hc, hm⟩ := List.mem_flatten.1 hl
    obtain ⟨i, hi⟩ := List.getElem?_of_mem hc
    have := hA.hash i c hi l hm
    rw [he] at this
    subst this
    obtain ⟨p, l', q, e1, e2, e3⟩ := first c ⟨l, hm, he⟩
    exact ⟨c, p, l', q, hi, e1, e2, e3⟩
/-- A key's row, by what a table holds. -/
def getR (k : List UInt8) (A : List Rec) : Option Rec := A.find? fun x => decide (x.key = k)
theorem getR_none {h : AHeap} {r : Nat} {fl : Int} {M : TM} {A : List Rec} (t : TB h r fl M A) {k : List UInt8} (hn : ∀ l ∈ M.all, ¬ l.key = k) : getR k A = none := by
  refine List.find?_eq_none.2 fun x hx => ?_
  obtain ⟨l, hl, rfl⟩ := List.mem_map.1 (t.perm.mem_iff.2 hx)
  simp only [decide_eq_true_eq]; exact hn l hl
theorem find_nodup {k : List UInt8} {x : Rec} : ∀ {A : List Rec}, (A.map Rec.key).Nodup → x ∈ A → x.key = k → getR k A = some x
  | y :: A, hn, hx, hk => by
    simp only [List.map_cons, List.nodup_cons] at hn
    cases hx with
    | head => simp [getR, hk]
    | tail _ hm =>
      have : ¬ y.key = k := fun e => hn.1 (by rw [e, ← hk]; exact List.mem_map.2 ⟨x, hm, rfl⟩)
      have ih := find_nodup hn.2 hm hk
      rw [getR] at ih
      rw [getR, List.find?_cons_of_neg (by simpa using this)]; exact ih
theorem getR_some {h : AHeap} {r : Nat} {fl : Int} {M : TM} {A : List Rec} (t : TB h r fl M A) {k : List UInt8} {c pre post : List Lk} {l : Lk} (hs : Site M k c pre l post) : getR k A = some l.rc := by
  refine find_nodup t.nodup (t.perm.mem_iff.1 (List.mem_map.2 ⟨l, ?_, rfl⟩)) hs.key
  exact List.mem_flatten.2 ⟨c, List.mem_of_getElem? hs.at_, by rw [hs.split]; simp⟩
/-- What is set, forgotten. -/
def setR (x : Rec) (A : List Rec) : List Rec := match getR x.key A with
  | some _ => A.map fun y => if y.key = x.key then x else y
  | none => x :: A
def delR (k : List UInt8) (A : List Rec) : List Rec := A.filter fun y => !decide (y.key = k)
theorem map_ne {x : Rec} : ∀ {A : List Rec}, (∀ y ∈ A, ¬ y.key = x.key) → (A.map fun y => if y.key = x.key then x else y) = A
  | [], _ => rfl
  | y :: A, h => by rw [List.map_cons, if_neg (h y List.mem_cons_self), map_ne fun z hz => h z (List.mem_cons_of_mem _ hz)]
theorem perm_mid {α β : Type} (f : α → β) (P Q : List α) (p q : List α) (l : α) : ((P ++ ((p ++ l :: q) ++ Q)).map f).Perm (f l :: ((P ++ (p ++ q ++ Q)).map f)) := by
  have : (P ++ ((p ++ l :: q) ++ Q)) = (P ++ p) ++ l :: (q ++ Q) := by simp
  rw [this]
  have e2 : (P ++ (p ++ q ++ Q)) = (P ++ p) ++ (q ++ Q) := by simp
  rw [e2, List.map_append, List.map_cons, List.map_append (l₁ := P ++ p)]
  exact List.perm_middle
theorem del_ne {k : List UInt8} {A : List Rec} (h : ∀ y ∈ A, ¬ y.key = k) : delR k A = A := List.filter_eq_self.2 fun y hy => by simpa using h y hy
theorem rest_ne {x : Rec} {B : List Rec} (h : ((x :: B).map Rec.key).Nodup) : ∀ y ∈ B, ¬ y.key = x.key := fun y hy e => by
  simp only [List.map_cons, List.nodup_cons] at h
  exact h.1 (by rw [← e]; exact List.mem_map.2 ⟨y, hy, rfl⟩)
theorem TB.rest {h : AHeap} {r : Nat} {fl : Int} {M : TM} {A : List Rec} (t : TB h r fl M A) {k : List UInt8} {c pre post : List Lk} {l : Lk} (hs : Site M k c pre l post) :
    ∃ B, A.Perm (l.rc :: B) ∧ (∀ y ∈ B, ¬ y.key = k) ∧ (∀ l', ((M.put (ix k M.n) (pre ++ l' :: post)).all.map Lk.rc).Perm (l'.rc :: B)) ∧ ((M.put (ix k M.n) (pre ++ post)).all.map Lk.rc).Perm B := by
  obtain ⟨P, Q, e1, e2, e3, e4⟩ := all_split hs.at_
  have p1 := t.perm
  rw [e1, hs.split] at p1
  have p2 := p1.symm.trans (perm_mid Lk.rc P Q pre post l)
  have hB := rest_ne ((p2.map Rec.key).nodup_iff.1 t.nodup)
  refine ⟨_, p2, fun y hy e => hB y hy (by rw [e]; exact hs.key.symm), fun l' => ?_, ?_⟩
  · have := e2 (pre ++ l' :: post)
    rw [TM.all, TM.put]; simp only; rw [this]
    exact perm_mid Lk.rc P Q pre post l'
  · have := e2 (pre ++ post)
    rw [TM.all, TM.put]; simp only; rw [this]
theorem setR_perm {x y : Rec} {A B : List Rec} (hn : (A.map Rec.key).Nodup) (hp : A.Perm (y :: B)) (hk : y.key = x.key) (hB : ∀ z ∈ B, ¬ z.key = x.key) : (x :: B).Perm (setR x A) := by
  have hg : getR x.key A = some y := find_nodup hn (hp.mem_iff.2 List.mem_cons_self) hk
  rw [setR, hg]
  have := hp.map fun z => if z.key = x.key then x else z
  refine List.Perm.trans ?_ this.symm
  rw [List.map_cons, if_pos hk, map_ne hB]
theorem delR_perm {y : Rec} {A B : List Rec} {k : List UInt8} (hp : A.Perm (y :: B)) (hk : y.key = k) (hB : ∀ z ∈ B, ¬ z.key = k) : B.Perm (delR k A) := by
  have := hp.filter fun z => !decide (z.key = k)
  refine List.Perm.trans ?_ this.symm
  rw [List.filter_cons, if_neg (by simp [hk])]
  exact .of_eq (del_ne hB).symm
theorem ins_perm {h : AHeap} {r : Nat} {fl : Int} {M : TM} {A : List Rec} (t : TB h r fl M A) {k : List UInt8} {c : List Lk} {l : Lk} (hc : M.ch[ix k M.n]? = some c) (hn : ∀ x ∈ M.all, ¬ x.key = k) (hl : l.key = k) :
    ((M.put (ix k M.n) (l :: c)).all.map Lk.rc).Perm (setR l.rc A) := by
  obtain ⟨P, Q, e1, e2, e3, e4⟩ := all_split hc
  have hg : getR l.rc.key A = none := getR_none t (k := l.rc.key) (by show ∀ x ∈ M.all, ¬ x.key = l.key; rw [hl]; exact hn)
  rw [setR, hg]
  have := e2 (l :: c)
  rw [TM.all, TM.put]; simp only; rw [this]
  have p1 := t.perm
  rw [e1] at p1
  have := perm_mid Lk.rc P Q [] c l
  exact this.trans (.cons _ p1)
theorem len_put {M : TM} {i : Nat} {c c' : List Lk} (hc : M.ch[i]? = some c) : (M.put i c').all.length + c.length = M.all.length + c'.length := by
  obtain ⟨P, Q, e1, e2, _, _⟩ := all_split hc
  have := e2 c'
  rw [TM.all, TM.put]; simp only; rw [this, e1]; simp; omega
theorem rows_put {M : TM} {i : Nat} {c c' : List Lk} (hc : M.ch[i]? = some c) {z : Nat} (hz : z ∈ (M.put i c').rows) : z ∈ M.rows ∨ z ∈ c'.map Lk.row := by
  obtain ⟨P, Q, e1, e2, _, _⟩ := all_split hc
  have := e2 c'
  have e5 : (M.put i c').all = P ++ (c' ++ Q) := this
  simp only [TM.rows, e5, e1, List.map_append, List.mem_cons, List.mem_append] at hz ⊢
  rcases hz with h9 | h9 | h9 | h9
  · exact .inl (.inl h9)
  · exact .inl (.inr (.inl h9))
  · exact .inr h9
  · exact .inl (.inr (.inr (.inr h9)))
theorem chn_sub {h : AHeap} {r : Nat} {fl : Int} {M : TM} (hA : TA h r fl M) {c : List Lk} (hc : c ∈ M.ch) : ∀ l ∈ c, l ∈ M.all := fun l hl => List.mem_flatten.2 ⟨c, hc, hl⟩
end Go.Proofs.Ytldhcjfhlfgleaa
