/-
  Merged: PgA, PgM, PgN, PgB, PgC, PgD.
-/
import Derived.Test.YtebheelmgcggmaaGreatSh2
import Derived.Test.YtebheelmgcggmaaGreatAb39
import Derived.Sort.LotA
set_option linter.unusedSimpArgs false
set_option linter.unusedVariables false
set_option maxRecDepth 10000
set_option maxHeartbeats 8000000
namespace Go.Proofs.YtebheelmgcggmaaGreat
open Go.Ab Go.Sort
abbrev I64 (n : Int) : Value := .int .i64 n
abbrev U64 (n : Int) : Value := .int .u64 n
abbrev P0 (p : Nat) : Value := .pointer (some ⟨p, 0, none⟩)
abbrev PA (p o : Nat) : Value := .pointer (some ⟨p, o, none⟩)
structure Rec where
  key : List UInt8
  lsn : Int
  del : Bool
  val : List UInt8
deriving Inhabited, DecidableEq
def Rec.cs (x : Rec) : List Value := [encS x.key, U64 x.lsn, .bool x.del, encS x.val]
theorem Rec.csE (x : Rec) : x.cs = [encS x.key, U64 x.lsn, .bool x.del, encS x.val] := rfl
abbrev Rec.V (x : Rec) : Value := .agg x.cs.toArray
def fl (l : List Rec) : List Value := (l.map Rec.cs).flatten
theorem fl_cons (x : Rec) (l : List Rec) : fl (x :: l) = x.cs ++ fl l := rfl
theorem fl_app (a b : List Rec) : fl (a ++ b) = fl a ++ fl b := by simp [fl]
theorem fl_length (l : List Rec) : (fl l).length = l.length * 4 := by
  induction l with
  | nil => rfl
  | cons a l ih => rw [fl_cons, List.length_append, ih, List.length_cons]; simp [Rec.cs]; omega
theorem csz (x : Rec) : (Value.agg x.cs.toArray).cells.size = 4 := rfl
theorem csl (x : Rec) : (Value.agg x.cs.toArray).cells.toList = x.cs := rfl
theorem cso (x : Rec) : oneCells x.cs = true := rfl
theorem csn (x : Rec) : x.cs.length = 4 := rfl
theorem csb : Nat.beq 4 4 = true := rfl
theorem fl_split {l : List Rec} {i : Nat} {x : Rec} (hx : l[i]? = some x) : fl l = fl (l.take i) ++ (x.cs ++ fl (l.drop (i + 1))) ∧ (fl (l.take i)).length = i * 4 := by
  obtain ⟨hi, rfl⟩ := List.getElem?_eq_some_iff.1 hx
  refine ⟨?_, by rw [fl_length, List.length_take]; congr 1; omega⟩
  rw [← fl_cons, ← fl_app, List.getElem_cons_drop, List.take_append_drop]
theorem fl_get {l : List Rec} {i : Nat} {x : Rec} (hx : l[i]? = some x) : cellsOf (fl l) (i * 4) 4 = some x.cs := by
  obtain ⟨e, hl⟩ := fl_split hx
  rw [e, ← hl, cellsOf_mk (by simp [csn]), List.drop_left, List.take_left' (csn x)]
theorem fl_at {l : List Rec} {i j : Nat} {x : Rec} (hx : l[i]? = some x) (hj : j < 4) : (fl l)[i * 4 + j]? = x.cs[j]? :=
  flatten_get (fun y hy => by obtain ⟨z, _, rfl⟩ := List.mem_map.1 hy; rfl) (by simp [hx]) hj
theorem fl_set {l : List Rec} {i : Nat} (x : Rec) (hi : i < l.length) : splice (fl l) (i * 4) x.cs = fl (l.set i x) := by
  obtain ⟨e, hl⟩ := fl_split (List.getElem?_eq_getElem hi)
  rw [e, ← hl, splice_app _ l[i].cs _ x.cs rfl, ← fl_cons, ← fl_app]
  congr 1
  rw [List.set_eq_take_append_cons_drop, if_pos hi]
theorem fl_ble {l : List Rec} {i : Nat} (hi : i < l.length) : Nat.ble (i * 4 + 4) (fl l).length = true := Nat.ble_eq_true_of_le (by rw [fl_length]; omega)
theorem fl_flat {l : List Rec} {n : Nat} : ∀ v ∈ fl l, BV n v := by
  intro v hv
  simp only [fl, List.mem_flatten, List.mem_map] at hv
  obtain ⟨_, ⟨x, _, rfl⟩, hv⟩ := hv
  simp only [Rec.cs, List.mem_cons, List.not_mem_nil, or_false] at hv
  rcases hv with rfl | rfl | rfl | rfl <;> exact .flat rfl
end Go.Proofs.YtebheelmgcggmaaGreat
namespace Go.Proofs.YtebheelmgcggmaaGreat
open Go.Ab Go.Sort
def insR (lo hi k : List UInt8) : Bool := !ltStr k lo && (decide (hi = []) || ltStr k hi)
structure Lf where
  low : List UInt8
  high : List UInt8
  full : Int
  base : List Rec
  deltas : List Rec
def Lf.all (p : Lf) : List Rec := p.base ++ p.deltas
def mayR (x : Rec) : Bool := decide (x.key.length ≤ 16 ∧ x.val.length ≤ 24 ∧ x.key ≠ [] ∧ (x.del = true → x.val = []))
def fit (lo hi : List UInt8) (x : Rec) : Bool := mayR x && decide (1 ≤ x.lsn ∧ x.lsn ≤ 1099511627776) && insR lo hi x.key
def risB (lt : Rec → Rec → Bool) : List Rec → Bool
  | a :: b :: l => lt a b && risB lt (b :: l)
  | _ => true
def ltK (a b : Rec) : Bool := ltStr a.key b.key
def ltL (a b : Rec) : Bool := decide (a.lsn < b.lsn)
def chk (p : Lf) : Bool := decide (p.low.length ≤ 16 ∧ p.high.length ≤ 16 ∧ (p.high = [] ∨ ltStr p.low p.high = true) ∧ p.full ≤ 1099511627776 ∧ p.base.length ≤ 64 ∧ p.deltas.length ≤ 64) && (p.all.all (fit p.low p.high) && (risB ltK p.base && risB ltL p.deltas))
def rec0 : Rec := ⟨[], 0, false, []⟩
def gstep (k : List UInt8) (o : Rec × Bool) (r : Rec) : Rec × Bool := if r.key = k ∧ o.1.lsn < r.lsn then (r, true) else o
def getL (k : List UInt8) (l : List Rec) : Rec × Bool := l.foldl (gstep k) (rec0, false)
def getM (p : Lf) (k : List UInt8) : Rec × Bool := if chk p = true then getL k p.all else (rec0, false)
def insK (k : List UInt8) : List (List UInt8) → List (List UInt8)
  | [] => [k]
  | a :: l => if ltStr a k then a :: insK k l else if a = k then a :: l else k :: a :: l
def keysL (l : List Rec) : List (List UInt8) := l.foldl (fun ks r => insK r.key ks) []
def keysM (p : Lf) : List (List UInt8) := if chk p = true then keysL p.all else []
def oldM (p : Lf) (r : Rec) : Bool := decide (r.lsn ≤ p.full) || (p.base.any (fun x => decide (x.key = r.key ∧ r.lsn ≤ x.lsn)) || p.deltas.any fun x => decide (x.lsn = r.lsn))
def insL (r : Rec) : List Rec → List Rec
  | [] => [r]
  | a :: l => if a.lsn < r.lsn then a :: insL r l else r :: a :: l
def appOK (p : Lf) (r : Rec) : Bool := chk p && (fit p.low p.high r && (!oldM p r && decide (p.deltas.length < 64)))
def appM (p : Lf) (r : Rec) : Lf := if appOK p r = true then { p with deltas := insL r p.deltas } else p
def into (r : Rec) : List Rec → List Rec
  | [] => [r]
  | a :: l => if ltStr a.key r.key then a :: into r l else if a.key = r.key then (if a.lsn < r.lsn then r :: l else a :: l) else r :: a :: l
def foldB (e : Int) (p : Lf) : List Rec := (p.deltas.filter fun r => decide (r.lsn ≤ e)).foldl (fun b r => into r b) p.base
def foldM (p : Lf) (e : Int) : Lf := if chk p = true ∧ (foldB e p).length ≤ 64 then { p with base := foldB e p, deltas := p.deltas.filter fun r => decide (e < r.lsn) } else p
def resetM (p : Lf) (e : Int) : Lf := if chk p = true then { p with deltas := p.deltas.filter fun r => decide (r.lsn ≤ e) } else p
theorem risB_pw {lt : Rec → Rec → Bool} (ht : ∀ x y z, lt x y = true → lt y z = true → lt x z = true) : ∀ {l : List Rec}, risB lt l = true → l.Pairwise fun a b => lt a b = true
  | [], _ => .nil
  | [a], _ => by simp
  | a :: b :: l, h => by
    simp only [risB, Bool.and_eq_true] at h
    have ih := risB_pw ht h.2
    refine List.pairwise_cons.2 ⟨fun x hx => ?_, ih⟩
    cases hx with
    | head => exact h.1
    | tail _ hx => exact ht _ _ _ h.1 ((List.pairwise_cons.1 ih).1 x hx)
theorem pw_risB {lt : Rec → Rec → Bool} : ∀ {l : List Rec}, (l.Pairwise fun a b => lt a b = true) → risB lt l = true
  | [], _ => rfl
  | [a], _ => rfl
  | a :: b :: l, h => by
    have := List.pairwise_cons.1 h
    simp only [risB, Bool.and_eq_true]
    exact ⟨this.1 b List.mem_cons_self, pw_risB this.2⟩
theorem ltK_trans (x y z : Rec) (h1 : ltK x y = true) (h2 : ltK y z = true) : ltK x z = true := swo_ltStr.trans _ _ _ h1 h2
theorem ltL_trans (x y z : Rec) (h1 : ltL x y = true) (h2 : ltL y z = true) : ltL x z = true := by simp only [ltL, decide_eq_true_eq] at *; omega
theorem str_eq_of {a b : List UInt8} (h1 : ltStr a b = false) (h2 : ltStr b a = false) : a = b := by
  simp only [ltStr, decide_eq_false_iff_not, List.not_lt] at h1 h2; exact List.le_antisymm h2 h1
theorem mem_insL {r x : Rec} : ∀ {l : List Rec}, x ∈ insL r l ↔ x = r ∨ x ∈ l
  | [] => by simp [insL]
  | a :: l => by
    simp only [insL]
    split
    · simp only [List.mem_cons, mem_insL (l := l)]
      constructor
      · rintro (h | h | h) <;> simp [h]
      · rintro (h | h | h) <;> simp [h]
    · simp only [List.mem_cons]
theorem insL_length {r : Rec} : ∀ {l : List Rec}, (insL r l).length = l.length + 1
  | [] => rfl
  | a :: l => by simp only [insL]; split <;> simp [insL_length (l := l)]
theorem insL_pw {r : Rec} : ∀ {l : List Rec}, (l.Pairwise fun a b => ltL a b = true) → (∀ x ∈ l, ¬ x.lsn = r.lsn) → (insL r l).Pairwise fun a b => ltL a b = true
  | [], _, _ => by simp [insL]
  | a :: l, h, hn => by
    obtain ⟨h1, h2⟩ := List.pairwise_cons.1 h
    simp only [insL]
    split
    · rename_i hc
      refine List.pairwise_cons.2 ⟨fun x hx => ?_, insL_pw h2 fun x hx => hn x (List.mem_cons_of_mem _ hx)⟩
      rcases mem_insL.1 hx with rfl | hx
      · simpa [ltL] using hc
      · exact h1 x hx
    · rename_i hc
      have hne := hn a List.mem_cons_self
      refine List.pairwise_cons.2 ⟨fun x hx => ?_, h⟩
      have ha : ltL r a = true := by simp only [ltL, decide_eq_true_eq]; omega
      cases hx with
      | head => exact ha
      | tail _ hx => exact ltL_trans _ _ _ ha (h1 x hx)
theorem mem_into {r x : Rec} : ∀ {l : List Rec}, x ∈ into r l → x = r ∨ x ∈ l
  | [], h => by simp [into] at h; exact .inl h
  | a :: l, h => by
    simp only [into] at h
    split at h
    · cases h with
      | head => exact .inr List.mem_cons_self
      | tail _ h => rcases mem_into h with h | h
                    · exact .inl h
                    · exact .inr (List.mem_cons_of_mem _ h)
    · split at h
      · split at h
        · cases h with
          | head => exact .inl rfl
          | tail _ h => exact .inr (List.mem_cons_of_mem _ h)
        · exact .inr h
      · cases h with
        | head => exact .inl rfl
        | tail _ h => exact .inr h
theorem into_new {r : Rec} : ∀ {l : List Rec}, ∃ y ∈ into r l, y.key = r.key ∧ r.lsn ≤ y.lsn
  | [] => ⟨r, by simp [into], rfl, Int.le_refl _⟩
  | a :: l => by
    simp only [into]
    split
    · obtain ⟨y, h1, h2⟩ := into_new (r := r) (l := l)
      exact ⟨y, List.mem_cons_of_mem _ h1, h2⟩
    · split
      · rename_i hk
        split
        · exact ⟨r, List.mem_cons_self, rfl, Int.le_refl _⟩
        · exact ⟨a, List.mem_cons_self, hk, by omega⟩
      · exact ⟨r, List.mem_cons_self, rfl, Int.le_refl _⟩
theorem into_old {r : Rec} : ∀ {l : List Rec} {a : Rec}, a ∈ l → ∃ y ∈ into r l, y.key = a.key ∧ a.lsn ≤ y.lsn
  | b :: l, a, ha => by
    simp only [into]
    split
    · cases ha with
      | head => exact ⟨_, List.mem_cons_self, rfl, Int.le_refl _⟩
      | tail _ ha =>
        obtain ⟨y, h1, h2⟩ := into_old (r := r) ha
        exact ⟨y, List.mem_cons_of_mem _ h1, h2⟩
    · split
      · rename_i hk
        split
        · cases ha with
          | head => exact ⟨r, List.mem_cons_self, hk.symm, by omega⟩
          | tail _ ha => exact ⟨a, List.mem_cons_of_mem _ ha, rfl, Int.le_refl _⟩
        · exact ⟨a, ha, rfl, Int.le_refl _⟩
      · exact ⟨a, List.mem_cons_of_mem _ ha, rfl, Int.le_refl _⟩
theorem into_pw {r : Rec} : ∀ {l : List Rec}, (l.Pairwise fun a b => ltK a b = true) → (into r l).Pairwise fun a b => ltK a b = true
  | [], _ => by simp [into]
  | a :: l, h => by
    obtain ⟨h1, h2⟩ := List.pairwise_cons.1 h
    simp only [into]
    split
    · rename_i hc
      refine List.pairwise_cons.2 ⟨fun x hx => ?_, into_pw h2⟩
      rcases mem_into hx with rfl | hx
      · exact hc
      · exact h1 x hx
    · rename_i hc
      split
      · rename_i hk
        split
        · refine List.pairwise_cons.2 ⟨fun x hx => ?_, h2⟩
          have := h1 x hx
          simp only [ltK] at this ⊢
          rwa [← hk]
        · exact h
      · rename_i hk
        have ha : ltK r a = true := by
          cases hb : ltStr r.key a.key with
          | true => exact hb
          | false => exact (hk (str_eq_of (by simpa using hc) hb)).elim
        refine List.pairwise_cons.2 ⟨fun x hx => ?_, h⟩
        cases hx with
        | head => exact ha
        | tail _ hx => exact ltK_trans _ _ _ ha (h1 x hx)
theorem mem_insK {k x : List UInt8} : ∀ {l : List (List UInt8)}, x ∈ insK k l ↔ x = k ∨ x ∈ l
  | [] => by simp [insK]
  | a :: l => by
    simp only [insK]
    split
    · simp only [List.mem_cons, mem_insK (l := l)]
      constructor
      · rintro (h | h | h) <;> simp [h]
      · rintro (h | h | h) <;> simp [h]
    · split
      · rename_i e
        subst e
        simp only [List.mem_cons]
        constructor
        · rintro (h | h) <;> simp [h]
        · rintro (h | h | h) <;> simp [h]
      · simp only [List.mem_cons]
theorem insK_pw {k : List UInt8} : ∀ {l : List (List UInt8)}, (l.Pairwise fun a b => ltStr a b = true) → (insK k l).Pairwise fun a b => ltStr a b = true
  | [], _ => by simp [insK]
  | a :: l, h => by
    obtain ⟨h1, h2⟩ := List.pairwise_cons.1 h
    simp only [insK]
    split
    · rename_i hc
      refine List.pairwise_cons.2 ⟨fun x hx => ?_, insK_pw h2⟩
      rcases mem_insK.1 hx with rfl | hx
      · exact hc
      · exact h1 x hx
    · rename_i hc
      split
      · exact h
      · rename_i hk
        have ha : ltStr k a = true := by
          cases hb : ltStr k a with
          | true => rfl
          | false => exact (hk (str_eq_of (by simpa using hc) hb)).elim
        refine List.pairwise_cons.2 ⟨fun x hx => ?_, h⟩
        cases hx with
        | head => exact ha
        | tail _ hx => exact swo_ltStr.trans _ _ _ ha (h1 x hx)
theorem keysL_aux : ∀ (l : List Rec) (ks : List (List UInt8)), (ks.Pairwise fun a b => ltStr a b = true) → ((l.foldl (fun ks r => insK r.key ks) ks).Pairwise fun a b => ltStr a b = true) ∧ ∀ x, x ∈ l.foldl (fun ks r => insK r.key ks) ks ↔ x ∈ ks ∨ ∃ r ∈ l, r.key = x
  | [], ks, h => ⟨h, fun x => by simp⟩
  | r :: l, ks, h => by
    obtain ⟨h1, h2⟩ := keysL_aux l (insK r.key ks) (insK_pw h)
    refine ⟨h1, fun x => ?_⟩
    simp only [List.foldl_cons, h2 x, mem_insK, List.mem_cons, exists_eq_or_imp]
    constructor
    · rintro ((h | h) | h)
      · exact .inr (.inl h.symm)
      · exact .inl h
      · exact .inr (.inr h)
    · rintro (h | h | h)
      · exact .inl (.inr h)
      · exact .inl (.inl h.symm)
      · exact .inr h
theorem keysL_pw (l : List Rec) : (keysL l).Pairwise fun a b => ltStr a b = true := (keysL_aux l [] .nil).1
theorem mem_keysL {l : List Rec} {x : List UInt8} : x ∈ keysL l ↔ ∃ r ∈ l, r.key = x := by rw [keysL, (keysL_aux l [] .nil).2 x]; simp
theorem rise_ext : ∀ {a b : List (List UInt8)}, (a.Pairwise fun x y => ltStr x y = true) → (b.Pairwise fun x y => ltStr x y = true) → (∀ x, x ∈ a ↔ x ∈ b) → a = b
  | [], [], _, _, _ => rfl
  | [], y :: b, _, _, h => absurd ((h y).2 List.mem_cons_self) xI
  | x :: a, [], _, _, h => absurd ((h x).1 List.mem_cons_self) xI
  | x :: a, y :: b, ha, hb, h => by
    obtain ⟨a1, a2⟩ := List.pairwise_cons.1 ha
    obtain ⟨b1, b2⟩ := List.pairwise_cons.1 hb
    have irr : ∀ z, ¬ ltStr z z = true := fun z hz => by rw [swo_ltStr.irrefl z] at hz; cases hz
    have exy : x = y := by
      have hx := (h x).1 List.mem_cons_self
      have hy := (h y).2 List.mem_cons_self
      cases hx with
      | head => rfl
      | tail _ hx => cases hy with
        | head => rfl
        | tail _ hy => exact (irr x (swo_ltStr.trans _ _ _ (a1 y hy) (b1 x hx))).elim
    subst exy
    rw [rise_ext a2 b2 fun z => ?_]
    constructor
    · intro hz
      have := (h z).1 (List.mem_cons_of_mem _ hz)
      cases this with
      | head => exact (irr _ (a1 _ hz)).elim
      | tail _ h => exact h
    · intro hz
      have := (h z).2 (List.mem_cons_of_mem _ hz)
      cases this with
      | head => exact (irr _ (b1 _ hz)).elim
      | tail _ h => exact h
theorem getL_aux (k : List UInt8) : ∀ (l : List Rec) (o : Rec × Bool), (l.foldl (gstep k) o = o ∧ ∀ r ∈ l, r.key = k → r.lsn ≤ o.1.lsn) ∨ (∃ q ∈ l, q.key = k ∧ o.1.lsn < q.lsn ∧ l.foldl (gstep k) o = (q, true) ∧ ∀ r ∈ l, r.key = k → r.lsn ≤ q.lsn)
  | [], o => .inl ⟨rfl, by simp⟩
  | a :: l, o => by
    simp only [List.foldl_cons]
    by_cases hc : a.key = k ∧ o.1.lsn < a.lsn
    · have e : gstep k o a = (a, true) := by simp [gstep, hc]
      rw [e]
      rcases getL_aux k l (a, true) with ⟨h1, h2⟩ | ⟨q, h1, h2, h3, h4, h5⟩
      · refine .inr ⟨a, List.mem_cons_self, hc.1, hc.2, h1, fun r hr hk => ?_⟩
        cases hr with
        | head => exact Int.le_refl _
        | tail _ hr => exact h2 r hr hk
      · simp only at h3
        refine .inr ⟨q, List.mem_cons_of_mem _ h1, h2, by omega, h4, fun r hr hk => ?_⟩
        cases hr with
        | head => omega
        | tail _ hr => exact h5 r hr hk
    · have e : gstep k o a = o := by simp only [gstep, if_neg hc]
      rw [e]
      rcases getL_aux k l o with ⟨h1, h2⟩ | ⟨q, h1, h2, h3, h4, h5⟩
      · refine .inl ⟨h1, fun r hr hk => ?_⟩
        cases hr with
        | head => exact Int.not_lt.1 fun h => hc ⟨hk, h⟩
        | tail _ hr => exact h2 r hr hk
      · refine .inr ⟨q, List.mem_cons_of_mem _ h1, h2, h3, h4, fun r hr hk => ?_⟩
        cases hr with
        | head => have : ¬ o.1.lsn < a.lsn := fun h => hc ⟨hk, h⟩
                  omega
        | tail _ hr => exact h5 r hr hk
theorem getL_is {k : List UInt8} {l : List Rec} (hp : ∀ r ∈ l, 1 ≤ r.lsn) (he : ∃ r ∈ l, r.key = k) : ∃ q ∈ l, q.key = k ∧ getL k l = (q, true) ∧ ∀ r ∈ l, r.key = k → r.lsn ≤ q.lsn := by
  rcases getL_aux k l (rec0, false) with ⟨h1, h2⟩ | ⟨q, h1, h2, h3, h4, h5⟩
  · obtain ⟨r, hr, hk⟩ := he
    have := h2 r hr hk
    have := hp r hr
    simp only [rec0] at *
    omega
  · exact ⟨q, h1, h2, h4, h5⟩
theorem getL_none {k : List UInt8} {l : List Rec} (he : ¬ ∃ r ∈ l, r.key = k) : getL k l = (rec0, false) := by
  rcases getL_aux k l (rec0, false) with ⟨h1, h2⟩ | ⟨q, h1, h2, h3, h4, h5⟩
  · exact h1
  · exact (he ⟨q, h1, h2⟩).elim
end Go.Proofs.YtebheelmgcggmaaGreat
namespace Go.Proofs.YtebheelmgcggmaaGreat
open Go.Ab Go.Sort
theorem nodup_sub {α : Type} [DecidableEq α] : ∀ {a b : List α}, a.Nodup → (∀ x ∈ a, x ∈ b) → a.length ≤ b.length
  | [], b, _, _ => Nat.zero_le _
  | x :: a, b, hn, hs => by
    have hx := hs x List.mem_cons_self
    have hn' := List.nodup_cons.1 hn
    have := nodup_sub (a := a) (b := b.erase x) hn'.2 fun y hy => (List.mem_erase_of_ne fun e => hn'.1 (by rw [← e]; exact hy)).2 (hs y (List.mem_cons_of_mem _ hy))
    rw [List.length_erase_of_mem hx] at this
    have := List.length_pos_of_mem hx
    simp only [List.length_cons]; omega
theorem pw_nodup {α : Type} {R : α → α → Prop} (hi : ∀ x, ¬ R x x) {l : List α} (h : l.Pairwise R) : l.Nodup := h.imp (S := fun x y => x ≠ y) fun {x y} hr e => hi x (by rw [← e] at hr; exact hr)
def keyed (n : Nat) : Rec := ⟨[UInt8.ofNat (97 + n % 6)], n, decide (n % 5 = 0), if n % 5 = 0 then [] else [UInt8.ofNat n, UInt8.ofNat (n / 256)]⟩
structure PInv (p : Lf) (U C : List Rec) : Prop where
  low : p.low = []
  high : p.high = []
  full : p.full = 0
  rb : p.base.Pairwise fun a b => ltK a b = true
  rd : p.deltas.Pairwise fun a b => ltL a b = true
  mem : ∀ r ∈ p.all, r ∈ U
  cov : ∀ r ∈ C, ∃ q ∈ p.all, q.key = r.key ∧ r.lsn ≤ q.lsn
  sz : U.length ≤ 50
  ky : ∀ r ∈ U, ∃ n, 1 ≤ n ∧ n ≤ 400 ∧ r = keyed n
theorem insR_nil (k : List UInt8) : insR [] [] k = true := by simp [insR, ltStr]
theorem fit_keyed {n : Nat} (h1 : 1 ≤ n) (h2 : n ≤ 400) : fit [] [] (keyed n) = true := by
  have e1 : mayR (keyed n) = true := by
    simp only [mayR, keyed, decide_eq_true_eq]
    refine ⟨by simp, ?_, by simp, fun h => by simp [h]⟩
    split <;> simp
  have e2 : 1 ≤ (keyed n).lsn ∧ (keyed n).lsn ≤ 1099511627776 := by simp only [keyed]; omega
  simp only [fit, insR_nil, e1, e2, and_self, decide_true, Bool.and_self]
theorem pw_rb {l : List Rec} (h : l.Pairwise fun a b => ltK a b = true) : l.Nodup := pw_nodup (fun x hx => by rw [ltK, swo_ltStr.irrefl] at hx; cases hx) h
theorem pw_rd {l : List Rec} (h : l.Pairwise fun a b => ltL a b = true) : l.Nodup := pw_nodup (fun x hx => by simp [ltL] at hx) h
theorem keyed_inj {U : List Rec} (ky : ∀ r ∈ U, ∃ n, 1 ≤ n ∧ n ≤ 400 ∧ r = keyed n) {x y : Rec} (hx : x ∈ U) (hy : y ∈ U) (e : x.lsn = y.lsn) : x = y := by
  obtain ⟨n, _, _, rfl⟩ := ky x hx
  obtain ⟨m, _, _, rfl⟩ := ky y hy
  have : n = m := by simp only [keyed] at e; omega
  rw [this]
namespace PInv
variable {p : Lf} {U C : List Rec}
theorem lb (h : PInv p U C) : p.base.length ≤ 50 := Nat.le_trans (nodup_sub (pw_rb h.rb) fun x hx => h.mem x (by simp [Lf.all, hx])) h.sz
theorem ld (h : PInv p U C) : p.deltas.length ≤ 50 := Nat.le_trans (nodup_sub (pw_rd h.rd) fun x hx => h.mem x (by simp [Lf.all, hx])) h.sz
theorem chk (h : PInv p U C) : chk p = true := by
  have h1 := h.lb
  have h2 := h.ld
  simp only [Proofs.YtebheelmgcggmaaGreat.chk, Bool.and_eq_true, decide_eq_true_eq, h.low, h.high, h.full, List.all_eq_true]
  refine ⟨⟨by simp, by simp, by simp, by omega, by omega, by omega⟩, fun r hr => ?_, pw_risB h.rb, pw_risB h.rd⟩
  obtain ⟨n, n1, n2, rfl⟩ := h.ky r (h.mem r hr)
  exact fit_keyed n1 n2
theorem pos (h : PInv p U C) : ∀ r ∈ p.all, 1 ≤ r.lsn := fun r hr => by
  obtain ⟨n, n1, n2, rfl⟩ := h.ky r (h.mem r hr)
  simp only [keyed]; omega
theorem posU (h : PInv p U C) : ∀ r ∈ U, 1 ≤ r.lsn := fun r hr => by
  obtain ⟨n, n1, n2, rfl⟩ := h.ky r hr
  simp only [keyed]; omega
theorem more (h : PInv p U C) {r : Rec} {n : Nat} (n1 : 1 ≤ n) (n2 : n ≤ 400) (e : r = keyed n) (hl : U.length < 50) : PInv p (U ++ [r]) C :=
  { h with mem := fun x hx => List.mem_append.2 (.inl (h.mem x hx)), sz := by simp only [List.length_append, List.length_cons, List.length_nil]; omega, ky := fun x hx => (List.mem_append.1 hx).elim (h.ky x) fun hx => ⟨n, n1, n2, by rw [List.mem_singleton.1 hx, e]⟩ }
theorem into_all : ∀ (ds b : List Rec), (b.Pairwise fun a b => ltK a b = true) → ((ds.foldl (fun b r => into r b) b).Pairwise fun a b => ltK a b = true) ∧ (∀ x ∈ ds.foldl (fun b r => into r b) b, x ∈ ds ∨ x ∈ b) ∧ ∀ x, (x ∈ ds ∨ x ∈ b) → ∃ q ∈ ds.foldl (fun b r => into r b) b, q.key = x.key ∧ x.lsn ≤ q.lsn
  | [], b, hb => ⟨hb, fun x hx => .inr hx, fun x hx => ⟨x, by simpa using hx, rfl, Int.le_refl _⟩⟩
  | d :: ds, b, hb => by
    obtain ⟨h1, h2, h3⟩ := into_all ds (into d b) (into_pw hb)
    refine ⟨h1, fun x hx => ?_, fun x hx => ?_⟩
    · rcases h2 x hx with hx | hx
      · exact .inl (List.mem_cons_of_mem _ hx)
      · rcases mem_into hx with rfl | hx
        · exact .inl List.mem_cons_self
        · exact .inr hx
    · have key : ∀ y : Rec, y ∈ into d b → y.key = x.key → x.lsn ≤ y.lsn → ∃ q ∈ (d :: ds).foldl (fun b r => into r b) b, q.key = x.key ∧ x.lsn ≤ q.lsn := fun y hy hk hl => by
        obtain ⟨q, q1, q2, q3⟩ := h3 y (.inr hy)
        exact ⟨q, q1, by rw [q2, hk], by omega⟩
      rcases hx with hx | hx
      · cases hx with
        | head =>
          obtain ⟨y, y1, y2, y3⟩ := into_new (r := d) (l := b)
          exact key y y1 y2 y3
        | tail _ hx => exact h3 x (.inl hx)
      · obtain ⟨y, y1, y2, y3⟩ := into_old (r := d) hx
        exact key y y1 y2 y3
theorem get (h : PInv p U U) (k : List UInt8) : getL k p.all = getL k U := by
  by_cases he : ∃ r ∈ U, r.key = k
  · obtain ⟨q, q1, q2, q3, q4⟩ := getL_is h.posU he
    obtain ⟨x, x1, x2, x3⟩ := h.cov q q1
    obtain ⟨y, y1, y2, y3, y4⟩ := getL_is h.pos ⟨x, x1, by rw [x2, q2]⟩
    rw [q3, y3]
    have e1 := q4 y (h.mem y y1) y2
    have e2 := y4 x x1 (by rw [x2, q2])
    rw [keyed_inj h.ky (h.mem y y1) q1 xA]
  · rw [getL_none he, getL_none fun ⟨r, r1, r2⟩ => he ⟨r, h.mem r r1, r2⟩]
theorem keys (h : PInv p U U) : keysL p.all = keysL U := by
  refine rise_ext (keysL_pw _) (keysL_pw _) fun x => ?_
  rw [mem_keysL, mem_keysL]
  constructor
  · rintro ⟨r, r1, r2⟩; exact ⟨r, h.mem r r1, r2⟩
  · rintro ⟨r, r1, r2⟩
    obtain ⟨q, q1, q2, _⟩ := h.cov r r1
    exact ⟨q, q1, by rw [q2, r2]⟩
end PInv
structure Best (B : List (List UInt8 × Rec)) (A : List Rec) : Prop where
  nd : (B.map (·.1)).Nodup
  at_ : ∀ x ∈ B, getL x.1 A = (x.2, true)
  all : ∀ r ∈ A, ∃ x ∈ B, x.1 = r.key
theorem Best.len {B : List (List UInt8 × Rec)} {A : List Rec} (h : Best B A) (hp : ∀ r ∈ A, 1 ≤ r.lsn) : B.length = (keysL A).length := by
  have e1 : ∀ x ∈ B.map (·.1), x ∈ keysL A := fun k hk => by
    obtain ⟨x, hx, rfl⟩ := List.mem_map.1 hk
    refine mem_keysL.2 (Classical.byContradiction fun hn => ?_)
    have := h.at_ x hx
    rw [getL_none hn] at this; exact absurd (congrArg Prod.snd this) xI
  have e2 : ∀ x ∈ keysL A, x ∈ B.map (·.1) := fun k hk => by
    obtain ⟨r, r1, rfl⟩ := mem_keysL.1 hk
    obtain ⟨x, x1, x2⟩ := h.all r r1
    exact List.mem_map.2 ⟨x, x1, x2⟩
  have n2 : (keysL A).Nodup := pw_nodup (fun x hx => by rw [swo_ltStr.irrefl] at hx; cases hx) (keysL_pw A)
  have l1 := nodup_sub h.nd e1
  have l2 := nodup_sub n2 e2
  simp only [List.length_map] at l1 l2
  omega
end Go.Proofs.YtebheelmgcggmaaGreat
namespace Go.Proofs.YtebheelmgcggmaaGreat
open Go.Ab Go.Sort
abbrev lcs (p : Lf) (bv dv : Value) : List Value := [encS p.low, encS p.high, U64 p.full, bv, dv]
abbrev LV (p : Lf) (bv dv : Value) : Value := .agg #[encS p.low, encS p.high, U64 p.full, bv, dv]
theorem sz_str (l : List UInt8) : (ByteArray.mk ⟨l⟩).size = l.length := rfl
theorem str_eq (x y : List UInt8) : ((ByteArray.toList ⟨⟨x⟩⟩) == (ByteArray.toList ⟨⟨y⟩⟩)) = decide (x = y) := by
  rw [ByteArray.toList_eq, ByteArray.toList_eq, Bool.eq_iff_iff]; simp
theorem str_nil (l : List UInt8) : ((ByteArray.mk ⟨l⟩).toList == (ByteArray.mk #[]).toList) = decide (l = []) := str_eq l []
theorem sst : (∀ x y : List UInt8, ((ByteArray.toList ⟨⟨x⟩⟩) == (ByteArray.toList ⟨⟨y⟩⟩)) = decide (x = y)) ∧ (∀ x : List UInt8, ((ByteArray.toList ⟨⟨x⟩⟩) == (ByteArray.toList ⟨#[]⟩)) = decide (x = [])) ∧ (∀ x y : List UInt8, ((ByteArray.toList ⟨⟨x⟩⟩) = (ByteArray.toList ⟨⟨y⟩⟩)) = (x = y)) ∧ (∀ x : List UInt8, ((ByteArray.toList ⟨⟨x⟩⟩) = (ByteArray.toList ⟨#[]⟩)) = (x = [])) ∧
    (∀ x y : List UInt8, Op.bytesLess (ByteArray.toList ⟨⟨x⟩⟩) (ByteArray.toList ⟨⟨y⟩⟩) = ltStr x y) ∧ (∀ x : List UInt8, (ByteArray.mk ⟨x⟩).size = x.length) ∧ (∀ x y : List UInt8, Op.bytesLess x y = ltStr x y) :=
  have e : ∀ x y : List UInt8, ((ByteArray.toList ⟨⟨x⟩⟩) = (ByteArray.toList ⟨⟨y⟩⟩)) = (x = y) := fun x y => by rw [ByteArray.toList_eq, ByteArray.toList_eq]
  ⟨str_eq, fun x => str_eq x [], e, fun x => e x [], str_lt, sz_str, bless⟩
def mayE (x : Rec) : Int := if x.key.length ≤ 16 ∧ x.val.length ≤ 24 then (if x.key ≠ [] ∧ (x.del = true → x.val = []) then 0 else 2) else 3
theorem mayE_ok (x : Rec) : (mayE x == 0) = mayR x := by
  simp only [mayE, mayR]
  by_cases h1 : x.key.length ≤ 16 ∧ x.val.length ≤ 24
  · by_cases h2 : x.key ≠ [] ∧ (x.del = true → x.val = [])
    · rw [if_pos h1, if_pos h2, decide_eq_true ⟨h1.1, h1.2, h2.1, h2.2⟩]; rfl
    · rw [if_pos h1, if_neg h2]
      have : ¬ (x.key.length ≤ 16 ∧ x.val.length ≤ 24 ∧ x.key ≠ [] ∧ (x.del = true → x.val = [])) := fun h => h2 ⟨h.2.2.1, h.2.2.2⟩
      simp [this]
  · rw [if_neg h1]
    have : ¬ (x.key.length ≤ 16 ∧ x.val.length ≤ 24 ∧ x.key ≠ [] ∧ (x.del = true → x.val = [])) := fun h => h1 ⟨h.1, h.2.1⟩
    simp [this]
theorem unless_c (h : AHeap) (b : Bool) (e : Int) : FWp Tryz.prog 103 [.bool b, I64 e] h fun u h' => u = I64 (if b then 0 else e) ∧ h' = h := by
  refine W.enter tyOK Tryz.func103 rfl rfl ?_
  simp only [entry]
  cases b
  · refine Wr <| ja za <| On ?_
    refine W.seq <| Wr <| jy sm <| On ?_
    refine Wn <| CWp.skip <| SQ.normal ?_
    refine Wr <| ja sm <| ja za <| On ?_
    refine CWp.ret <| Jr ?_
    exact ⟨rfl, rfl⟩
  · refine Wr <| ja za <| On ?_
    refine W.seq <| Wr <| jx sm <| On ?_
    refine Wy <| Wr <| ja za <| On ?_
    refine CWp.ret <| SQ.ret <| Jr ?_
    exact ⟨rfl, rfl⟩
theorem may1_c (h : AHeap) (q : Nat) (x : Rec) (hq : h.get q = some (.cells x.cs 1)) : FWp Tryz.prog 102 [P0 q] h fun u h' => u = I64 (if x.key.length ≤ 16 ∧ x.val.length ≤ 24 then 0 else 3) ∧ h' = h := by
  have hq : h.get q = some (.cells [encS x.key, U64 x.lsn, .bool x.del, encS x.val] 1) := hq
  have e0 := sz_str x.key
  have e1 := sz_str x.val
  refine W.enter tyOK Tryz.func102 rfl rfl ?_
  simp only [entry]
  refine Wr <| ja za <| On ?_
  have jY := An @hq <| An @e0 <| An @e1 <| ty9
  refine Wr <| ja J27f0 <| ja Jl <| ja Jn <| OSuf.aopB tyOK rfl Ju (fun _ => rfl) (fun h1 => ?_) (fun h1 => ?_)
  · try simp only [bl] at h1
    refine jE sm rfl <| ja J27f3 <| ja Jl <| ja Jn <| ja Ju <| ja Zp <| jk (Jc en103 (unless_c h _ 3)) rfl <| ja za <| On ?_
    refine CWp.ret <| Jr ?_
    exact ⟨by have a : x.key.length ≤ 16 := xA; simp only [a, true_and, decide_eq_true_eq, Int.ofNat_le]; split <;> split <;> first | rfl | omega, rfl⟩
  · try simp only [bl] at h1
    refine jF sm rfl <| jp rfl <| jp rfl <| jp rfl <| jp rfl <| jF Zp rfl <| jk (Jc en103 (unless_c h _ 3)) rfl <| ja za <| On ?_
    refine CWp.ret <| Jr ?_
    exact ⟨by have b : ¬ x.key.length ≤ 16 := xA; simp [b], rfl⟩
theorem may2_c (h : AHeap) (q : Nat) (x : Rec) (hq : h.get q = some (.cells x.cs 1)) : FWp Tryz.prog 104 [P0 q] h fun u h' => u = I64 (if x.key ≠ [] ∧ (x.del = true → x.val = []) then 0 else 2) ∧ h' = h := by
  have hq : h.get q = some (.cells [encS x.key, U64 x.lsn, .bool x.del, encS x.val] 1) := hq
  have e0 := str_nil x.key
  have e1 := str_nil x.val
  refine W.enter tyOK Tryz.func104 rfl rfl ?_
  simp only [entry]
  refine Wr <| ja za <| On ?_
  have jY := An @hq <| An ty9 <| ty4
  refine Wr <| ja J27f0 <| ja Jl <| OSuf.aopB tyOK rfl (zb (hv := bs_neq)) (fun _ => rfl) (fun h1 => ?_) (fun h1 => ?_)
  · try simp only [bl] at h1
    refine jE sm rfl <| ja J27f2 <| OSuf.aopB tyOK ag Jl (fun _ => rfl) (fun h2 => ?_) (fun h2 => ?_)
    · try simp only [bl] at h2
      refine jF Zt rfl <| jF sm rfl <| ja J27f3 <| ja Jl <| ja (zb (hv := bs_eql)) <| ja Zp <| ja Zp <| jk (Jc en103 (unless_c h _ 2)) rfl <| ja za <| On ?_
      refine CWp.ret <| Jr ?_
      exact ⟨by simp [sst] at h1 h2; simp [h1, h2], rfl⟩
    · try simp only [bl] at h2
      refine jE Zt rfl <| jE sm rfl <| jp rfl <| jp rfl <| jp rfl <| jE Zp rfl <| jE Zp rfl <| jk (Jc en103 (unless_c h _ 2)) rfl <| ja za <| On ?_
      refine CWp.ret <| Jr ?_
      exact ⟨by simp [sst] at h1 h2; simp [h1, h2, sst], rfl⟩
  · try simp only [bl] at h1
    refine jF sm rfl <| jp rfl <| jp rfl <| jp rfl <| jp rfl <| jp rfl <| jp rfl <| jp rfl <| jp rfl <| jF Zp rfl <| jk (Jc en103 (unless_c h _ 2)) rfl <| ja za <| On ?_
    refine CWp.ret <| Jr ?_
    exact ⟨by simp [sst] at h1; simp [h1], rfl⟩
theorem cl1_v (h : AHeap) (q : Nat) (x : Rec) (hq : h.get q = some (.cells x.cs 1)) : VWp Tryz.prog (.func (.func 102) #[] #[P0 q]) [] h fun u h' => u = I64 (if x.key.length ≤ 16 ∧ x.val.length ≤ 24 then 0 else 3) ∧ h' = h := VWp.func en102 (may1_c h q x hq)
theorem cl2_v (h : AHeap) (q : Nat) (x : Rec) (hq : h.get q = some (.cells x.cs 1)) : VWp Tryz.prog (.func (.func 104) #[] #[P0 q]) [] h fun u h' => u = I64 (if x.key ≠ [] ∧ (x.del = true → x.val = []) then 0 else 2) ∧ h' = h := VWp.func en104 (may2_c h q x hq)
theorem first_c (h : AHeap) (r : Nat) (f1 f2 : Value) (e1 e2 : Int) (hr : h.get r = some (.cells [f1, f2] 1)) (c1 : VWp Tryz.prog f1 [] h fun u h' => u = I64 e1 ∧ h' = h) (c2 : VWp Tryz.prog f2 [] h fun u h' => u = I64 e2 ∧ h' = h) :
    FWp Tryz.prog 101 [.slice (some ⟨r, 0, none⟩) 2 3] h fun u h' => u = I64 (if e1 = 0 then e2 else e1) ∧ h' = h := by
  refine W.enter tyOK Tryz.func101 rfl rfl ?_
  simp only [entry]
  refine Wr <| ja za <| On ?_
  have jY := ty124
  refine W.seq <| Wr <| ja sm <| ja Jn <| ja sm <| On ?_
  refine W.block (W.loop (fun m L h' => ∃ i : Nat, m + i = 2 ∧ h' = h ∧ (i = 0 ∨ e1 = 0) ∧ (i = 2 → e2 = 0) ∧ L = [(6, .slice (some ⟨r, 0, none⟩) 2 3), (7, I64 2), (8, I64 i)]) (n := 2) ⟨0, rfl, rfl, .inl rfl, by omega, rfl⟩ ?_ ?_)
  · simp [HasA, Tr.get_put]
  rintro m L h' ⟨i, hm, rfl, ha, hb, rfl⟩
  simp only [mkA]
  have w2 : IntKind.i64.wrap ((i : Int) + 1) = ((i + 1 : Nat) : Int) := by rw [wrap_i64 xA xA]; omega
  obtain rfl | rfl | rfl : i = 0 ∨ i = 1 ∨ i = 2 := by omega
  · by_cases h0 : e1 = 0
    · have jY := An @hr <| An @h0 <| An ty107 <| ty124
      refine Wr <| je Jt <| On ?_
      refine W.seq <| Wy <| CWp.skip <| SQ.normal ?_
      refine W.seq <| W.block <| Wr <| ja Ji <| ja Jl <| ja za <| On ?_
      refine Wr <| ja sm <| jk (Jd (c1)) rfl <| ja za <| On ?_
      refine Wr <| ja sm <| jf Jz <| On ?_
      refine Wn <| CWp.skip <| BQ.normal <| SQ.normal ?_
      have jW := @w2
      refine W.reg <| ja Ja <| ja sm <| OSuf.nil <| ?_
      exact LQ.normal (m := 1) (L := [(6, .slice (some ⟨r, 0, none⟩) 2 3), (7, I64 2), (8, I64 ((0 + 1 : Nat) : Int))]) xA (by simp only [HasA, Tr.get_put, Nat.reduceEqDiff, reduceIte, w2, and_self]) ⟨1, rfl, rfl, .inr h0, by omega, rfl⟩
    · have jY := An @hr <| An @h0 <| An ty107 <| ty124
      refine Wr <| je Jt <| On ?_
      refine W.seq <| Wy <| CWp.skip <| SQ.normal ?_
      refine W.seq <| W.block <| Wr <| ja Ji <| ja Jl <| ja za <| On ?_
      refine Wr <| ja sm <| jk (Jd (c1)) rfl <| ja za <| On ?_
      refine Wr <| ja sm <| je Jz <| On ?_
      refine Wy <| Wr <| ja sm <| ja za <| On ?_
      refine CWp.ret <| BQ.ret <| SQ.ret <| LQ.ret <| BQ.ret <| SQ.ret <| Jr ?_
      exact ⟨by rw [if_neg h0], rfl⟩
  · have h0 : e1 = 0 := ha.resolve_left xA
    by_cases h3 : e2 = 0
    · have jY := An @hr <| An @h3 <| An ty107 <| ty124
      refine Wr <| je Jt <| On ?_
      refine W.seq <| Wy <| CWp.skip <| SQ.normal ?_
      refine W.seq <| W.block <| Wr <| ja Ji <| ja Jl <| ja za <| On ?_
      refine Wr <| ja sm <| jk (Jd (c2)) rfl <| ja za <| On ?_
      refine Wr <| ja sm <| jf Jz <| On ?_
      refine Wn <| CWp.skip <| BQ.normal <| SQ.normal ?_
      have jW := @w2
      refine W.reg <| ja Ja <| ja sm <| OSuf.nil <| ?_
      exact LQ.normal (m := 0) (L := [(6, .slice (some ⟨r, 0, none⟩) 2 3), (7, I64 2), (8, I64 ((1 + 1 : Nat) : Int))]) xA (by simp only [HasA, Tr.get_put, Nat.reduceEqDiff, reduceIte, w2, and_self]) ⟨2, rfl, rfl, .inr h0, fun _ => h3, rfl⟩
    · have jY := An @hr <| An @h3 <| An ty107 <| ty124
      refine Wr <| je Jt <| On ?_
      refine W.seq <| Wy <| CWp.skip <| SQ.normal ?_
      refine W.seq <| W.block <| Wr <| ja Ji <| ja Jl <| ja za <| On ?_
      refine Wr <| ja sm <| jk (Jd (c2)) rfl <| ja za <| On ?_
      refine Wr <| ja sm <| je Jz <| On ?_
      refine Wy <| Wr <| ja sm <| ja za <| On ?_
      refine CWp.ret <| BQ.ret <| SQ.ret <| LQ.ret <| BQ.ret <| SQ.ret <| Jr ?_
      exact ⟨by rw [if_pos h0], rfl⟩
  · have h0 : e1 = 0 := ha.resolve_left xA
    refine Wr <| jy Jt <| On ?_
    refine W.seq <| Wn <| CWp.exit <| SQ.exit <| LQ.exit <| BQ.exit <| SQ.normal ?_
    refine Wr <| ja za <| On ?_
    refine CWp.ret <| Jr ?_
    exact ⟨by rw [if_pos h0, hb rfl], rfl⟩
theorem may_c (h : AHeap) (x : Rec) : FWp Tryz.prog 76 [x.V] h fun u h' => u = I64 (mayE x) ∧ h' = h := by
  refine FWp.gcs (.flat rfl) ?_
  refine W.enter tyOK Tryz.func76 rfl rfl ?_
  simp only [entry]
  refine Wr <| ja Zx <| ja za <| On ?_
  have jY := An ty124 <| ty107
  refine Wr <| ja (so_makeFunc rfl xD xD) <| ja (so_makeFunc rfl xD xD) <| ja Jh <| jk (Jc en101 (first_c _ (h.next + 1) _ _ _ _ xZ (cl1_v _ _ x xZ) (cl2_v _ _ x xZ))) rfl <| ja za <| On ?_
  refine CWp.ret <| Jr ?_
  refine ⟨?_, fun r o hr ho => by simp (disch := first | omega | simp only [nx]; omega) only [hpl]; exact ho⟩
  simp only [mayE]
  split <;> split <;> simp_all
theorem stamp_c (h : AHeap) (n : Int) : FWp Tryz.prog 77 [U64 n] h fun u h' => u = .bool (decide (1 ≤ n ∧ n ≤ 1099511627776)) ∧ h' = h := by
  refine W.enter tyOK Tryz.func77 rfl rfl ?_
  simp only [entry]
  refine Wr <| jF za rfl <| On ?_
  refine Wr <| ja sm <| OSuf.aopB tyOK rfl Jx (fun _ => rfl) (fun h1 => ?_) (fun h1 => ?_)
  · try simp only [bl] at h1
    refine jE sm rfl <| ja sm <| ja Ju <| ja Zp <| ja za <| On ?_
    refine CWp.ret <| Jr ?_
    exact ⟨by congr 1; rw [decide_eq_decide]; omega, rfl⟩
  · try simp only [bl] at h1
    refine jF sm rfl <| jp rfl <| jp rfl <| jF Zp rfl <| jF za rfl <| On ?_
    refine CWp.ret <| Jr ?_
    exact ⟨by rw [decide_eq_false xA], rfl⟩
theorem inside_c (h : AHeap) (p : Lf) (bv dv : Value) (k : List UInt8) : FWp Tryz.prog 78 [LV p bv dv, encS k] h fun u h' => u = .bool (insR p.low p.high k) ∧ h' = h := by
  refine FWp.gcs (.flat rfl) ?_
  have e0 := str_nil p.high
  have e1 := str_lt k p.low
  have e2 := str_lt k p.high
  refine W.enter tyOK Tryz.func78 rfl rfl ?_
  simp only [entry]
  refine Wr <| ja Zx <| jF za rfl <| On ?_
  have jY := ty9
  refine Wr <| ja sm <| ja J25f0 <| ja Jl <| OSuf.aopB tyOK rfl (zb (hv := bs_geq)) (fun _ => rfl) (fun h1 => ?_) (fun h1 => ?_)
  · try simp only [bl] at h1
    refine jE sm rfl <| ja J25f1 <| ja Jl <| OSuf.aopB tyOK ag (zb (hv := bs_eql)) (fun _ => rfl) (fun h2 => ?_) (fun h2 => ?_)
    · try simp only [bl] at h2
      refine jE sm rfl <| jp rfl <| jp rfl <| jp rfl <| jp rfl <| jE Zp rfl <| jE Zp rfl <| jE za rfl <| On ?_
      refine CWp.ret <| Jr ?_
      exact ⟨by simp [sst] at h1 h2; simp [insR, h1, h2], fun r o hr ho => by simp (disch := first | omega | simp only [nx]; omega) only [hpl]; exact ho⟩
    · try simp only [bl] at h2
      refine jF sm rfl <| ja sm <| ja J25f1 <| ja Jl <| ja (zb (hv := bs_lss)) <| ja Zp <| ja Zp <| ja za <| On ?_
      refine CWp.ret <| Jr ?_
      exact ⟨by simp [sst] at h1 h2; simp [insR, h1, h2, sst], fun r o hr ho => by simp (disch := first | omega | simp only [nx]; omega) only [hpl]; exact ho⟩
  · try simp only [bl] at h1
    refine jF sm rfl <| jp rfl <| jp rfl <| jp rfl <| jp rfl <| jp rfl <| jp rfl <| jp rfl <| jp rfl <| jp rfl <| jF Zp rfl <| jF za rfl <| On ?_
    refine CWp.ret <| Jr ?_
    exact ⟨by simp [sst] at h1; simp [insR, h1], fun r o hr ho => by simp (disch := first | omega | simp only [nx]; omega) only [hpl]; exact ho⟩
theorem fits_c (h : AHeap) (p : Lf) (bv dv : Value) (x : Rec) : FWp Tryz.prog 38 [LV p bv dv, x.V] h fun u h' => u = .bool (fit p.low p.high x) ∧ h' = h := by
  refine FWp.gcs (.flat rfl) ?_
  refine W.enter tyOK Tryz.func38 rfl rfl ?_
  simp only [entry]
  have e0 := mayE_ok x
  have hs := stamp_c ((h.new (.cells (lcs p bv dv) 1)).new (.cells x.cs 1)) x.lsn
  have hi := inside_c ((h.new (.cells (lcs p bv dv) 1)).new (.cells x.cs 1)) p bv dv x.key
  by_cases c1 : 1 ≤ x.lsn ∧ x.lsn ≤ 1099511627776
  · rw [decide_eq_true c1] at hs
    refine Wr <| ja Zx <| ja Zx <| jF za rfl <| On ?_
    have jY := An ty27 <| An ty22 <| An ty25 <| ty9
    refine Wr <| ja Jl <| jk (Jc en76 (may_c _ x)) rfl <| OSuf.aopB tyOK rfl Jy (fun _ => rfl) (fun h1 => ?_) (fun h1 => ?_)
    · try simp only [bl] at h1
      refine jE sm rfl <| ja J27f1 <| ja Jl <| jk (Jc en77 (hs)) rfl <| jE Zp rfl <| jE sm rfl <| ja Jl <| ja J27f0 <| ja Jl <| jk (Jc en78 (hi)) rfl <| ja Zp <| ja za <| On ?_
      refine CWp.ret <| Jr ?_
      exact ⟨by have e1 : mayR x = true := (by rw [← e0]; simpa using h1); simp [fit, e1, c1], fun r o hr ho => by simp (disch := first | omega | simp only [nx]; omega) only [hpl]; exact ho⟩
    · try simp only [bl] at h1
      refine jF sm rfl <| jp rfl <| jp rfl <| jp rfl <| jF Zp rfl <| jF sm rfl <| jp rfl <| jp rfl <| jp rfl <| jp rfl <| jF Zp rfl <| jF za rfl <| On ?_
      refine CWp.ret <| Jr ?_
      exact ⟨by have e1 : mayR x = false := (by rw [← e0]; simpa using h1); simp [fit, e1], fun r o hr ho => by simp (disch := first | omega | simp only [nx]; omega) only [hpl]; exact ho⟩
  · rw [decide_eq_false c1] at hs
    refine Wr <| ja Zx <| ja Zx <| jF za rfl <| On ?_
    have jY := An ty27 <| ty22
    refine Wr <| ja Jl <| jk (Jc en76 (may_c _ x)) rfl <| OSuf.aopB tyOK rfl Jy (fun _ => rfl) (fun h1 => ?_) (fun h1 => ?_)
    · try simp only [bl] at h1
      refine jE sm rfl <| ja J27f1 <| ja Jl <| jk (Jc en77 (hs)) rfl <| jF Zp rfl <| jF sm rfl <| jp rfl <| jp rfl <| jp rfl <| jp rfl <| jF Zp rfl <| jF za rfl <| On ?_
      refine CWp.ret <| Jr ?_
      exact ⟨by simp [fit, c1], fun r o hr ho => by simp (disch := first | omega | simp only [nx]; omega) only [hpl]; exact ho⟩
    · try simp only [bl] at h1
      refine jF sm rfl <| jp rfl <| jp rfl <| jp rfl <| jF Zp rfl <| jF sm rfl <| jp rfl <| jp rfl <| jp rfl <| jp rfl <| jF Zp rfl <| jF za rfl <| On ?_
      refine CWp.ret <| Jr ?_
      exact ⟨by have e1 : mayR x = false := (by rw [← e0]; simpa using h1); simp [fit, e1], fun r o hr ho => by simp (disch := first | omega | simp only [nx]; omega) only [hpl]; exact ho⟩
end Go.Proofs.YtebheelmgcggmaaGreat
namespace Go.Proofs.YtebheelmgcggmaaGreat
open Go.Ab Go.Sort
theorem sb : (∀ p : Prop, (p ∧ p) = p) ∧ (∀ {α : Type} {d : Decidable True} (a b : α), @ite α True d a b = a) ∧ (∀ n : Nat, (n : Int).toNat = n) ∧ (∀ n : Nat, 0 + n = n) ∧ (∀ n : Nat, n + 0 = n) ∧ (∀ n : Nat, n * 1 = n) := ⟨fun p => and_self p, fun {α d} a b => by simp, fun n => Int.toNat_natCast n, Nat.zero_add, Nat.add_zero, Nat.mul_one⟩
theorem new_set (h : AHeap) (o o' : AObj) : (h.new o).set h.next o' = h.new o' := by simp only [AHeap.new, AHeap.set, Tr.put_put]
theorem rcl : (∀ (a b c d : Value) (x : Rec), splice [a, b, c, d] 0 x.cs = x.cs) ∧ (∀ x : Rec, List.take 4 (List.drop 0 x.cs) = x.cs) ∧ (∀ (h : AHeap) (o o' : AObj), (h.new o).set h.next o' = h.new o') := ⟨fun _ _ _ _ _ => rfl, fun _ => rfl, new_set⟩
theorem cellsOf_sub {vs l x : List Value} {off m a b : Nat} (h1 : cellsOf vs off m = some l) (h2 : cellsOf l a b = some x) : cellsOf vs (off + a) b = some x := by
  obtain ⟨p1, rfl, p3⟩ := cellsOf_some h1
  obtain ⟨q1, rfl, q3⟩ := cellsOf_some h2
  have : a + b ≤ m := by simp at q1; omega
  rw [cellsOf_mk xA, List.drop_take, List.take_take, List.drop_drop, Nat.min_eq_left xA]
theorem cellsOf_get {vs l : List Value} {off m i : Nat} {v : Value} (h1 : cellsOf vs off m = some l) (h2 : l[i]? = some v) : vs[off + i]? = some v := by
  obtain ⟨p1, rfl, p3⟩ := cellsOf_some h1
  have hi : i < ((vs.drop off).take m).length := (List.getElem?_eq_some_iff.1 h2).1
  rw [List.getElem?_take_of_lt (by simp at hi; omega), List.getElem?_drop] at h2
  exact h2
structure RG (h : AHeap) (sz n : Nat) (cs : List Value) (v : Value) : Prop where
  ex : ∃ b c, v = .slice b n c ∧ ((b = none ∧ n = 0 ∧ c = 0) ∨ ∃ r off, b = some ⟨r, off, none⟩ ∧ (n ≠ 0 → r < h.next ∧ ∃ vs, rowOf h r = some vs ∧ cellsOf vs off (n * sz) = some cs))
abbrev RS (h : AHeap) (l : List Rec) (v : Value) : Prop := RG h 4 l.length (fl l) v
theorem rowOf_eq {h h' : AHeap} {r : Nat} (e : h'.get r = h.get r) : rowOf h' r = rowOf h r := by simp only [rowOf, e]
theorem RG.mono {h h' : AHeap} {sz n : Nat} {cs : List Value} {v : Value} (s : RG h sz n cs v) (hn : h.next ≤ h'.next) (hk : ∀ z, z < h.next → h'.get z = h.get z) : RG h' sz n cs v := by
  obtain ⟨b, c, e, hr⟩ := s.ex
  refine ⟨b, c, e, hr.imp id ?_⟩
  rintro ⟨r, off, h1, h2⟩
  exact ⟨r, off, h1, fun h0 => let ⟨h2, vs, h3, h4⟩ := h2 h0; ⟨by omega, vs, by rw [rowOf_eq (hk r h2)]; exact h3, h4⟩⟩
theorem RG.at_ {h : AHeap} {sz n m : Nat} {cs : List Value} {b : Option Addr} {c : Nat} (s : RG h sz n cs (.slice b m c)) {i : Nat} (hi : i < n) : m = n ∧ ∃ r off, b = some ⟨r, off, none⟩ ∧ r < h.next ∧ ∀ h' : AHeap, h'.get r = h.get r →
    (∀ (t : TypeId) (ti : TI) (xs : List Value), T.get t = some ti → ti.agg = true → cellsOf cs (i * sz) ti.size = some xs → aLoad T t (PA r (off + i * sz)) h' = some (.agg xs.toArray)) ∧
    (∀ (j : Nat) (t : TypeId) (ti : TI) (v : Value), T.get t = some ti → ti.agg = false → cs[i * sz + j]? = some v → aLoad T t (PA r (off + i * sz + j)) h' = some v) := by
  obtain ⟨b', c', e, hr⟩ := s.ex
  cases e
  rcases hr with ⟨_, hr, _⟩ | ⟨r, off, h1, hr⟩
  · omega
  obtain ⟨h2, vs, h3, h4⟩ := hr xA
  refine ⟨rfl, r, off, h1, h2, fun h' he => ⟨fun t ti xs ht ha hc => ?_, fun j t ti v ht ha hc => ?_⟩⟩
  · simp only [aLoad, ht, rowOf_eq he, h3, ha, cond_true, cellsOf_sub h4 hc, Option.map_some]
  · simp only [aLoad, ht, rowOf_eq he, h3, ha, cond_false]
    have := cellsOf_get h4 hc
    rwa [← Nat.add_assoc] at this
theorem RS.at_ {h : AHeap} {l : List Rec} {m : Nat} {b : Option Addr} {c : Nat} (s : RS h l (.slice b m c)) {i : Nat} {x : Rec} (hx : l[i]? = some x) : m = l.length ∧ ∃ r off, b = some ⟨r, off, none⟩ ∧ r < h.next ∧ ∀ h' : AHeap, h'.get r = h.get r →
    (∀ (t : TypeId) (ti : TI), T.get t = some ti → ti.agg = true → ti.size = 4 → aLoad T t (PA r (off + i * 4)) h' = some x.V) ∧
    (∀ (j : Nat) (t : TypeId) (ti : TI) (v : Value), T.get t = some ti → ti.agg = false → x.cs[j]? = some v → aLoad T t (PA r (off + i * 4 + j)) h' = some v) := by
  have hi := (List.getElem?_eq_some_iff.1 hx).1
  obtain ⟨h1, r, off, h2, h3, h4⟩ := RG.at_ s hi
  refine ⟨h1, r, off, h2, h3, fun h' he => ⟨fun t ti ht ha hs => (h4 h' he).1 t ti _ ht ha (by rw [hs]; exact fl_get hx), fun j t ti v ht ha hv => (h4 h' he).2 j t ti v ht ha ?_⟩⟩
  have hj : j < 4 := by
    have := (List.getElem?_eq_some_iff.1 hv).1
    rwa [csn] at this
  rw [fl_at hx hj]; exact hv
theorem RG.form {h : AHeap} {sz n : Nat} {cs : List Value} {v : Value} (s : RG h sz n cs v) : ∃ b c, v = .slice b n c := let ⟨b, c, e, _⟩ := s.ex; ⟨b, c, e⟩
theorem all_c (h : AHeap) (p : Lf) (bv dv : Value) : FWp Tryz.prog 45 [LV p bv dv] h fun u h' => u = .func (.func 86) #[] #[P0 h.next] ∧ h' = h.new (.cells (lcs p bv dv) 1) := by
  refine W.enter tyOK Tryz.func45 rfl rfl ?_
  simp only [entry]
  refine Wr <| ja Zx <| ja za <| On ?_
  refine Wr <| ja (so_makeFunc rfl xD xD) <| ja za <| On ?_
  refine CWp.ret <| Jr ?_
  exact ⟨rfl, rfl⟩
theorem all1_c (h : AHeap) (p : Lf) (bv dv yv : Value) (q : Nat) (hq : h.get q = some (.cells (lcs p bv dv) 1)) (J : List Rec → AHeap → Prop) (S : AHeap → Prop)
    (j0 : J [] (h.new (.cells [bv, dv] 1))) (jn : ∀ pre g o, J pre g → J pre (g.new o)) (jr : ∀ pre g, J pre g → RS g p.base bv ∧ RS g p.deltas dv ∧ g.get h.next = some (.cells [bv, dv] 1)) (hlb : p.base.length ≤ 1000000) (hld : p.deltas.length ≤ 1000000)
    (yield : ∀ pre x post, pre ++ x :: post = p.all → ∀ g, J pre g → (VWp Tryz.prog yv [x.V] g fun u g' => u = .bool true ∧ J (pre ++ [x]) g') ∨ (VWp Tryz.prog yv [x.V] g fun u g' => u = .bool false ∧ S g')) :
    FWp Tryz.prog 86 [yv, P0 q] h fun u g => u = .tuple #[] ∧ (J p.all g ∨ S g) := by
  have tb86 := And.intro ty23 (And.intro ty25 (And.intro ty27 (ty95)))
  obtain ⟨r1, r2, r3⟩ := jr _ _ j0
  obtain ⟨b1, c1, rfl⟩ := r1.form
  obtain ⟨b2, c2, rfl⟩ := r2.form
  obtain ⟨SV, hSV⟩ : ∃ SV : Value, SV = .slice (some ⟨h.next, 0, none⟩) 2 3 := ⟨_, rfl⟩
  refine W.enter tyOK Tryz.func86 rfl rfl ?_
  simp only [entry]
  have jY := An @hq <| An ty23 <| An ty95 <| tb86
  refine Wr <| ja J25f3 <| ja Jl <| ja J25f4 <| ja Jl <| ja Jh <| ja Jn <| ja sm <| On ?_
  obtain ⟨pr, hpr⟩ : ∃ pr : Nat → List Rec, pr = fun i => if i = 0 then [] else if i = 1 then p.base else p.all := ⟨_, rfl⟩
  refine W.cut (fun L h' => J p.all h' ∧ L = []) (W.block (W.loop (fun m L h' => ∃ i : Nat, m + i = 2 ∧ J (pr i) h' ∧ L = [(0, yv), (11, .slice (some ⟨h.next, 0, none⟩) 2 3), (12, I64 2), (13, I64 i)]) (n := 2) ⟨0, rfl, by rw [hpr]; exact j0, rfl⟩ ?_ ?_)) ?_
  · simp [HasA, Tr.get_put]
  · rintro m L g ⟨i, hm, hJ, rfl⟩
    simp only [mkA]
    have w2 : IntKind.i64.wrap ((i : Int) + 1) = ((i + 1 : Nat) : Int) := by rw [wrap_i64 xA xA]; omega
    by_cases hi : (i : Int) < (2 : Int)
    · obtain ⟨l, b, c, k1, k2, k3, k4⟩ : ∃ l b c, [Value.slice b1 p.base.length c1, Value.slice b2 p.deltas.length c2][i]? = some (.slice b l.length c) ∧ pr (i + 1) = pr i ++ l ∧ (∀ pre g, J pre g → RS g l (.slice b l.length c)) ∧ l.length ≤ 1000000 := by
        obtain rfl | rfl : i = 0 ∨ i = 1 := by omega
        · exact ⟨p.base, b1, c1, rfl, by rw [hpr]; rfl, fun pre g hg => (jr pre g hg).1, hlb⟩
        · exact ⟨p.deltas, b2, c2, rfl, by rw [hpr]; rfl, fun pre g hg => (jr pre g hg).2.1, hld⟩
      have hpa : ∃ post, pr (i + 1) ++ post = p.all := by
        obtain rfl | rfl : i = 0 ∨ i = 1 := by omega
        · exact ⟨p.deltas, by rw [hpr]; rfl⟩
        · exact ⟨[], by rw [hpr]; simp⟩
      have r3 := (jr _ _ hJ).2.2
      have hc : (0 ≤ (i : Int) ∧ (i : Int) < ((2 : Nat) : Int)) := by omega
      have jY := An @r3 <| An @hc <| An @sb <| An @k1 <| An tb86 <| An ty23 <| ty95
      refine Wr <| je Jt <| On ?_
      refine W.seq <| Wy <| CWp.skip <| SQ.normal ?_
      refine W.seq <| W.block <| Wr <| ja Ji <| ja Jl <| ja za <| On ?_
      refine Wr <| ja sm <| ja Jn <| ja sm <| On ?_
      refine W.cut (fun L h' => J (pr (i + 1)) h' ∧ L = [(0, yv), (11, .slice (some ⟨h.next, 0, none⟩) 2 3), (12, I64 2), (13, I64 i)]) (W.block (W.loop (fun m L h' => ∃ k : Nat, m + k = l.length ∧ J (pr i ++ l.take k) h' ∧ L = [(0, yv), (11, .slice (some ⟨h.next, 0, none⟩) 2 3), (12, I64 2), (13, I64 i), (17, .slice b l.length c), (18, I64 l.length), (19, I64 k)]) (n := l.length) ⟨0, by omega, by simpa using hJ, rfl⟩ ?_ ?_)) ?_
      · simp [HasA, Tr.get_put]
      · rintro m2 L g2 ⟨k, hm2, hJ2, rfl⟩
        simp only [mkA]
        have w3 : IntKind.i64.wrap ((k : Int) + 1) = ((k + 1 : Nat) : Int) := by rw [wrap_i64 xA xA]; omega
        by_cases hk : (k : Int) < (l.length : Int)
        · obtain ⟨x, hx⟩ : ∃ x, l[k]? = some x := ⟨l[k]'xA, by simp⟩
          have hck : (0 ≤ (k : Int) ∧ (k : Int) < (l.length : Int)) := by omega
          obtain ⟨_, r, off, rfl, hr1, hr2⟩ := RS.at_ (k3 _ _ hJ2) hx
          obtain ⟨post, hpost⟩ := hpa
          have htk : l.take (k + 1) = l.take k ++ [x] := by rw [List.take_add_one, hx]; rfl
          have hsplit : (pr i ++ l.take k) ++ x :: (l.drop (k + 1) ++ post) = p.all := by
            have e1 : l = l.take k ++ x :: l.drop (k + 1) := by
              conv => lhs; rw [← List.take_append_drop k l, List.drop_eq_getElem_cons xA]
              rw [(List.getElem?_eq_some_iff.1 hx).2]
            rw [← hpost, k2]
            conv => rhs; rw [e1]
            simp
          rcases yield _ _ _ hsplit _ (jn _ _ (.cells x.cs 1) hJ2) with hy | hy
          · have jY := An @hck <| An @sb <| An @rcl <| An tb86 <| An ty23 <| ty27
            refine Wr <| je Jt <| On ?_
            refine W.seq <| Wy <| CWp.skip <| SQ.normal ?_
            refine W.seq <| W.block <| Wr <| ja Ji <| ja (zl (hv := (hr2 _ rfl).1 _ _ ty27 rfl rfl)) <| ja Jo <| jc Js <| On ?_
            refine Wr <| ja sm <| ja Jl <| jm (Jd (hy)) ?_
            rintro _ g3 ⟨rfl, hJ3⟩
            refine ⟨_, rfl, ?_⟩
            refine jF Zt rfl <| On ?_
            refine Wn <| CWp.skip <| BQ.normal <| SQ.normal ?_
            have jW := @w3
            refine W.reg <| ja Ja <| ja sm <| OSuf.nil <| ?_
            refine LQ.normal (m := m2 - 1) (L := [(0, yv), (11, .slice (some ⟨h.next, 0, none⟩) 2 3), (12, I64 2), (13, I64 i), (17, .slice (some ⟨r, off, none⟩) l.length c), (18, I64 l.length), (19, I64 ((k + 1 : Nat) : Int))]) xA ?_ ⟨k + 1, by omega, by rw [htk, ← List.append_assoc]; exact hJ3, rfl⟩
            simp only [HasA, Tr.get_put, Nat.reduceEqDiff, reduceIte, w3, and_self]
          · have jY := An @hck <| An @sb <| An @rcl <| An tb86 <| An ty23 <| ty27
            refine Wr <| je Jt <| On ?_
            refine W.seq <| Wy <| CWp.skip <| SQ.normal ?_
            refine W.seq <| W.block <| Wr <| ja Ji <| ja (zl (hv := (hr2 _ rfl).1 _ _ ty27 rfl rfl)) <| ja Jo <| jc Js <| On ?_
            refine Wr <| ja sm <| ja Jl <| jm (Jd (hy)) ?_
            rintro _ g3 ⟨rfl, hS⟩
            refine ⟨_, rfl, ?_⟩
            refine jE Zt rfl <| On ?_
            refine Wy <| CWp.ret <| BQ.ret <| SQ.ret <| LQ.ret <| BQ.ret <| NQ.ret <| BQ.ret <| SQ.ret <| LQ.ret <| BQ.ret <| NQ.ret <| Jr ?_
            exact ⟨rfl, .inr hS⟩
        · refine Wr <| jy Jt <| On ?_
          refine W.seq <| Wn <| CWp.exit <| SQ.exit <| LQ.exit <| BQ.exit <| ?_
          refine NQ.normal (L := [(0, yv), (11, .slice (some ⟨h.next, 0, none⟩) 2 3), (12, I64 2), (13, I64 i)]) ?_ ⟨?_, rfl⟩
          · simp only [HasA, Tr.get_put, Nat.reduceEqDiff, reduceIte, and_self]
          · rw [k2]; rw [List.take_of_length_le xA] at hJ2; exact hJ2
      rintro L a' h' ha ⟨hJ2, rfl⟩
      refine BQ.normal <| SQ.normal <| CWp.known ha ?_
      simp only [mkA]
      have jW := @w2
      refine W.reg <| ja Ja <| ja sm <| OSuf.nil <| ?_
      refine LQ.normal (m := m - 1) (L := [(0, yv), (11, .slice (some ⟨h.next, 0, none⟩) 2 3), (12, I64 2), (13, I64 ((i + 1 : Nat) : Int))]) xA ?_ ⟨i + 1, by omega, hJ2, rfl⟩
      simp only [HasA, Tr.get_put, Nat.reduceEqDiff, reduceIte, w2, and_self]
    · refine Wr <| jy Jt <| On ?_
      refine W.seq <| Wn <| CWp.exit <| SQ.exit <| LQ.exit <| BQ.exit <| ?_
      refine NQ.normal (L := []) trivial ⟨?_, rfl⟩
      have : i = 2 := by omega
      rw [this, hpr] at hJ; exact hJ
  rintro L a' h' ha ⟨hJ, rfl⟩
  exact FQ.normal (by simp only [aRet, Tryz.f86, aResults] <;> rfl) ⟨rfl, .inl hJ⟩
end Go.Proofs.YtebheelmgcggmaaGreat
namespace Go.Proofs.YtebheelmgcggmaaGreat
open Go.Ab Go.Sort
theorem W.join {P : Program} {cx : Cx} {c Z : Code} {a : Tr Value} {h : AHeap} {Q Q' : AExit → Tr Value → AHeap → Prop} (R : List (Nat × Value) → AHeap → Prop) (hc : (∀ L a' h', HasA a' L → R L h' → CWp P cx Z a' h' Q') → CWp P cx c a h Q)
    (hz : ∀ L h', R L h' → CWp P cx Z (mkA L) h' Q') : CWp P cx c a h Q := hc fun L a' h' ha hr => CWp.known ha (hz L h' hr)
theorem risB_of {lt : Rec → Rec → Bool} : ∀ {l : List Rec}, (∀ j a b, l[j]? = some a → l[j + 1]? = some b → lt a b = true) → risB lt l = true
  | [], _ => rfl
  | [a], _ => rfl
  | a :: b :: l, h => by
    simp only [risB, Bool.and_eq_true]
    exact ⟨h 0 a b rfl rfl, risB_of fun j x y hx hy => h (j + 1) x y hx hy⟩
theorem risB_not {lt : Rec → Rec → Bool} : ∀ {l : List Rec} {j : Nat} {a b : Rec}, l[j]? = some a → l[j + 1]? = some b → lt a b = false → risB lt l = false
  | [], _, _, _, h, _, _ => by simp at h
  | [x], j, a, b, h1, h2, _ => by simp at h2
  | x :: y :: l, 0, a, b, h1, h2, h3 => by
    simp at h1 h2; subst h1 h2
    simp [risB, h3]
  | x :: y :: l, j + 1, a, b, h1, h2, h3 => by
    have := risB_not (l := y :: l) (j := j) h1 h2 h3
    simp [risB, this]
theorem rising_c (h : AHeap) (l : List Rec) (v fv : Value) (lt : Rec → Rec → Bool) (hs : RS h l v) (hf : ∀ a b, VWp Tryz.prog fv [a.V, b.V] h fun u h' => u = .bool (lt a b) ∧ h' = h) (hl : l.length ≤ 1000000) :
    FWp Tryz.prog 46 [v, fv] h fun u h' => u = .bool (risB lt l) ∧ h' = h := by
  obtain ⟨b, c, rfl⟩ := hs.form
  refine W.enter tyOK Tryz.func46 rfl rfl ?_
  simp only [entry]
  refine Wr <| jF za rfl <| On ?_
  refine W.seq <| Wr <| ja za <| On ?_
  refine W.block (W.loop (fun m L h' => ∃ k : Nat, m + k = l.length ∧ h' = h ∧ (∀ j a b, j < k → l[j]? = some a → l[j + 1]? = some b → lt a b = true) ∧ L = [(0, .slice b l.length c), (1, fv), (5, I64 ((k + 1 : Nat) : Int))]) (n := l.length) ⟨0, rfl, rfl, by omega, rfl⟩ ?_ ?_)
  · simp [HasA, Tr.get_put]
  rintro m L h' ⟨k, hm, rfl, hr, rfl⟩
  simp only [mkA]
  have w1 : IntKind.i64.wrap (((k + 1 : Nat) : Int) - 1) = (k : Int) := by rw [wrap_i64 xA xA]; omega
  have w2 : IntKind.i64.wrap (((k + 1 : Nat) : Int) + 1) = ((k + 1 + 1 : Nat) : Int) := by rw [wrap_i64 xA xA]; omega
  by_cases hk : ((k + 1 : Nat) : Int) < (l.length : Int)
  · obtain ⟨x, hx⟩ : ∃ x, l[k]? = some x := ⟨l[k]'xA, by simp⟩
    obtain ⟨y, hy⟩ : ∃ y, l[k + 1]? = some y := ⟨l[k + 1]'xA, by simp⟩
    obtain ⟨_, r, off, rfl, hr1, hr2⟩ := RS.at_ hs hx
    obtain ⟨_, r', off', e, _, hr3⟩ := RS.at_ hs hy
    cases e
    have c1 : (0 ≤ (k : Int) ∧ (k : Int) < (l.length : Int)) := by omega
    have c2 : (0 ≤ ((k + 1 : Nat) : Int) ∧ ((k + 1 : Nat) : Int) < (l.length : Int)) := by omega
    have hv := hf x y
    cases hlt : lt x y with
    | true =>
      rw [hlt] at hv
      have jY := An @c1 <| An @c2 <| An @sb <| An ty23 <| ty27
      refine W.seq <| Wr <| ja sm <| ja sm <| ja Jn <| je Jt <| On ?_
      refine Wy <| CWp.skip <| SQ.normal ?_
      have jW := An @w1 <| @w2
      refine W.seq <| W.block <| Wd <| jb sm <| jb sm <| jb sm <| jb Jb <| jb Ji <| jb (zl (hv := (hr2 _ rfl).1 _ _ ty27 rfl rfl)) <| jb sm <| jb sm <| jb Ji <| jb (zl (hv := (hr3 _ rfl).1 _ _ ty27 rfl rfl)) <| jl (Jd (hv)) rfl <| jH Zt rfl <| Sn ?_
      refine Wn <| CWp.skip <| BQ.normal <| SQ.normal ?_
      refine W.reg <| ja sm <| ja Ja <| ja za <| OSuf.nil <| ?_
      refine LQ.normal (m := m - 1) (L := [(0, .slice (some ⟨r, off, none⟩) l.length c), (1, fv), (5, I64 ((k + 1 + 1 : Nat) : Int))]) xA ?_ ⟨k + 1, by omega, rfl, fun j a b hj ha hb => ?_, rfl⟩
      · simp only [HasA, Tr.get_put, Nat.reduceEqDiff, reduceIte, w2, and_self]
      · by_cases e : j = k
        · subst e; rw [hx] at ha; rw [hy] at hb; cases ha; cases hb; exact hlt
        · exact hr j a b xA ha hb
    | false =>
      rw [hlt] at hv
      have jY := An @c1 <| An @c2 <| An @sb <| An ty23 <| ty27
      refine W.seq <| Wr <| ja sm <| ja sm <| ja Jn <| je Jt <| On ?_
      refine Wy <| CWp.skip <| SQ.normal ?_
      have jW := An @w1 <| @w2
      refine W.seq <| W.block <| Wd <| jb sm <| jb sm <| jb sm <| jb Jb <| jb Ji <| jb (zl (hv := (hr2 _ rfl).1 _ _ ty27 rfl rfl)) <| jb sm <| jb sm <| jb Ji <| jb (zl (hv := (hr3 _ rfl).1 _ _ ty27 rfl rfl)) <| jl (Jd (hv)) rfl <| jG Zt rfl <| Sn ?_
      refine Wy <| Wr <| jF za rfl <| On ?_
      refine CWp.ret <| BQ.ret <| SQ.ret <| LQ.ret <| BQ.ret <| SQ.ret <| Jr ?_
      exact ⟨by rw [risB_not hx hy hlt], rfl⟩
  · have jY := ty23
    refine W.seq <| Wr <| ja sm <| ja sm <| ja Jn <| jy Jt <| On ?_
    refine Wn <| CWp.exit <| SQ.exit <| LQ.exit <| BQ.exit <| SQ.normal ?_
    refine Wr <| jE za rfl <| On ?_
    refine CWp.ret <| Jr ?_
    refine ⟨?_, rfl⟩
    rw [risB_of fun j a b ha hb => hr j a b (by have := (List.getElem?_eq_some_iff.1 hb).1; omega) ha hb]
theorem chk1_c (h : AHeap) (a b : Rec) : FWp Tryz.prog 47 [a.V, b.V] h fun u h' => u = .bool (ltK a b) ∧ h' = h := by
  refine FWp.gcs (.flat rfl) ?_
  have e := str_lt a.key b.key
  refine W.enter tyOK Tryz.func47 rfl rfl ?_
  simp only [entry]
  refine Wr <| ja Zx <| ja Zx <| jF za rfl <| On ?_
  have jY := An ty9 <| ty27
  refine Wr <| ja J27f0 <| ja Jl <| ja J27f0 <| ja Jl <| ja (zb (hv := bs_lss)) <| ja za <| On ?_
  refine CWp.ret <| Jr ?_
  exact ⟨by rw [e]; rfl, fun r o hr ho => by simp (disch := first | omega | simp only [nx]; omega) only [hpl]; exact ho⟩
theorem chk2_c (h : AHeap) (a b : Rec) : FWp Tryz.prog 48 [a.V, b.V] h fun u h' => u = .bool (ltL a b) ∧ h' = h := by
  refine FWp.gcs (.flat rfl) ?_
  refine W.enter tyOK Tryz.func48 rfl rfl ?_
  simp only [entry]
  refine Wr <| ja Zx <| ja Zx <| jF za rfl <| On ?_
  have jY := An ty22 <| ty27
  refine Wr <| ja J27f1 <| ja Jl <| ja J27f1 <| ja Jl <| ja Jt <| ja za <| On ?_
  refine CWp.ret <| Jr ?_
  exact ⟨rfl, fun r o hr ho => by simp (disch := first | omega | simp only [nx]; omega) only [hpl]; exact ho⟩
theorem lt_no {a b : List UInt8} (h : ltStr b a = true ∨ b = a) : ltStr a b = false := by
  rcases h with h | rfl
  · exact swo_ltStr.asymmA h
  · exact swo_ltStr.irrefl _
theorem lt_yes {a b : List UInt8} (h1 : ltStr b a = false) (h2 : ¬ b = a) : ltStr a b = true := by
  cases h3 : ltStr a b with
  | true => rfl
  | false => exact (h2 (str_eq_of h1 h3)).elim
structure CJ (h g : AHeap) (p : Lf) (bv dv : Value) (lp : ALoop) (e : Int) : Prop where
  next : h.next + 5 ≤ g.next
  leaf : g.get h.next = some (.cells (lcs p bv dv) 1)
  err : g.get (h.next + 1) = some (.cells [I64 e] 1)
  loop : g.get (h.next + 3) = some (.loop lp)
  two : g.get (h.next + 4) = some (.cells [bv, dv] 1)
  old : ∀ z, z < h.next → g.get z = h.get z
theorem CJ.mono {h g g' : AHeap} {p : Lf} {bv dv : Value} {lp lp' : ALoop} {e : Int} (c : CJ h g p bv dv lp e) (hn : g.next ≤ g'.next) (hl : g'.get (h.next + 3) = some (.loop lp')) (hk : ∀ z, z < g.next → ¬ z = h.next + 3 → g'.get z = g.get z) : CJ h g' p bv dv lp' e := by
  have := c.next
  exact ⟨by omega, by rw [hk _ xA xA]; exact c.leaf, by rw [hk _ xA xA]; exact c.err, hl, by rw [hk _ xA xA]; exact c.two, fun z hz => by rw [hk _ xA xA]; exact c.old z hz⟩
theorem check_c (h : AHeap) (p : Lf) (bv dv : Value) (hb : RS h p.base bv) (hd : RS h p.deltas dv) (hlb : p.base.length ≤ 1000000) (hld : p.deltas.length ≤ 1000000) :
    FWp Tryz.prog 13 [LV p bv dv] h fun u h' => u = I64 (if chk p = true then 0 else 2) ∧ h' = h := by
  have tb13 := And.intro ty22 (And.intro ty23 (And.intro ty25 (And.intro ty27 (And.intro ty3 (And.intro ty33 (ty9))))))
  obtain ⟨b1, c1, rfl⟩ := hb.form
  obtain ⟨b2, c2, rfl⟩ := hd.form
  refine FWp.gcs (.flat rfl) ?_
  refine W.enter tyOK Tryz.func13 rfl rfl ?_
  simp only [entry]
  have hsz1 := sz_str p.low
  have hsz2 := sz_str p.high
  have hle := str_lt p.low p.high
  have bad : ∀ e : Int, chk p = false → e = 2 → I64 e = I64 (if chk p = true then 0 else 2) := fun e h1 h2 => by rw [h1, h2]; rfl
  have bad' : ¬ (p.low.length ≤ 16 ∧ p.high.length ≤ 16 ∧ (p.high = [] ∨ ltStr p.low p.high = true) ∧ p.full ≤ 1099511627776 ∧ p.base.length ≤ 64 ∧ p.deltas.length ≤ 64) → chk p = false := fun hn => by simp only [chk]; rw [decide_eq_false hn]; rfl
  apply W.join (fun L h' => (p.low.length ≤ 16 ∧ p.high.length ≤ 16 ∧ (p.high = [] ∨ ltStr p.low p.high = true) ∧ p.full ≤ 1099511627776 ∧ p.base.length ≤ 64 ∧ p.deltas.length ≤ 64) ∧ h' = (h.new (.cells (lcs p (.slice b1 p.base.length c1) (.slice b2 p.deltas.length c2)) 1)).new (.cells [I64 0] 1) ∧ L = [(1, P0 h.next), (2, P0 (h.next + 1))])
  · intro rest
    have jY := ty33
    refine Wr <| ja Zx <| ja Jo <| On ?_
    have jY := An @hsz1 <| An @hsz2 <| An ty9 <| An tb13 <| An ty33 <| An ty22 <| ty23
    refine W.seq <| Wr <| ja J25f0 <| ja Jl <| ja Jn <| OSuf.aopB tyOK rfl Jv (fun _ => rfl) (fun h1 => ?_) (fun h1 => ?_)
    · try simp only [bl] at h1
      refine jE sm rfl <| jp rfl <| jp rfl <| jp rfl <| jp rfl <| jE Zp rfl <| jE sm rfl <| jp rfl <| jp rfl <| jp rfl <| jp rfl <| jp rfl <| jp rfl <| jp rfl <| jp rfl <| jp rfl <| jp rfl <| jE Zp rfl <| jE sm rfl <| jp rfl <| jp rfl <| jp rfl <| jE Zp rfl <| jE sm rfl <| jp rfl <| jp rfl <| jp rfl <| jp rfl <| jp rfl <| jp rfl <| jp rfl <| jp rfl <| jE Zp rfl <| On ?_
      refine Wy <| Wr <| jc Js <| On ?_
      refine CWp.ret <| SQ.ret <| Jr ?_
      exact ⟨bad _ (bad' xA) rfl, fun r o hr ho => by simp (disch := first | omega | simp only [nx]; omega) only [hpl]; exact ho⟩
    · try simp only [bl] at h1
      refine jF sm rfl <| ja J25f1 <| ja Jl <| ja Jn <| OSuf.aopB tyOK ag Jv (fun _ => rfl) (fun h2 => ?_) (fun h2 => ?_)
      · try simp only [bl] at h2
        refine jE Zp rfl <| jE sm rfl <| jp rfl <| jp rfl <| jp rfl <| jp rfl <| jp rfl <| jp rfl <| jp rfl <| jp rfl <| jp rfl <| jp rfl <| jE Zp rfl <| jE sm rfl <| jp rfl <| jp rfl <| jp rfl <| jE Zp rfl <| jE sm rfl <| jp rfl <| jp rfl <| jp rfl <| jp rfl <| jp rfl <| jp rfl <| jp rfl <| jp rfl <| jE Zp rfl <| On ?_
        refine Wy <| Wr <| jc Js <| On ?_
        refine CWp.ret <| SQ.ret <| Jr ?_
        exact ⟨bad _ (bad' xA) rfl, fun r o hr ho => by simp (disch := first | omega | simp only [nx]; omega) only [hpl]; exact ho⟩
      · try simp only [bl] at h2
        refine jF Zp rfl <| jF sm rfl <| ja J25f1 <| ja Jl <| OSuf.aopB tyOK ag (zb (hv := bs_neq)) (fun _ => rfl) (fun h3 => ?_) (fun h3 => ?_)
        · try simp only [bl] at h3
          refine jE sm rfl <| ja J25f1 <| ja Jl <| ja J25f0 <| ja Jl <| OSuf.aopB tyOK ag (zb (hv := bs_leq)) (fun _ => rfl) (fun h4 => ?_) (fun h4 => ?_)
          · try simp only [bl] at h4
            refine jE Zp rfl <| jE Zp rfl <| jE sm rfl <| jp rfl <| jp rfl <| jp rfl <| jE Zp rfl <| jE sm rfl <| jp rfl <| jp rfl <| jp rfl <| jp rfl <| jp rfl <| jp rfl <| jp rfl <| jp rfl <| jE Zp rfl <| On ?_
            refine Wy <| Wr <| jc Js <| On ?_
            refine CWp.ret <| SQ.ret <| Jr ?_
            exact ⟨bad _ (bad' (by simp [sst] at h3 h4; simp [h3, lt_no h4])) rfl, fun r o hr ho => by simp (disch := first | omega | simp only [nx]; omega) only [hpl]; exact ho⟩
          · try simp only [bl] at h4
            refine jF Zp rfl <| jF Zp rfl <| jF sm rfl <| ja J25f2 <| ja Jl <| OSuf.aopB tyOK ag Jv (fun _ => rfl) (fun h5 => ?_) (fun h5 => ?_)
            · try simp only [bl] at h5
              refine jE Zp rfl <| jE sm rfl <| jp rfl <| jp rfl <| jp rfl <| jp rfl <| jp rfl <| jp rfl <| jp rfl <| jp rfl <| jE Zp rfl <| On ?_
              refine Wy <| Wr <| jc Js <| On ?_
              refine CWp.ret <| SQ.ret <| Jr ?_
              exact ⟨bad _ (bad' xA) rfl, fun r o hr ho => by simp (disch := first | omega | simp only [nx]; omega) only [hpl]; exact ho⟩
            · try simp only [bl] at h5
              refine jF Zp rfl <| jF sm rfl <| ja J25f3 <| ja Jl <| ja Jn <| ja J25f4 <| ja Jl <| ja Jn <| ja (so_max xD) <| OSuf.aopB tyOK ag Jv (fun _ => rfl) (fun h6 => ?_) (fun h6 => ?_)
              · try simp only [bl] at h6
                refine jE Zp rfl <| On ?_
                refine Wy <| Wr <| jc Js <| On ?_
                refine CWp.ret <| SQ.ret <| Jr ?_
                exact ⟨bad _ (bad' (by split at h6 <;> omega)) rfl, fun r o hr ho => by simp (disch := first | omega | simp only [nx]; omega) only [hpl]; exact ho⟩
              · try simp only [bl] at h6
                refine jF Zp rfl <| On ?_
                refine Wn <| CWp.skip <| SQ.normal ?_
                refine W.seq <| ?_
                refine rest _ _ _ ?_ ⟨⟨by omega, by omega, by simp [sst] at h4; exact .inr (lt_yes h4.1 h4.2), by omega, by split at h6 <;> omega, by split at h6 <;> omega⟩, rfl, rfl⟩
                simp [HasA, Tr.get_put]
        · try simp only [bl] at h3
          refine jF sm rfl <| jp rfl <| jp rfl <| jp rfl <| jp rfl <| jp rfl <| jF Zp rfl <| jF Zp rfl <| jF sm rfl <| ja J25f2 <| ja Jl <| OSuf.aopB tyOK ag Jv (fun _ => rfl) (fun h5 => ?_) (fun h5 => ?_)
          · try simp only [bl] at h5
            refine jE Zp rfl <| jE sm rfl <| jp rfl <| jp rfl <| jp rfl <| jp rfl <| jp rfl <| jp rfl <| jp rfl <| jp rfl <| jE Zp rfl <| On ?_
            refine Wy <| Wr <| jc Js <| On ?_
            refine CWp.ret <| SQ.ret <| Jr ?_
            exact ⟨bad _ (bad' xA) rfl, fun r o hr ho => by simp (disch := first | omega | simp only [nx]; omega) only [hpl]; exact ho⟩
          · try simp only [bl] at h5
            refine jF Zp rfl <| jF sm rfl <| ja J25f3 <| ja Jl <| ja Jn <| ja J25f4 <| ja Jl <| ja Jn <| ja (so_max xD) <| OSuf.aopB tyOK ag Jv (fun _ => rfl) (fun h6 => ?_) (fun h6 => ?_)
            · try simp only [bl] at h6
              refine jE Zp rfl <| On ?_
              refine Wy <| Wr <| jc Js <| On ?_
              refine CWp.ret <| SQ.ret <| Jr ?_
              exact ⟨bad _ (bad' (by split at h6 <;> omega)) rfl, fun r o hr ho => by simp (disch := first | omega | simp only [nx]; omega) only [hpl]; exact ho⟩
            · try simp only [bl] at h6
              refine jF Zp rfl <| On ?_
              refine Wn <| CWp.skip <| SQ.normal ?_
              refine W.seq <| ?_
              refine rest _ _ _ ?_ ⟨⟨by omega, by omega, by simp [sst] at h3; exact .inl h3, by omega, by split at h6 <;> omega, by split at h6 <;> omega⟩, rfl, rfl⟩
              simp [HasA, Tr.get_put]
  · rintro L h' ⟨⟨f1, f2, f3, f4, f5, f6⟩, rfl, rfl⟩
    simp only [mkA]
    have wo : chk p = (p.all.all (fit p.low p.high) && (risB ltK p.base && risB ltL p.deltas)) := by
      simp only [chk]; rw [decide_eq_true ⟨f1, f2, f3, f4, f5, f6⟩, Bool.true_and]
    have jY := ty25
    refine Wr <| ja Jl <| jk (Jc en45 (all_c _ p (.slice b1 p.base.length c1) (.slice b2 p.deltas.length c2))) rfl <| On ?_
    refine W.block (CWp.rangeFunc xR (fun l hl => by cases hl) (VWp.func en86 ?_))
    show FWp _ _ [_, _] _ _
    generalize hLP : (ALoop.mk _ _ _ _ _ _ _ _) = LP
    have hbusy : (LP.state == .busy) = false := by rw [← hLP]; rfl
    have hjn : jumpExit LP.pending = some .normal := by rw [← hLP]; rfl
    refine FWp.mono (all1_c _ p (.slice b1 p.base.length c1) (.slice b2 p.deltas.length c2) _ (h.next + 2) xM (fun pre g => CJ h g p (.slice b1 p.base.length c1) (.slice b2 p.deltas.length c2) LP 0 ∧ pre.all (fit p.low p.high) = true) (fun g => CJ h g p (.slice b1 p.base.length c1) (.slice b2 p.deltas.length c2) (LP.with .done (some .ret)) 2 ∧ p.all.all (fit p.low p.high) = false) ?_ ?_ ?_ hlb hld ?_) ?_
    · refine ⟨⟨by simp, ?_, ?_, ?_, ?_, fun z hz => ?_⟩, rfl⟩ <;> simp (disch := first | omega | simp only [nx]; omega) only [hpl]
    · rintro pre g o ⟨hc, hp⟩
      have := hc.next
      exact ⟨hc.mono xI (by simp (disch := first | omega | simp only [nx]; omega) only [hpl]; exact hc.loop) (fun z hz _ => by simp (disch := first | omega | simp only [nx]; omega) only [hpl]), hp⟩
    · rintro pre g ⟨hc, _⟩
      have := hc.next
      exact ⟨hb.mono xA hc.old, hd.mono xA hc.old, hc.two⟩
    · rintro pre x post hpx g ⟨hc, hp⟩
      have hcn := hc.next
      have g1 := hc.leaf
      have g2 := hc.err
      have hl := hc.loop
      rw [← hLP] at hl
      cases hx : fit p.low p.high x with
      | true =>
        refine .inl (VWp.yield hl rfl ?_)
        have jY := An @rcl <| ty27
        refine W.reg <| ja Jo <| jc Js <| OSuf.nil <| ?_
        refine ⟨rfl, _, by (simp (disch := first | omega | simp only [nx]; omega) only [hpl]; exact hl), rfl, ?_⟩
        have hfx := fun H : AHeap => fits_c H p (.slice b1 p.base.length c1) (.slice b2 p.deltas.length c2) x
        rw [hx] at hfx
        have jY := An @g1 <| An @rcl <| An ty25 <| ty27
        refine W.block <| Wr <| ja Jl <| ja Jl <| jk (Jc en38 (hfx _)) rfl <| jF Zt rfl <| On ?_
        refine Wn <| CWp.skip <| BQ.normal <| ?_
        refine ⟨_, by (simp (disch := first | omega | simp only [nx]; omega) only [hpl]; rfl), rfl, hc.mono xI (by simp (disch := first | omega | simp only [nx]; omega) only [hpl]; rw [← hLP]; rfl) (fun z hz hz3 => by simp (disch := first | omega | simp only [nx]; omega) only [hpl]), ?_⟩
        simp [hp, hx]
      | false =>
        refine .inr (VWp.yield hl rfl ?_)
        have jY := An @rcl <| ty27
        refine W.reg <| ja Jo <| jc Js <| OSuf.nil <| ?_
        refine ⟨rfl, _, by (simp (disch := first | omega | simp only [nx]; omega) only [hpl]; exact hl), rfl, ?_⟩
        have hfx := fun H : AHeap => fits_c H p (.slice b1 p.base.length c1) (.slice b2 p.deltas.length c2) x
        rw [hx] at hfx
        have jY := An @g1 <| An @g2 <| An @rcl <| An ty25 <| An ty27 <| ty33
        refine W.block <| Wr <| ja Jl <| ja Jl <| jk (Jc en38 (hfx _)) rfl <| jE Zt rfl <| On ?_
        refine Wy <| Wr <| jc Js <| On ?_
        refine CWp.ret <| BQ.ret <| ?_
        refine ⟨_, by (simp (disch := first | omega | simp only [nx]; omega) only [hpl]; rfl), rfl, ⟨by simp only [nx]; omega, by simp (disch := first | omega | simp only [nx]; omega) only [hpl]; exact g1, by simp (disch := first | omega | simp only [nx]; omega) only [hpl]; rfl, by simp (disch := first | omega | simp only [nx]; omega) only [hpl]; rw [← hLP]; rfl, by simp (disch := first | omega | simp only [nx]; omega) only [hpl]; exact hc.two, fun z hz => by simp (disch := first | omega | simp only [nx]; omega) only [hpl]; exact hc.old z hz⟩, ?_⟩
        rw [← hpx]; simp [hx]
    · clear hLP
      rintro _ g ⟨rfl, ⟨hc, hp⟩ | ⟨hc, hp⟩⟩
      · have hcn := hc.next
        have g1 := hc.leaf
        have g2 := hc.err
        refine ⟨LP, .normal, hc.loop, hbusy, hjn, ?_⟩
        have r1 := rising_c (g.kill (h.next + 3)) p.base (.slice b1 p.base.length c1) (.func (.func 47) #[] #[]) ltK (hb.mono xG (fun z hz => by simp (disch := first | omega | simp only [nx]; omega) only [hpl]; exact hc.old z hz)) (fun a b => VWp.func en47 (chk1_c _ a b)) hlb
        have r2 := rising_c (g.kill (h.next + 3)) p.deltas (.slice b2 p.deltas.length c2) (.func (.func 48) #[] #[]) ltL (hd.mono xG (fun z hz => by simp (disch := first | omega | simp only [nx]; omega) only [hpl]; exact hc.old z hz)) (fun a b => VWp.func en48 (chk2_c _ a b)) hld
        cases q1 : risB ltK p.base with
        | false =>
          rw [q1] at r1
          refine BQ.normal <| SQ.normal ?_
          have jY := An @g1 <| An @g2 <| An ty23 <| An ty33 <| tb13
          refine W.seq <| Wr <| ja J25f3 <| ja Jl <| jk (Jc en46 (r1)) rfl <| jE Zt rfl <| jE sm rfl <| jp rfl <| jp rfl <| jp rfl <| jp rfl <| jE Zp rfl <| On ?_
          refine Wy <| Wr <| jc Js <| On ?_
          refine CWp.ret <| SQ.ret <| Jr ?_
          exact ⟨bad _ (by rw [wo, hp, q1]; rfl) rfl, fun r o hr ho => by simp (disch := first | omega | simp only [nx]; omega) only [hpl]; rw [hc.old r hr]; exact ho⟩
        | true =>
          rw [q1] at r1
          cases q2 : risB ltL p.deltas with
          | false =>
            rw [q2] at r2
            refine BQ.normal <| SQ.normal ?_
            have jY := An @g1 <| An @g2 <| An ty23 <| An ty33 <| tb13
            refine W.seq <| Wr <| ja J25f3 <| ja Jl <| jk (Jc en46 (r1)) rfl <| jF Zt rfl <| jF sm rfl <| ja J25f4 <| ja Jl <| jk (Jc en46 (r2)) rfl <| jE Zt rfl <| jE Zp rfl <| On ?_
            refine Wy <| Wr <| jc Js <| On ?_
            refine CWp.ret <| SQ.ret <| Jr ?_
            exact ⟨bad _ (by rw [wo, hp, q1, q2]; rfl) rfl, fun r o hr ho => by simp (disch := first | omega | simp only [nx]; omega) only [hpl]; rw [hc.old r hr]; exact ho⟩
          | true =>
            rw [q2] at r2
            refine BQ.normal <| SQ.normal ?_
            have jY := An @g1 <| An @g2 <| An ty23 <| An ty33 <| tb13
            refine W.seq <| Wr <| ja J25f3 <| ja Jl <| jk (Jc en46 (r1)) rfl <| jF Zt rfl <| jF sm rfl <| ja J25f4 <| ja Jl <| jk (Jc en46 (r2)) rfl <| jF Zt rfl <| jF Zp rfl <| On ?_
            refine Wn <| CWp.skip <| SQ.normal ?_
            refine Wr <| jc Js <| On ?_
            refine CWp.ret <| Jr ?_
            exact ⟨by rw [wo, hp, q1, q2]; rfl, fun r o hr ho => by simp (disch := first | omega | simp only [nx]; omega) only [hpl]; rw [hc.old r hr]; exact ho⟩
      · have hcn := hc.next
        have g2 := hc.err
        refine ⟨_, .ret, hc.loop, rfl, rfl, ?_⟩
        have jY := @g2
        refine BQ.ret <| SQ.ret <| Jr ?_
        refine ⟨bad _ (by rw [wo, hp]; rfl) rfl, fun r o hr ho => ?_⟩
        simp (disch := first | omega | simp only [nx]; omega) only [hpl]; rw [hc.old r hr]; exact ho
end Go.Proofs.YtebheelmgcggmaaGreat
