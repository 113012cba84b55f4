/-
  Merged: PgA, PgM, PgB, PgN, PgC, PgD, PgE, PgF, RiG, PgH, PgI, PgJ.
-/
import Derived.Test.YtebheelmgcggmaaSh
import Derived.Test.YtebheelmgcggmaaAb39
import Derived.Sort.LotA
set_option linter.unusedSimpArgs false
set_option linter.unusedVariables false
set_option maxRecDepth 10000
set_option maxHeartbeats 8000000
namespace Go.Proofs.Ytebheelmgcggmaa
open Go.Ab Go.Sort
abbrev I64 (n : Int) : Value := .int .i64 n
abbrev U64 (n : Int) : Value := .int .u64 n
abbrev P0 (p : Nat) : Value := .pointer (some ⟨p, 0, none⟩)
abbrev PA (p o : Nat) : Value := .pointer (some ⟨p, o, none⟩)
structure Rec where
  key : List UInt8
  lsn : Int
  del : Bool
  val : List UInt8
deriving Inhabited, DecidableEq
def Rec.cs (x : Rec) : List Value := [encS x.key, U64 x.lsn, .bool x.del, encS x.val]
abbrev Rec.V (x : Rec) : Value := .agg x.cs.toArray
def fl (l : List Rec) : List Value := (l.map Rec.cs).flatten
theorem fl_cons (x : Rec) (l : List Rec) : fl (x :: l) = x.cs ++ fl l := rfl
theorem fl_app (a b : List Rec) : fl (a ++ b) = fl a ++ fl b := by simp [fl]
theorem fl_length (l : List Rec) : (fl l).length = l.length * 4 := by
  induction l with
  | nil => rfl
  | cons a l ih => rw [fl_cons, List.length_append, ih, List.length_cons]; simp [Rec.cs]; omega
theorem csz (x : Rec) : (Value.agg x.cs.toArray).cells.size = 4 := rfl
theorem csl (x : Rec) : (Value.agg x.cs.toArray).cells.toList = x.cs := rfl
theorem cso (x : Rec) : oneCells x.cs = true := rfl
theorem csn (x : Rec) : x.cs.length = 4 := rfl
theorem csb : Nat.beq 4 4 = true := rfl
theorem fl_split {l : List Rec} {i : Nat} {x : Rec} (hx : l[i]? = some x) : fl l = fl (l.take i) ++ (x.cs ++ fl (l.drop (i + 1))) ∧ (fl (l.take i)).length = i * 4 := by
  obtain ⟨hi, rfl⟩ := List.getElem?_eq_some_iff.1 hx
  refine ⟨?_, by rw [fl_length, List.length_take]; congr 1; omega⟩
  rw [← fl_cons, ← fl_app, List.getElem_cons_drop, List.take_append_drop]
theorem fl_get {l : List Rec} {i : Nat} {x : Rec} (hx : l[i]? = some x) : cellsOf (fl l) (i * 4) 4 = some x.cs := by
  obtain ⟨e, hl⟩ := fl_split hx
  rw [e, ← hl, cellsOf_mk (by simp [csn]), List.drop_left, List.take_left' (csn x)]
theorem fl_at {l : List Rec} {i j : Nat} {x : Rec} (hx : l[i]? = some x) (hj : j < 4) : (fl l)[i * 4 + j]? = x.cs[j]? :=
  flatten_get (fun y hy => by obtain ⟨z, _, rfl⟩ := List.mem_map.1 hy; rfl) (by simp [hx]) hj
theorem fl_set {l : List Rec} {i : Nat} (x : Rec) (hi : i < l.length) : splice (fl l) (i * 4) x.cs = fl (l.set i x) := by
  obtain ⟨e, hl⟩ := fl_split (List.getElem?_eq_getElem hi)
  rw [e, ← hl, splice_app _ l[i].cs _ x.cs rfl, ← fl_cons, ← fl_app]
  congr 1
  rw [List.set_eq_take_append_cons_drop, if_pos hi]
theorem fl_ble {l : List Rec} {i : Nat} (hi : i < l.length) : Nat.ble (i * 4 + 4) (fl l).length = true := Nat.ble_eq_true_of_le (by rw [fl_length]; omega)
end Go.Proofs.Ytebheelmgcggmaa
namespace Go.Proofs.Ytebheelmgcggmaa
open Go.Ab Go.Sort
def insR (lo hi k : List UInt8) : Bool := !ltStr k lo && (decide (hi = []) || ltStr k hi)
structure Lf where
  low : List UInt8
  high : List UInt8
  full : Int
  base : List Rec
  deltas : List Rec
def Lf.all (p : Lf) : List Rec := p.base ++ p.deltas
def mayR (x : Rec) : Bool := decide (x.key.length ≤ 16 ∧ x.val.length ≤ 24 ∧ x.key ≠ [] ∧ (x.del = true → x.val = []))
def fit (lo hi : List UInt8) (x : Rec) : Bool := mayR x && decide (1 ≤ x.lsn ∧ x.lsn ≤ 1099511627776) && insR lo hi x.key
def risB (lt : Rec → Rec → Bool) : List Rec → Bool
  | a :: b :: l => lt a b && risB lt (b :: l)
  | _ => true
def ltK (a b : Rec) : Bool := ltStr a.key b.key
def ltL (a b : Rec) : Bool := decide (a.lsn < b.lsn)
def chk (p : Lf) : Bool := decide (p.low.length ≤ 16 ∧ p.high.length ≤ 16 ∧ (p.high = [] ∨ ltStr p.low p.high = true) ∧ p.full ≤ 1099511627776 ∧ p.base.length ≤ 64 ∧ p.deltas.length ≤ 64) && (p.all.all (fit p.low p.high) && (risB ltK p.base && risB ltL p.deltas))
def rec0 : Rec := ⟨[], 0, false, []⟩
def gstep (k : List UInt8) (o : Rec × Bool) (r : Rec) : Rec × Bool := if r.key = k ∧ o.1.lsn < r.lsn then (r, true) else o
def getL (k : List UInt8) (l : List Rec) : Rec × Bool := l.foldl (gstep k) (rec0, false)
def getM (p : Lf) (k : List UInt8) : Rec × Bool := if chk p = true then getL k p.all else (rec0, false)
def insK (k : List UInt8) : List (List UInt8) → List (List UInt8)
  | [] => [k]
  | a :: l => if ltStr a k then a :: insK k l else if a = k then a :: l else k :: a :: l
def keysL (l : List Rec) : List (List UInt8) := l.foldl (fun ks r => insK r.key ks) []
def keysM (p : Lf) : List (List UInt8) := if chk p = true then keysL p.all else []
def oldM (p : Lf) (r : Rec) : Bool := decide (r.lsn ≤ p.full) || (p.base.any (fun x => decide (x.key = r.key ∧ r.lsn ≤ x.lsn)) || p.deltas.any fun x => decide (x.lsn = r.lsn))
def insL (r : Rec) : List Rec → List Rec
  | [] => [r]
  | a :: l => if a.lsn < r.lsn then a :: insL r l else r :: a :: l
def appOK (p : Lf) (r : Rec) : Bool := chk p && (fit p.low p.high r && (!oldM p r && decide (p.deltas.length < 64)))
def appM (p : Lf) (r : Rec) : Lf := if appOK p r = true then { p with deltas := insL r p.deltas } else p
def into (r : Rec) : List Rec → List Rec
  | [] => [r]
  | a :: l => if ltStr a.key r.key then a :: into r l else if a.key = r.key then (if a.lsn < r.lsn then r :: l else a :: l) else r :: a :: l
def foldB (e : Int) (p : Lf) : List Rec := (p.deltas.filter fun r => decide (r.lsn ≤ e)).foldl (fun b r => into r b) p.base
def foldM (p : Lf) (e : Int) : Lf := if chk p = true ∧ (foldB e p).length ≤ 64 then { p with base := foldB e p, deltas := p.deltas.filter fun r => decide (e < r.lsn) } else p
def resetM (p : Lf) (e : Int) : Lf := if chk p = true then { p with deltas := p.deltas.filter fun r => decide (r.lsn ≤ e) } else p
theorem risB_pw {lt : Rec → Rec → Bool} (ht : ∀ x y z, lt x y = true → lt y z = true → lt x z = true) : ∀ {l : List Rec}, risB lt l = true → l.Pairwise fun a b => lt a b = true
  | [], _ => .nil
  | [a], _ => by simp
  | a :: b :: l, h => by
    simp only [risB, Bool.and_eq_true] at h
    have ih := risB_pw ht h.2
    refine List.pairwise_cons.2 ⟨fun x hx => ?_, ih⟩
    cases hx with
    | head => exact h.1
    | tail _ hx => exact ht _ _ _ h.1 ((List.pairwise_cons.1 ih).1 x hx)
theorem pw_risB {lt : Rec → Rec → Bool} : ∀ {l : List Rec}, (l.Pairwise fun a b => lt a b = true) → risB lt l = true
  | [], _ => rfl
  | [a], _ => rfl
  | a :: b :: l, h => by
    have := List.pairwise_cons.1 h
    simp only [risB, Bool.and_eq_true]
    exact ⟨this.1 b List.mem_cons_self, pw_risB this.2⟩
theorem ltK_trans (x y z : Rec) (h1 : ltK x y = true) (h2 : ltK y z = true) : ltK x z = true := swo_ltStr.trans _ _ _ h1 h2
theorem ltL_trans (x y z : Rec) (h1 : ltL x y = true) (h2 : ltL y z = true) : ltL x z = true := by simp only [ltL, decide_eq_true_eq] at *; omega
theorem str_eq_of {a b : List UInt8} (h1 : ltStr a b = false) (h2 : ltStr b a = false) : a = b := by
  simp only [ltStr, decide_eq_false_iff_not, List.not_lt] at h1 h2; exact List.le_antisymm h2 h1
theorem mem_into {r x : Rec} : ∀ {l : List Rec}, x ∈ into r l → x = r ∨ x ∈ l
  | [], h => by simp [into] at h; exact .inl h
  | a :: l, h => by
    simp only [into] at h
    split at h
    · cases h with
      | head => exact .inr List.mem_cons_self
      | tail _ h => rcases mem_into h with h | h
                    · exact .inl h
                    · exact .inr (List.mem_cons_of_mem _ h)
    · split at h
      · split at h
        · cases h with
          | head => exact .inl rfl
          | tail _ h => exact .inr (List.mem_cons_of_mem _ h)
        · exact .inr h
      · cases h with
        | head => exact .inl rfl
        | tail _ h => exact .inr h
theorem into_new {r : Rec} : ∀ {l : List Rec}, ∃ y ∈ into r l, y.key = r.key ∧ r.lsn ≤ y.lsn
  | [] => ⟨r, by simp [into], rfl, Int.le_refl _⟩
  | a :: l => by
    simp only [into]
    split
    · obtain ⟨y, h1, h2⟩ := into_new (r := r) (l := l)
      exact ⟨y, List.mem_cons_of_mem _ h1, h2⟩
    · split
      · rename_i hk
        split
        · exact ⟨r, List.mem_cons_self, rfl, Int.le_refl _⟩
        · exact ⟨a, List.mem_cons_self, hk, by omega⟩
      · exact ⟨r, List.mem_cons_self, rfl, Int.le_refl _⟩
theorem into_old {r : Rec} : ∀ {l : List Rec} {a : Rec}, a ∈ l → ∃ y ∈ into r l, y.key = a.key ∧ a.lsn ≤ y.lsn
  | b :: l, a, ha => by
    simp only [into]
    split
    · cases ha with
      | head => exact ⟨_, List.mem_cons_self, rfl, Int.le_refl _⟩
      | tail _ ha =>
        obtain ⟨y, h1, h2⟩ := into_old (r := r) ha
        exact ⟨y, List.mem_cons_of_mem _ h1, h2⟩
    · split
      · rename_i hk
        split
        · cases ha with
          | head => exact ⟨r, List.mem_cons_self, hk.symm, by omega⟩
          | tail _ ha => exact ⟨a, List.mem_cons_of_mem _ ha, rfl, Int.le_refl _⟩
        · exact ⟨a, ha, rfl, Int.le_refl _⟩
      · exact ⟨a, List.mem_cons_of_mem _ ha, rfl, Int.le_refl _⟩
theorem into_pw {r : Rec} : ∀ {l : List Rec}, (l.Pairwise fun a b => ltK a b = true) → (into r l).Pairwise fun a b => ltK a b = true
  | [], _ => by simp [into]
  | a :: l, h => by
    obtain ⟨h1, h2⟩ := List.pairwise_cons.1 h
    simp only [into]
    split
    · rename_i hc
      refine List.pairwise_cons.2 ⟨fun x hx => ?_, into_pw h2⟩
      rcases mem_into hx with rfl | hx
      · exact hc
      · exact h1 x hx
    · rename_i hc
      split
      · rename_i hk
        split
        · refine List.pairwise_cons.2 ⟨fun x hx => ?_, h2⟩
          have := h1 x hx
          simp only [ltK] at this ⊢
          rwa [← hk]
        · exact h
      · rename_i hk
        have ha : ltK r a = true := by
          cases hb : ltStr r.key a.key with
          | true => exact hb
          | false => exact (hk (str_eq_of (by simpa using hc) hb)).elim
        refine List.pairwise_cons.2 ⟨fun x hx => ?_, h⟩
        cases hx with
        | head => exact ha
        | tail _ hx => exact ltK_trans _ _ _ ha (h1 x hx)
theorem mem_insK {k x : List UInt8} : ∀ {l : List (List UInt8)}, x ∈ insK k l ↔ x = k ∨ x ∈ l
  | [] => by simp [insK]
  | a :: l => by
    simp only [insK]
    split
    · simp only [List.mem_cons, mem_insK (l := l)]
      constructor
      · rintro (h | h | h) <;> simp [h]
      · rintro (h | h | h) <;> simp [h]
    · split
      · rename_i e
        subst e
        simp only [List.mem_cons]
        constructor
        · rintro (h | h) <;> simp [h]
        · rintro (h | h | h) <;> simp [h]
      · simp only [List.mem_cons]
theorem insK_pw {k : List UInt8} : ∀ {l : List (List UInt8)}, (l.Pairwise fun a b => ltStr a b = true) → (insK k l).Pairwise fun a b => ltStr a b = true
  | [], _ => by simp [insK]
  | a :: l, h => by
    obtain ⟨h1, h2⟩ := List.pairwise_cons.1 h
    simp only [insK]
    split
    · rename_i hc
      refine List.pairwise_cons.2 ⟨fun x hx => ?_, insK_pw h2⟩
      rcases mem_insK.1 hx with rfl | hx
      · exact hc
      · exact h1 x hx
    · rename_i hc
      split
      · exact h
      · rename_i hk
        have ha : ltStr k a = true := by
          cases hb : ltStr k a with
          | true => rfl
          | false => exact (hk (str_eq_of (by simpa using hc) hb)).elim
        refine List.pairwise_cons.2 ⟨fun x hx => ?_, h⟩
        cases hx with
        | head => exact ha
        | tail _ hx => exact swo_ltStr.trans _ _ _ ha (h1 x hx)
theorem keysL_aux : ∀ (l : List Rec) (ks : List (List UInt8)), (ks.Pairwise fun a b => ltStr a b = true) → ((l.foldl (fun ks r => insK r.key ks) ks).Pairwise fun a b => ltStr a b = true) ∧ ∀ x, x ∈ l.foldl (fun ks r => insK r.key ks) ks ↔ x ∈ ks ∨ ∃ r ∈ l, r.key = x
  | [], ks, h => ⟨h, fun x => by simp⟩
  | r :: l, ks, h => by
    obtain ⟨h1, h2⟩ := keysL_aux l (insK r.key ks) (insK_pw h)
    refine ⟨h1, fun x => ?_⟩
    simp only [List.foldl_cons, h2 x, mem_insK, List.mem_cons, exists_eq_or_imp]
    constructor
    · rintro ((h | h) | h)
      · exact .inr (.inl h.symm)
      · exact .inl h
      · exact .inr (.inr h)
    · rintro (h | h | h)
      · exact .inl (.inr h)
      · exact .inl (.inl h.symm)
      · exact .inr h
theorem keysL_pw (l : List Rec) : (keysL l).Pairwise fun a b => ltStr a b = true := (keysL_aux l [] .nil).1
theorem mem_keysL {l : List Rec} {x : List UInt8} : x ∈ keysL l ↔ ∃ r ∈ l, r.key = x := by rw [keysL, (keysL_aux l [] .nil).2 x]; simp
theorem rise_ext : ∀ {a b : List (List UInt8)}, (a.Pairwise fun x y => ltStr x y = true) → (b.Pairwise fun x y => ltStr x y = true) → (∀ x, x ∈ a ↔ x ∈ b) → a = b
  | [], [], _, _, _ => rfl
  | [], y :: b, _, _, h => absurd ((h y).2 List.mem_cons_self) (by simp)
  | x :: a, [], _, _, h => absurd ((h x).1 List.mem_cons_self) (by simp)
  | x :: a, y :: b, ha, hb, h => by
    obtain ⟨a1, a2⟩ := List.pairwise_cons.1 ha
    obtain ⟨b1, b2⟩ := List.pairwise_cons.1 hb
    have irr : ∀ z, ¬ ltStr z z = true := fun z hz => by rw [swo_ltStr.irrefl z] at hz; cases hz
    have exy : x = y := by
      have hx := (h x).1 List.mem_cons_self
      have hy := (h y).2 List.mem_cons_self
      cases hx with
      | head => rfl
      | tail _ hx => cases hy with
        | head => rfl
        | tail _ hy => exact (irr x (swo_ltStr.trans _ _ _ (a1 y hy) (b1 x hx))).elim
    subst exy
    rw [rise_ext a2 b2 fun z => ?_]
    constructor
    · intro hz
      have := (h z).1 (List.mem_cons_of_mem _ hz)
      cases this with
      | head => exact (irr _ (a1 _ hz)).elim
      | tail _ h => exact h
    · intro hz
      have := (h z).2 (List.mem_cons_of_mem _ hz)
      cases this with
      | head => exact (irr _ (b1 _ hz)).elim
      | tail _ h => exact h
theorem getL_aux (k : List UInt8) : ∀ (l : List Rec) (o : Rec × Bool), (l.foldl (gstep k) o = o ∧ ∀ r ∈ l, r.key = k → r.lsn ≤ o.1.lsn) ∨ (∃ q ∈ l, q.key = k ∧ o.1.lsn < q.lsn ∧ l.foldl (gstep k) o = (q, true) ∧ ∀ r ∈ l, r.key = k → r.lsn ≤ q.lsn)
  | [], o => .inl ⟨rfl, by simp⟩
  | a :: l, o => by
    simp only [List.foldl_cons]
    by_cases hc : a.key = k ∧ o.1.lsn < a.lsn
    · have e : gstep k o a = (a, true) := by simp [gstep, hc]
      rw [e]
      rcases getL_aux k l (a, true) with ⟨h1, h2⟩ | ⟨q, h1, h2, h3, h4, h5⟩
      · refine .inr ⟨a, List.mem_cons_self, hc.1, hc.2, h1, fun r hr hk => ?_⟩
        cases hr with
        | head => exact Int.le_refl _
        | tail _ hr => exact h2 r hr hk
      · simp only at h3
        refine .inr ⟨q, List.mem_cons_of_mem _ h1, h2, by omega, h4, fun r hr hk => ?_⟩
        cases hr with
        | head => omega
        | tail _ hr => exact h5 r hr hk
    · have e : gstep k o a = o := by simp only [gstep, if_neg hc]
      rw [e]
      rcases getL_aux k l o with ⟨h1, h2⟩ | ⟨q, h1, h2, h3, h4, h5⟩
      · refine .inl ⟨h1, fun r hr hk => ?_⟩
        cases hr with
        | head => exact Int.not_lt.1 fun h => hc ⟨hk, h⟩
        | tail _ hr => exact h2 r hr hk
      · refine .inr ⟨q, List.mem_cons_of_mem _ h1, h2, h3, h4, fun r hr hk => ?_⟩
        cases hr with
        | head => have : ¬ o.1.lsn < a.lsn := fun h => hc ⟨hk, h⟩
                  omega
        | tail _ hr => exact h5 r hr hk
theorem getL_is {k : List UInt8} {l : List Rec} (hp : ∀ r ∈ l, 1 ≤ r.lsn) (he : ∃ r ∈ l, r.key = k) : ∃ q ∈ l, q.key = k ∧ getL k l = (q, true) ∧ ∀ r ∈ l, r.key = k → r.lsn ≤ q.lsn := by
  rcases getL_aux k l (rec0, false) with ⟨h1, h2⟩ | ⟨q, h1, h2, h3, h4, h5⟩
  · obtain ⟨r, hr, hk⟩ := he
    have := h2 r hr hk
    have := hp r hr
    simp only [rec0] at *
    omega
  · exact ⟨q, h1, h2, h4, h5⟩
theorem getL_none {k : List UInt8} {l : List Rec} (he : ¬ ∃ r ∈ l, r.key = k) : getL k l = (rec0, false) := by
  rcases getL_aux k l (rec0, false) with ⟨h1, h2⟩ | ⟨q, h1, h2, h3, h4, h5⟩
  · exact h1
  · exact (he ⟨q, h1, h2⟩).elim
end Go.Proofs.Ytebheelmgcggmaa
namespace Go.Proofs.Ytebheelmgcggmaa
open Go.Ab Go.Sort
abbrev lcs (p : Lf) (bv dv : Value) : List Value := [encS p.low, encS p.high, U64 p.full, bv, dv]
abbrev LV (p : Lf) (bv dv : Value) : Value := .agg #[encS p.low, encS p.high, U64 p.full, bv, dv]
theorem sz_str (l : List UInt8) : (ByteArray.mk ⟨l⟩).size = l.length := rfl
theorem str_eq (x y : List UInt8) : ((ByteArray.toList ⟨⟨x⟩⟩) == (ByteArray.toList ⟨⟨y⟩⟩)) = decide (x = y) := by
  rw [ByteArray.toList_eq, ByteArray.toList_eq, Bool.eq_iff_iff]; simp
theorem str_nil (l : List UInt8) : ((ByteArray.mk ⟨l⟩).toList == (ByteArray.mk #[]).toList) = decide (l = []) := str_eq l []
theorem sst : (∀ x y : List UInt8, ((ByteArray.toList ⟨⟨x⟩⟩) == (ByteArray.toList ⟨⟨y⟩⟩)) = decide (x = y)) ∧ (∀ x : List UInt8, ((ByteArray.toList ⟨⟨x⟩⟩) == (ByteArray.toList ⟨#[]⟩)) = decide (x = [])) ∧ (∀ x y : List UInt8, ((ByteArray.toList ⟨⟨x⟩⟩) = (ByteArray.toList ⟨⟨y⟩⟩)) = (x = y)) ∧ (∀ x : List UInt8, ((ByteArray.toList ⟨⟨x⟩⟩) = (ByteArray.toList ⟨#[]⟩)) = (x = [])) ∧
    (∀ x y : List UInt8, Op.bytesLess (ByteArray.toList ⟨⟨x⟩⟩) (ByteArray.toList ⟨⟨y⟩⟩) = ltStr x y) ∧ (∀ x : List UInt8, (ByteArray.mk ⟨x⟩).size = x.length) ∧ (∀ x y : List UInt8, Op.bytesLess x y = ltStr x y) :=
  have e : ∀ x y : List UInt8, ((ByteArray.toList ⟨⟨x⟩⟩) = (ByteArray.toList ⟨⟨y⟩⟩)) = (x = y) := fun x y => by rw [ByteArray.toList_eq, ByteArray.toList_eq]
  ⟨str_eq, fun x => str_eq x [], e, fun x => e x [], str_lt, sz_str, bless⟩
def mayE (x : Rec) : Int := if x.key.length ≤ 16 ∧ x.val.length ≤ 24 then (if x.key ≠ [] ∧ (x.del = true → x.val = []) then 0 else 2) else 3
theorem mayE_ok (x : Rec) : (mayE x == 0) = mayR x := by
  simp only [mayE, mayR]
  by_cases h1 : x.key.length ≤ 16 ∧ x.val.length ≤ 24
  · by_cases h2 : x.key ≠ [] ∧ (x.del = true → x.val = [])
    · rw [if_pos h1, if_pos h2, decide_eq_true ⟨h1.1, h1.2, h2.1, h2.2⟩]; rfl
    · rw [if_pos h1, if_neg h2]
      have : ¬ (x.key.length ≤ 16 ∧ x.val.length ≤ 24 ∧ x.key ≠ [] ∧ (x.del = true → x.val = [])) := fun h => h2 ⟨h.2.2.1, h.2.2.2⟩
      simp [this]
  · rw [if_neg h1]
    have : ¬ (x.key.length ≤ 16 ∧ x.val.length ≤ 24 ∧ x.key ≠ [] ∧ (x.del = true → x.val = [])) := fun h => h1 ⟨h.1, h.2.1⟩
    simp [this]
theorem unless_c (h : AHeap) (b : Bool) (e : Int) : FWp Try.prog 77 [.bool b, I64 e] h fun u h' => u = I64 (if b then 0 else e) ∧ h' = h := by
  refine W.enter tyOK Try.func77 rfl rfl ?_
  simp only [entry]
  cases b
  · refine Wr <| Oa rfl za rfl <| On ?_
    refine W.seq <| Wr <| Ofb rfl sm rfl <| On ?_
    refine Wn <| CWp.skip <| SQ.normal ?_
    refine Wr <| Oa rfl sm rfl <| Oa rfl za rfl <| On ?_
    refine CWp.ret <| FQ.ret (by simp only [aRet, Try.f77, aResults, aResult, lk, Nat.reduceEqDiff, reduceIte] <;> rfl) ?_
    exact ⟨rfl, rfl⟩
  · refine Wr <| Oa rfl za rfl <| On ?_
    refine W.seq <| Wr <| Otb rfl sm rfl <| On ?_
    refine Wy <| Wr <| Oa rfl za rfl <| On ?_
    refine CWp.ret <| SQ.ret <| FQ.ret (by simp only [aRet, Try.f77, aResults, aResult, lk, Nat.reduceEqDiff, reduceIte] <;> rfl) ?_
    exact ⟨rfl, rfl⟩
theorem may1_c (h : AHeap) (q : Nat) (x : Rec) (hq : h.get q = some (.cells x.cs 1)) : FWp Try.prog 76 [P0 q] h fun u h' => u = I64 (if x.key.length ≤ 16 ∧ x.val.length ≤ 24 then 0 else 3) ∧ h' = h := by
  have hq : h.get q = some (.cells [encS x.key, U64 x.lsn, .bool x.del, encS x.val] 1) := hq
  have e0 := sz_str x.key
  have e1 := sz_str x.val
  refine W.enter tyOK Try.func76 rfl rfl ?_
  simp only [entry]
  refine Wr <| Oa rfl za rfl <| On ?_
  refine Wr <| Oa rfl (zf (hv := fa_ok (k := 0) ty33 rfl rfl ty9 rfl rfl)) rfl <| Oa rfl (zl (hv := by simp (disch := first | omega | simp only [nx]; omega) only [aLoad, ty9, rowOf, hpl, hq, e0, e1] <;> rfl)) rfl <| Oa rfl (Zn (hv := by simp (disch := first | omega | simp only [nx]; omega) only [aLenOf, ty9, hpl, hq, e0, e1] <;> rfl)) rfl <| OSuf.aopB tyOK rfl (zb (hv := bi_leq)) (fun _ => rfl) (fun h1 => ?_) (fun h1 => ?_)
  · try simp only [bl] at h1
    refine Ot rfl sm rfl rfl <| Oa ag (zf (hv := fa_ok (k := 3) ty33 rfl rfl ty9 rfl rfl)) rfl <| Oa ag (zl (hv := by simp (disch := first | omega | simp only [nx]; omega) only [aLoad, ty9, rowOf, hpl, hq, e0, e1] <;> rfl)) rfl <| Oa ag (Zn (hv := by simp (disch := first | omega | simp only [nx]; omega) only [aLenOf, ty9, hpl, hq, e0, e1] <;> rfl)) rfl <| Oa ag (zb (hv := bi_leq)) rfl <| Oa rfl Zp rfl <| OSuf.callD rfl (by simp only [aopnds, lk] <;> rfl) en77 (unless_c h _ 3) rfl <| Oa rfl za rfl <| On ?_
    refine CWp.ret <| FQ.ret (by simp only [aRet, Try.f76, aResults, aResult, lk, Nat.reduceEqDiff, reduceIte] <;> rfl) ?_
    exact ⟨by have a : x.key.length ≤ 16 := (by omega); simp only [a, true_and, decide_eq_true_eq, Int.ofNat_le]; split <;> split <;> first | rfl | omega, rfl⟩
  · try simp only [bl] at h1
    refine Of rfl sm rfl rfl <| Pa ag rfl <| Pa ag rfl <| Pa ag rfl <| Pa ag rfl <| Of rfl Zp rfl rfl <| OSuf.callD rfl (by simp only [aopnds, lk] <;> rfl) en77 (unless_c h _ 3) rfl <| Oa rfl za rfl <| On ?_
    refine CWp.ret <| FQ.ret (by simp only [aRet, Try.f76, aResults, aResult, lk, Nat.reduceEqDiff, reduceIte] <;> rfl) ?_
    exact ⟨by have b : ¬ x.key.length ≤ 16 := (by omega); simp [b], rfl⟩
theorem may2_c (h : AHeap) (q : Nat) (x : Rec) (hq : h.get q = some (.cells x.cs 1)) : FWp Try.prog 78 [P0 q] h fun u h' => u = I64 (if x.key ≠ [] ∧ (x.del = true → x.val = []) then 0 else 2) ∧ h' = h := by
  have hq : h.get q = some (.cells [encS x.key, U64 x.lsn, .bool x.del, encS x.val] 1) := hq
  have e0 := str_nil x.key
  have e1 := str_nil x.val
  refine W.enter tyOK Try.func78 rfl rfl ?_
  simp only [entry]
  refine Wr <| Oa rfl za rfl <| On ?_
  refine Wr <| Oa rfl (zf (hv := fa_ok (k := 0) ty33 rfl rfl ty9 rfl rfl)) rfl <| Oa rfl (zl (hv := by simp (disch := first | omega | simp only [nx]; omega) only [aLoad, ty9, rowOf, hpl, hq] <;> rfl)) rfl <| OSuf.aopB tyOK rfl (zb (hv := bs_neq)) (fun _ => rfl) (fun h1 => ?_) (fun h1 => ?_)
  · try simp only [bl] at h1
    refine Ot rfl sm rfl rfl <| Oa ag (zf (hv := fa_ok (k := 2) ty33 rfl rfl ty4 rfl rfl)) rfl <| OSuf.aopB tyOK ag (zl (hv := by simp (disch := first | omega | simp only [nx]; omega) only [aLoad, ty4, rowOf, hpl, hq] <;> rfl)) (fun _ => rfl) (fun h2 => ?_) (fun h2 => ?_)
    · try simp only [bl] at h2
      refine Of ag Zt rfl rfl <| Of ag sm rfl rfl <| Oa ag (zf (hv := fa_ok (k := 3) ty33 rfl rfl ty9 rfl rfl)) rfl <| Oa ag (zl (hv := by simp (disch := first | omega | simp only [nx]; omega) only [aLoad, ty9, rowOf, hpl, hq] <;> rfl)) rfl <| Oa ag (zb (hv := bs_eql)) rfl <| Oa ag Zp rfl <| Oa rfl Zp rfl <| OSuf.callD rfl (by simp only [aopnds, lk] <;> rfl) en77 (unless_c h _ 2) rfl <| Oa rfl za rfl <| On ?_
      refine CWp.ret <| FQ.ret (by simp only [aRet, Try.f78, aResults, aResult, lk, Nat.reduceEqDiff, reduceIte] <;> rfl) ?_
      exact ⟨by simp [sst] at h1 h2; simp [h1, h2], rfl⟩
    · try simp only [bl] at h2
      refine Ot ag Zt rfl rfl <| Ot ag sm rfl rfl <| Pa ag rfl <| Pa ag rfl <| Pa ag rfl <| Ot ag Zp rfl rfl <| Ot rfl Zp rfl rfl <| OSuf.callD rfl (by simp only [aopnds, lk] <;> rfl) en77 (unless_c h _ 2) rfl <| Oa rfl za rfl <| On ?_
      refine CWp.ret <| FQ.ret (by simp only [aRet, Try.f78, aResults, aResult, lk, Nat.reduceEqDiff, reduceIte] <;> rfl) ?_
      exact ⟨by simp [sst] at h1 h2; simp [h1, h2, sst], rfl⟩
  · try simp only [bl] at h1
    refine Of rfl sm rfl rfl <| Pa ag rfl <| Pa ag rfl <| Pa ag rfl <| Pa ag rfl <| Pa (aguard_un rfl rfl (by simp only [lk] <;> rfl)) rfl <| Pa (aguard_un rfl rfl (by simp only [lk] <;> rfl)) rfl <| Pa (aguard_un rfl rfl (by simp only [lk] <;> rfl)) rfl <| Pa ag rfl <| Of rfl Zp rfl rfl <| OSuf.callD rfl (by simp only [aopnds, lk] <;> rfl) en77 (unless_c h _ 2) rfl <| Oa rfl za rfl <| On ?_
    refine CWp.ret <| FQ.ret (by simp only [aRet, Try.f78, aResults, aResult, lk, Nat.reduceEqDiff, reduceIte] <;> rfl) ?_
    exact ⟨by simp [sst] at h1; simp [h1], rfl⟩
theorem cl1_v (h : AHeap) (q : Nat) (x : Rec) (hq : h.get q = some (.cells x.cs 1)) : VWp Try.prog (.func (.func 76) #[] #[P0 q]) [] h fun u h' => u = I64 (if x.key.length ≤ 16 ∧ x.val.length ≤ 24 then 0 else 3) ∧ h' = h := VWp.func en76 (may1_c h q x hq)
theorem cl2_v (h : AHeap) (q : Nat) (x : Rec) (hq : h.get q = some (.cells x.cs 1)) : VWp Try.prog (.func (.func 78) #[] #[P0 q]) [] h fun u h' => u = I64 (if x.key ≠ [] ∧ (x.del = true → x.val = []) then 0 else 2) ∧ h' = h := VWp.func en78 (may2_c h q x hq)
theorem first_c (h : AHeap) (r : Nat) (f1 f2 : Value) (e1 e2 : Int) (hr : h.get r = some (.cells [f1, f2] 1)) (c1 : VWp Try.prog f1 [] h fun u h' => u = I64 e1 ∧ h' = h) (c2 : VWp Try.prog f2 [] h fun u h' => u = I64 e2 ∧ h' = h) :
    FWp Try.prog 75 [.slice (some ⟨r, 0, none⟩) 2 3] h fun u h' => u = I64 (if e1 = 0 then e2 else e1) ∧ h' = h := by
  refine W.enter tyOK Try.func75 rfl rfl ?_
  simp only [entry]
  refine Wr <| Oa rfl za rfl <| On ?_
  refine W.seq <| Wr <| Oa rfl sm rfl <| Oa rfl (Zn (hv := by simp (disch := first | omega | simp only [nx]; omega) only [aLenOf, ty131, hpl] <;> rfl)) rfl <| Oa rfl sm rfl <| On ?_
  refine W.block (W.loop (fun m L h' => ∃ i : Nat, m + i = 2 ∧ h' = h ∧ (i = 0 ∨ e1 = 0) ∧ (i = 2 → e2 = 0) ∧ L = [(6, .slice (some ⟨r, 0, none⟩) 2 3), (7, I64 2), (8, I64 i)]) (n := 2) ⟨0, rfl, rfl, .inl rfl, by omega, rfl⟩ ?_ ?_)
  · simp [HasA, Tr.get_put]
  rintro m L h' ⟨i, hm, rfl, ha, hb, rfl⟩
  simp only [mkA]
  have w2 : IntKind.i64.wrap ((i : Int) + 1) = ((i + 1 : Nat) : Int) := by rw [wrap_i64 (by omega) (by omega)]; omega
  obtain rfl | rfl | rfl : i = 0 ∨ i = 1 ∨ i = 2 := by omega
  · by_cases h0 : e1 = 0
    · refine Wr <| Ot rfl (zb (hv := bi_lss)) rfl (by first | rfl | assumption | ((simp only [bl, hr, h0]) <;> first | done | assumption | omega) | (simp; done) | (simp; omega)) <| On ?_
      refine W.seq <| Wy <| CWp.skip <| SQ.normal ?_
      refine W.seq <| W.block <| Wr <| Oa rfl (zi (hv := by simp (disch := first | omega | simp only [nx]; omega) only [aIndexAddr, ty131, ty110, hpl, hr, h0] <;> rfl)) rfl <| Oa rfl (zl (hv := by simp (disch := first | omega | simp only [nx]; omega) only [aLoad, ty110, rowOf, hpl, hr, h0] <;> rfl)) rfl <| Oa rfl za rfl <| On ?_
      refine Wr <| Oa rfl sm rfl <| OSuf.vcallD rfl (by simp only [lk] <;> rfl) (by simp only [aopnds, lk] <;> rfl) (c1) rfl <| Oa rfl za rfl <| On ?_
      refine Wr <| Oa rfl sm rfl <| Of rfl (zb (hv := bi_neq)) rfl (by first | rfl | assumption | ((simp only [bl, hr, h0]) <;> first | done | assumption | omega) | (simp; done) | (simp; omega)) <| On ?_
      refine Wn <| CWp.skip <| BQ.normal <| SQ.normal ?_
      refine W.reg <| Oa rfl (zb (hv := bi_w bi_add (by first | (simp only [w2] <;> rfl) | rfl))) rfl <| Oa rfl sm rfl <| OSuf.nil <| ?_
      exact LQ.normal (m := 1) (L := [(6, .slice (some ⟨r, 0, none⟩) 2 3), (7, I64 2), (8, I64 ((0 + 1 : Nat) : Int))]) (by omega) (by simp only [HasA, Tr.get_put, Nat.reduceEqDiff, reduceIte, w2, and_self]) ⟨1, rfl, rfl, .inr h0, by omega, rfl⟩
    · refine Wr <| Ot rfl (zb (hv := bi_lss)) rfl (by first | rfl | assumption | ((simp only [bl, hr, h0]) <;> first | done | assumption | omega) | (simp; done) | (simp; omega)) <| On ?_
      refine W.seq <| Wy <| CWp.skip <| SQ.normal ?_
      refine W.seq <| W.block <| Wr <| Oa rfl (zi (hv := by simp (disch := first | omega | simp only [nx]; omega) only [aIndexAddr, ty131, ty110, hpl, hr, h0] <;> rfl)) rfl <| Oa rfl (zl (hv := by simp (disch := first | omega | simp only [nx]; omega) only [aLoad, ty110, rowOf, hpl, hr, h0] <;> rfl)) rfl <| Oa rfl za rfl <| On ?_
      refine Wr <| Oa rfl sm rfl <| OSuf.vcallD rfl (by simp only [lk] <;> rfl) (by simp only [aopnds, lk] <;> rfl) (c1) rfl <| Oa rfl za rfl <| On ?_
      refine Wr <| Oa rfl sm rfl <| Ot rfl (zb (hv := bi_neq)) rfl (by first | rfl | assumption | ((simp only [bl, hr, h0]) <;> first | done | assumption | omega) | (simp; done) | (simp; omega)) <| On ?_
      refine Wy <| Wr <| Oa rfl sm rfl <| Oa rfl za rfl <| On ?_
      refine CWp.ret <| BQ.ret <| SQ.ret <| LQ.ret <| BQ.ret <| SQ.ret <| FQ.ret (by simp only [aRet, Try.f75, aResults, aResult, lk, Nat.reduceEqDiff, reduceIte] <;> rfl) ?_
      exact ⟨by rw [if_neg h0], rfl⟩
  · have h0 : e1 = 0 := ha.resolve_left (by omega)
    by_cases h3 : e2 = 0
    · refine Wr <| Ot rfl (zb (hv := bi_lss)) rfl (by first | rfl | assumption | ((simp only [bl, hr, h3]) <;> first | done | assumption | omega) | (simp; done) | (simp; omega)) <| On ?_
      refine W.seq <| Wy <| CWp.skip <| SQ.normal ?_
      refine W.seq <| W.block <| Wr <| Oa rfl (zi (hv := by simp (disch := first | omega | simp only [nx]; omega) only [aIndexAddr, ty131, ty110, hpl, hr, h3] <;> rfl)) rfl <| Oa rfl (zl (hv := by simp (disch := first | omega | simp only [nx]; omega) only [aLoad, ty110, rowOf, hpl, hr, h3] <;> rfl)) rfl <| Oa rfl za rfl <| On ?_
      refine Wr <| Oa rfl sm rfl <| OSuf.vcallD rfl (by simp only [lk] <;> rfl) (by simp only [aopnds, lk] <;> rfl) (c2) rfl <| Oa rfl za rfl <| On ?_
      refine Wr <| Oa rfl sm rfl <| Of rfl (zb (hv := bi_neq)) rfl (by first | rfl | assumption | ((simp only [bl, hr, h3]) <;> first | done | assumption | omega) | (simp; done) | (simp; omega)) <| On ?_
      refine Wn <| CWp.skip <| BQ.normal <| SQ.normal ?_
      refine W.reg <| Oa rfl (zb (hv := bi_w bi_add (by first | (simp only [w2] <;> rfl) | rfl))) rfl <| Oa rfl sm rfl <| OSuf.nil <| ?_
      exact LQ.normal (m := 0) (L := [(6, .slice (some ⟨r, 0, none⟩) 2 3), (7, I64 2), (8, I64 ((1 + 1 : Nat) : Int))]) (by omega) (by simp only [HasA, Tr.get_put, Nat.reduceEqDiff, reduceIte, w2, and_self]) ⟨2, rfl, rfl, .inr h0, fun _ => h3, rfl⟩
    · refine Wr <| Ot rfl (zb (hv := bi_lss)) rfl (by first | rfl | assumption | ((simp only [bl, hr, h3]) <;> first | done | assumption | omega) | (simp; done) | (simp; omega)) <| On ?_
      refine W.seq <| Wy <| CWp.skip <| SQ.normal ?_
      refine W.seq <| W.block <| Wr <| Oa rfl (zi (hv := by simp (disch := first | omega | simp only [nx]; omega) only [aIndexAddr, ty131, ty110, hpl, hr, h3] <;> rfl)) rfl <| Oa rfl (zl (hv := by simp (disch := first | omega | simp only [nx]; omega) only [aLoad, ty110, rowOf, hpl, hr, h3] <;> rfl)) rfl <| Oa rfl za rfl <| On ?_
      refine Wr <| Oa rfl sm rfl <| OSuf.vcallD rfl (by simp only [lk] <;> rfl) (by simp only [aopnds, lk] <;> rfl) (c2) rfl <| Oa rfl za rfl <| On ?_
      refine Wr <| Oa rfl sm rfl <| Ot rfl (zb (hv := bi_neq)) rfl (by first | rfl | assumption | ((simp only [bl, hr, h3]) <;> first | done | assumption | omega) | (simp; done) | (simp; omega)) <| On ?_
      refine Wy <| Wr <| Oa rfl sm rfl <| Oa rfl za rfl <| On ?_
      refine CWp.ret <| BQ.ret <| SQ.ret <| LQ.ret <| BQ.ret <| SQ.ret <| FQ.ret (by simp only [aRet, Try.f75, aResults, aResult, lk, Nat.reduceEqDiff, reduceIte] <;> rfl) ?_
      exact ⟨by rw [if_pos h0], rfl⟩
  · have h0 : e1 = 0 := ha.resolve_left (by omega)
    refine Wr <| Ofb rfl (zb (hv := bi_lss)) rfl <| On ?_
    refine W.seq <| Wn <| CWp.exit <| SQ.exit <| LQ.exit <| BQ.exit <| SQ.normal ?_
    refine Wr <| Oa rfl za rfl <| On ?_
    refine CWp.ret <| FQ.ret (by simp only [aRet, Try.f75, aResults, aResult, lk, Nat.reduceEqDiff, reduceIte] <;> rfl) ?_
    exact ⟨by rw [if_pos h0, hb rfl], rfl⟩
theorem may_c (h : AHeap) (x : Rec) : FWp Try.prog 55 [x.V] h fun u h' => u = I64 (mayE x) ∧ h' = h := by
  refine FWp.gcs (.flat rfl) ?_
  refine W.enter tyOK Try.func55 rfl rfl ?_
  simp only [entry]
  refine Wr <| Oa rfl Zx rfl <| Oa rfl za rfl <| On ?_
  refine Wr <| Oa rfl (so_makeFunc rfl (by simp only [aopnds, lk] <;> rfl) (by simp only [aopnds, lk] <;> rfl)) rfl <| Oa rfl (so_makeFunc rfl (by simp only [aopnds, lk] <;> rfl) (by simp only [aopnds, lk] <;> rfl)) rfl <| Oa rfl (so_buildSlice (by simp only [aparts, lk] <;> rfl) (by simp only [aBuildSlice, ty131, ty110, Value.cells] <;> rfl)) rfl <| OSuf.callD rfl (by simp only [aopnds, lk] <;> rfl) en75 (first_c _ (h.next + 1) _ _ _ _ (by simp (disch := first | omega | simp only [nx]; omega) only [hpl] <;> rfl) (cl1_v _ _ x (by simp (disch := first | omega | simp only [nx]; omega) only [hpl] <;> rfl)) (cl2_v _ _ x (by simp (disch := first | omega | simp only [nx]; omega) only [hpl] <;> rfl))) rfl <| Oa rfl za rfl <| On ?_
  refine CWp.ret <| FQ.ret (by simp only [aRet, Try.f55, aResults, aResult, lk, Nat.reduceEqDiff, reduceIte] <;> rfl) ?_
  refine ⟨?_, fun r o hr ho => by simp (disch := first | omega | simp only [nx]; omega) only [hpl]; exact ho⟩
  simp only [mayE]
  split <;> split <;> simp_all
theorem stamp_c (h : AHeap) (n : Int) : FWp Try.prog 56 [U64 n] h fun u h' => u = .bool (decide (1 ≤ n ∧ n ≤ 1099511627776)) ∧ h' = h := by
  refine W.enter tyOK Try.func56 rfl rfl ?_
  simp only [entry]
  refine Wr <| Of rfl za rfl rfl <| On ?_
  refine Wr <| Oa rfl sm rfl <| OSuf.aopB tyOK rfl (zb (hv := bi_geq)) (fun _ => rfl) (fun h1 => ?_) (fun h1 => ?_)
  · try simp only [bl] at h1
    refine Ot rfl sm rfl rfl <| Oa ag sm rfl <| Oa ag (zb (hv := bi_leq)) rfl <| Oa rfl Zp rfl <| Oa rfl za rfl <| On ?_
    refine CWp.ret <| FQ.ret (by simp only [aRet, Try.f56, aResults, aResult, lk, Nat.reduceEqDiff, reduceIte] <;> rfl) ?_
    exact ⟨by congr 1; rw [decide_eq_decide]; omega, rfl⟩
  · try simp only [bl] at h1
    refine Of rfl sm rfl rfl <| Pa ag rfl <| Pa ag rfl <| Of rfl Zp rfl rfl <| Of rfl za rfl rfl <| On ?_
    refine CWp.ret <| FQ.ret (by simp only [aRet, Try.f56, aResults, aResult, lk, Nat.reduceEqDiff, reduceIte] <;> rfl) ?_
    exact ⟨by rw [decide_eq_false (by omega)], rfl⟩
theorem inside_c (h : AHeap) (p : Lf) (bv dv : Value) (k : List UInt8) : FWp Try.prog 57 [LV p bv dv, encS k] h fun u h' => u = .bool (insR p.low p.high k) ∧ h' = h := by
  refine FWp.gcs (.flat rfl) ?_
  have e0 := str_nil p.high
  have e1 := str_lt k p.low
  have e2 := str_lt k p.high
  refine W.enter tyOK Try.func57 rfl rfl ?_
  simp only [entry]
  refine Wr <| Oa rfl Zx rfl <| Of rfl za rfl rfl <| On ?_
  refine Wr <| Oa rfl sm rfl <| Oa rfl (zf (hv := fa_ok (k := 0) ty28 rfl rfl ty9 rfl rfl)) rfl <| Oa rfl (zl (hv := by simp (disch := first | omega | simp only [nx]; omega) only [aLoad, ty9, rowOf, hpl, Value.cells] <;> rfl)) rfl <| OSuf.aopB tyOK rfl (zb (hv := bs_geq)) (fun _ => rfl) (fun h1 => ?_) (fun h1 => ?_)
  · try simp only [bl] at h1
    refine Ot rfl sm rfl rfl <| Oa ag (zf (hv := fa_ok (k := 1) ty28 rfl rfl ty9 rfl rfl)) rfl <| Oa ag (zl (hv := by simp (disch := first | omega | simp only [nx]; omega) only [aLoad, ty9, rowOf, hpl, Value.cells] <;> rfl)) rfl <| OSuf.aopB tyOK ag (zb (hv := bs_eql)) (fun _ => rfl) (fun h2 => ?_) (fun h2 => ?_)
    · try simp only [bl] at h2
      refine Ot ag sm rfl rfl <| Pa ag rfl <| Pa ag rfl <| Pa ag rfl <| Pa ag rfl <| Ot ag Zp rfl rfl <| Ot rfl Zp rfl rfl <| Ot rfl za rfl rfl <| On ?_
      refine CWp.ret <| FQ.ret (by simp only [aRet, Try.f57, aResults, aResult, lk, Nat.reduceEqDiff, reduceIte] <;> rfl) ?_
      exact ⟨by simp [sst] at h1 h2; simp [insR, h1, h2], fun r o hr ho => by simp (disch := first | omega | simp only [nx]; omega) only [hpl]; exact ho⟩
    · try simp only [bl] at h2
      refine Of ag sm rfl rfl <| Oa ag sm rfl <| Oa ag (zf (hv := fa_ok (k := 1) ty28 rfl rfl ty9 rfl rfl)) rfl <| Oa ag (zl (hv := by simp (disch := first | omega | simp only [nx]; omega) only [aLoad, ty9, rowOf, hpl, Value.cells] <;> rfl)) rfl <| Oa ag (zb (hv := bs_lss)) rfl <| Oa ag Zp rfl <| Oa rfl Zp rfl <| Oa rfl za rfl <| On ?_
      refine CWp.ret <| FQ.ret (by simp only [aRet, Try.f57, aResults, aResult, lk, Nat.reduceEqDiff, reduceIte] <;> rfl) ?_
      exact ⟨by simp [sst] at h1 h2; simp [insR, h1, h2, sst], fun r o hr ho => by simp (disch := first | omega | simp only [nx]; omega) only [hpl]; exact ho⟩
  · try simp only [bl] at h1
    refine Of rfl sm rfl rfl <| Pa ag rfl <| Pa ag rfl <| Pa ag rfl <| Pa ag rfl <| Pa (aguard_un rfl rfl (by simp only [lk] <;> rfl)) rfl <| Pa (aguard_un rfl rfl (by simp only [lk] <;> rfl)) rfl <| Pa (aguard_un rfl rfl (by simp only [lk] <;> rfl)) rfl <| Pa (aguard_un rfl rfl (by simp only [lk] <;> rfl)) rfl <| Pa ag rfl <| Of rfl Zp rfl rfl <| Of rfl za rfl rfl <| On ?_
    refine CWp.ret <| FQ.ret (by simp only [aRet, Try.f57, aResults, aResult, lk, Nat.reduceEqDiff, reduceIte] <;> rfl) ?_
    exact ⟨by simp [sst] at h1; simp [insR, h1], fun r o hr ho => by simp (disch := first | omega | simp only [nx]; omega) only [hpl]; exact ho⟩
theorem fits_c (h : AHeap) (p : Lf) (bv dv : Value) (x : Rec) : FWp Try.prog 31 [LV p bv dv, x.V] h fun u h' => u = .bool (fit p.low p.high x) ∧ h' = h := by
  refine FWp.gcs (.flat rfl) ?_
  refine W.enter tyOK Try.func31 rfl rfl ?_
  simp only [entry]
  have e0 := mayE_ok x
  have hs := stamp_c ((h.new (.cells (lcs p bv dv) 1)).new (.cells x.cs 1)) x.lsn
  have hi := inside_c ((h.new (.cells (lcs p bv dv) 1)).new (.cells x.cs 1)) p bv dv x.key
  by_cases c1 : 1 ≤ x.lsn ∧ x.lsn ≤ 1099511627776
  · rw [decide_eq_true c1] at hs
    refine Wr <| Oa rfl Zx rfl <| Oa rfl Zx rfl <| Of rfl za rfl rfl <| On ?_
    refine Wr <| Oa rfl (zl (hv := by simp (disch := first | omega | simp only [nx]; omega) only [aLoad, ty33, rowOf, hpl, Value.cells] <;> rfl)) rfl <| OSuf.callD rfl (by simp only [aopnds, lk] <;> rfl) en55 (may_c _ x) rfl <| OSuf.aopB tyOK rfl (zb (hv := bi_eql)) (fun _ => rfl) (fun h1 => ?_) (fun h1 => ?_)
    · try simp only [bl] at h1
      refine Ot rfl sm rfl rfl <| Oa ag (zf (hv := fa_ok (k := 1) ty33 rfl rfl ty25 rfl rfl)) rfl <| Oa ag (zl (hv := by simp (disch := first | omega | simp only [nx]; omega) only [aLoad, ty25, rowOf, hpl, Value.cells] <;> rfl)) rfl <| OSuf.callD ag (by simp only [aopnds, lk] <;> rfl) en56 (hs) rfl <| Ot rfl Zp rfl rfl <| Ot rfl sm rfl rfl <| Oa ag (zl (hv := by simp (disch := first | omega | simp only [nx]; omega) only [aLoad, ty28, rowOf, hpl, Value.cells] <;> rfl)) rfl <| Oa ag (zf (hv := fa_ok (k := 0) ty33 rfl rfl ty9 rfl rfl)) rfl <| Oa ag (zl (hv := by simp (disch := first | omega | simp only [nx]; omega) only [aLoad, ty9, rowOf, hpl, Value.cells] <;> rfl)) rfl <| OSuf.callD ag (by simp only [aopnds, lk] <;> rfl) en57 (hi) rfl <| Oa rfl Zp rfl <| Oa rfl za rfl <| On ?_
      refine CWp.ret <| FQ.ret (by simp only [aRet, Try.f31, aResults, aResult, lk, Nat.reduceEqDiff, reduceIte] <;> rfl) ?_
      exact ⟨by have e1 : mayR x = true := (by rw [← e0]; simpa using h1); simp [fit, e1, c1], fun r o hr ho => by simp (disch := first | omega | simp only [nx]; omega) only [hpl]; exact ho⟩
    · try simp only [bl] at h1
      refine Of rfl sm rfl rfl <| Pa ag rfl <| Pa ag rfl <| Pa ag rfl <| Of rfl Zp rfl rfl <| Of rfl sm rfl rfl <| Pa ag rfl <| Pa ag rfl <| Pa ag rfl <| Pa ag rfl <| Of rfl Zp rfl rfl <| Of rfl za rfl rfl <| On ?_
      refine CWp.ret <| FQ.ret (by simp only [aRet, Try.f31, aResults, aResult, lk, Nat.reduceEqDiff, reduceIte] <;> rfl) ?_
      exact ⟨by have e1 : mayR x = false := (by rw [← e0]; simpa using h1); simp [fit, e1], fun r o hr ho => by simp (disch := first | omega | simp only [nx]; omega) only [hpl]; exact ho⟩
  · rw [decide_eq_false c1] at hs
    refine Wr <| Oa rfl Zx rfl <| Oa rfl Zx rfl <| Of rfl za rfl rfl <| On ?_
    refine Wr <| Oa rfl (zl (hv := by simp (disch := first | omega | simp only [nx]; omega) only [aLoad, ty33, rowOf, hpl, Value.cells] <;> rfl)) rfl <| OSuf.callD rfl (by simp only [aopnds, lk] <;> rfl) en55 (may_c _ x) rfl <| OSuf.aopB tyOK rfl (zb (hv := bi_eql)) (fun _ => rfl) (fun h1 => ?_) (fun h1 => ?_)
    · try simp only [bl] at h1
      refine Ot rfl sm rfl rfl <| Oa ag (zf (hv := fa_ok (k := 1) ty33 rfl rfl ty25 rfl rfl)) rfl <| Oa ag (zl (hv := by simp (disch := first | omega | simp only [nx]; omega) only [aLoad, ty25, rowOf, hpl, Value.cells] <;> rfl)) rfl <| OSuf.callD ag (by simp only [aopnds, lk] <;> rfl) en56 (hs) rfl <| Of rfl Zp rfl rfl <| Of rfl sm rfl rfl <| Pa ag rfl <| Pa ag rfl <| Pa ag rfl <| Pa ag rfl <| Of rfl Zp rfl rfl <| Of rfl za rfl rfl <| On ?_
      refine CWp.ret <| FQ.ret (by simp only [aRet, Try.f31, aResults, aResult, lk, Nat.reduceEqDiff, reduceIte] <;> rfl) ?_
      exact ⟨by simp [fit, c1], fun r o hr ho => by simp (disch := first | omega | simp only [nx]; omega) only [hpl]; exact ho⟩
    · try simp only [bl] at h1
      refine Of rfl sm rfl rfl <| Pa ag rfl <| Pa ag rfl <| Pa ag rfl <| Of rfl Zp rfl rfl <| Of rfl sm rfl rfl <| Pa ag rfl <| Pa ag rfl <| Pa ag rfl <| Pa ag rfl <| Of rfl Zp rfl rfl <| Of rfl za rfl rfl <| On ?_
      refine CWp.ret <| FQ.ret (by simp only [aRet, Try.f31, aResults, aResult, lk, Nat.reduceEqDiff, reduceIte] <;> rfl) ?_
      exact ⟨by have e1 : mayR x = false := (by rw [← e0]; simpa using h1); simp [fit, e1], fun r o hr ho => by simp (disch := first | omega | simp only [nx]; omega) only [hpl]; exact ho⟩
end Go.Proofs.Ytebheelmgcggmaa
namespace Go.Proofs.Ytebheelmgcggmaa
open Go.Ab Go.Sort
theorem nodup_sub {α : Type} [DecidableEq α] : ∀ {a b : List α}, a.Nodup → (∀ x ∈ a, x ∈ b) → a.length ≤ b.length
  | [], b, _, _ => Nat.zero_le _
  | x :: a, b, hn, hs => by
    have hx := hs x List.mem_cons_self
    have hn' := List.nodup_cons.1 hn
    have := nodup_sub (a := a) (b := b.erase x) hn'.2 fun y hy => (List.mem_erase_of_ne fun e => hn'.1 (by rw [← e]; exact hy)).2 (hs y (List.mem_cons_of_mem _ hy))
    rw [List.length_erase_of_mem hx] at this
    have := List.length_pos_of_mem hx
    simp only [List.length_cons]; omega
theorem pw_nodup {α : Type} {R : α → α → Prop} (hi : ∀ x, ¬ R x x) {l : List α} (h : l.Pairwise R) : l.Nodup := h.imp (S := fun x y => x ≠ y) fun {x y} hr e => hi x (by rw [← e] at hr; exact hr)
def keyed (n : Nat) : Rec := ⟨[UInt8.ofNat (97 + n % 6)], n, decide (n % 5 = 0), if n % 5 = 0 then [] else [UInt8.ofNat n, UInt8.ofNat (n / 256)]⟩
structure PInv (p : Lf) (U C : List Rec) : Prop where
  low : p.low = []
  high : p.high = []
  full : p.full = 0
  rb : p.base.Pairwise fun a b => ltK a b = true
  rd : p.deltas.Pairwise fun a b => ltL a b = true
  mem : ∀ r ∈ p.all, r ∈ U
  cov : ∀ r ∈ C, ∃ q ∈ p.all, q.key = r.key ∧ r.lsn ≤ q.lsn
  sz : U.length ≤ 50
  ky : ∀ r ∈ U, ∃ n, 1 ≤ n ∧ n ≤ 400 ∧ r = keyed n
theorem insR_nil (k : List UInt8) : insR [] [] k = true := by simp [insR, ltStr]
theorem fit_keyed {n : Nat} (h1 : 1 ≤ n) (h2 : n ≤ 400) : fit [] [] (keyed n) = true := by
  have e1 : mayR (keyed n) = true := by
    simp only [mayR, keyed, decide_eq_true_eq]
    refine ⟨by simp, ?_, by simp, fun h => by simp [h]⟩
    split <;> simp
  have e2 : 1 ≤ (keyed n).lsn ∧ (keyed n).lsn ≤ 1099511627776 := by simp only [keyed]; omega
  simp only [fit, insR_nil, e1, e2, and_self, decide_true, Bool.and_self]
theorem pw_rb {l : List Rec} (h : l.Pairwise fun a b => ltK a b = true) : l.Nodup := pw_nodup (fun x hx => by rw [ltK, swo_ltStr.irrefl] at hx; cases hx) h
theorem pw_rd {l : List Rec} (h : l.Pairwise fun a b => ltL a b = true) : l.Nodup := pw_nodup (fun x hx => by simp [ltL] at hx) h
theorem keyed_inj {U : List Rec} (ky : ∀ r ∈ U, ∃ n, 1 ≤ n ∧ n ≤ 400 ∧ r = keyed n) {x y : Rec} (hx : x ∈ U) (hy : y ∈ U) (e : x.lsn = y.lsn) : x = y := by
  obtain ⟨n, _, _, rfl⟩ := ky x hx
  obtain ⟨m, _, _, rfl⟩ := ky y hy
  have : n = m := by simp only [keyed] at e; omega
  rw [this]
namespace PInv
variable {p : Lf} {U C : List Rec}
theorem lb (h : PInv p U C) : p.base.length ≤ 50 := Nat.le_trans (nodup_sub (pw_rb h.rb) fun x hx => h.mem x (by simp [Lf.all, hx])) h.sz
theorem ld (h : PInv p U C) : p.deltas.length ≤ 50 := Nat.le_trans (nodup_sub (pw_rd h.rd) fun x hx => h.mem x (by simp [Lf.all, hx])) h.sz
theorem chk (h : PInv p U C) : chk p = true := by
  have h1 := h.lb
  have h2 := h.ld
  simp only [Proofs.Ytebheelmgcggmaa.chk, Bool.and_eq_true, decide_eq_true_eq, h.low, h.high, h.full, List.all_eq_true]
  refine ⟨⟨by simp, by simp, by simp, by omega, by omega, by omega⟩, fun r hr => ?_, pw_risB h.rb, pw_risB h.rd⟩
  obtain ⟨n, n1, n2, rfl⟩ := h.ky r (h.mem r hr)
  exact fit_keyed n1 n2
theorem pos (h : PInv p U C) : ∀ r ∈ p.all, 1 ≤ r.lsn := fun r hr => by
  obtain ⟨n, n1, n2, rfl⟩ := h.ky r (h.mem r hr)
  simp only [keyed]; omega
theorem posU (h : PInv p U C) : ∀ r ∈ U, 1 ≤ r.lsn := fun r hr => by
  obtain ⟨n, n1, n2, rfl⟩ := h.ky r hr
  simp only [keyed]; omega
theorem more (h : PInv p U C) {r : Rec} {n : Nat} (n1 : 1 ≤ n) (n2 : n ≤ 400) (e : r = keyed n) (hl : U.length < 50) : PInv p (U ++ [r]) C :=
  { h with mem := fun x hx => List.mem_append.2 (.inl (h.mem x hx)), sz := by simp only [List.length_append, List.length_cons, List.length_nil]; omega, ky := fun x hx => (List.mem_append.1 hx).elim (h.ky x) fun hx => ⟨n, n1, n2, by rw [List.mem_singleton.1 hx, e]⟩ }
theorem into_all : ∀ (ds b : List Rec), (b.Pairwise fun a b => ltK a b = true) → ((ds.foldl (fun b r => into r b) b).Pairwise fun a b => ltK a b = true) ∧ (∀ x ∈ ds.foldl (fun b r => into r b) b, x ∈ ds ∨ x ∈ b) ∧ ∀ x, (x ∈ ds ∨ x ∈ b) → ∃ q ∈ ds.foldl (fun b r => into r b) b, q.key = x.key ∧ x.lsn ≤ q.lsn
  | [], b, hb => ⟨hb, fun x hx => .inr hx, fun x hx => ⟨x, by simpa using hx, rfl, Int.le_refl _⟩⟩
  | d :: ds, b, hb => by
    obtain ⟨h1, h2, h3⟩ := into_all ds (into d b) (into_pw hb)
    refine ⟨h1, fun x hx => ?_, fun x hx => ?_⟩
    · rcases h2 x hx with hx | hx
      · exact .inl (List.mem_cons_of_mem _ hx)
      · rcases mem_into hx with rfl | hx
        · exact .inl List.mem_cons_self
        · exact .inr hx
    · have key : ∀ y : Rec, y ∈ into d b → y.key = x.key → x.lsn ≤ y.lsn → ∃ q ∈ (d :: ds).foldl (fun b r => into r b) b, q.key = x.key ∧ x.lsn ≤ q.lsn := fun y hy hk hl => by
        obtain ⟨q, q1, q2, q3⟩ := h3 y (.inr hy)
        exact ⟨q, q1, by rw [q2, hk], by omega⟩
      rcases hx with hx | hx
      · cases hx with
        | head =>
          obtain ⟨y, y1, y2, y3⟩ := into_new (r := d) (l := b)
          exact key y y1 y2 y3
        | tail _ hx => exact h3 x (.inl hx)
      · obtain ⟨y, y1, y2, y3⟩ := into_old (r := d) hx
        exact key y y1 y2 y3
theorem fold (h : PInv p U C) (e : Int) : PInv (foldM p e) U C ∧ (foldM p e).deltas = p.deltas.filter fun r => decide (e < r.lsn) := by
  obtain ⟨b1, b2, b3⟩ := into_all (p.deltas.filter fun r => decide (r.lsn ≤ e)) p.base h.rb
  have mb : ∀ x ∈ foldB e p, x ∈ p.all := fun x hx => by
    rcases b2 x hx with hx | hx
    · simp [Lf.all, (List.mem_filter.1 hx).1]
    · simp [Lf.all, hx]
  have hl : (foldB e p).length ≤ 64 := by
    have h1 : (foldB e p).length ≤ U.length := nodup_sub (pw_rb b1) fun x hx => h.mem x (mb x hx)
    have := h.sz
    omega
  simp only [foldM, h.chk, hl, and_self, if_true, and_true]
  refine ⟨h.low, h.high, h.full, b1, h.rd.sublist List.filter_sublist, fun x hx => ?_, fun x hx => ?_, h.sz, h.ky⟩
  · simp only [Lf.all, List.mem_append] at hx
    rcases hx with hx | hx
    · exact h.mem x (mb x hx)
    · exact h.mem x (by simp [Lf.all, (List.mem_filter.1 hx).1])
  · obtain ⟨q, q1, q2, q3⟩ := h.cov x hx
    simp only [Lf.all, List.mem_append] at q1
    by_cases hq : q ∈ p.base ∨ q.lsn ≤ e
    · obtain ⟨y, y1, y2, y3⟩ := b3 q (by
        rcases hq with hq | hq
        · exact .inr hq
        · rcases q1 with q1 | q1
          · exact .inr q1
          · exact .inl (List.mem_filter.2 ⟨q1, by simpa using hq⟩))
      exact ⟨y, by simp only [Lf.all, List.mem_append]; exact .inl y1, by rw [y2, q2], by omega⟩
    · have hb : ¬ q ∈ p.base := fun h => hq (.inl h)
      have he : ¬ q.lsn ≤ e := fun h => hq (.inr h)
      refine ⟨q, ?_, q2, q3⟩
      simp only [Lf.all, List.mem_append]
      exact .inr (List.mem_filter.2 ⟨q1.resolve_left hb, by simp; omega⟩)
theorem get (h : PInv p U U) (k : List UInt8) : getL k p.all = getL k U := by
  by_cases he : ∃ r ∈ U, r.key = k
  · obtain ⟨q, q1, q2, q3, q4⟩ := getL_is h.posU he
    obtain ⟨x, x1, x2, x3⟩ := h.cov q q1
    obtain ⟨y, y1, y2, y3, y4⟩ := getL_is h.pos ⟨x, x1, by rw [x2, q2]⟩
    rw [q3, y3]
    have e1 := q4 y (h.mem y y1) y2
    have e2 := y4 x x1 (by rw [x2, q2])
    rw [keyed_inj h.ky (h.mem y y1) q1 (by omega)]
  · rw [getL_none he, getL_none fun ⟨r, r1, r2⟩ => he ⟨r, h.mem r r1, r2⟩]
theorem keys (h : PInv p U U) : keysL p.all = keysL U := by
  refine rise_ext (keysL_pw _) (keysL_pw _) fun x => ?_
  rw [mem_keysL, mem_keysL]
  constructor
  · rintro ⟨r, r1, r2⟩; exact ⟨r, h.mem r r1, r2⟩
  · rintro ⟨r, r1, r2⟩
    obtain ⟨q, q1, q2, _⟩ := h.cov r r1
    exact ⟨q, q1, by rw [q2, r2]⟩
end PInv
structure Best (B : List (List UInt8 × Rec)) (A : List Rec) : Prop where
  nd : (B.map (·.1)).Nodup
  at_ : ∀ x ∈ B, getL x.1 A = (x.2, true)
  all : ∀ r ∈ A, ∃ x ∈ B, x.1 = r.key
theorem Best.len {B : List (List UInt8 × Rec)} {A : List Rec} (h : Best B A) (hp : ∀ r ∈ A, 1 ≤ r.lsn) : B.length = (keysL A).length := by
  have e1 : ∀ x ∈ B.map (·.1), x ∈ keysL A := fun k hk => by
    obtain ⟨x, hx, rfl⟩ := List.mem_map.1 hk
    refine mem_keysL.2 (Classical.byContradiction fun hn => ?_)
    have := h.at_ x hx
    rw [getL_none hn] at this; exact absurd (congrArg Prod.snd this) (by simp)
  have e2 : ∀ x ∈ keysL A, x ∈ B.map (·.1) := fun k hk => by
    obtain ⟨r, r1, rfl⟩ := mem_keysL.1 hk
    obtain ⟨x, x1, x2⟩ := h.all r r1
    exact List.mem_map.2 ⟨x, x1, x2⟩
  have n2 : (keysL A).Nodup := pw_nodup (fun x hx => by rw [swo_ltStr.irrefl] at hx; cases hx) (keysL_pw A)
  have l1 := nodup_sub h.nd e1
  have l2 := nodup_sub n2 e2
  simp only [List.length_map] at l1 l2
  omega
end Go.Proofs.Ytebheelmgcggmaa
namespace Go.Proofs.Ytebheelmgcggmaa
open Go.Ab Go.Sort
theorem sb : (∀ p : Prop, (p ∧ p) = p) ∧ (∀ {α : Type} {d : Decidable True} (a b : α), @ite α True d a b = a) ∧ (∀ n : Nat, (n : Int).toNat = n) ∧ (∀ n : Nat, 0 + n = n) ∧ (∀ n : Nat, n + 0 = n) ∧ (∀ n : Nat, n * 1 = n) := ⟨fun p => and_self p, fun {α d} a b => by simp, fun n => Int.toNat_natCast n, Nat.zero_add, Nat.add_zero, Nat.mul_one⟩
theorem new_set (h : AHeap) (o o' : AObj) : (h.new o).set h.next o' = h.new o' := by simp only [AHeap.new, AHeap.set, Tr.put_put]
theorem rcl : (∀ (a b c d : Value) (x : Rec), splice [a, b, c, d] 0 x.cs = x.cs) ∧ (∀ x : Rec, List.take 4 (List.drop 0 x.cs) = x.cs) ∧ (∀ (h : AHeap) (o o' : AObj), (h.new o).set h.next o' = h.new o') := ⟨fun _ _ _ _ _ => rfl, fun _ => rfl, new_set⟩
theorem cellsOf_sub {vs l x : List Value} {off m a b : Nat} (h1 : cellsOf vs off m = some l) (h2 : cellsOf l a b = some x) : cellsOf vs (off + a) b = some x := by
  obtain ⟨p1, rfl, p3⟩ := cellsOf_some h1
  obtain ⟨q1, rfl, q3⟩ := cellsOf_some h2
  have : a + b ≤ m := by simp at q1; omega
  rw [cellsOf_mk (by omega), List.drop_take, List.take_take, List.drop_drop, Nat.min_eq_left (by omega)]
theorem cellsOf_get {vs l : List Value} {off m i : Nat} {v : Value} (h1 : cellsOf vs off m = some l) (h2 : l[i]? = some v) : vs[off + i]? = some v := by
  obtain ⟨p1, rfl, p3⟩ := cellsOf_some h1
  have hi : i < ((vs.drop off).take m).length := (List.getElem?_eq_some_iff.1 h2).1
  rw [List.getElem?_take_of_lt (by simp at hi; omega), List.getElem?_drop] at h2
  exact h2
structure RG (h : AHeap) (sz n : Nat) (cs : List Value) (v : Value) : Prop where
  ex : ∃ b c, v = .slice b n c ∧ ((b = none ∧ n = 0 ∧ c = 0) ∨ ∃ r off, b = some ⟨r, off, none⟩ ∧ (n ≠ 0 → r < h.next ∧ ∃ vs, rowOf h r = some vs ∧ cellsOf vs off (n * sz) = some cs))
abbrev RS (h : AHeap) (l : List Rec) (v : Value) : Prop := RG h 4 l.length (fl l) v
theorem rowOf_eq {h h' : AHeap} {r : Nat} (e : h'.get r = h.get r) : rowOf h' r = rowOf h r := by simp only [rowOf, e]
theorem RG.mono {h h' : AHeap} {sz n : Nat} {cs : List Value} {v : Value} (s : RG h sz n cs v) (hn : h.next ≤ h'.next) (hk : ∀ z, z < h.next → h'.get z = h.get z) : RG h' sz n cs v := by
  obtain ⟨b, c, e, hr⟩ := s.ex
  refine ⟨b, c, e, hr.imp id ?_⟩
  rintro ⟨r, off, h1, h2⟩
  exact ⟨r, off, h1, fun h0 => let ⟨h2, vs, h3, h4⟩ := h2 h0; ⟨by omega, vs, by rw [rowOf_eq (hk r h2)]; exact h3, h4⟩⟩
theorem RG.at_ {h : AHeap} {sz n m : Nat} {cs : List Value} {b : Option Addr} {c : Nat} (s : RG h sz n cs (.slice b m c)) {i : Nat} (hi : i < n) : m = n ∧ ∃ r off, b = some ⟨r, off, none⟩ ∧ r < h.next ∧ ∀ h' : AHeap, h'.get r = h.get r →
    (∀ (t : TypeId) (ti : TI) (xs : List Value), T.get t = some ti → ti.agg = true → cellsOf cs (i * sz) ti.size = some xs → aLoad T t (PA r (off + i * sz)) h' = some (.agg xs.toArray)) ∧
    (∀ (j : Nat) (t : TypeId) (ti : TI) (v : Value), T.get t = some ti → ti.agg = false → cs[i * sz + j]? = some v → aLoad T t (PA r (off + i * sz + j)) h' = some v) := by
  obtain ⟨b', c', e, hr⟩ := s.ex
  cases e
  rcases hr with ⟨_, hr, _⟩ | ⟨r, off, h1, hr⟩
  · omega
  obtain ⟨h2, vs, h3, h4⟩ := hr (by omega)
  refine ⟨rfl, r, off, h1, h2, fun h' he => ⟨fun t ti xs ht ha hc => ?_, fun j t ti v ht ha hc => ?_⟩⟩
  · simp only [aLoad, ht, rowOf_eq he, h3, ha, cond_true, cellsOf_sub h4 hc, Option.map_some]
  · simp only [aLoad, ht, rowOf_eq he, h3, ha, cond_false]
    have := cellsOf_get h4 hc
    rwa [← Nat.add_assoc] at this
theorem RS.at_ {h : AHeap} {l : List Rec} {m : Nat} {b : Option Addr} {c : Nat} (s : RS h l (.slice b m c)) {i : Nat} {x : Rec} (hx : l[i]? = some x) : m = l.length ∧ ∃ r off, b = some ⟨r, off, none⟩ ∧ r < h.next ∧ ∀ h' : AHeap, h'.get r = h.get r →
    (∀ (t : TypeId) (ti : TI), T.get t = some ti → ti.agg = true → ti.size = 4 → aLoad T t (PA r (off + i * 4)) h' = some x.V) ∧
    (∀ (j : Nat) (t : TypeId) (ti : TI) (v : Value), T.get t = some ti → ti.agg = false → x.cs[j]? = some v → aLoad T t (PA r (off + i * 4 + j)) h' = some v) := by
  have hi := (List.getElem?_eq_some_iff.1 hx).1
  obtain ⟨h1, r, off, h2, h3, h4⟩ := RG.at_ s hi
  refine ⟨h1, r, off, h2, h3, fun h' he => ⟨fun t ti ht ha hs => (h4 h' he).1 t ti _ ht ha (by rw [hs]; exact fl_get hx), fun j t ti v ht ha hv => (h4 h' he).2 j t ti v ht ha ?_⟩⟩
  have hj : j < 4 := by
    have := (List.getElem?_eq_some_iff.1 hv).1
    rwa [csn] at this
  rw [fl_at hx hj]; exact hv
theorem RG.form {h : AHeap} {sz n : Nat} {cs : List Value} {v : Value} (s : RG h sz n cs v) : ∃ b c, v = .slice b n c := let ⟨b, c, e, _⟩ := s.ex; ⟨b, c, e⟩
theorem all_c (h : AHeap) (p : Lf) (bv dv : Value) : FWp Try.prog 35 [LV p bv dv] h fun u h' => u = .func (.func 63) #[] #[P0 h.next] ∧ h' = h.new (.cells (lcs p bv dv) 1) := by
  refine W.enter tyOK Try.func35 rfl rfl ?_
  simp only [entry]
  refine Wr <| Oa rfl Zx rfl <| Oa rfl za rfl <| On ?_
  refine Wr <| Oa rfl (so_makeFunc rfl (by simp only [aopnds, lk] <;> rfl) (by simp only [aopnds, lk] <;> rfl)) rfl <| Oa rfl za rfl <| On ?_
  refine CWp.ret <| FQ.ret (by simp only [aRet, Try.f35, aResults, aResult, lk, Nat.reduceEqDiff, reduceIte] <;> rfl) ?_
  exact ⟨rfl, rfl⟩
theorem all1_c (h : AHeap) (p : Lf) (bv dv yv : Value) (q : Nat) (hq : h.get q = some (.cells (lcs p bv dv) 1)) (J : List Rec → AHeap → Prop) (S : AHeap → Prop)
    (j0 : J [] (h.new (.cells [bv, dv] 1))) (jn : ∀ pre g o, J pre g → J pre (g.new o)) (jr : ∀ pre g, J pre g → RS g p.base bv ∧ RS g p.deltas dv ∧ g.get h.next = some (.cells [bv, dv] 1)) (hlb : p.base.length ≤ 1000000) (hld : p.deltas.length ≤ 1000000)
    (yield : ∀ pre x post, pre ++ x :: post = p.all → ∀ g, J pre g → (VWp Try.prog yv [x.V] g fun u g' => u = .bool true ∧ J (pre ++ [x]) g') ∨ (VWp Try.prog yv [x.V] g fun u g' => u = .bool false ∧ S g')) :
    FWp Try.prog 63 [yv, P0 q] h fun u g => u = .tuple #[] ∧ (J p.all g ∨ S g) := by
  have tb63 := And.intro ty26 (And.intro ty28 (And.intro ty33 (ty97)))
  obtain ⟨r1, r2, r3⟩ := jr _ _ j0
  obtain ⟨b1, c1, rfl⟩ := r1.form
  obtain ⟨b2, c2, rfl⟩ := r2.form
  obtain ⟨SV, hSV⟩ : ∃ SV : Value, SV = .slice (some ⟨h.next, 0, none⟩) 2 3 := ⟨_, rfl⟩
  refine W.enter tyOK Try.func63 rfl rfl ?_
  simp only [entry]
  refine Wr <| Oa rfl (zf (hv := fa_ok (k := 3) ty28 rfl rfl ty26 rfl rfl)) rfl <| Oa rfl (zl (hv := by simp (disch := first | omega | simp only [nx]; omega) only [aLoad, ty26, rowOf, hpl, hq, Value.cells] <;> rfl)) rfl <| Oa rfl (zf (hv := fa_ok (k := 4) ty28 rfl rfl ty26 rfl rfl)) rfl <| Oa rfl (zl (hv := by simp (disch := first | omega | simp only [nx]; omega) only [aLoad, ty26, rowOf, hpl, hq, Value.cells] <;> rfl)) rfl <| Oa rfl (so_buildSlice (by simp only [aparts, lk] <;> rfl) (by simp only [aBuildSlice, ty97, ty26, hq, Value.cells, places, tb63] <;> rfl)) rfl <| Oa rfl (Zn (hv := by simp (disch := first | omega | simp only [nx]; omega) only [aLenOf, ty97, hpl, hq, Value.cells, places, tb63] <;> rfl)) rfl <| Oa rfl sm rfl <| On ?_
  obtain ⟨pr, hpr⟩ : ∃ pr : Nat → List Rec, pr = fun i => if i = 0 then [] else if i = 1 then p.base else p.all := ⟨_, rfl⟩
  refine W.cut (fun L h' => J p.all h' ∧ L = []) (W.block (W.loop (fun m L h' => ∃ i : Nat, m + i = 2 ∧ J (pr i) h' ∧ L = [(0, yv), (11, .slice (some ⟨h.next, 0, none⟩) 2 3), (12, I64 2), (13, I64 i)]) (n := 2) ⟨0, rfl, by rw [hpr]; exact j0, rfl⟩ ?_ ?_)) ?_
  · simp [HasA, Tr.get_put]
  · rintro m L g ⟨i, hm, hJ, rfl⟩
    simp only [mkA]
    have w2 : IntKind.i64.wrap ((i : Int) + 1) = ((i + 1 : Nat) : Int) := by rw [wrap_i64 (by omega) (by omega)]; omega
    by_cases hi : (i : Int) < (2 : Int)
    · obtain ⟨l, b, c, k1, k2, k3, k4⟩ : ∃ l b c, [Value.slice b1 p.base.length c1, Value.slice b2 p.deltas.length c2][i]? = some (.slice b l.length c) ∧ pr (i + 1) = pr i ++ l ∧ (∀ pre g, J pre g → RS g l (.slice b l.length c)) ∧ l.length ≤ 1000000 := by
        obtain rfl | rfl : i = 0 ∨ i = 1 := by omega
        · exact ⟨p.base, b1, c1, rfl, by rw [hpr]; rfl, fun pre g hg => (jr pre g hg).1, hlb⟩
        · exact ⟨p.deltas, b2, c2, rfl, by rw [hpr]; rfl, fun pre g hg => (jr pre g hg).2.1, hld⟩
      have hpa : ∃ post, pr (i + 1) ++ post = p.all := by
        obtain rfl | rfl : i = 0 ∨ i = 1 := by omega
        · exact ⟨p.deltas, by rw [hpr]; rfl⟩
        · exact ⟨[], by rw [hpr]; simp⟩
      have r3 := (jr _ _ hJ).2.2
      have hc : (0 ≤ (i : Int) ∧ (i : Int) < ((2 : Nat) : Int)) := by omega
      refine Wr <| Ot rfl (zb (hv := bi_lss)) rfl (by first | rfl | assumption | ((simp only [bl, r3, hc, sb, k1, tb63]) <;> first | done | assumption | omega) | (simp; done) | (simp; omega)) <| On ?_
      refine W.seq <| Wy <| CWp.skip <| SQ.normal ?_
      refine W.seq <| W.block <| Wr <| Oa rfl (zi (hv := by simp (disch := first | omega | simp only [nx]; omega) only [aIndexAddr, ty97, ty26, hpl, r3, hc, sb, k1, tb63] <;> rfl)) rfl <| Oa rfl (zl (hv := by simp (disch := first | omega | simp only [nx]; omega) only [aLoad, ty26, rowOf, hpl, r3, hc, sb, k1] <;> rfl)) rfl <| Oa rfl za rfl <| On ?_
      refine Wr <| Oa rfl sm rfl <| Oa rfl (Zn (hv := by simp (disch := first | omega | simp only [nx]; omega) only [aLenOf, ty26, hpl, r3, hc, sb, k1, tb63] <;> rfl)) rfl <| Oa rfl sm rfl <| On ?_
      refine W.cut (fun L h' => J (pr (i + 1)) h' ∧ L = [(0, yv), (11, .slice (some ⟨h.next, 0, none⟩) 2 3), (12, I64 2), (13, I64 i)]) (W.block (W.loop (fun m L h' => ∃ k : Nat, m + k = l.length ∧ J (pr i ++ l.take k) h' ∧ L = [(0, yv), (11, .slice (some ⟨h.next, 0, none⟩) 2 3), (12, I64 2), (13, I64 i), (17, .slice b l.length c), (18, I64 l.length), (19, I64 k)]) (n := l.length) ⟨0, by omega, by simpa using hJ, rfl⟩ ?_ ?_)) ?_
      · simp [HasA, Tr.get_put]
      · rintro m2 L g2 ⟨k, hm2, hJ2, rfl⟩
        simp only [mkA]
        have w3 : IntKind.i64.wrap ((k : Int) + 1) = ((k + 1 : Nat) : Int) := by rw [wrap_i64 (by omega) (by omega)]; omega
        by_cases hk : (k : Int) < (l.length : Int)
        · obtain ⟨x, hx⟩ : ∃ x, l[k]? = some x := ⟨l[k]'(by omega), by simp⟩
          have hck : (0 ≤ (k : Int) ∧ (k : Int) < (l.length : Int)) := by omega
          obtain ⟨_, r, off, rfl, hr1, hr2⟩ := RS.at_ (k3 _ _ hJ2) hx
          obtain ⟨post, hpost⟩ := hpa
          have htk : l.take (k + 1) = l.take k ++ [x] := by rw [List.take_add_one, hx]; rfl
          have hsplit : (pr i ++ l.take k) ++ x :: (l.drop (k + 1) ++ post) = p.all := by
            have e1 : l = l.take k ++ x :: l.drop (k + 1) := by
              conv => lhs; rw [← List.take_append_drop k l, List.drop_eq_getElem_cons (by omega)]
              rw [(List.getElem?_eq_some_iff.1 hx).2]
            rw [← hpost, k2]
            conv => rhs; rw [e1]
            simp
          rcases yield _ _ _ hsplit _ (jn _ _ (.cells x.cs 1) hJ2) with hy | hy
          · refine Wr <| Ot rfl (zb (hv := bi_lss)) rfl (by first | rfl | assumption | ((simp only [bl, hck, sb, rcl, Value.cells, tb63]) <;> first | done | assumption | omega) | (simp; done) | (simp; omega)) <| On ?_
            refine W.seq <| Wy <| CWp.skip <| SQ.normal ?_
            refine W.seq <| W.block <| Wr <| Oa rfl (zi (hv := by simp (disch := first | omega | simp only [nx]; omega) only [aIndexAddr, ty26, ty33, hpl, hck, sb, rcl, Value.cells, tb63] <;> rfl)) rfl <| Oa rfl (zl (hv := (hr2 _ rfl).1 _ _ ty33 rfl rfl)) rfl <| Oa rfl (so_alloc (by simp only [aAlloc, ty33] <;> rfl)) rfl <| Oa rfl (zs (hv := by simp (disch := first | omega | simp only [nx]; omega) only [aStore, ty33, writeRow, hpl, hck, sb, rcl, Value.cells] <;> rfl)) rfl <| On ?_
            refine Wr <| Oa rfl sm rfl <| Oa rfl (zl (hv := by simp (disch := first | omega | simp only [nx]; omega) only [aLoad, ty33, rowOf, hpl, hck, sb, rcl, Value.cells] <;> rfl)) rfl <| OSuf.vcall rfl (by simp only [lk] <;> rfl) (by simp only [aopnds, lk] <;> rfl) (hy) ?_
            rintro _ g3 ⟨rfl, hJ3⟩
            refine ⟨_, rfl, ?_⟩
            refine Of rfl Zt rfl rfl <| On ?_
            refine Wn <| CWp.skip <| BQ.normal <| SQ.normal ?_
            refine W.reg <| Oa rfl (zb (hv := bi_w bi_add (by first | (simp only [w3, w3] <;> rfl) | rfl))) rfl <| Oa rfl sm rfl <| OSuf.nil <| ?_
            refine LQ.normal (m := m2 - 1) (L := [(0, yv), (11, .slice (some ⟨h.next, 0, none⟩) 2 3), (12, I64 2), (13, I64 i), (17, .slice (some ⟨r, off, none⟩) l.length c), (18, I64 l.length), (19, I64 ((k + 1 : Nat) : Int))]) (by omega) ?_ ⟨k + 1, by omega, by rw [htk, ← List.append_assoc]; exact hJ3, rfl⟩
            simp only [HasA, Tr.get_put, Nat.reduceEqDiff, reduceIte, w3, and_self]
          · refine Wr <| Ot rfl (zb (hv := bi_lss)) rfl (by first | rfl | assumption | ((simp only [bl, hck, sb, rcl, Value.cells, tb63]) <;> first | done | assumption | omega) | (simp; done) | (simp; omega)) <| On ?_
            refine W.seq <| Wy <| CWp.skip <| SQ.normal ?_
            refine W.seq <| W.block <| Wr <| Oa rfl (zi (hv := by simp (disch := first | omega | simp only [nx]; omega) only [aIndexAddr, ty26, ty33, hpl, hck, sb, rcl, Value.cells, tb63] <;> rfl)) rfl <| Oa rfl (zl (hv := (hr2 _ rfl).1 _ _ ty33 rfl rfl)) rfl <| Oa rfl (so_alloc (by simp only [aAlloc, ty33] <;> rfl)) rfl <| Oa rfl (zs (hv := by simp (disch := first | omega | simp only [nx]; omega) only [aStore, ty33, writeRow, hpl, hck, sb, rcl, Value.cells] <;> rfl)) rfl <| On ?_
            refine Wr <| Oa rfl sm rfl <| Oa rfl (zl (hv := by simp (disch := first | omega | simp only [nx]; omega) only [aLoad, ty33, rowOf, hpl, hck, sb, rcl, Value.cells] <;> rfl)) rfl <| OSuf.vcall rfl (by simp only [lk] <;> rfl) (by simp only [aopnds, lk] <;> rfl) (hy) ?_
            rintro _ g3 ⟨rfl, hS⟩
            refine ⟨_, rfl, ?_⟩
            refine Ot rfl Zt rfl rfl <| On ?_
            refine Wy <| CWp.ret <| BQ.ret <| SQ.ret <| LQ.ret <| BQ.ret <| NQ.ret <| BQ.ret <| SQ.ret <| LQ.ret <| BQ.ret <| NQ.ret <| FQ.ret (by simp only [aRet, Try.f63, aResults, aResult, lk, Nat.reduceEqDiff, reduceIte] <;> rfl) ?_
            exact ⟨rfl, .inr hS⟩
        · refine Wr <| Ofb rfl (zb (hv := bi_lss)) rfl <| On ?_
          refine W.seq <| Wn <| CWp.exit <| SQ.exit <| LQ.exit <| BQ.exit <| ?_
          refine NQ.normal (L := [(0, yv), (11, .slice (some ⟨h.next, 0, none⟩) 2 3), (12, I64 2), (13, I64 i)]) ?_ ⟨?_, rfl⟩
          · simp only [HasA, Tr.get_put, Nat.reduceEqDiff, reduceIte, and_self]
          · rw [k2]; rw [List.take_of_length_le (by omega)] at hJ2; exact hJ2
      rintro L a' h' ha ⟨hJ2, rfl⟩
      refine BQ.normal <| SQ.normal <| CWp.known ha ?_
      simp only [mkA]
      refine W.reg <| Oa rfl (zb (hv := bi_w bi_add (by first | (simp only [w2] <;> rfl) | rfl))) rfl <| Oa rfl sm rfl <| OSuf.nil <| ?_
      refine LQ.normal (m := m - 1) (L := [(0, yv), (11, .slice (some ⟨h.next, 0, none⟩) 2 3), (12, I64 2), (13, I64 ((i + 1 : Nat) : Int))]) (by omega) ?_ ⟨i + 1, by omega, hJ2, rfl⟩
      simp only [HasA, Tr.get_put, Nat.reduceEqDiff, reduceIte, w2, and_self]
    · refine Wr <| Ofb rfl (zb (hv := bi_lss)) rfl <| On ?_
      refine W.seq <| Wn <| CWp.exit <| SQ.exit <| LQ.exit <| BQ.exit <| ?_
      refine NQ.normal (L := []) trivial ⟨?_, rfl⟩
      have : i = 2 := by omega
      rw [this, hpr] at hJ; exact hJ
  rintro L a' h' ha ⟨hJ, rfl⟩
  exact FQ.normal (by simp only [aRet, Try.f63, aResults] <;> rfl) ⟨rfl, .inl hJ⟩
end Go.Proofs.Ytebheelmgcggmaa
namespace Go.Proofs.Ytebheelmgcggmaa
open Go.Ab Go.Sort
theorem W.join {P : Program} {cx : Cx} {c Z : Code} {a : Tr Value} {h : AHeap} {Q Q' : AExit → Tr Value → AHeap → Prop} (R : List (Nat × Value) → AHeap → Prop) (hc : (∀ L a' h', HasA a' L → R L h' → CWp P cx Z a' h' Q') → CWp P cx c a h Q)
    (hz : ∀ L h', R L h' → CWp P cx Z (mkA L) h' Q') : CWp P cx c a h Q := hc fun L a' h' ha hr => CWp.known ha (hz L h' hr)
theorem risB_of {lt : Rec → Rec → Bool} : ∀ {l : List Rec}, (∀ j a b, l[j]? = some a → l[j + 1]? = some b → lt a b = true) → risB lt l = true
  | [], _ => rfl
  | [a], _ => rfl
  | a :: b :: l, h => by
    simp only [risB, Bool.and_eq_true]
    exact ⟨h 0 a b rfl rfl, risB_of fun j x y hx hy => h (j + 1) x y hx hy⟩
theorem risB_not {lt : Rec → Rec → Bool} : ∀ {l : List Rec} {j : Nat} {a b : Rec}, l[j]? = some a → l[j + 1]? = some b → lt a b = false → risB lt l = false
  | [], _, _, _, h, _, _ => by simp at h
  | [x], j, a, b, h1, h2, _ => by simp at h2
  | x :: y :: l, 0, a, b, h1, h2, h3 => by
    simp at h1 h2; subst h1 h2
    simp [risB, h3]
  | x :: y :: l, j + 1, a, b, h1, h2, h3 => by
    have := risB_not (l := y :: l) (j := j) h1 h2 h3
    simp [risB, this]
theorem rising_c (h : AHeap) (l : List Rec) (v fv : Value) (lt : Rec → Rec → Bool) (hs : RS h l v) (hf : ∀ a b, VWp Try.prog fv [a.V, b.V] h fun u h' => u = .bool (lt a b) ∧ h' = h) (hl : l.length ≤ 1000000) :
    FWp Try.prog 37 [v, fv] h fun u h' => u = .bool (risB lt l) ∧ h' = h := by
  obtain ⟨b, c, rfl⟩ := hs.form
  refine W.enter tyOK Try.func37 rfl rfl ?_
  simp only [entry]
  refine Wr <| Of rfl za rfl rfl <| On ?_
  refine W.seq <| Wr <| Oa rfl za rfl <| On ?_
  refine W.block (W.loop (fun m L h' => ∃ k : Nat, m + k = l.length ∧ h' = h ∧ (∀ j a b, j < k → l[j]? = some a → l[j + 1]? = some b → lt a b = true) ∧ L = [(0, .slice b l.length c), (1, fv), (5, I64 ((k + 1 : Nat) : Int))]) (n := l.length) ⟨0, rfl, rfl, by omega, rfl⟩ ?_ ?_)
  · simp [HasA, Tr.get_put]
  rintro m L h' ⟨k, hm, rfl, hr, rfl⟩
  simp only [mkA]
  have w1 : IntKind.i64.wrap (((k + 1 : Nat) : Int) - 1) = (k : Int) := by rw [wrap_i64 (by omega) (by omega)]; omega
  have w2 : IntKind.i64.wrap (((k + 1 : Nat) : Int) + 1) = ((k + 1 + 1 : Nat) : Int) := by rw [wrap_i64 (by omega) (by omega)]; omega
  by_cases hk : ((k + 1 : Nat) : Int) < (l.length : Int)
  · obtain ⟨x, hx⟩ : ∃ x, l[k]? = some x := ⟨l[k]'(by omega), by simp⟩
    obtain ⟨y, hy⟩ : ∃ y, l[k + 1]? = some y := ⟨l[k + 1]'(by omega), by simp⟩
    obtain ⟨_, r, off, rfl, hr1, hr2⟩ := RS.at_ hs hx
    obtain ⟨_, r', off', e, _, hr3⟩ := RS.at_ hs hy
    cases e
    have c1 : (0 ≤ (k : Int) ∧ (k : Int) < (l.length : Int)) := by omega
    have c2 : (0 ≤ ((k + 1 : Nat) : Int) ∧ ((k + 1 : Nat) : Int) < (l.length : Int)) := by omega
    have hv := hf x y
    cases hlt : lt x y with
    | true =>
      rw [hlt] at hv
      refine W.seq <| Wr <| Oa rfl sm rfl <| Oa rfl sm rfl <| Oa rfl (Zn (hv := by simp (disch := first | omega | simp only [nx]; omega) only [aLenOf, ty26, hpl, c1, c2, sb] <;> rfl)) rfl <| Ot rfl (zb (hv := bi_lss)) rfl (by first | rfl | assumption | ((simp only [bl, c1, c2, sb]) <;> first | done | assumption | omega) | (simp; done) | (simp; omega)) <| On ?_
      refine Wy <| CWp.skip <| SQ.normal ?_
      refine W.seq <| W.block <| Wd <| Sa rfl sm rfl <| Sa rfl sm rfl <| Sa rfl sm rfl <| Sa rfl (zb (hv := bi_w bi_sub (by first | (simp only [w1, w2] <;> rfl) | rfl))) rfl <| Sa rfl (zi (hv := by simp (disch := first | omega | simp only [nx]; omega) only [aIndexAddr, ty26, ty33, hpl, c1, c2, sb] <;> rfl)) rfl <| Sa rfl (zl (hv := (hr2 _ rfl).1 _ _ ty33 rfl rfl)) rfl <| Sa rfl sm rfl <| Sa rfl sm rfl <| Sa rfl (zi (hv := by simp (disch := first | omega | simp only [nx]; omega) only [aIndexAddr, ty26, ty33, hpl, c1, c2, sb] <;> rfl)) rfl <| Sa rfl (zl (hv := (hr3 _ rfl).1 _ _ ty33 rfl rfl)) rfl <| SqW.vcallD rfl (by simp only [lk] <;> rfl) (by simp only [aopnds, lk] <;> rfl) (hv) rfl <| Sf rfl Zt rfl rfl <| Sn ?_
      refine Wn <| CWp.skip <| BQ.normal <| SQ.normal ?_
      refine W.reg <| Oa rfl sm rfl <| Oa rfl (zb (hv := bi_w bi_add (by first | (simp only [w1, w2] <;> rfl) | rfl))) rfl <| Oa rfl za rfl <| OSuf.nil <| ?_
      refine LQ.normal (m := m - 1) (L := [(0, .slice (some ⟨r, off, none⟩) l.length c), (1, fv), (5, I64 ((k + 1 + 1 : Nat) : Int))]) (by omega) ?_ ⟨k + 1, by omega, rfl, fun j a b hj ha hb => ?_, rfl⟩
      · simp only [HasA, Tr.get_put, Nat.reduceEqDiff, reduceIte, w2, and_self]
      · by_cases e : j = k
        · subst e; rw [hx] at ha; rw [hy] at hb; cases ha; cases hb; exact hlt
        · exact hr j a b (by omega) ha hb
    | false =>
      rw [hlt] at hv
      refine W.seq <| Wr <| Oa rfl sm rfl <| Oa rfl sm rfl <| Oa rfl (Zn (hv := by simp (disch := first | omega | simp only [nx]; omega) only [aLenOf, ty26, hpl, c1, c2, sb] <;> rfl)) rfl <| Ot rfl (zb (hv := bi_lss)) rfl (by first | rfl | assumption | ((simp only [bl, c1, c2, sb]) <;> first | done | assumption | omega) | (simp; done) | (simp; omega)) <| On ?_
      refine Wy <| CWp.skip <| SQ.normal ?_
      refine W.seq <| W.block <| Wd <| Sa rfl sm rfl <| Sa rfl sm rfl <| Sa rfl sm rfl <| Sa rfl (zb (hv := bi_w bi_sub (by first | (simp only [w1, w2] <;> rfl) | rfl))) rfl <| Sa rfl (zi (hv := by simp (disch := first | omega | simp only [nx]; omega) only [aIndexAddr, ty26, ty33, hpl, c1, c2, sb] <;> rfl)) rfl <| Sa rfl (zl (hv := (hr2 _ rfl).1 _ _ ty33 rfl rfl)) rfl <| Sa rfl sm rfl <| Sa rfl sm rfl <| Sa rfl (zi (hv := by simp (disch := first | omega | simp only [nx]; omega) only [aIndexAddr, ty26, ty33, hpl, c1, c2, sb] <;> rfl)) rfl <| Sa rfl (zl (hv := (hr3 _ rfl).1 _ _ ty33 rfl rfl)) rfl <| SqW.vcallD rfl (by simp only [lk] <;> rfl) (by simp only [aopnds, lk] <;> rfl) (hv) rfl <| St rfl Zt rfl rfl <| Sn ?_
      refine Wy <| Wr <| Of rfl za rfl rfl <| On ?_
      refine CWp.ret <| BQ.ret <| SQ.ret <| LQ.ret <| BQ.ret <| SQ.ret <| FQ.ret (by simp only [aRet, Try.f37, aResults, aResult, lk, Nat.reduceEqDiff, reduceIte] <;> rfl) ?_
      exact ⟨by rw [risB_not hx hy hlt], rfl⟩
  · refine W.seq <| Wr <| Oa rfl sm rfl <| Oa rfl sm rfl <| Oa rfl (Zn (hv := by simp (disch := first | omega | simp only [nx]; omega) only [aLenOf, ty26, hpl] <;> rfl)) rfl <| Ofb rfl (zb (hv := bi_lss)) rfl <| On ?_
    refine Wn <| CWp.exit <| SQ.exit <| LQ.exit <| BQ.exit <| SQ.normal ?_
    refine Wr <| Ot rfl za rfl rfl <| On ?_
    refine CWp.ret <| FQ.ret (by simp only [aRet, Try.f37, aResults, aResult, lk, Nat.reduceEqDiff, reduceIte] <;> rfl) ?_
    refine ⟨?_, rfl⟩
    rw [risB_of fun j a b ha hb => hr j a b (by have := (List.getElem?_eq_some_iff.1 hb).1; omega) ha hb]
theorem chk1_c (h : AHeap) (a b : Rec) : FWp Try.prog 38 [a.V, b.V] h fun u h' => u = .bool (ltK a b) ∧ h' = h := by
  refine FWp.gcs (.flat rfl) ?_
  have e := str_lt a.key b.key
  refine W.enter tyOK Try.func38 rfl rfl ?_
  simp only [entry]
  refine Wr <| Oa rfl Zx rfl <| Oa rfl Zx rfl <| Of rfl za rfl rfl <| On ?_
  refine Wr <| Oa rfl (zf (hv := fa_ok (k := 0) ty33 rfl rfl ty9 rfl rfl)) rfl <| Oa rfl (zl (hv := by simp (disch := first | omega | simp only [nx]; omega) only [aLoad, ty9, rowOf, hpl, Value.cells, ty33, ty9] <;> rfl)) rfl <| Oa rfl (zf (hv := fa_ok (k := 0) ty33 rfl rfl ty9 rfl rfl)) rfl <| Oa rfl (zl (hv := by simp (disch := first | omega | simp only [nx]; omega) only [aLoad, ty9, rowOf, hpl, Value.cells, ty33, ty9] <;> rfl)) rfl <| Oa rfl (zb (hv := bs_lss)) rfl <| Oa rfl za rfl <| On ?_
  refine CWp.ret <| FQ.ret (by simp only [aRet, Try.f38, aResults, aResult, lk, Nat.reduceEqDiff, reduceIte] <;> rfl) ?_
  exact ⟨by rw [e]; rfl, fun r o hr ho => by simp (disch := first | omega | simp only [nx]; omega) only [hpl]; exact ho⟩
theorem chk2_c (h : AHeap) (a b : Rec) : FWp Try.prog 39 [a.V, b.V] h fun u h' => u = .bool (ltL a b) ∧ h' = h := by
  refine FWp.gcs (.flat rfl) ?_
  refine W.enter tyOK Try.func39 rfl rfl ?_
  simp only [entry]
  refine Wr <| Oa rfl Zx rfl <| Oa rfl Zx rfl <| Of rfl za rfl rfl <| On ?_
  refine Wr <| Oa rfl (zf (hv := fa_ok (k := 1) ty33 rfl rfl ty25 rfl rfl)) rfl <| Oa rfl (zl (hv := by simp (disch := first | omega | simp only [nx]; omega) only [aLoad, ty25, rowOf, hpl, Value.cells, ty25, ty33] <;> rfl)) rfl <| Oa rfl (zf (hv := fa_ok (k := 1) ty33 rfl rfl ty25 rfl rfl)) rfl <| Oa rfl (zl (hv := by simp (disch := first | omega | simp only [nx]; omega) only [aLoad, ty25, rowOf, hpl, Value.cells, ty25, ty33] <;> rfl)) rfl <| Oa rfl (zb (hv := bi_lss)) rfl <| Oa rfl za rfl <| On ?_
  refine CWp.ret <| FQ.ret (by simp only [aRet, Try.f39, aResults, aResult, lk, Nat.reduceEqDiff, reduceIte] <;> rfl) ?_
  exact ⟨rfl, fun r o hr ho => by simp (disch := first | omega | simp only [nx]; omega) only [hpl]; exact ho⟩
theorem lt_no {a b : List UInt8} (h : ltStr b a = true ∨ b = a) : ltStr a b = false := by
  rcases h with h | rfl
  · exact swo_ltStr.asymmA h
  · exact swo_ltStr.irrefl _
theorem lt_yes {a b : List UInt8} (h1 : ltStr b a = false) (h2 : ¬ b = a) : ltStr a b = true := by
  cases h3 : ltStr a b with
  | true => rfl
  | false => exact (h2 (str_eq_of h1 h3)).elim
structure CJ (h g : AHeap) (p : Lf) (bv dv : Value) (lp : ALoop) (e : Int) : Prop where
  next : h.next + 5 ≤ g.next
  leaf : g.get h.next = some (.cells (lcs p bv dv) 1)
  err : g.get (h.next + 1) = some (.cells [I64 e] 1)
  loop : g.get (h.next + 3) = some (.loop lp)
  two : g.get (h.next + 4) = some (.cells [bv, dv] 1)
  old : ∀ z, z < h.next → g.get z = h.get z
theorem CJ.mono {h g g' : AHeap} {p : Lf} {bv dv : Value} {lp lp' : ALoop} {e : Int} (c : CJ h g p bv dv lp e) (hn : g.next ≤ g'.next) (hl : g'.get (h.next + 3) = some (.loop lp')) (hk : ∀ z, z < g.next → ¬ z = h.next + 3 → g'.get z = g.get z) : CJ h g' p bv dv lp' e := by
  have := c.next
  exact ⟨by omega, by rw [hk _ (by omega) (by omega)]; exact c.leaf, by rw [hk _ (by omega) (by omega)]; exact c.err, hl, by rw [hk _ (by omega) (by omega)]; exact c.two, fun z hz => by rw [hk _ (by omega) (by omega)]; exact c.old z hz⟩
theorem check_c (h : AHeap) (p : Lf) (bv dv : Value) (hb : RS h p.base bv) (hd : RS h p.deltas dv) (hlb : p.base.length ≤ 1000000) (hld : p.deltas.length ≤ 1000000) :
    FWp Try.prog 12 [LV p bv dv] h fun u h' => u = I64 (if chk p = true then 0 else 2) ∧ h' = h := by
  have tb12 := And.intro ty25 (And.intro ty26 (And.intro ty28 (And.intro ty3 (And.intro ty33 (And.intro ty41 (ty9))))))
  obtain ⟨b1, c1, rfl⟩ := hb.form
  obtain ⟨b2, c2, rfl⟩ := hd.form
  refine FWp.gcs (.flat rfl) ?_
  refine W.enter tyOK Try.func12 rfl rfl ?_
  simp only [entry]
  have hsz1 := sz_str p.low
  have hsz2 := sz_str p.high
  have hle := str_lt p.low p.high
  have bad : ∀ e : Int, chk p = false → e = 2 → I64 e = I64 (if chk p = true then 0 else 2) := fun e h1 h2 => by rw [h1, h2]; rfl
  have bad' : ¬ (p.low.length ≤ 16 ∧ p.high.length ≤ 16 ∧ (p.high = [] ∨ ltStr p.low p.high = true) ∧ p.full ≤ 1099511627776 ∧ p.base.length ≤ 64 ∧ p.deltas.length ≤ 64) → chk p = false := fun hn => by simp only [chk]; rw [decide_eq_false hn]; rfl
  apply W.join (fun L h' => (p.low.length ≤ 16 ∧ p.high.length ≤ 16 ∧ (p.high = [] ∨ ltStr p.low p.high = true) ∧ p.full ≤ 1099511627776 ∧ p.base.length ≤ 64 ∧ p.deltas.length ≤ 64) ∧ h' = (h.new (.cells (lcs p (.slice b1 p.base.length c1) (.slice b2 p.deltas.length c2)) 1)).new (.cells [I64 0] 1) ∧ L = [(1, P0 h.next), (2, P0 (h.next + 1))])
  · intro rest
    refine Wr <| Oa rfl Zx rfl <| Oa rfl (so_alloc (by simp only [aAlloc, ty41] <;> rfl)) rfl <| On ?_
    refine W.seq <| Wr <| Oa rfl (zf (hv := fa_ok (k := 0) ty28 rfl rfl ty9 rfl rfl)) rfl <| Oa rfl (zl (hv := by simp (disch := first | omega | simp only [nx]; omega) only [aLoad, ty9, rowOf, hpl, Value.cells, hsz1, hsz2] <;> rfl)) rfl <| Oa rfl (Zn (hv := by simp (disch := first | omega | simp only [nx]; omega) only [aLenOf, ty9, hpl, Value.cells, hsz1, hsz2, places, tb12] <;> rfl)) rfl <| OSuf.aopB tyOK rfl (zb (hv := bi_gtr)) (fun _ => rfl) (fun h1 => ?_) (fun h1 => ?_)
    · try simp only [bl] at h1
      refine Ot rfl sm rfl rfl <| Pa ag rfl <| Pa ag rfl <| Pa ag rfl <| Pa ag rfl <| Ot rfl Zp rfl rfl <| Ot rfl sm rfl rfl <| Pa ag rfl <| Pa ag rfl <| Pa ag rfl <| Pa ag rfl <| Pa (aguard_un rfl rfl (by simp only [lk] <;> rfl)) rfl <| Pa (aguard_un rfl rfl (by simp only [lk] <;> rfl)) rfl <| Pa (aguard_un rfl rfl (by simp only [lk] <;> rfl)) rfl <| Pa (aguard_un rfl rfl (by simp only [lk] <;> rfl)) rfl <| Pa (aguard_un rfl rfl (by simp only [lk] <;> rfl)) rfl <| Pa ag rfl <| Ot rfl Zp rfl rfl <| Ot rfl sm rfl rfl <| Pa ag rfl <| Pa ag rfl <| Pa ag rfl <| Ot rfl Zp rfl rfl <| Ot rfl sm rfl rfl <| Pa ag rfl <| Pa ag rfl <| Pa ag rfl <| Pa ag rfl <| Pa ag rfl <| Pa ag rfl <| Pa ag rfl <| Pa ag rfl <| Ot rfl Zp rfl rfl <| On ?_
      refine Wy <| Wr <| Oa rfl (zs (hv := by simp (disch := first | omega | simp only [nx]; omega) only [aStore, ty41, writeRow, hpl, Value.cells, hsz1, hsz2] <;> rfl)) rfl <| On ?_
      refine CWp.ret <| SQ.ret <| FQ.ret (by simp (disch := first | omega | simp only [nx]; omega) only [aRet, Try.f12, aResults, aResult, lk, Nat.reduceEqDiff, reduceIte, aLoad, rowOf, hpl, Value.cells, hsz1, hsz2, places, tb12] <;> rfl) ?_
      exact ⟨bad _ (bad' (by omega)) rfl, fun r o hr ho => by simp (disch := first | omega | simp only [nx]; omega) only [hpl]; exact ho⟩
    · try simp only [bl] at h1
      refine Of rfl sm rfl rfl <| Oa ag (zf (hv := fa_ok (k := 1) ty28 rfl rfl ty9 rfl rfl)) rfl <| Oa ag (zl (hv := by simp (disch := first | omega | simp only [nx]; omega) only [aLoad, ty9, rowOf, hpl, Value.cells, hsz1, hsz2] <;> rfl)) rfl <| Oa ag (Zn (hv := by simp (disch := first | omega | simp only [nx]; omega) only [aLenOf, ty9, hpl, Value.cells, hsz1, hsz2, places, tb12] <;> rfl)) rfl <| OSuf.aopB tyOK ag (zb (hv := bi_gtr)) (fun _ => rfl) (fun h2 => ?_) (fun h2 => ?_)
      · try simp only [bl] at h2
        refine Ot rfl Zp rfl rfl <| Ot rfl sm rfl rfl <| Pa ag rfl <| Pa ag rfl <| Pa ag rfl <| Pa ag rfl <| Pa (aguard_un rfl rfl (by simp only [lk] <;> rfl)) rfl <| Pa (aguard_un rfl rfl (by simp only [lk] <;> rfl)) rfl <| Pa (aguard_un rfl rfl (by simp only [lk] <;> rfl)) rfl <| Pa (aguard_un rfl rfl (by simp only [lk] <;> rfl)) rfl <| Pa (aguard_un rfl rfl (by simp only [lk] <;> rfl)) rfl <| Pa ag rfl <| Ot rfl Zp rfl rfl <| Ot rfl sm rfl rfl <| Pa ag rfl <| Pa ag rfl <| Pa ag rfl <| Ot rfl Zp rfl rfl <| Ot rfl sm rfl rfl <| Pa ag rfl <| Pa ag rfl <| Pa ag rfl <| Pa ag rfl <| Pa ag rfl <| Pa ag rfl <| Pa ag rfl <| Pa ag rfl <| Ot rfl Zp rfl rfl <| On ?_
        refine Wy <| Wr <| Oa rfl (zs (hv := by simp (disch := first | omega | simp only [nx]; omega) only [aStore, ty41, writeRow, hpl, Value.cells, hsz1, hsz2] <;> rfl)) rfl <| On ?_
        refine CWp.ret <| SQ.ret <| FQ.ret (by simp (disch := first | omega | simp only [nx]; omega) only [aRet, Try.f12, aResults, aResult, lk, Nat.reduceEqDiff, reduceIte, aLoad, rowOf, hpl, Value.cells, hsz1, hsz2, places, tb12] <;> rfl) ?_
        exact ⟨bad _ (bad' (by omega)) rfl, fun r o hr ho => by simp (disch := first | omega | simp only [nx]; omega) only [hpl]; exact ho⟩
      · try simp only [bl] at h2
        refine Of rfl Zp rfl rfl <| Of rfl sm rfl rfl <| Oa ag (zf (hv := fa_ok (k := 1) ty28 rfl rfl ty9 rfl rfl)) rfl <| Oa ag (zl (hv := by simp (disch := first | omega | simp only [nx]; omega) only [aLoad, ty9, rowOf, hpl, Value.cells, hsz1, hsz2] <;> rfl)) rfl <| OSuf.aopB tyOK ag (zb (hv := bs_neq)) (fun _ => rfl) (fun h3 => ?_) (fun h3 => ?_)
        · try simp only [bl] at h3
          refine Ot ag sm rfl rfl <| Oa ag (zf (hv := fa_ok (k := 1) ty28 rfl rfl ty9 rfl rfl)) rfl <| Oa ag (zl (hv := by simp (disch := first | omega | simp only [nx]; omega) only [aLoad, ty9, rowOf, hpl, Value.cells, hsz1, hsz2] <;> rfl)) rfl <| Oa ag (zf (hv := fa_ok (k := 0) ty28 rfl rfl ty9 rfl rfl)) rfl <| Oa ag (zl (hv := by simp (disch := first | omega | simp only [nx]; omega) only [aLoad, ty9, rowOf, hpl, Value.cells, hsz1, hsz2] <;> rfl)) rfl <| OSuf.aopB tyOK ag (zb (hv := bs_leq)) (fun _ => rfl) (fun h4 => ?_) (fun h4 => ?_)
          · try simp only [bl] at h4
            refine Ot ag Zp rfl rfl <| Ot rfl Zp rfl rfl <| Ot rfl sm rfl rfl <| Pa ag rfl <| Pa ag rfl <| Pa ag rfl <| Ot rfl Zp rfl rfl <| Ot rfl sm rfl rfl <| Pa ag rfl <| Pa ag rfl <| Pa ag rfl <| Pa ag rfl <| Pa ag rfl <| Pa ag rfl <| Pa ag rfl <| Pa ag rfl <| Ot rfl Zp rfl rfl <| On ?_
            refine Wy <| Wr <| Oa rfl (zs (hv := by simp (disch := first | omega | simp only [nx]; omega) only [aStore, ty41, writeRow, hpl, Value.cells, hsz1, hsz2] <;> rfl)) rfl <| On ?_
            refine CWp.ret <| SQ.ret <| FQ.ret (by simp (disch := first | omega | simp only [nx]; omega) only [aRet, Try.f12, aResults, aResult, lk, Nat.reduceEqDiff, reduceIte, aLoad, rowOf, hpl, Value.cells, hsz1, hsz2, places, tb12] <;> rfl) ?_
            exact ⟨bad _ (bad' (by simp [sst] at h3 h4; simp [h3, lt_no h4])) rfl, fun r o hr ho => by simp (disch := first | omega | simp only [nx]; omega) only [hpl]; exact ho⟩
          · try simp only [bl] at h4
            refine Of ag Zp rfl rfl <| Of rfl Zp rfl rfl <| Of rfl sm rfl rfl <| Oa ag (zf (hv := fa_ok (k := 2) ty28 rfl rfl ty25 rfl rfl)) rfl <| Oa ag (zl (hv := by simp (disch := first | omega | simp only [nx]; omega) only [aLoad, ty25, rowOf, hpl, Value.cells, hsz1, hsz2] <;> rfl)) rfl <| OSuf.aopB tyOK ag (zb (hv := bi_gtr)) (fun _ => rfl) (fun h5 => ?_) (fun h5 => ?_)
            · try simp only [bl] at h5
              refine Ot rfl Zp rfl rfl <| Ot rfl sm rfl rfl <| Pa ag rfl <| Pa ag rfl <| Pa ag rfl <| Pa ag rfl <| Pa ag rfl <| Pa ag rfl <| Pa ag rfl <| Pa ag rfl <| Ot rfl Zp rfl rfl <| On ?_
              refine Wy <| Wr <| Oa rfl (zs (hv := by simp (disch := first | omega | simp only [nx]; omega) only [aStore, ty41, writeRow, hpl, Value.cells, hsz1, hsz2] <;> rfl)) rfl <| On ?_
              refine CWp.ret <| SQ.ret <| FQ.ret (by simp (disch := first | omega | simp only [nx]; omega) only [aRet, Try.f12, aResults, aResult, lk, Nat.reduceEqDiff, reduceIte, aLoad, rowOf, hpl, Value.cells, hsz1, hsz2, places, tb12] <;> rfl) ?_
              exact ⟨bad _ (bad' (by omega)) rfl, fun r o hr ho => by simp (disch := first | omega | simp only [nx]; omega) only [hpl]; exact ho⟩
            · try simp only [bl] at h5
              refine Of rfl Zp rfl rfl <| Of rfl sm rfl rfl <| Oa ag (zf (hv := fa_ok (k := 3) ty28 rfl rfl ty26 rfl rfl)) rfl <| Oa ag (zl (hv := by simp (disch := first | omega | simp only [nx]; omega) only [aLoad, ty26, rowOf, hpl, Value.cells, hsz1, hsz2] <;> rfl)) rfl <| Oa ag (Zn (hv := by simp (disch := first | omega | simp only [nx]; omega) only [aLenOf, ty26, hpl, Value.cells, hsz1, hsz2, places, tb12] <;> rfl)) rfl <| Oa ag (zf (hv := fa_ok (k := 4) ty28 rfl rfl ty26 rfl rfl)) rfl <| Oa ag (zl (hv := by simp (disch := first | omega | simp only [nx]; omega) only [aLoad, ty26, rowOf, hpl, Value.cells, hsz1, hsz2] <;> rfl)) rfl <| Oa ag (Zn (hv := by simp (disch := first | omega | simp only [nx]; omega) only [aLenOf, ty26, hpl, Value.cells, hsz1, hsz2, places, tb12] <;> rfl)) rfl <| Oa ag (so_max (by simp only [aopnds, lk] <;> rfl)) rfl <| OSuf.aopB tyOK ag (zb (hv := bi_gtr)) (fun _ => rfl) (fun h6 => ?_) (fun h6 => ?_)
              · try simp only [bl] at h6
                refine Ot rfl Zp rfl rfl <| On ?_
                refine Wy <| Wr <| Oa rfl (zs (hv := by simp (disch := first | omega | simp only [nx]; omega) only [aStore, ty41, writeRow, hpl, Value.cells, hsz1, hsz2] <;> rfl)) rfl <| On ?_
                refine CWp.ret <| SQ.ret <| FQ.ret (by simp (disch := first | omega | simp only [nx]; omega) only [aRet, Try.f12, aResults, aResult, lk, Nat.reduceEqDiff, reduceIte, aLoad, rowOf, hpl, Value.cells, hsz1, hsz2, places, tb12] <;> rfl) ?_
                exact ⟨bad _ (bad' (by split at h6 <;> omega)) rfl, fun r o hr ho => by simp (disch := first | omega | simp only [nx]; omega) only [hpl]; exact ho⟩
              · try simp only [bl] at h6
                refine Of rfl Zp rfl rfl <| On ?_
                refine Wn <| CWp.skip <| SQ.normal ?_
                refine W.seq <| ?_
                refine rest _ _ _ ?_ ⟨⟨by omega, by omega, by simp [sst] at h4; exact .inr (lt_yes h4.1 h4.2), by omega, by split at h6 <;> omega, by split at h6 <;> omega⟩, rfl, rfl⟩
                simp [HasA, Tr.get_put]
        · try simp only [bl] at h3
          refine Of ag sm rfl rfl <| Pa ag rfl <| Pa ag rfl <| Pa ag rfl <| Pa ag rfl <| Pa ag rfl <| Of ag Zp rfl rfl <| Of rfl Zp rfl rfl <| Of rfl sm rfl rfl <| Oa ag (zf (hv := fa_ok (k := 2) ty28 rfl rfl ty25 rfl rfl)) rfl <| Oa ag (zl (hv := by simp (disch := first | omega | simp only [nx]; omega) only [aLoad, ty25, rowOf, hpl, Value.cells, hsz1, hsz2] <;> rfl)) rfl <| OSuf.aopB tyOK ag (zb (hv := bi_gtr)) (fun _ => rfl) (fun h5 => ?_) (fun h5 => ?_)
          · try simp only [bl] at h5
            refine Ot rfl Zp rfl rfl <| Ot rfl sm rfl rfl <| Pa ag rfl <| Pa ag rfl <| Pa ag rfl <| Pa ag rfl <| Pa ag rfl <| Pa ag rfl <| Pa ag rfl <| Pa ag rfl <| Ot rfl Zp rfl rfl <| On ?_
            refine Wy <| Wr <| Oa rfl (zs (hv := by simp (disch := first | omega | simp only [nx]; omega) only [aStore, ty41, writeRow, hpl, Value.cells, hsz1, hsz2] <;> rfl)) rfl <| On ?_
            refine CWp.ret <| SQ.ret <| FQ.ret (by simp (disch := first | omega | simp only [nx]; omega) only [aRet, Try.f12, aResults, aResult, lk, Nat.reduceEqDiff, reduceIte, aLoad, rowOf, hpl, Value.cells, hsz1, hsz2, places, tb12] <;> rfl) ?_
            exact ⟨bad _ (bad' (by omega)) rfl, fun r o hr ho => by simp (disch := first | omega | simp only [nx]; omega) only [hpl]; exact ho⟩
          · try simp only [bl] at h5
            refine Of rfl Zp rfl rfl <| Of rfl sm rfl rfl <| Oa ag (zf (hv := fa_ok (k := 3) ty28 rfl rfl ty26 rfl rfl)) rfl <| Oa ag (zl (hv := by simp (disch := first | omega | simp only [nx]; omega) only [aLoad, ty26, rowOf, hpl, Value.cells, hsz1, hsz2] <;> rfl)) rfl <| Oa ag (Zn (hv := by simp (disch := first | omega | simp only [nx]; omega) only [aLenOf, ty26, hpl, Value.cells, hsz1, hsz2, places, tb12] <;> rfl)) rfl <| Oa ag (zf (hv := fa_ok (k := 4) ty28 rfl rfl ty26 rfl rfl)) rfl <| Oa ag (zl (hv := by simp (disch := first | omega | simp only [nx]; omega) only [aLoad, ty26, rowOf, hpl, Value.cells, hsz1, hsz2] <;> rfl)) rfl <| Oa ag (Zn (hv := by simp (disch := first | omega | simp only [nx]; omega) only [aLenOf, ty26, hpl, Value.cells, hsz1, hsz2, places, tb12] <;> rfl)) rfl <| Oa ag (so_max (by simp only [aopnds, lk] <;> rfl)) rfl <| OSuf.aopB tyOK ag (zb (hv := bi_gtr)) (fun _ => rfl) (fun h6 => ?_) (fun h6 => ?_)
            · try simp only [bl] at h6
              refine Ot rfl Zp rfl rfl <| On ?_
              refine Wy <| Wr <| Oa rfl (zs (hv := by simp (disch := first | omega | simp only [nx]; omega) only [aStore, ty41, writeRow, hpl, Value.cells, hsz1, hsz2] <;> rfl)) rfl <| On ?_
              refine CWp.ret <| SQ.ret <| FQ.ret (by simp (disch := first | omega | simp only [nx]; omega) only [aRet, Try.f12, aResults, aResult, lk, Nat.reduceEqDiff, reduceIte, aLoad, rowOf, hpl, Value.cells, hsz1, hsz2, places, tb12] <;> rfl) ?_
              exact ⟨bad _ (bad' (by split at h6 <;> omega)) rfl, fun r o hr ho => by simp (disch := first | omega | simp only [nx]; omega) only [hpl]; exact ho⟩
            · try simp only [bl] at h6
              refine Of rfl Zp rfl rfl <| On ?_
              refine Wn <| CWp.skip <| SQ.normal ?_
              refine W.seq <| ?_
              refine rest _ _ _ ?_ ⟨⟨by omega, by omega, by simp [sst] at h3; exact .inl h3, by omega, by split at h6 <;> omega, by split at h6 <;> omega⟩, rfl, rfl⟩
              simp [HasA, Tr.get_put]
  · rintro L h' ⟨⟨f1, f2, f3, f4, f5, f6⟩, rfl, rfl⟩
    simp only [mkA]
    have wo : chk p = (p.all.all (fit p.low p.high) && (risB ltK p.base && risB ltL p.deltas)) := by
      simp only [chk]; rw [decide_eq_true ⟨f1, f2, f3, f4, f5, f6⟩, Bool.true_and]
    refine Wr <| Oa rfl (zl (hv := by simp (disch := first | omega | simp only [nx]; omega) only [aLoad, ty28, rowOf, hpl, Value.cells] <;> rfl)) rfl <| OSuf.callD rfl (by simp only [aopnds, lk] <;> rfl) en35 (all_c _ p (.slice b1 p.base.length c1) (.slice b2 p.deltas.length c2)) rfl <| On ?_
    refine W.block (CWp.rangeFunc (by simp only [aopnd, Tr.get_put, Nat.reduceEqDiff, reduceIte] <;> rfl) (fun l hl => by cases hl) (VWp.func en63 ?_))
    show FWp _ _ [_, _] _ _
    generalize hLP : (ALoop.mk _ _ _ _ _ _ _ _) = LP
    have hbusy : (LP.state == .busy) = false := by rw [← hLP]; rfl
    have hjn : jumpExit LP.pending = some .normal := by rw [← hLP]; rfl
    refine FWp.mono (all1_c _ p (.slice b1 p.base.length c1) (.slice b2 p.deltas.length c2) _ (h.next + 2) (by simp (disch := first | omega | simp only [nx]; omega) only [hpl]) (fun pre g => CJ h g p (.slice b1 p.base.length c1) (.slice b2 p.deltas.length c2) LP 0 ∧ pre.all (fit p.low p.high) = true) (fun g => CJ h g p (.slice b1 p.base.length c1) (.slice b2 p.deltas.length c2) (LP.with .done (some .ret)) 2 ∧ p.all.all (fit p.low p.high) = false) ?_ ?_ ?_ hlb hld ?_) ?_
    · refine ⟨⟨by simp, ?_, ?_, ?_, ?_, fun z hz => ?_⟩, rfl⟩ <;> simp (disch := first | omega | simp only [nx]; omega) only [hpl]
    · rintro pre g o ⟨hc, hp⟩
      have := hc.next
      exact ⟨hc.mono (by simp) (by simp (disch := first | omega | simp only [nx]; omega) only [hpl]; exact hc.loop) (fun z hz _ => by simp (disch := first | omega | simp only [nx]; omega) only [hpl]), hp⟩
    · rintro pre g ⟨hc, _⟩
      have := hc.next
      exact ⟨hb.mono (by omega) hc.old, hd.mono (by omega) hc.old, hc.two⟩
    · rintro pre x post hpx g ⟨hc, hp⟩
      have hcn := hc.next
      have g1 := hc.leaf
      have g2 := hc.err
      have hl := hc.loop
      rw [← hLP] at hl
      cases hx : fit p.low p.high x with
      | true =>
        refine .inl (VWp.yield hl rfl ?_)
        refine W.reg <| Oa rfl (so_alloc (by simp only [aAlloc, ty33] <;> rfl)) rfl <| Oa rfl (zs (hv := by simp (disch := first | omega | simp only [nx]; omega) only [aStore, ty33, writeRow, hpl, Value.cells, rcl] <;> rfl)) rfl <| OSuf.nil <| ?_
        refine ⟨rfl, _, by (simp (disch := first | omega | simp only [nx]; omega) only [hpl]; exact hl), rfl, ?_⟩
        have hfx := fun H : AHeap => fits_c H p (.slice b1 p.base.length c1) (.slice b2 p.deltas.length c2) x
        rw [hx] at hfx
        refine W.block <| Wr <| Oa rfl (zl (hv := by simp (disch := first | omega | simp only [nx]; omega) only [aLoad, ty28, rowOf, hpl, g1, rcl, Value.cells] <;> rfl)) rfl <| Oa rfl (zl (hv := by simp (disch := first | omega | simp only [nx]; omega) only [aLoad, ty33, rowOf, hpl, g1, rcl, Value.cells] <;> rfl)) rfl <| OSuf.callD rfl (by simp only [aopnds, lk] <;> rfl) en31 (hfx _) rfl <| Of rfl Zt rfl rfl <| On ?_
        refine Wn <| CWp.skip <| BQ.normal <| ?_
        refine ⟨_, by (simp (disch := first | omega | simp only [nx]; omega) only [hpl]; rfl), rfl, hc.mono (by simp) (by simp (disch := first | omega | simp only [nx]; omega) only [hpl]; rw [← hLP]; rfl) (fun z hz hz3 => by simp (disch := first | omega | simp only [nx]; omega) only [hpl]), ?_⟩
        simp [hp, hx]
      | false =>
        refine .inr (VWp.yield hl rfl ?_)
        refine W.reg <| Oa rfl (so_alloc (by simp only [aAlloc, ty33] <;> rfl)) rfl <| Oa rfl (zs (hv := by simp (disch := first | omega | simp only [nx]; omega) only [aStore, ty33, writeRow, hpl, Value.cells, rcl] <;> rfl)) rfl <| OSuf.nil <| ?_
        refine ⟨rfl, _, by (simp (disch := first | omega | simp only [nx]; omega) only [hpl]; exact hl), rfl, ?_⟩
        have hfx := fun H : AHeap => fits_c H p (.slice b1 p.base.length c1) (.slice b2 p.deltas.length c2) x
        rw [hx] at hfx
        refine W.block <| Wr <| Oa rfl (zl (hv := by simp (disch := first | omega | simp only [nx]; omega) only [aLoad, ty28, rowOf, hpl, g1, g2, rcl, Value.cells] <;> rfl)) rfl <| Oa rfl (zl (hv := by simp (disch := first | omega | simp only [nx]; omega) only [aLoad, ty33, rowOf, hpl, g1, g2, rcl, Value.cells] <;> rfl)) rfl <| OSuf.callD rfl (by simp only [aopnds, lk] <;> rfl) en31 (hfx _) rfl <| Ot rfl Zt rfl rfl <| On ?_
        refine Wy <| Wr <| Oa rfl (zs (hv := by simp (disch := first | omega | simp only [nx]; omega) only [aStore, ty41, writeRow, hpl, g1, g2, rcl, Value.cells] <;> rfl)) rfl <| On ?_
        refine CWp.ret <| BQ.ret <| ?_
        refine ⟨_, by (simp (disch := first | omega | simp only [nx]; omega) only [hpl]; rfl), rfl, ⟨by simp only [nx]; omega, by simp (disch := first | omega | simp only [nx]; omega) only [hpl]; exact g1, by simp (disch := first | omega | simp only [nx]; omega) only [hpl]; rfl, by simp (disch := first | omega | simp only [nx]; omega) only [hpl]; rw [← hLP]; rfl, by simp (disch := first | omega | simp only [nx]; omega) only [hpl]; exact hc.two, fun z hz => by simp (disch := first | omega | simp only [nx]; omega) only [hpl]; exact hc.old z hz⟩, ?_⟩
        rw [← hpx]; simp [hx]
    · clear hLP
      rintro _ g ⟨rfl, ⟨hc, hp⟩ | ⟨hc, hp⟩⟩
      · have hcn := hc.next
        have g1 := hc.leaf
        have g2 := hc.err
        refine ⟨LP, .normal, hc.loop, hbusy, hjn, ?_⟩
        have r1 := rising_c (g.kill (h.next + 3)) p.base (.slice b1 p.base.length c1) (.func (.func 38) #[] #[]) ltK (hb.mono (by simp; omega) (fun z hz => by simp (disch := first | omega | simp only [nx]; omega) only [hpl]; exact hc.old z hz)) (fun a b => VWp.func en38 (chk1_c _ a b)) hlb
        have r2 := rising_c (g.kill (h.next + 3)) p.deltas (.slice b2 p.deltas.length c2) (.func (.func 39) #[] #[]) ltL (hd.mono (by simp; omega) (fun z hz => by simp (disch := first | omega | simp only [nx]; omega) only [hpl]; exact hc.old z hz)) (fun a b => VWp.func en39 (chk2_c _ a b)) hld
        cases q1 : risB ltK p.base with
        | false =>
          rw [q1] at r1
          refine BQ.normal <| SQ.normal ?_
          refine W.seq <| Wr <| Oa rfl (zf (hv := fa_ok (k := 3) ty28 rfl rfl ty26 rfl rfl)) rfl <| Oa rfl (zl (hv := by simp (disch := first | omega | simp only [nx]; omega) only [aLoad, ty26, rowOf, hpl, g1, g2, Value.cells] <;> rfl)) rfl <| OSuf.callD rfl (by simp only [aopnds, lk] <;> rfl) en37 (r1) rfl <| Ot rfl Zt rfl rfl <| Ot rfl sm rfl rfl <| Pa ag rfl <| Pa ag rfl <| Pa ag rfl <| Pa ag rfl <| Ot rfl Zp rfl rfl <| On ?_
          refine Wy <| Wr <| Oa rfl (zs (hv := by simp (disch := first | omega | simp only [nx]; omega) only [aStore, ty41, writeRow, hpl, g1, g2, Value.cells] <;> rfl)) rfl <| On ?_
          refine CWp.ret <| SQ.ret <| FQ.ret (by simp (disch := first | omega | simp only [nx]; omega) only [aRet, Try.f12, aResults, aResult, lk, Nat.reduceEqDiff, reduceIte, aLoad, rowOf, hpl, g1, g2, Value.cells, places, tb12] <;> rfl) ?_
          exact ⟨bad _ (by rw [wo, hp, q1]; rfl) rfl, fun r o hr ho => by simp (disch := first | omega | simp only [nx]; omega) only [hpl]; rw [hc.old r hr]; exact ho⟩
        | true =>
          rw [q1] at r1
          cases q2 : risB ltL p.deltas with
          | false =>
            rw [q2] at r2
            refine BQ.normal <| SQ.normal ?_
            refine W.seq <| Wr <| Oa rfl (zf (hv := fa_ok (k := 3) ty28 rfl rfl ty26 rfl rfl)) rfl <| Oa rfl (zl (hv := by simp (disch := first | omega | simp only [nx]; omega) only [aLoad, ty26, rowOf, hpl, g1, g2, Value.cells] <;> rfl)) rfl <| OSuf.callD rfl (by simp only [aopnds, lk] <;> rfl) en37 (r1) rfl <| Of rfl Zt rfl rfl <| Of rfl sm rfl rfl <| Oa ag (zf (hv := fa_ok (k := 4) ty28 rfl rfl ty26 rfl rfl)) rfl <| Oa ag (zl (hv := by simp (disch := first | omega | simp only [nx]; omega) only [aLoad, ty26, rowOf, hpl, g1, g2, Value.cells] <;> rfl)) rfl <| OSuf.callD ag (by simp only [aopnds, lk] <;> rfl) en37 (r2) rfl <| Ot ag Zt rfl rfl <| Ot rfl Zp rfl rfl <| On ?_
            refine Wy <| Wr <| Oa rfl (zs (hv := by simp (disch := first | omega | simp only [nx]; omega) only [aStore, ty41, writeRow, hpl, g1, g2, Value.cells] <;> rfl)) rfl <| On ?_
            refine CWp.ret <| SQ.ret <| FQ.ret (by simp (disch := first | omega | simp only [nx]; omega) only [aRet, Try.f12, aResults, aResult, lk, Nat.reduceEqDiff, reduceIte, aLoad, rowOf, hpl, g1, g2, Value.cells, places, tb12] <;> rfl) ?_
            exact ⟨bad _ (by rw [wo, hp, q1, q2]; rfl) rfl, fun r o hr ho => by simp (disch := first | omega | simp only [nx]; omega) only [hpl]; rw [hc.old r hr]; exact ho⟩
          | true =>
            rw [q2] at r2
            refine BQ.normal <| SQ.normal ?_
            refine W.seq <| Wr <| Oa rfl (zf (hv := fa_ok (k := 3) ty28 rfl rfl ty26 rfl rfl)) rfl <| Oa rfl (zl (hv := by simp (disch := first | omega | simp only [nx]; omega) only [aLoad, ty26, rowOf, hpl, g1, g2, Value.cells] <;> rfl)) rfl <| OSuf.callD rfl (by simp only [aopnds, lk] <;> rfl) en37 (r1) rfl <| Of rfl Zt rfl rfl <| Of rfl sm rfl rfl <| Oa ag (zf (hv := fa_ok (k := 4) ty28 rfl rfl ty26 rfl rfl)) rfl <| Oa ag (zl (hv := by simp (disch := first | omega | simp only [nx]; omega) only [aLoad, ty26, rowOf, hpl, g1, g2, Value.cells] <;> rfl)) rfl <| OSuf.callD ag (by simp only [aopnds, lk] <;> rfl) en37 (r2) rfl <| Of ag Zt rfl rfl <| Of rfl Zp rfl rfl <| On ?_
            refine Wn <| CWp.skip <| SQ.normal ?_
            refine Wr <| Oa rfl (zs (hv := by simp (disch := first | omega | simp only [nx]; omega) only [aStore, ty41, writeRow, hpl, g1, g2, Value.cells] <;> rfl)) rfl <| On ?_
            refine CWp.ret <| FQ.ret (by simp (disch := first | omega | simp only [nx]; omega) only [aRet, Try.f12, aResults, aResult, lk, Nat.reduceEqDiff, reduceIte, aLoad, rowOf, hpl, g1, g2, Value.cells, places, tb12] <;> rfl) ?_
            exact ⟨by rw [wo, hp, q1, q2]; rfl, fun r o hr ho => by simp (disch := first | omega | simp only [nx]; omega) only [hpl]; rw [hc.old r hr]; exact ho⟩
      · have hcn := hc.next
        have g2 := hc.err
        refine ⟨_, .ret, hc.loop, rfl, rfl, ?_⟩
        refine BQ.ret <| SQ.ret <| FQ.ret (by simp (disch := first | omega | simp only [nx]; omega) only [aRet, Try.f12, aResults, aResult, lk, Nat.reduceEqDiff, reduceIte, aLoad, rowOf, hpl, g2] <;> rfl) ?_
        refine ⟨bad _ (by rw [wo, hp]; rfl) rfl, fun r o hr ho => ?_⟩
        simp (disch := first | omega | simp only [nx]; omega) only [hpl]; rw [hc.old r hr]; exact ho
end Go.Proofs.Ytebheelmgcggmaa
namespace Go.Proofs.Ytebheelmgcggmaa
open Go.Ab Go.Sort
structure Rw (h g : AHeap) (os : List AObj) : Prop where
  next : h.next + os.length ≤ g.next
  at_ : ∀ i o, os[i]? = some o → g.get (h.next + i) = some o
  old : ∀ z, z < h.next → g.get z = h.get z
theorem Rw.nil (h : AHeap) : Rw h h [] := ⟨Nat.le_refl _, fun i o ho => by simp at ho, fun _ _ => rfl⟩
theorem Rw.push {h g : AHeap} {os : List AObj} (r : Rw h g os) (o : AObj) (e : g.next = h.next + os.length) : Rw h (g.new o) (os ++ [o]) := by
  refine ⟨by simp; omega, fun i x hx => ?_, fun z hz => by rw [zN (by omega)]; exact r.old z hz⟩
  rw [List.getElem?_append] at hx
  split at hx
  · rw [zN (by omega)]; exact r.at_ i x hx
  · have hi : i - os.length = 0 := by
      have := (List.getElem?_eq_some_iff.1 hx).1
      simp at this; omega
    rw [hi] at hx; simp at hx; subst hx
    rw [AHeap.get_new_eq (by omega)]
theorem Rw.new {h g : AHeap} {os : List AObj} (r : Rw h g os) (o : AObj) : Rw h (g.new o) os :=
  ⟨by have := r.next; simp; omega, fun i x hx => by
    have := (List.getElem?_eq_some_iff.1 hx).1
    have := r.next
    rw [zN (by omega)]; exact r.at_ i x hx, fun z hz => by
    have := r.next
    rw [zN (by omega)]; exact r.old z hz⟩
theorem Rw.set {h g : AHeap} {os : List AObj} (r : Rw h g os) (i : Nat) (o : AObj) : Rw h (g.set (h.next + i) o) (os.set i o) := by
  refine ⟨by have := r.next; simp; omega, fun j x hx => ?_, fun z hz => by rw [zS (by omega)]; exact r.old z hz⟩
  by_cases e : j = i
  · subst e
    rw [List.getElem?_set_self (by have := (List.getElem?_eq_some_iff.1 hx).1; simpa using this)] at hx
    cases hx; rw [AHeap.get_set_same]
  · rw [List.getElem?_set_ne (by omega)] at hx
    rw [zS (by omega)]; exact r.at_ j x hx
theorem Rw.far {h g : AHeap} {os : List AObj} (r : Rw h g os) {z : Nat} (hz : h.next + os.length ≤ z) (o : AObj) : Rw h (g.set z o) os := by
  refine ⟨r.next, fun j x hx => ?_, fun y hy => by rw [zS (by omega)]; exact r.old y hy⟩
  have := (List.getElem?_eq_some_iff.1 hx).1
  rw [zS (by omega)]; exact r.at_ j x hx
theorem Rw.keep {h g g' : AHeap} {os : List AObj} (r : Rw h g os) (hn : g.next ≤ g'.next) (hk : ∀ z, z < g.next → g'.get z = g.get z) : Rw h g' os := by
  have := r.next
  refine ⟨by omega, fun j x hx => ?_, fun y hy => by rw [hk y (by omega)]; exact r.old y hy⟩
  have := (List.getElem?_eq_some_iff.1 hx).1
  rw [hk _ (by omega)]; exact r.at_ j x hx
theorem Rw.eq {h g : AHeap} {os os' : List AObj} (r : Rw h g os) (e : os = os') : Rw h g os' := e ▸ r
theorem may'_c (h : AHeap) (p : Lf) (bv dv : Value) (hb : RS h p.base bv) (hd : RS h p.deltas dv) (hlb : p.base.length ≤ 1000000) (hld : p.deltas.length ≤ 1000000) :
    FWp Try.prog 25 [LV p bv dv] h fun u h' => u = .bool (chk p) ∧ h' = h := by
  refine FWp.gcs (.flat rfl) ?_
  refine W.enter tyOK Try.func25 rfl rfl ?_
  simp only [entry]
  refine Wr <| Oa rfl Zx rfl <| Of rfl za rfl rfl <| On ?_
  refine Wr <| Oa rfl (zl (hv := by simp (disch := first | omega | simp only [nx]; omega) only [aLoad, ty28, rowOf, hpl, Value.cells, ty28] <;> rfl)) rfl <| OSuf.callD rfl (by simp only [aopnds, lk] <;> rfl) en12 (check_c _ p bv dv (hb.mono (by simp) (fun z hz => by simp (disch := first | omega | simp only [nx]; omega) only [hpl])) (hd.mono (by simp) (fun z hz => by simp (disch := first | omega | simp only [nx]; omega) only [hpl])) hlb hld) rfl <| Oa rfl (zb (hv := bi_eql)) rfl <| Oa rfl za rfl <| On ?_
  refine CWp.ret <| FQ.ret (by simp only [aRet, Try.f25, aResults, aResult, lk, Nat.reduceEqDiff, reduceIte] <;> rfl) ?_
  refine ⟨?_, fun r o hr ho => by simp (disch := first | omega | simp only [nx]; omega) only [hpl]; exact ho⟩
  cases chk p <;> rfl
end Go.Proofs.Ytebheelmgcggmaa
namespace Go.Proofs.Ytebheelmgcggmaa
open Go.Ab Go.Sort
theorem ixf_c (h : AHeap) (l : List Rec) (v fv : Value) (P : Rec → Bool) (J : List Rec → AHeap → Prop) (j0 : J [] h) (jr : ∀ pre g, J pre g → RS g l v) (hl : l.length ≤ 1000000)
    (ask : ∀ pre x post, pre ++ x :: post = l → ∀ g, J pre g → VWp Try.prog fv [x.V] g fun u g' => u = .bool (P x) ∧ J (pre ++ [x]) g') :
    FWp Try.prog 51 [v, fv] h fun u g => (u = I64 (-1) ∧ J l g ∧ ∀ x ∈ l, P x = false) ∨ ∃ pre x post, pre ++ x :: post = l ∧ (∀ y ∈ pre, P y = false) ∧ P x = true ∧ u = I64 pre.length ∧ J (pre ++ [x]) g := by
  obtain ⟨b, c, rfl⟩ := (jr _ _ j0).form
  refine W.enter tyOK Try.func51 rfl rfl ?_
  simp only [entry]
  refine Wr <| Oa rfl za rfl <| On ?_
  refine W.seq <| Wr <| Oa rfl sm rfl <| Oa rfl (Zn (hv := by simp (disch := first | omega | simp only [nx]; omega) only [aLenOf, ty26, hpl] <;> rfl)) rfl <| Oa rfl sm rfl <| On ?_
  refine W.block (W.loop (fun m L g => ∃ k : Nat, m + k = l.length ∧ J (l.take k) g ∧ (∀ x ∈ l.take k, P x = false) ∧ L = [(0, .slice b l.length c), (1, fv), (7, I64 l.length), (8, I64 k)]) (n := l.length) ⟨0, rfl, by simpa using j0, by simp, rfl⟩ ?_ ?_)
  · simp [HasA, Tr.get_put]
  rintro m L g ⟨k, hm, hJ, hn, rfl⟩
  simp only [mkA]
  have w2 : IntKind.i64.wrap ((k : Int) + 1) = ((k + 1 : Nat) : Int) := by rw [wrap_i64 (by omega) (by omega)]; omega
  by_cases hk : (k : Int) < (l.length : Int)
  · obtain ⟨x, hx⟩ : ∃ x, l[k]? = some x := ⟨l[k]'(by omega), by simp⟩
    obtain ⟨_, r, off, rfl, hr1, hr2⟩ := RS.at_ (jr _ _ hJ) hx
    have c1 : (0 ≤ (k : Int) ∧ (k : Int) < (l.length : Int)) := by omega
    have htk : l.take (k + 1) = l.take k ++ [x] := by rw [List.take_add_one, hx]; rfl
    have e1 : l.take k ++ x :: l.drop (k + 1) = l := by
      conv => rhs; rw [← List.take_append_drop k l, List.drop_eq_getElem_cons (by omega)]
      rw [(List.getElem?_eq_some_iff.1 hx).2]
    have hv := ask _ _ _ e1 g hJ
    cases hP : P x with
    | true =>
      rw [hP] at hv
      refine Wr <| Ot rfl (zb (hv := bi_lss)) rfl (by first | rfl | assumption | ((simp only [bl, c1, sb]) <;> first | done | assumption | omega) | (simp; done) | (simp; omega)) <| On ?_
      refine W.seq <| Wy <| CWp.skip <| SQ.normal ?_
      refine W.seq <| W.block <| Wr <| Oa rfl sm rfl <| Oa rfl za rfl <| On ?_
      refine Wr <| Oa rfl sm rfl <| Oa rfl sm rfl <| Oa rfl sm rfl <| Oa rfl (zi (hv := by simp (disch := first | omega | simp only [nx]; omega) only [aIndexAddr, ty26, ty33, hpl, c1, sb] <;> rfl)) rfl <| Oa rfl (zl (hv := (hr2 _ rfl).1 _ _ ty33 rfl rfl)) rfl <| OSuf.vcall rfl (by simp only [lk] <;> rfl) (by simp only [aopnds, lk] <;> rfl) (hv) ?_
      rintro _ g2 ⟨rfl, hJ2⟩
      refine ⟨_, rfl, ?_⟩
      refine On ?_
      refine Wy <| Wr <| Oa rfl sm rfl <| Oa rfl za rfl <| On ?_
      refine CWp.ret <| BQ.ret <| SQ.ret <| LQ.ret <| BQ.ret <| SQ.ret <| FQ.ret (by simp only [aRet, Try.f51, aResults, aResult, lk, Nat.reduceEqDiff, reduceIte] <;> rfl) ?_
      exact .inr ⟨_, _, _, e1, hn, hP, by rw [List.length_take, Nat.min_eq_left (by omega)], hJ2⟩
    | false =>
      rw [hP] at hv
      refine Wr <| Ot rfl (zb (hv := bi_lss)) rfl (by first | rfl | assumption | ((simp only [bl, c1, sb]) <;> first | done | assumption | omega) | (simp; done) | (simp; omega)) <| On ?_
      refine W.seq <| Wy <| CWp.skip <| SQ.normal ?_
      refine W.seq <| W.block <| Wr <| Oa rfl sm rfl <| Oa rfl za rfl <| On ?_
      refine Wr <| Oa rfl sm rfl <| Oa rfl sm rfl <| Oa rfl sm rfl <| Oa rfl (zi (hv := by simp (disch := first | omega | simp only [nx]; omega) only [aIndexAddr, ty26, ty33, hpl, c1, sb] <;> rfl)) rfl <| Oa rfl (zl (hv := (hr2 _ rfl).1 _ _ ty33 rfl rfl)) rfl <| OSuf.vcall rfl (by simp only [lk] <;> rfl) (by simp only [aopnds, lk] <;> rfl) (hv) ?_
      rintro _ g2 ⟨rfl, hJ2⟩
      refine ⟨_, rfl, ?_⟩
      refine On ?_
      refine Wn <| CWp.skip <| BQ.normal <| SQ.normal ?_
      refine W.reg <| Oa rfl (zb (hv := bi_w bi_add (by first | (simp only [w2, w2] <;> rfl) | rfl))) rfl <| Oa rfl sm rfl <| OSuf.nil <| ?_
      refine LQ.normal (m := m - 1) (L := [(0, .slice (some ⟨r, off, none⟩) l.length c), (1, fv), (7, I64 l.length), (8, I64 ((k + 1 : Nat) : Int))]) (by omega) ?_ ⟨k + 1, by omega, by rw [htk]; exact hJ2, fun y hy => ?_, rfl⟩
      · simp only [HasA, Tr.get_put, Nat.reduceEqDiff, reduceIte, w2, and_self]
      · rw [htk] at hy
        rcases List.mem_append.1 hy with hy | hy
        · exact hn y hy
        · rw [List.mem_singleton.1 hy]; exact hP
  · refine Wr <| Ofb rfl (zb (hv := bi_lss)) rfl <| On ?_
    refine W.seq <| Wn <| CWp.exit <| SQ.exit <| LQ.exit <| BQ.exit <| SQ.normal ?_
    refine Wr <| Oa rfl za rfl <| On ?_
    refine CWp.ret <| FQ.ret (by simp only [aRet, Try.f51, aResults, aResult, lk, Nat.reduceEqDiff, reduceIte] <;> rfl) ?_
    rw [List.take_of_length_le (by omega)] at hJ hn
    exact .inl ⟨rfl, hJ, hn⟩
inductive OS (h : AHeap) (lo : Nat) (l : List Rec) : Value → Prop
  | nil (e : l = []) : OS h lo l (.slice none 0 0)
  | emp {r : Nat} (e : l = []) (h1 : lo ≤ r) (h2 : r < h.next) (h3 : h.get r = some (.cells [] 4)) : OS h lo l (.slice (some ⟨r, 0, none⟩) 0 1)
  | some {r n : Nat} (e : l ≠ []) (hn : n = l.length) (h1 : lo ≤ r) (h2 : r < h.next) (h3 : h.get r = Option.some (.cells (fl l) 4)) : OS h lo l (.slice (Option.some ⟨r, 0, none⟩) n 0)
theorem OS.rs {h : AHeap} {lo : Nat} {l : List Rec} {v : Value} (s : OS h lo l v) : RS h l v := by
  cases s with
  | nil e => subst e; exact ⟨_, _, rfl, .inl ⟨rfl, rfl, rfl⟩⟩
  | emp e _ _ _ => subst e; exact ⟨_, _, rfl, .inr ⟨_, _, rfl, fun h => (h rfl).elim⟩⟩
  | @some r n e hn _ h2 h3 => subst hn; exact ⟨_, _, rfl, .inr ⟨_, _, rfl, fun _ => ⟨h2, _, by simp only [rowOf, h3], cellsOf_all (fl_length l)⟩⟩⟩
structure RSl (h : AHeap) (lo : Nat) (l : List Rec) (v : Value) : Prop where
  rs : RS h l v
  lo : ∀ a n c, v = .slice (some a) n c → lo ≤ a.block
theorem RSl.mono {h h' : AHeap} {lo lo' : Nat} {l : List Rec} {v : Value} (s : RSl h lo l v) (hl : lo' ≤ lo) (hn : h.next ≤ h'.next) (hk : ∀ z, lo ≤ z → z < h.next → h'.get z = h.get z) : RSl h' lo' l v := by
  obtain ⟨⟨b, c, rfl, hr⟩, h2⟩ := s
  refine ⟨⟨b, c, rfl, hr.imp id ?_⟩, fun a n c e => Nat.le_trans hl (h2 a n c e)⟩
  rintro ⟨r, off, rfl, h3⟩
  exact ⟨r, off, rfl, fun h0 => let ⟨h4, vs, h5, h6⟩ := h3 h0; ⟨by omega, vs, by rw [rowOf_eq (hk r (h2 _ _ _ rfl) h4)]; exact h5, h6⟩⟩
theorem OS.mono {h h' : AHeap} {lo : Nat} {l : List Rec} {v : Value} (s : OS h lo l v) (hn : h.next ≤ h'.next) (hk : ∀ z, lo ≤ z → z < h.next → h'.get z = h.get z) : OS h' lo l v := by
  cases s with
  | nil e => exact .nil e
  | emp e h1 h2 h3 => exact .emp e h1 (by omega) (by rw [hk _ h1 h2]; exact h3)
  | some e hn h1 h2 h3 => exact .some e hn h1 (by omega) (by rw [hk _ h1 h2]; exact h3)
theorem ap_k0 {h : AHeap} {ats : Array TypeId} {A : AppT} {r k : Nat} {x : Value} {new : List Value} (ha : appT T ats = some A) (hl : aLen x = some k) (hx : aCells h A.size k x = some new) (hb : (2 * (0 + k) + 256) * A.bytes ≤ 281474976710656) (hk : ¬ k = 0) :
    aAppend T ats (.slice (some ⟨r, 0, none⟩) 0 1) x h = some (.slice (some ⟨h.next, 0, none⟩) k 0, h.new (.cells new A.size)) := by
  have e1 : Nat.ble k 0 = false := by
    cases e : Nat.ble k 0 with
    | false => rfl
    | true => have := Nat.le_of_ble_eq_true e; omega
  have e2 : Nat.beq (0 * A.size) 0 = true := by rw [Nat.zero_mul]; rfl
  have hs : sCells h A.size (.slice (some ⟨r, 0, none⟩) 0 1) = some [] := by simp only [sCells, aCells, e2, cond_true]
  rw [Nat.zero_add] at hb
  simp only [aAppend, ha, hl, hx, hs, vLen, Nat.zero_add, Nat.ble_eq_true_of_le hb, cond_true, e1, cond_false, List.nil_append]
theorem ap_z {h : AHeap} {ats : Array TypeId} {A : AppT} {r : Nat} {x : Value} (ha : appT T ats = some A) (hl : aLen x = some 0) (hx : aCells h A.size 0 x = some []) (hb : (2 * (0 + 0) + 256) * A.bytes ≤ 281474976710656) :
    aAppend T ats (.slice (some ⟨r, 0, none⟩) 0 1) x h = some (.slice (some ⟨r, 0, none⟩) 0 1, h) := by
  simp only [aAppend, ha, hl, hx, vLen, Nat.ble_eq_true_of_le hb, cond_true]; rfl
theorem sl_nil (t : TypeId) (x y : Operand) {ti : TI} {e : TypeId} (ht : T.get t = some ti) (hu : ti.und = .slice e) : aBin Try.prog T .eql t x y (.slice none 0 0) (.slice none 0 0) = some (.bool true) := by
  refine bi_eq rfl rfl rfl ?_
  obtain ⟨_, _, _, _, _, u⟩ := tyOK.ok t ti ht
  rw [hu] at u
  refine equal_run fun d => ?_
  simp only [Op.equalIn, underlying, bind_assoc, pureRun_program, u, pure_bind, pureRun_pure, Option.isNone]
theorem sl_some (t : TypeId) (x y : Operand) {ti : TI} {e : TypeId} {a : Addr} {n c : Nat} (ht : T.get t = some ti) (hu : ti.und = .slice e) : aBin Try.prog T .eql t x y (.slice (some a) n c) (.slice none 0 0) = some (.bool false) := by
  simp [aBin, flat, flat1, isCmp, aEq, ht, hu, noGuard]
def nilV : Value → Bool
  | .slice none _ _ => true
  | _ => false
theorem clone_c (h : AHeap) (l : List Rec) (v : Value) (hs : RS h l v) (hl : l.length ≤ 1000000) : ∃ v' H, FWp Try.prog 50 [v] h (fun u g => u = v' ∧ g = H) ∧ OS H h.next l v' ∧ nilV v' = nilV v ∧ h.next ≤ H.next ∧ ∀ z, z < h.next → H.get z = h.get z := by
  obtain ⟨b, c, rfl, ⟨rfl, hn, rfl⟩ | ⟨r, off, rfl, hr⟩⟩ := hs.ex
  · refine ⟨_, h, ?_, .nil (List.length_eq_zero_iff.1 hn), rfl, Nat.le_refl _, fun _ _ => rfl⟩
    rw [hn]
    refine W.enter tyOK Try.func50 rfl rfl ?_
    simp only [entry]
    refine Wr <| Oa rfl za rfl <| On ?_
    refine W.seq <| Wr <| Oa rfl sm rfl <| Otb rfl (zb (hv := sl_nil _ _ _ ty26 rfl)) rfl <| On ?_
    refine Wy <| Wr <| Oa rfl za rfl <| On ?_
    refine CWp.ret <| SQ.ret <| FQ.ret (by simp only [aRet, Try.f50, aResults, aResult, lk, Nat.reduceEqDiff, reduceIte] <;> rfl) ?_
    exact ⟨rfl, rfl⟩
  · by_cases h0 : l.length = 0
    · refine ⟨.slice (some ⟨h.next, 0, none⟩) 0 1, h.new (.cells [] 4), ?_, .emp (List.length_eq_zero_iff.1 h0) (Nat.le_refl _) (by simp) (zQ), rfl, by simp, fun z hz => zN (by omega)⟩
      rw [h0]
      refine W.enter tyOK Try.func50 rfl rfl ?_
      simp only [entry]
      refine Wr <| Oa rfl za rfl <| On ?_
      refine W.seq <| Wr <| Oa rfl sm rfl <| Of rfl (zb (hv := sl_some _ _ _ ty26 rfl)) rfl (by first | rfl | assumption | ((simp only [bl, places, ty26, ty33]) <;> first | done | assumption | omega) | (simp; done) | (simp; omega)) <| On ?_
      refine Wn <| CWp.skip <| SQ.normal ?_
      refine Wr <| Oa rfl (so_buildSlice (by simp only [aparts, lk] <;> rfl) (by simp only [aBuildSlice, ty26, ty33, places, ty26, ty33] <;> rfl)) rfl <| Oa rfl sm rfl <| Oa rfl (so_append (by simp only [aopnds, lk] <;> rfl) (ap_z (by simp only [appT, ty26, ty33] <;> rfl) rfl rfl (by decide))) rfl <| Oa rfl za rfl <| On ?_
      refine CWp.ret <| FQ.ret (by simp only [aRet, Try.f50, aResults, aResult, lk, Nat.reduceEqDiff, reduceIte] <;> rfl) ?_
      exact ⟨rfl, rfl⟩
    · obtain ⟨hr1, vs, hr2, hr3⟩ := hr h0
      have e0 : Nat.beq (l.length * 4) 0 = false := by
        cases e : Nat.beq (l.length * 4) 0 with
        | false => rfl
        | true => have := Nat.eq_of_beq_eq_true e; omega
      have hx : aCells (h.new (.cells [] 4)) 4 l.length (.slice (some ⟨r, off, none⟩) l.length c) = some (fl l) := by
        have e2 : rowOf (h.new (.cells [] 4)) r = some vs := by rw [rowOf_eq (zN (by omega))]; exact hr2
        simp only [aCells, e0, cond_false, Nat.ble_eq_true_of_le (Nat.le_refl l.length), cond_true, e2, hr3]
      refine ⟨.slice (some ⟨h.next + 1, 0, none⟩) l.length 0, (h.new (.cells [] 4)).new (.cells (fl l) 4), ?_, .some (fun e => h0 (by rw [e]; rfl)) rfl (by omega) (by simp) (by simp (disch := first | omega | simp only [nx]; omega) only [hpl]), rfl, by simp only [nx]; omega, fun z hz => by simp (disch := first | omega | simp only [nx]; omega) only [hpl]⟩
      refine W.enter tyOK Try.func50 rfl rfl ?_
      simp only [entry]
      refine Wr <| Oa rfl za rfl <| On ?_
      refine W.seq <| Wr <| Oa rfl sm rfl <| Of rfl (zb (hv := sl_some _ _ _ ty26 rfl)) rfl (by first | rfl | assumption | ((simp only [bl, places, ty26, ty33]) <;> first | done | assumption | omega) | (simp; done) | (simp; omega)) <| On ?_
      refine Wn <| CWp.skip <| SQ.normal ?_
      refine Wr <| Oa rfl (so_buildSlice (by simp only [aparts, lk] <;> rfl) (by simp only [aBuildSlice, ty26, ty33, places, ty26, ty33] <;> rfl)) rfl <| Oa rfl sm rfl <| Oa rfl (so_append (by simp only [aopnds, lk] <;> rfl) (ap_k0 (by simp only [appT, ty26, ty33] <;> rfl) rfl hx (by show (2 * (0 + l.length) + 256) * 48 ≤ _; omega) h0)) rfl <| Oa rfl za rfl <| On ?_
      refine CWp.ret <| FQ.ret (by simp only [aRet, Try.f50, aResults, aResult, lk, Nat.reduceEqDiff, reduceIte] <;> rfl) ?_
      exact ⟨rfl, rfl⟩
theorem own_c (h : AHeap) (p : Lf) (bv dv : Value) (hb : RS h p.base bv) (hd : RS h p.deltas dv) (hlb : p.base.length ≤ 1000000) (hld : p.deltas.length ≤ 1000000) :
    ∃ bv' dv' H m, FWp Try.prog 26 [LV p bv dv] h (fun u g => u = LV p bv' dv' ∧ g = H) ∧ OS H h.next p.base bv' ∧ OS H m p.deltas dv' ∧ (∀ r c n, bv' = .slice (some ⟨r, 0, none⟩) n c → r < m) ∧ (nilV bv' = nilV bv ∧ nilV dv' = nilV dv) ∧ h.next ≤ m ∧ m ≤ H.next ∧ ∀ z, z < h.next → H.get z = h.get z := by
  obtain ⟨b1, c1, rfl⟩ := hb.form
  obtain ⟨b2, c2, rfl⟩ := hd.form
  obtain ⟨v1, H1, w1, o1, f1, n1, k1⟩ := clone_c ((h.new (.cells (lcs p (.slice b1 p.base.length c1) (.slice b2 p.deltas.length c2)) 1)).new (.cells [.string ⟨#[]⟩, .string ⟨#[]⟩, U64 0, .slice none 0 0, .slice none 0 0] 1)) p.base (.slice b1 p.base.length c1) (hb.mono (by simp; omega) (fun z hz => by simp (disch := first | omega | simp only [nx]; omega) only [hpl])) hlb
  obtain ⟨v2, H2, w2, o2, f2, n2, k2⟩ := clone_c H1 p.deltas (.slice b2 p.deltas.length c2) (hd.mono (by simp at n1; omega) (fun z hz => by rw [k1 z (by simp; omega)]; simp (disch := first | omega | simp only [nx]; omega) only [hpl])) hld
  simp only [nx] at n1
  obtain ⟨x1, y1, z1, rfl⟩ : ∃ b n c, v1 = .slice b n c := by cases o1 <;> exact ⟨_, _, _, rfl⟩
  obtain ⟨x2, y2, z2, rfl⟩ : ∃ b n c, v2 = .slice b n c := by cases o2 <;> exact ⟨_, _, _, rfl⟩
  have g0 : H1.get h.next = some (.cells (lcs p (.slice b1 p.base.length c1) (.slice b2 p.deltas.length c2)) 1) := by rw [k1 _ (by simp only [nx]; omega)]; simp (disch := first | omega | simp only [nx]; omega) only [hpl]
  have g1 : H2.get h.next = some (.cells (lcs p (.slice b1 p.base.length c1) (.slice b2 p.deltas.length c2)) 1) := by rw [k2 _ (by omega)]; exact g0
  have g2 : H2.get (h.next + 1) = some (.cells [.string ⟨#[]⟩, .string ⟨#[]⟩, U64 0, .slice none 0 0, .slice none 0 0] 1) := by rw [k2 _ (by omega), k1 _ (by simp only [nx]; omega)]; simp (disch := first | omega | simp only [nx]; omega) only [hpl]
  have key : ∀ H, FWp Try.prog 26 [LV p (.slice b1 p.base.length c1) (.slice b2 p.deltas.length c2)] h (fun u g => u = LV p (.slice x1 y1 z1) (.slice x2 y2 z2) ∧ g = H) → (H.next = H2.next ∧ ∀ z, ¬ z = h.next → ¬ z = h.next + 1 → H.get z = H2.get z) → ∃ bv' dv' H m, FWp Try.prog 26 [LV p (.slice b1 p.base.length c1) (.slice b2 p.deltas.length c2)] h (fun u g => u = LV p bv' dv' ∧ g = H) ∧ OS H h.next p.base bv' ∧ OS H m p.deltas dv' ∧ (∀ r c n, bv' = .slice (some ⟨r, 0, none⟩) n c → r < m) ∧ (nilV bv' = nilV (.slice b1 p.base.length c1) ∧ nilV dv' = nilV (.slice b2 p.deltas.length c2)) ∧ h.next ≤ m ∧ m ≤ H.next ∧ ∀ z, z < h.next → H.get z = h.get z := by
    rintro H hf ⟨hn, hk⟩
    refine ⟨_, _, H, H1.next, hf, ?_, ?_, ?_, ⟨f1, f2⟩, by omega, by omega, fun z hz => ?_⟩
    · have o1' : OS H2 (h.next + 2) p.base (.slice x1 y1 z1) := o1.mono n2 fun z _ hz => k2 z hz
      have o1'' : OS H (h.next + 2) p.base (.slice x1 y1 z1) := o1'.mono (by omega) fun z hz _ => hk z (by omega) (by omega)
      cases o1'' with
      | nil e => exact .nil e
      | emp e h1 h2 h3 => exact .emp e (by omega) h2 h3
      | some e hn h1 h2 h3 => exact .some e hn (by omega) h2 h3
    · exact o2.mono (by omega) fun z hz _ => hk z (by omega) (by omega)
    · intro r c n e
      cases o1 with
      | nil _ => cases e
      | emp _ _ h2 _ => cases e; exact h2
      | some _ _ _ h2 _ => cases e; exact h2
    · rw [hk z (by omega) (by omega), k2 z (by omega), k1 z (by simp; omega)]; simp (disch := first | omega | simp only [nx]; omega) only [hpl]
  apply key
  · refine W.enter tyOK Try.func26 rfl rfl ?_
    simp only [entry]
    refine Wr <| Oa rfl Zx rfl <| Oa rfl (so_alloc (by simp only [aAlloc, ty28] <;> rfl)) rfl <| On ?_
    refine W.seq <| CWp.sqd tyOK mixed (ms := [0, 1, 3, 0, 8, 31, 31, 127, 255, 511]) (by kernel_rfl) (
        .free rfl rfl (zf (hv := fa_ok (k := 3) ty28 rfl rfl ty26 rfl rfl)) rfl <| .read rfl rfl (zl (hv := by simp (disch := first | omega | simp only [nx]; omega) only [aLoad, ty26, rowOf, hpl, g0, g1, g2, Value.cells, ty26, ty28] <;> rfl)) (by first | rfl | (simp [veq, veq1, veqs]; done) | (simp [veq, veq1, veqs, splice]; done)) trivial rfl <| .call rfl rfl (fcallO (by simp only [aopnds, lk] <;> rfl) en50 (w1)) rfl ⟨.inl rfl, trivial⟩ rfl <| .free rfl rfl (zf (hv := fa_ok (k := 4) ty28 rfl rfl ty26 rfl rfl)) rfl <| .read rfl rfl (zl (hv := by simp (disch := first | omega | simp only [nx]; omega) only [aLoad, ty26, rowOf, hpl, g0, g1, g2, Value.cells, ty26, ty28] <;> rfl)) (by first | rfl | (simp [veq, veq1, veqs]; done) | (simp [veq, veq1, veqs, splice]; done)) ⟨.inr (zl (hv := by simp (disch := first | omega | simp only [nx]; omega) only [aLoad, ty26, rowOf, hpl, g0, g1, g2, Value.cells, ty26, ty28] <;> rfl)), trivial⟩ rfl <| .call rfl rfl (fcallO (by simp only [aopnds, lk] <;> rfl) en50 (w2)) rfl ⟨.inl rfl, .inl rfl, trivial⟩ rfl <| .free rfl rfl (zf (hv := fa_ok (k := 3) ty28 rfl rfl ty26 rfl rfl)) rfl <| .change rfl rfl (zs (hv := by simp (disch := first | omega | simp only [nx]; omega) only [aStore, ty26, writeRow, hpl, g0, g1, g2, Value.cells, ty26, ty28] <;> rfl)) rfl ⟨.inl rfl, .inl rfl, trivial⟩ rfl <| .free rfl rfl (zf (hv := fa_ok (k := 4) ty28 rfl rfl ty26 rfl rfl)) rfl <| .change rfl rfl (zs (hv := by simp (disch := first | omega | simp only [nx]; omega) only [aStore, ty26, writeRow, hpl, g0, g1, g2, Value.cells, ty26, ty28] <;> rfl)) rfl ⟨.inl rfl, .inl rfl, trivial⟩ rfl <| .nil) <| SQ.normal ?_
    refine Wr <| Oa rfl (zl (hv := by simp (disch := first | omega | simp only [nx]; omega) only [aLoad, ty28, rowOf, hpl, g0, g1, g2, Value.cells, ty26, ty28] <;> rfl)) rfl <| Oa rfl (zs (hv := by simp (disch := first | omega | simp only [nx]; omega) only [aStore, ty28, writeRow, hpl, g0, g1, g2, Value.cells, ty26, ty28] <;> rfl)) rfl <| On ?_
    refine CWp.ret <| FQ.ret (by simp (disch := first | omega | simp only [nx]; omega) only [aRet, Try.f26, aResults, aResult, lk, Nat.reduceEqDiff, reduceIte, aLoad, rowOf, hpl, g0, g1, g2, Value.cells, places, ty26, ty28] <;> rfl) ?_
    exact ⟨rfl, rfl⟩
  · exact ⟨rfl, fun z h1 h2 => by simp (disch := first | omega | simp only [nx]; omega) only [hpl]⟩
end Go.Proofs.Ytebheelmgcggmaa
namespace Go.Proofs.Ytebheelmgcggmaa
open Go.Ab Go.Sort
theorem OS.form {h : AHeap} {lo : Nat} {l : List Rec} {v : Value} (s : OS h lo l v) : ∃ b c, v = .slice b l.length c := by
  cases s with
  | nil e => subst e; exact ⟨_, _, rfl⟩
  | emp e _ _ _ => subst e; exact ⟨_, _, rfl⟩
  | some e hn _ _ _ => subst hn; exact ⟨_, _, rfl⟩
theorem OS.row {h : AHeap} {lo : Nat} {l : List Rec} {z n c : Nat} (s : OS h lo l (.slice (Option.some ⟨z, 0, none⟩) n c)) : lo ≤ z ∧ z < h.next := by
  cases s with
  | emp _ h1 h2 _ => exact ⟨h1, h2⟩
  | some _ _ h1 h2 _ => exact ⟨h1, h2⟩
theorem fl_one (x : Rec) : oneCells x.cs = true := rfl
theorem os_app {g : AHeap} {lo q : Nat} {l : List Rec} {v : Value} (s : OS g lo l v) (x : Rec) (hq : g.get q = some (.cells x.cs 4)) (hl : l.length ≤ 1000000) :
    ∃ H, (∀ ats A, appT T ats = some A → A.size = 4 → A.bytes ≤ 100 → aAppend T ats v (.slice (some ⟨q, 0, none⟩) 1 2) g = some (.slice (some ⟨g.next, 0, none⟩) (l.length + 1) 0, H)) ∧ H.next = g.next + 1 ∧ H.get g.next = some (.cells (fl (l ++ [x])) 4) ∧ ∀ z, z < g.next → (∀ n c, v ≠ .slice (some ⟨z, 0, none⟩) n c) → H.get z = g.get z := by
  have hx : aCells g 4 1 (.slice (some ⟨q, 0, none⟩) 1 2) = some x.cs := by simp only [aCells, rowOf, hq]; rfl
  cases s with
  | nil e =>
    subst e
    refine ⟨g.new (.cells x.cs 4), fun ats A h1 h2 h3 => ?_, rfl, ?_, fun z hz _ => zN (by omega)⟩
    · have := ap_0 (h := g) (k := 1) h1 rfl (by rw [h2]; exact hx) (by have : (2 * (0 + 1) + 256) * A.bytes ≤ 258 * 100 := Nat.mul_le_mul (by omega) h3; omega) rfl
      rw [h2] at this; exact this
    · rw [AHeap.get_new_same]; simp [fl]
  | @emp r e h1 h2 h3 =>
    subst e
    refine ⟨g.new (.cells x.cs 4), fun ats A k1 k2 k3 => ?_, rfl, ?_, fun z hz _ => zN (by omega)⟩
    · have := ap_k0 (h := g) (r := r) (k := 1) k1 rfl (by rw [k2]; exact hx) (by have : (2 * (0 + 1) + 256) * A.bytes ≤ 258 * 100 := Nat.mul_le_mul (by omega) k3; omega) (by omega)
      rw [k2] at this; exact this
    · rw [AHeap.get_new_same]; simp [fl]
  | @some r n e hn h1 h2 h3 =>
    subst hn
    refine ⟨(g.kill r).new (.cells (fl l ++ x.cs) 4), fun ats A k1 k2 k3 => ?_, rfl, ?_, fun z hz hz2 => by have hz3 : ¬ r = z := fun e => hz2 _ _ (by rw [e]); simp (disch := first | omega | simp only [nx]; omega) only [hpl]⟩
    · have := ap_u (len := l.length) (k := 1) k1 rfl (by rw [k2]; exact hx) (by have : (2 * (l.length + 1) + 256) * A.bytes ≤ 2000260 * 100 := Nat.mul_le_mul (by omega) k3; omega) rfl (by rw [k2]; exact h3) (fl_one x) (by rw [k2]; exact cellsOf_all (fl_length l))
      rw [k2] at this; exact this
    · have e1 : ((g.kill r).new (.cells (fl l ++ x.cs) 4)).get g.next = Option.some (.cells (fl l ++ x.cs) 4) := AHeap.get_new_same (g.kill r) _
      rw [e1, fl_app]; simp [fl]
end Go.Proofs.Ytebheelmgcggmaa
namespace Go.Proofs.Ytebheelmgcggmaa
open Go.Ab Go.Sort
def zrec : List Value := [.string ⟨#[]⟩, U64 0, .bool false, .string ⟨#[]⟩]
theorem del_c (h : AHeap) (r : Nat) (l : List Rec) (fv : Value) (P : Rec → Bool) (J : List Rec → AHeap → Prop) (hne : l ≠ []) (hl : l.length ≤ 1000000) (hr : r < h.next) (hg : h.get r = some (.cells (fl l) 4)) (j0 : J [] h)
    (jset : ∀ pre g o, J pre g → J pre (g.set r o)) (jnew : ∀ pre g o, J pre g → J pre (g.new o)) (jn : ∀ pre g, J pre g → h.next ≤ g.next)
    (ask : ∀ pre x post, pre ++ x :: post = l → ∀ g, J pre g → VWp Try.prog fv [x.V] g fun u g' => u = .bool (P x) ∧ J (pre ++ [x]) g' ∧ g'.get r = g.get r ∧ ∀ z, h.next ≤ z → z < g.next → g'.get z = g.get z) :
    FWp Try.prog 27 [.slice (some ⟨r, 0, none⟩) l.length 0, fv] h fun u g => u = .slice (some ⟨r, 0, none⟩) (l.filter fun x => !P x).length 0 ∧ J l g ∧ ∃ rest, g.get r = some (.cells (fl (l.filter fun x => !P x) ++ rest) 4) := by
  refine W.enter tyOK Try.func27 rfl rfl ?_
  simp only [entry]
  have hix := ixf_c h l (.slice (some ⟨r, 0, none⟩) l.length 0) fv P (fun pre g => J pre g ∧ g.get r = h.get r) ⟨j0, rfl⟩ (fun pre g hj => ⟨_, _, rfl, .inr ⟨_, _, rfl, fun _ => ⟨by have := jn _ _ hj.1; omega, _, by simp only [rowOf, hj.2, hg], cellsOf_all (fl_length l)⟩⟩⟩) hl (fun pre x post hp g hj => (ask pre x post hp g hj.1).mono fun u g' hu => ⟨hu.1, hu.2.1, by rw [hu.2.2.1, hj.2]⟩)
  have hix2 : FWp Try.prog 51 [.slice (some ⟨r, 0, none⟩) l.length 0, fv] h fun u g => ∃ i : Int, u = I64 i ∧ g.get r = h.get r ∧ ((i = -1 ∧ J l g ∧ ∀ x ∈ l, P x = false) ∨ ∃ pre x post, pre ++ x :: post = l ∧ (∀ y ∈ pre, P y = false) ∧ P x = true ∧ i = pre.length ∧ J (pre ++ [x]) g) := hix.mono fun u g hu => by
    rcases hu with ⟨rfl, hj, hn⟩ | ⟨pre, x, post, e, hn, hP, rfl, hj⟩
    · exact ⟨-1, rfl, hj.2, .inl ⟨rfl, hj.1, hn⟩⟩
    · exact ⟨_, rfl, hj.2, .inr ⟨pre, x, post, e, hn, hP, rfl, hj.1⟩⟩
  refine Wr <| Oa rfl za rfl <| On ?_
  refine Wr <| Oa rfl sm rfl <| Oa rfl sm rfl <| OSuf.call rfl (by simp only [aopnds, lk] <;> rfl) en51 (hix2) ?_
  rintro _ g ⟨i, rfl, hgr, hi⟩
  refine ⟨_, rfl, ?_⟩
  refine Oa rfl za rfl <| On ?_
  refine W.seq <| ?_
  skip
  rw [hg] at hgr
  rcases hi with ⟨rfl, hj, hn⟩ | ⟨pre, x, post, e, hn, hP, rfl, hj⟩
  · have ef : (l.filter fun x => !P x) = l := List.filter_eq_self.2 fun x hx => by rw [hn x hx]; rfl
    refine Wr <| Oa rfl sm rfl <| Otb rfl (zb (hv := bi_eql)) rfl <| On ?_
    refine Wy <| Wr <| Oa rfl sm rfl <| Oa rfl za rfl <| On ?_
    refine CWp.ret <| SQ.ret <| FQ.ret (by simp only [aRet, Try.f27, aResults, aResult, lk, Nat.reduceEqDiff, reduceIte] <;> rfl) ?_
    rw [ef]
    exact ⟨rfl, hj, [], by rw [List.append_nil]; exact hgr⟩
  · have hlp : l.length = pre.length + 1 + post.length := by rw [← e]; simp; omega
    have w1 : IntKind.i64.wrap ((pre.length : Int) + 1) = ((pre.length + 1 : Nat) : Int) := by rw [wrap_i64 (by omega) (by omega)]; omega
    have b1 : ((pre.length : Int) == -1) = false := by first | (simp; done) | (simp; omega)
    refine Wr <| Oa rfl sm rfl <| Of rfl (zb (hv := bi_eql)) rfl (b1) <| On ?_
    refine Wn <| CWp.skip <| SQ.normal ?_
    refine W.seq <| Wr <| Oa rfl sm rfl <| Oa rfl (zb (hv := bi_w bi_add (by first | (simp only [w1] <;> rfl) | rfl))) rfl <| Oa rfl za rfl <| On ?_
    have ef : ∀ k, (l.take (pre.length + 1 + k)).filter (fun x => !P x) = pre ++ (post.take k).filter fun x => !P x := fun k => by
      have e1 : l.take (pre.length + 1 + k) = pre ++ (x :: post.take k) := by
        rw [← e, show pre.length + 1 + k = pre.length + (k + 1) by omega, List.take_length_add_append, List.take_succ_cons]
      rw [e1, List.filter_append, List.filter_eq_self.2 (fun y hy => by rw [hn y hy]; rfl), List.filter_cons, hP]; rfl
    have hz0 : l.take (pre.length + 1) = pre ++ [x] := by
      rw [← e, List.take_length_add_append]; rfl
    refine W.cut (fun L g => ∃ R : List Rec, R.length = l.length ∧ R.take (l.filter fun x => !P x).length = (l.filter fun x => !P x) ∧ (l.filter fun x => !P x).length < l.length ∧ J l g ∧ g.get r = some (.cells (fl R) 4) ∧ L = [(0, .slice (some ⟨r, 0, none⟩) l.length 0), (1, fv), (5, I64 (l.filter fun x => !P x).length)]) (W.block (W.loop (fun m L g => ∃ (k : Nat) (R : List Rec), m + k = post.length ∧ R.length = l.length ∧ R.take ((l.take (pre.length + 1 + k)).filter fun x => !P x).length = ((l.take (pre.length + 1 + k)).filter fun x => !P x) ∧ R.drop (pre.length + 1 + k) = l.drop (pre.length + 1 + k) ∧ ((l.take (pre.length + 1 + k)).filter fun x => !P x).length ≤ pre.length + k ∧ J (l.take (pre.length + 1 + k)) g ∧ g.get r = some (.cells (fl R) 4) ∧
        L = [(0, .slice (some ⟨r, 0, none⟩) l.length 0), (1, fv), (5, I64 ((l.take (pre.length + 1 + k)).filter fun x => !P x).length), (6, I64 ((pre.length + 1 + k : Nat) : Int))]) (n := post.length) (L := [(0, .slice (some ⟨r, 0, none⟩) l.length 0), (1, fv), (5, I64 pre.length), (6, I64 ((pre.length + 1 : Nat) : Int))]) ⟨0, l, rfl, rfl, ?_, rfl, ?_, ?_, hgr, ?_⟩ ?_ ?_)) ?_
    · rw [ef 0]; simp [← e]
    · rw [ef 0]; simp
    · rw [Nat.add_zero, hz0]; exact hj
    · rw [ef 0]; simp
    · simp [HasA, Tr.get_put]
    · rintro m L g2 ⟨k, R, hm, hR1, hR2, hR3, hR4, hJ, hrow, rfl⟩
      simp only [mkA]
      obtain ⟨i, hi⟩ : ∃ i, i = ((l.take (pre.length + 1 + k)).filter fun x => !P x).length := ⟨_, rfl⟩
      rw [← hi] at hR2 hR4 ⊢
      have w2 : IntKind.i64.wrap (((pre.length + 1 + k : Nat) : Int) + 1) = ((pre.length + 1 + (k + 1) : Nat) : Int) := by rw [wrap_i64 (by omega) (by omega)]; omega
      have w3 : IntKind.i64.wrap ((i : Int) + 1) = ((i + 1 : Nat) : Int) := by rw [wrap_i64 (by omega) (by omega)]; omega
      by_cases hk : ((pre.length + 1 + k : Nat) : Int) < (l.length : Int)
      · obtain ⟨y, hy⟩ : ∃ y, l[pre.length + 1 + k]? = some y := ⟨l[pre.length + 1 + k]'(by omega), by simp⟩
        have hRy : R[pre.length + 1 + k]? = some y := by
          have := congrArg (fun z : List Rec => z[0]?) hR3
          simp only [List.getElem?_drop, Nat.add_zero] at this
          rw [this, hy]
        have c1 : (0 ≤ ((pre.length + 1 + k : Nat) : Int) ∧ ((pre.length + 1 + k : Nat) : Int) < (l.length : Int)) := by omega
        have hcell := fl_get hRy
        have htk : l.take (pre.length + 1 + (k + 1)) = l.take (pre.length + 1 + k) ++ [y] := by rw [← Nat.add_assoc, List.take_add_one, hy]; rfl
        have e1 : l.take (pre.length + 1 + k) ++ y :: l.drop (pre.length + 1 + k + 1) = l := by
          conv => rhs; rw [← List.take_append_drop (pre.length + 1 + k) l, List.drop_eq_getElem_cons (by omega)]
          rw [(List.getElem?_eq_some_iff.1 hy).2]
        have hv := ask _ _ _ e1 _ (jnew _ _ (.cells y.cs 1) hJ)
        have hg3 : (g2.new (.cells y.cs 1)).get r = some (.cells (fl R) 4) := by
          have := jn _ _ hJ
          rw [zN (by omega)]; exact hrow
        rw [hg3] at hv
        have hdr : R.drop (pre.length + 1 + (k + 1)) = l.drop (pre.length + 1 + (k + 1)) := by
          have := congrArg (List.drop 1) hR3
          rw [List.drop_drop, List.drop_drop] at this; exact this
        have hgn := jn _ _ hJ
        cases hPy : P y with
        | true =>
          rw [hPy] at hv
          refine W.seq <| Wr <| Oa rfl sm rfl <| Oa rfl sm rfl <| Oa rfl (Zn (hv := by simp (disch := first | omega | simp only [nx]; omega) only [aLenOf, ty26, hpl, hrow, c1, sb, hcell, rcl, Value.cells, ty26, ty33] <;> rfl)) rfl <| Ot rfl (zb (hv := bi_lss)) rfl (by first | rfl | assumption | ((simp only [bl, hrow, c1, sb, hcell, rcl, Option.map_some, Value.cells, ty26, ty33]) <;> first | done | assumption | omega) | (simp; done) | (simp; omega)) <| On ?_
          refine Wy <| CWp.skip <| SQ.normal ?_
          refine W.seq <| W.block <| Wr <| Oa rfl sm rfl <| Oa rfl sm rfl <| Oa rfl (zi (hv := by simp (disch := first | omega | simp only [nx]; omega) only [aIndexAddr, ty26, ty33, hpl, hrow, c1, sb, hcell, rcl, Value.cells, ty26, ty33] <;> rfl)) rfl <| Oa rfl (zl (hv := by simp (disch := first | omega | simp only [nx]; omega) only [aLoad, ty33, rowOf, hpl, hrow, c1, sb, hcell, rcl, Option.map_some, Value.cells, ty26, ty33] <;> rfl)) rfl <| Oa rfl (so_alloc (by simp only [aAlloc, ty33] <;> rfl)) rfl <| Oa rfl (zs (hv := by simp (disch := first | omega | simp only [nx]; omega) only [aStore, ty33, writeRow, hpl, hrow, c1, sb, hcell, rcl, Option.map_some, Value.cells, ty26, ty33] <;> rfl)) rfl <| On ?_
          refine Wr <| Oa rfl sm rfl <| Oa rfl (zl (hv := by simp (disch := first | omega | simp only [nx]; omega) only [aLoad, ty33, rowOf, hpl, hrow, c1, sb, hcell, rcl, Option.map_some, Value.cells, ty26, ty33] <;> rfl)) rfl <| OSuf.vcall rfl (by simp only [lk] <;> rfl) (by simp only [aopnds, lk] <;> rfl) (hv) ?_
          rintro _ g3 ⟨rfl, hJ3, hr3, hk3⟩
          refine ⟨_, rfl, ?_⟩
          refine Of rfl Zt rfl rfl <| On ?_
          refine Wn <| CWp.skip <| BQ.normal <| SQ.normal ?_
          refine W.reg <| Oa rfl sm rfl <| Oa rfl (zb (hv := bi_w bi_add (by first | (simp only [w2, w2] <;> rfl) | rfl))) rfl <| Oa rfl za rfl <| OSuf.nil <| ?_
          have hf : (l.take (pre.length + 1 + (k + 1))).filter (fun x => !P x) = (l.take (pre.length + 1 + k)).filter fun x => !P x := by rw [htk, List.filter_append]; simp [hPy]
          refine LQ.normal (m := m - 1) (L := [(0, .slice (some ⟨r, 0, none⟩) l.length 0), (1, fv), (5, I64 i), (6, I64 ((pre.length + 1 + (k + 1) : Nat) : Int))]) (by omega) ?_ ⟨k + 1, R, by omega, hR1, by rw [hf, ← hi]; exact hR2, hdr, by rw [hf]; omega, by rw [htk]; exact hJ3, hr3, by rw [hf, ← hi]⟩
          simp only [HasA, Tr.get_put, Nat.reduceEqDiff, reduceIte, w2, and_self]
        | false =>
          rw [hPy] at hv
          have c2 : (0 ≤ (i : Int) ∧ (i : Int) < (l.length : Int)) := by omega
          have hy7 : (g2.new (.cells y.cs 1)).get g2.next = some (.cells y.cs 1) := zQ
          have hsp := fl_set (l := R) y (i := i) (by omega)
          have hbl := fl_ble (l := R) (i := i) (by omega)
          refine W.seq <| Wr <| Oa rfl sm rfl <| Oa rfl sm rfl <| Oa rfl (Zn (hv := by simp (disch := first | omega | simp only [nx]; omega) only [aLenOf, ty26, hpl, hrow, c1, sb, hcell, rcl, Value.cells, ty26, ty33] <;> rfl)) rfl <| Ot rfl (zb (hv := bi_lss)) rfl (by first | rfl | assumption | ((simp only [bl, hrow, c1, sb, hcell, rcl, Option.map_some, Value.cells, ty26, ty33]) <;> first | done | assumption | omega) | (simp; done) | (simp; omega)) <| On ?_
          refine Wy <| CWp.skip <| SQ.normal ?_
          refine W.seq <| W.block <| Wr <| Oa rfl sm rfl <| Oa rfl sm rfl <| Oa rfl (zi (hv := by simp (disch := first | omega | simp only [nx]; omega) only [aIndexAddr, ty26, ty33, hpl, hrow, c1, sb, hcell, rcl, Value.cells, ty26, ty33] <;> rfl)) rfl <| Oa rfl (zl (hv := by simp (disch := first | omega | simp only [nx]; omega) only [aLoad, ty33, rowOf, hpl, hrow, c1, sb, hcell, rcl, Option.map_some, Value.cells, ty26, ty33] <;> rfl)) rfl <| Oa rfl (so_alloc (by simp only [aAlloc, ty33] <;> rfl)) rfl <| Oa rfl (zs (hv := by simp (disch := first | omega | simp only [nx]; omega) only [aStore, ty33, writeRow, hpl, hrow, c1, sb, hcell, rcl, Option.map_some, Value.cells, ty26, ty33] <;> rfl)) rfl <| On ?_
          refine Wr <| Oa rfl sm rfl <| Oa rfl (zl (hv := by simp (disch := first | omega | simp only [nx]; omega) only [aLoad, ty33, rowOf, hpl, hrow, c1, sb, hcell, rcl, Option.map_some, Value.cells, ty26, ty33] <;> rfl)) rfl <| OSuf.vcall rfl (by simp only [lk] <;> rfl) (by simp only [aopnds, lk] <;> rfl) (hv) ?_
          rintro _ g3 ⟨rfl, hJ3, hr3, hk3⟩
          have h73 : g3.get g2.next = some (.cells y.cs 1) := (by rw [hk3 _ (by omega) (by simp), hy7])
          refine ⟨_, rfl, ?_⟩
          refine Ot rfl Zt rfl rfl <| On ?_
          refine Wy <| Wr <| Oa rfl sm rfl <| Oa rfl sm rfl <| Oa rfl (zl (hv := by simp (disch := first | omega | simp only [nx]; omega) only [aLoad, ty33, rowOf, hpl, hrow, c1, sb, hcell, rcl, Option.map_some, Value.cells, ty26, ty33, hr3, h73, c2, hsp, hbl, csz, csl, cso, csn, csb] <;> rfl)) rfl <| Oa rfl (zi (hv := by simp (disch := first | omega | simp only [nx]; omega) only [aIndexAddr, ty26, ty33, hpl, hrow, c1, sb, hcell, rcl, Value.cells, ty26, ty33, hr3, h73, c2, hsp, hbl, csz, csl, cso, csn, csb] <;> rfl)) rfl <| Oa rfl (zs (hv := by simp (disch := first | omega | simp only [nx]; omega) only [aStore, ty33, writeRow, hpl, hrow, c1, sb, hcell, rcl, Option.map_some, Value.cells, ty26, ty33, hr3, h73, c2, hsp, hbl, csz, csl, cso, csn, csb] <;> rfl)) rfl <| On ?_
          refine W.reg <| Oa rfl sm rfl <| Oa rfl (zb (hv := bi_w bi_add (by first | (simp only [w2, w2, w3] <;> rfl) | rfl))) rfl <| Oa rfl za rfl <| OSuf.nil <| BQ.normal <| SQ.normal ?_
          refine W.reg <| Oa rfl sm rfl <| Oa rfl (zb (hv := bi_w bi_add (by first | (simp only [w2, w2, w3] <;> rfl) | rfl))) rfl <| Oa rfl za rfl <| OSuf.nil <| ?_
          have hf : (l.take (pre.length + 1 + (k + 1))).filter (fun x => !P x) = ((l.take (pre.length + 1 + k)).filter fun x => !P x) ++ [y] := by rw [htk, List.filter_append]; simp [hPy]
          refine LQ.normal (m := m - 1) (L := [(0, .slice (some ⟨r, 0, none⟩) l.length 0), (1, fv), (5, I64 ((i + 1 : Nat) : Int)), (6, I64 ((pre.length + 1 + (k + 1) : Nat) : Int))]) (by omega) ?_ ⟨k + 1, R.set i y, by omega, by simp [hR1], ?_, ?_, ?_, by rw [htk]; exact jset _ _ _ hJ3, zP, ?_⟩
          · simp only [HasA, Tr.get_put, Nat.reduceEqDiff, reduceIte, w2, w3, and_self]
          · rw [hf, List.length_append, ← hi, ← hR2]
            show List.take (i + 1) _ = _
            rw [List.take_add_one, List.take_set, List.getElem?_set_self (by omega)]
            rw [List.set_eq_of_length_le (by simp; omega)]; rfl
          · rw [List.drop_set_of_lt (by omega)]; exact hdr
          · rw [hf, List.length_append, ← hi]; simp; omega
          · rw [hf, List.length_append, ← hi]; rfl
      · refine W.seq <| Wr <| Oa rfl sm rfl <| Oa rfl sm rfl <| Oa rfl (Zn (hv := by simp (disch := first | omega | simp only [nx]; omega) only [aLenOf, ty26, hpl] <;> rfl)) rfl <| Ofb rfl (zb (hv := bi_lss)) rfl <| On ?_
        refine Wn <| CWp.exit <| SQ.exit <| LQ.exit <| BQ.exit <| ?_
        have hk2 : pre.length + 1 + k = l.length := by omega
        rw [hk2, List.take_length] at hR2 hJ hi
        refine NQ.normal (L := [(0, .slice (some ⟨r, 0, none⟩) l.length 0), (1, fv), (5, I64 i)]) ?_ ⟨R, hR1, by rw [← hi]; exact hR2, by omega, hJ, hrow, by rw [hi]⟩
        simp only [HasA, Tr.get_put, Nat.reduceEqDiff, reduceIte, and_self]
    rintro L a' g2 ha ⟨R, hR1, hR2, hR3, hJ, hrow, rfl⟩
    obtain ⟨K, hK⟩ : ∃ K, K = l.filter fun x => !P x := ⟨_, rfl⟩
    rw [← hK] at hR2 hR3 ha ⊢
    have hsp : fl R = fl K ++ (fl (R.drop K.length) ++ []) := by rw [List.append_nil, ← fl_app, ← hR2]; congr 1; rw [hR2]; conv => lhs; rw [← List.take_append_drop K.length R, hR2]
    have hrow' := hrow
    rw [hsp] at hrow'
    refine SQ.normal <| CWp.known ha ?_
    simp only [mkA]
    refine Wr <| Oa rfl sm rfl <| Oa rfl sm rfl <| Oa rfl (so_slice (by simp only [lk] <;> rfl) (by simp only [oopnd, lk] <;> rfl) (by simp only [oopnd, lk] <;> rfl) (by simp only [oopnd, lk] <;> rfl) (sl_u ty26 rfl ty33 (bounds_lo (by omega)) hrow)) rfl <| Oa rfl (so_clear (by simp only [aopnds, lk] <;> rfl) (cl_u rfl ty26 rfl ty33 rfl rfl rfl hrow' (by rw [fl_length, Nat.zero_add]) (by rw [fl_length, List.length_drop, hR1]; rfl) (by omega))) rfl <| On ?_
    refine Wr <| Oa rfl sm rfl <| Oa rfl sm rfl <| Oa rfl (so_slice (by simp only [lk] <;> rfl) (by simp only [oopnd, lk] <;> rfl) (by simp only [oopnd, lk] <;> rfl) (by simp only [oopnd, lk] <;> rfl) (sl_u ty26 rfl ty33 (bounds_hi (by omega)) (zP))) rfl <| Oa rfl za rfl <| On ?_
    refine CWp.ret <| FQ.ret (by simp only [aRet, Try.f27, aResults, aResult, lk, Nat.reduceEqDiff, reduceIte] <;> rfl) ?_
    exact ⟨rfl, jset _ _ _ hJ, _, zP⟩
end Go.Proofs.Ytebheelmgcggmaa
namespace Go.Proofs.Ytebheelmgcggmaa
open Go.Ab Go.Sort
theorem Ext.rename {μ μ' : Emb} {h h' H : AHeap} {w w' : World} (x : Ext μ h w μ' h' w') (ρ : Nat → Nat) (hn : h.next ≤ H.next) (hρ : ∀ r, r < h.next → ρ r = r)
    (hget : ∀ r o, H.get r = some o → r < H.next ∧ ∃ o', h'.get (ρ r) = some o' ∧ o'.own = o.own ∧ ∀ e c, ORel μ' h'.next e c o' → ORel (fun r => μ' (ρ r)) H.next e c o)
    (hinj : ∀ r q o p, H.get r = some o → H.get q = some p → ρ r = ρ q → r = q) : Ext μ h w (fun r => μ' (ρ r)) H w' := by
  refine ⟨hn, fun r hr => ?_, x.size, x.os, x.output, fun b hb hf => ⟨(x.frame b hb hf).1, fun r o e hr ho hm => ?_⟩, fun b hb hf r o e hr hm => ?_, ⟨fun r o hr => ?_, fun r q o p e f hr ho hq hm hm' hbb => ?_⟩⟩
  · show μ' (ρ r) = μ r
    rw [hρ r hr]; exact x.agree r hr
  · obtain ⟨_, o', h1, h2, _⟩ := hget r o hr
    exact (x.frame b hb hf).2 (ρ r) o' e h1 (by rw [h2]; exact ho) hm
  · obtain ⟨_, o', h1, h2, _⟩ := hget r o hr
    exact x.free b hb hf (ρ r) o' e h1 hm
  · obtain ⟨h0, o', h1, h2, h3⟩ := hget r o hr
    obtain ⟨_, e, c, g1, g2, g3⟩ := x.st.live (ρ r) o' h1
    exact ⟨h0, e, c, g1, g2, h3 e c g3⟩
  · obtain ⟨_, o', h1, h2, _⟩ := hget r o hr
    obtain ⟨_, p', h1', h2', _⟩ := hget q p hq
    exact hinj r q o p hr hq (x.st.apart (ρ r) (ρ q) o' p' e f h1 (by rw [h2]; exact ho) h1' hm hm' hbb)
inductive FS (h : AHeap) (lo : Nat) (l : List Rec) : Bool → Value → Option Nat → Prop
  | nil (e : l = []) : FS h lo l true (.slice none 0 0) none
  | some {r n c : Nat} {rest : List Value} (hn : n = l.length) (h1 : lo ≤ r) (h2 : r < h.next) (h3 : h.get r = Option.some (.cells (fl l ++ rest) 4)) (h4 : c = 0 ∨ (n = 0 ∧ c = 1)) : FS h lo l false (.slice (Option.some ⟨r, 0, none⟩) n c) (Option.some r)
def cval (nil : Bool) (r : Nat) (l : List Rec) : Value := bif nil then .slice none 0 0 else .slice (some ⟨r, 0, none⟩) l.length 0
def cadd (nil : Bool) (h : AHeap) (l : List Rec) : AHeap := bif nil then ⟨h.next + 1, h.rows⟩ else h.new (.cells (fl l) 4)
theorem cadd_next (nil : Bool) (h : AHeap) (l : List Rec) : (cadd nil h l).next = h.next + 1 := by cases nil <;> rfl
theorem cadd_get (nil : Bool) (h : AHeap) (l : List Rec) (z : Nat) (hz : ¬ z = h.next) : (cadd nil h l).get z = h.get z := by
  cases nil
  · exact zN (fun e => hz e.symm)
  · rfl
def hand (h : AHeap) (p : Lf) (nb nd : Bool) : AHeap := cadd nd (cadd nb h p.base) p.deltas
theorem hand_next (h : AHeap) (p : Lf) (nb nd : Bool) : (hand h p nb nd).next = h.next + 2 := by simp only [hand, cadd_next]
theorem hand_old (h : AHeap) (p : Lf) (nb nd : Bool) (z : Nat) (hz : z < h.next) : (hand h p nb nd).get z = h.get z := by
  rw [hand, cadd_get _ _ _ _ (by rw [cadd_next]; omega), cadd_get _ _ _ _ (by omega)]
theorem cval_rs {nil : Bool} {h : AHeap} {r : Nat} {l : List Rec} (hn : nil = true → l = []) (hr : r < h.next) (hg : nil = false → h.get r = some (.cells (fl l) 4)) : RS h l (cval nil r l) := by
  cases nil
  · exact ⟨_, _, rfl, .inr ⟨_, _, rfl, fun _ => ⟨hr, _, by simp only [rowOf, hg rfl], cellsOf_all (fl_length l)⟩⟩⟩
  · rw [hn rfl]; exact ⟨_, _, rfl, .inl ⟨rfl, rfl, rfl⟩⟩
theorem hand_rs {h : AHeap} {p : Lf} {nb nd : Bool} (h1 : nb = true → p.base = []) (h2 : nd = true → p.deltas = []) :
    RS (hand h p nb nd) p.base (cval nb h.next p.base) ∧ RS (hand h p nb nd) p.deltas (cval nd (h.next + 1) p.deltas) := by
  refine ⟨cval_rs h1 (by rw [hand_next]; omega) fun e => ?_, cval_rs h2 (by rw [hand_next]; omega) fun e => ?_⟩
  · subst e
    rw [hand, cadd_get _ _ _ _ (by rw [cadd_next]; omega)]
    exact zQ
  · subst e
    rw [hand, ← cadd_next nb h p.base]
    exact zQ
theorem bo_fl {n : Nat} (l : List Rec) (rest : List Value) {μ μ' : Emb} {m : Nat} {e : Ent} {c : Obj} (h : ORel μ m e c (.cells (fl l ++ rest) 4)) : ORel μ' n e c (.cells (fl l) 4) := by
  obtain ⟨h1, cs, t, fz, k1, k2, k3, k4, k5⟩ := h
  refine ⟨h1, cs, t, fz, k1, by simp at k2; omega, k3, k4, fun i v hv => ?_⟩
  obtain ⟨v', g1, g2⟩ := k5 i v (by rw [List.getElem?_append_left (List.getElem?_eq_some_iff.1 hv).1]; exact hv)
  refine ⟨v', g1, ?_⟩
  have hf : Ab.flat v = true := by
    have hm := List.mem_of_getElem? hv
    simp only [fl, List.mem_flatten, List.mem_map] at hm
    obtain ⟨_, ⟨x, _, rfl⟩, hm⟩ := hm
    simp only [Rec.cs, List.mem_cons, List.not_mem_nil, or_false] at hm
    rcases hm with rfl | rfl | rfl | rfl <;> rfl
  rw [g2.flat_eq hf]; exact .of_flat _ _ hf
theorem vr_cval {h' : AHeap} {lo : Nat} {l : List Rec} {nil : Bool} {v : Value} {x : Option Nat} (s : FS h' lo l nil v x) {μ' : Emb} {m n : Nat} {ρ : Nat → Nat} {a : Nat} (ha : a < n) (hρ : ∀ r, x = some r → ρ a = r) {w : Value} (hv : VRel μ' m v w) : VRel (fun r => μ' (ρ r)) n (cval nil a l) w := by
  cases s with
  | nil e => cases hv; exact .slice0
  | @some r k c rest hn h1 h2 h3 h4 =>
    subst hn
    have e := hρ r rfl
    rcases h4 with rfl | ⟨h4, rfl⟩
    · show VRel _ n (.slice (some ⟨a, 0, none⟩) l.length 0) w
      generalize l.length = k at hv ⊢
      cases hv with
      | sliceU h1 h2 h3 h4 => exact .sliceU (μ := fun r => μ' (ρ r)) ha (by show μ' (ρ a) = _; rw [e]; exact h2) h3 h4
      | sliceZ h1 h2 => exact .sliceZ (μ := fun r => μ' (ρ r)) ha (by show μ' (ρ a) = _; rw [e]; exact h2)
    · show VRel _ n (.slice (some ⟨a, 0, none⟩) l.length 0) w
      rw [h4] at hv ⊢
      cases hv with
      | sliceK h1 h2 => exact .sliceU (μ := fun r => μ' (ρ r)) ha (by show μ' (ρ a) = _; rw [e]; exact h2) (Nat.le_refl _) (by omega)
      | sliceKZ h1 h2 => exact .sliceZ (μ := fun r => μ' (ρ r)) ha (by show μ' (ρ a) = _; rw [e]; exact h2)
theorem gcL {f : FuncId} {args : List Value} {h : AHeap} {p' : Lf} {nb nd : Bool} {K0 : Value → AHeap → Prop} (hf : FWp Try.prog f args h K0)
    (hk : ∀ u h', K0 u h' → ∃ bv dv x y, u = LV p' bv dv ∧ FS h' h.next p'.base nb bv x ∧ FS h' h.next p'.deltas nd dv y ∧ (∀ r, x = some r → y ≠ some r) ∧ ∀ z, z < h.next → h'.get z = h.get z) :
    FWp Try.prog f args h fun u g => u = LV p' (cval nb h.next p'.base) (cval nd (h.next + 1) p'.deltas) ∧ g = hand h p' nb nd := by
  intro μ args' w hl st
  refine (hf μ args' w hl st).mono ?_
  rintro e w' ⟨u, v', h', μ', rfl, hK, ex, hr⟩
  obtain ⟨bv, dv, x, y, rfl, s1, s2, hxy, hold⟩ := hk u h' hK
  obtain ⟨ρ, hρ⟩ : ∃ ρ : Nat → Nat, ρ = fun r => if r = h.next then x.getD h'.next else if r = h.next + 1 then y.getD (h'.next + 1) else r := ⟨_, rfl⟩
  have r0 : ∀ r, r < h.next → ρ r = r := fun r hr => by rw [hρ]; simp only; rw [if_neg (by omega), if_neg (by omega)]
  have r1 : ∀ r, x = some r → ρ h.next = r := fun r e => by rw [hρ, e]; simp
  have r2 : ∀ r, y = some r → ρ (h.next + 1) = r := fun r e => by rw [hρ, e]; simp
  have ag : Agree h.next μ' (fun r => μ' (ρ r)) := fun r hr => by show μ' (ρ r) = μ' r; rw [r0 r hr]
  have g0 : ∀ r o, (hand h p' nb nd).get r = some o → (r < h.next ∧ h.get r = some o) ∨ (r = h.next ∧ nb = false ∧ o = .cells (fl p'.base) 4) ∨ (r = h.next + 1 ∧ nd = false ∧ o = .cells (fl p'.deltas) 4) := fun r o ho => by
    have live := fun r o (hg : h.get r = some o) => (st.live r o hg).1
    have hb : ∀ r o, (cadd nb h p'.base).get r = some o → (r < h.next ∧ h.get r = some o) ∨ (r = h.next ∧ nb = false ∧ o = .cells (fl p'.base) 4) := fun r o ho => by
      cases nb with
      | true => exact .inl ⟨live r o ho, ho⟩
      | false =>
        have ho : (h.new (.cells (fl p'.base) 4)).get r = some o := ho
        rw [AHeap.get_new] at ho
        split at ho
        · cases ho; exact .inr ⟨by omega, rfl, rfl⟩
        · exact .inl ⟨live r o ho, ho⟩
    cases nd with
    | true => exact (hb r o ho).imp id .inl
    | false =>
      have ho : ((cadd nb h p'.base).new (.cells (fl p'.deltas) 4)).get r = some o := ho
      rw [AHeap.get_new, cadd_next] at ho
      split at ho
      · cases ho; exact .inr (.inr ⟨by omega, rfl, rfl⟩)
      · exact (hb r o ho).imp id .inl
  have xs : nb = false → ∃ r rest, x = some r ∧ h.next ≤ r ∧ h'.get r = some (.cells (fl p'.base ++ rest) 4) := fun e => by
    subst e; cases s1 with | some hn k1 k2 k3 k4 => exact ⟨_, _, rfl, k1, k3⟩
  have ys : nd = false → ∃ r rest, y = some r ∧ h.next ≤ r ∧ h'.get r = some (.cells (fl p'.deltas ++ rest) 4) := fun e => by
    subst e; cases s2 with | some hn k1 k2 k3 k4 => exact ⟨_, _, rfl, k1, k3⟩
  refine ⟨_, v', hand h p' nb nd, fun r => μ' (ρ r), rfl, ⟨rfl, rfl⟩, Ext.rename ex ρ (by rw [hand_next]; omega) r0 (fun r o ho => ?_) (fun r q o p hr hq hh => ?_), ?_⟩
  · rcases g0 r o ho with ⟨k1, k2⟩ | ⟨rfl, k1, rfl⟩ | ⟨rfl, k1, rfl⟩
    · obtain ⟨_, e0, c0, i1, i2, i3⟩ := st.live r o k2
      exact ⟨by rw [hand_next]; omega, o, by rw [r0 r k1, hold r k1]; exact k2, rfl, fun e c g => (g.narrow i3.below).mono ag (by rw [hand_next]; omega)⟩
    · obtain ⟨q, rest, i1, i2, i3⟩ := xs k1
      exact ⟨by rw [hand_next]; omega, .cells (fl p'.base ++ rest) 4, by rw [r1 q i1]; exact i3, rfl, fun e c g => bo_fl _ _ g⟩
    · obtain ⟨q, rest, i1, i2, i3⟩ := ys k1
      exact ⟨by rw [hand_next]; omega, .cells (fl p'.deltas ++ rest) 4, by rw [r2 q i1]; exact i3, rfl, fun e c g => bo_fl _ _ g⟩
  · rcases g0 r o hr with ⟨k1, k2⟩ | ⟨rfl, k1, rfl⟩ | ⟨rfl, k1, rfl⟩ <;> rcases g0 q p hq with ⟨l1, l2⟩ | ⟨rfl, l1, rfl⟩ | ⟨rfl, l1, rfl⟩
    · rw [r0 r k1, r0 q l1] at hh; exact hh
    · obtain ⟨z, rest, i1, i2, i3⟩ := xs l1
      rw [r0 r k1, r1 z i1] at hh; omega
    · obtain ⟨z, rest, i1, i2, i3⟩ := ys l1
      rw [r0 r k1, r2 z i1] at hh; omega
    · obtain ⟨z, rest, i1, i2, i3⟩ := xs k1
      rw [r0 q l1, r1 z i1] at hh; omega
    · rfl
    · obtain ⟨z, rest, i1, i2, i3⟩ := xs k1
      obtain ⟨z', rest', i1', i2', i3'⟩ := ys l1
      rw [r1 z i1, r2 z' i1'] at hh
      exact (hxy z i1 (by rw [i1', hh])).elim
    · obtain ⟨z, rest, i1, i2, i3⟩ := ys k1
      rw [r0 q l1, r2 z i1] at hh; omega
    · obtain ⟨z, rest, i1, i2, i3⟩ := xs l1
      obtain ⟨z', rest', i1', i2', i3'⟩ := ys k1
      rw [r1 z i1, r2 z' i1'] at hh
      exact (hxy z i1 (by rw [i1', hh])).elim
    · rfl
  · cases hr with
    | @agg _ a' hr =>
      obtain ⟨l, hl⟩ : ∃ l, a'.toList = l := ⟨_, rfl⟩
      rw [hl] at hr
      refine .agg ?_
      rw [hl]
      cases hr with | cons a1 hr =>
      cases hr with | cons a2 hr =>
      cases hr with | cons a3 hr =>
      cases hr with | cons a4 hr =>
      cases hr with | cons a5 hr =>
      cases hr
      cases a1; cases a2; cases a3
      exact .cons (.string _) (.cons (.string _) (.cons (.int _ _) (.cons (vr_cval s1 (by rw [hand_next]; omega) r1 a4) (.cons (vr_cval s2 (by rw [hand_next]; omega) r2 a5) .nil))))
theorem OS.fs {h : AHeap} {lo : Nat} {l : List Rec} {v : Value} (s : OS h lo l v) : ∃ x, FS h lo l (nilV v) v x ∧ ∀ r, x = Option.some r → ∃ n c, v = .slice (Option.some ⟨r, 0, none⟩) n c := by
  cases s with
  | nil e => exact ⟨none, .nil e, fun r h => by cases h⟩
  | @emp r e h1 h2 h3 => subst e; exact ⟨Option.some r, .some (rest := []) rfl h1 h2 h3 (.inr ⟨rfl, rfl⟩), fun q h => by cases h; exact ⟨_, _, rfl⟩⟩
  | @some r n e hn h1 h2 h3 => exact ⟨Option.some r, .some (rest := []) hn h1 h2 (by rw [List.append_nil]; exact h3) (.inl rfl), fun q h => by cases h; exact ⟨_, _, rfl⟩⟩
end Go.Proofs.Ytebheelmgcggmaa
namespace Go.Proofs.Ytebheelmgcggmaa
open Go.Ab Go.Sort
structure SM (o : AObj) (F : List UInt8 → Option Value) : Prop where
  ex : ∃ B clk, o = .map (mkK encS B) clk ∧ (∀ x ∈ B, x.2.2 < clk) ∧ (B.map (·.2.2)).Nodup ∧ (B.map (·.1)).Nodup ∧ ∀ k, F k = (idxK k B 0).map (·.2)
def updF (F : List UInt8 → Option Value) (k : List UInt8) (v : Value) : List UInt8 → Option Value := fun k' => if k' = k then some v else F k'
theorem SM.empty : SM (.map [] 0) fun _ => none := ⟨[], 0, rfl, by simp, by simp, by simp, fun k => rfl⟩
theorem SM.get_some {o : AObj} {F : List UInt8 → Option Value} (s : SM o F) {k : List UInt8} {v : Value} (hf : F k = some v) {G : AHeap} {m : Nat} (hg : G.get m = some o) {t kt et : TypeId} {ti ki : TI} (ht : T.get t = some ti) (hu : ti.und = .map kt et) (hk : T.get kt = some ki) (hku : ki.und = .string) :
    aLookup Try.prog T t (.map (some m)) (encS k) false G = some v := by
  obtain ⟨B, clk, rfl, h1, h2, h3, h4⟩ := s.ex
  rw [h4 k] at hf
  cases hi : idxK k B 0 with
  | none => rw [hi] at hf; cases hf
  | some jv =>
    obtain ⟨j, w⟩ := jv
    rw [hi] at hf; cases hf
    exact kl_some (key_str tyOK hk hku) ht hu hg hi
theorem SM.get_none {o : AObj} {F : List UInt8 → Option Value} (s : SM o F) {k : List UInt8} (hf : F k = none) {G : AHeap} {m : Nat} (hg : G.get m = some o) {t kt et : TypeId} {ti ki ei : TI} {z : Value} (ht : T.get t = some ti) (hu : ti.und = .map kt et) (hk : T.get kt = some ki) (hku : ki.und = .string) (he : T.get et = some ei) (hz : ei.zero = some z) (hfl : flat z = true) :
    aLookup Try.prog T t (.map (some m)) (encS k) false G = some z := by
  obtain ⟨B, clk, rfl, h1, h2, h3, h4⟩ := s.ex
  rw [h4 k] at hf
  cases hi : idxK k B 0 with
  | none => exact kl_none (key_str tyOK hk hku) ht hu he hz hfl hg hi
  | some jv => rw [hi] at hf; cases hf
theorem idx_iff {B : List (List UInt8 × Value × Nat)} {k : List UInt8} {i : Nat} : (∃ j v, idxK k B i = some (j, v)) ↔ k ∈ B.map (·.1) := by
  constructor
  · rintro ⟨j, v, h⟩
    obtain ⟨m, b, _, hm⟩ := idxK_some h
    exact List.mem_map.2 ⟨_, List.mem_of_getElem? hm, rfl⟩
  · intro h
    cases hi : idxK k B i with
    | none =>
      obtain ⟨x, hx, rfl⟩ := List.mem_map.1 h
      exact (idxK_none' hi x hx rfl).elim
    | some jv => exact ⟨jv.1, jv.2, rfl⟩
theorem idx_app {B : List (List UInt8 × Value × Nat)} {k : List UInt8} {v : Value} {c : Nat} (hk : idxK k B 0 = none) (k' : List UInt8) : ∀ i, (idxK k' (B ++ [(k, v, c)]) i).map (·.2) = if k' = k then some v else (idxK k' B i).map (·.2) := by
  have hn := idxK_none' hk
  clear hk
  induction B with
  | nil => intro i; simp only [List.nil_append, idxK]; by_cases e : k' = k <;> simp [e]
  | cons x B ih =>
    intro i
    simp only [List.cons_append, idxK]
    by_cases e : k' = x.1
    · have : ¬ k' = k := fun e2 => hn x List.mem_cons_self (by rw [← e2, e])
      simp [e, this]
      exact fun e3 => (this (e.trans e3)).elim
    · simp only [decide_eq_false e, cond_false]
      exact ih (fun y hy => hn y (List.mem_cons_of_mem _ hy)) (i + 1)
theorem idx_set {B : List (List UInt8 × Value × Nat)} {k : List UInt8} {v : Value} : ∀ {j b : Nat} {u : Value} (k' : List UInt8) (i : Nat), (B.map (·.1)).Nodup → B[j]? = some (k, u, b) → (idxK k' (B.set j (k, v, b)) i).map (·.2) = if k' = k then some v else (idxK k' B i).map (·.2) := by
  induction B with
  | nil => intro j b u k' i _ h; simp at h
  | cons x B ih =>
    intro j b u k' i hn hj
    simp only [List.map_cons, List.nodup_cons] at hn
    cases j with
    | zero =>
      simp at hj; subst hj
      simp only [List.set_cons_zero, idxK]
      by_cases e : k' = k <;> simp [e]
    | succ j =>
      simp only [List.getElem?_cons_succ] at hj
      simp only [List.set_cons_succ, idxK]
      by_cases e : k' = x.1
      · have : ¬ k' = k := fun e2 => hn.1 (List.mem_map.2 ⟨_, List.mem_of_getElem? hj, by rw [← e, e2]⟩)
        simp [e, this]
        exact fun e3 => (this (e.trans e3)).elim
      · simp only [decide_eq_false e, cond_false]
        exact ih k' (i + 1) hn.2 hj
theorem set_same {α : Type} {l : List α} {j : Nat} {b : α} (h : l[j]? = some b) : l.set j b = l := by
  obtain ⟨hj, e⟩ := List.getElem?_eq_some_iff.1 h
  rw [← e, List.set_getElem_self]
theorem SM.put {o : AObj} {F : List UInt8 → Option Value} (s : SM o F) (k : List UInt8) (v : Value) : ∃ o', SM o' (updF F k v) ∧ ∀ {G : AHeap} {m : Nat}, G.get m = some o → ∀ {t kt et : TypeId} {ti ki : TI}, T.get t = some ti → ti.und = .map kt et → T.get kt = some ki → ki.und = .string →
    aMapUpdate Try.prog T t (.map (some m)) (encS k) v G = some (G.set m o') := by
  obtain ⟨B, clk, rfl, h1, h2, h3, h4⟩ := s.ex
  cases hi : idxK k B 0 with
  | none =>
    have hn := idxK_none' hi
    refine ⟨.map (mkK encS (B ++ [(k, v, clk)])) (clk + 1), ⟨_, _, rfl, fun x hx => ?_, ?_, ?_, fun k' => ?_⟩, fun {G m} hg {t kt et ti ki} ht hu hk hku => ku_new (key_str tyOK hk hku) ht hu hg hi⟩
    · rcases List.mem_append.1 hx with hx | hx
      · have := h1 x hx; omega
      · rw [List.mem_singleton.1 hx]; simp
    · rw [List.map_append]
      refine List.nodup_append.2 ⟨h2, by simp, fun a ha b hb => ?_⟩
      obtain ⟨x, hx, rfl⟩ := List.mem_map.1 ha
      simp at hb; subst hb
      have := h1 x hx; omega
    · rw [List.map_append]
      refine List.nodup_append.2 ⟨h3, by simp, fun a ha b hb => ?_⟩
      obtain ⟨x, hx, rfl⟩ := List.mem_map.1 ha
      simp at hb; subst hb
      exact fun e => hn x hx e.symm
    · rw [idx_app hi k' 0, updF, h4 k']
  | some jv =>
    obtain ⟨j, u⟩ := jv
    obtain ⟨q, b, hq, hj⟩ := idxK_some hi
    rw [Nat.zero_add] at hq
    subst hq
    refine ⟨.map (mkK encS (B.set j (k, v, b))) clk, ⟨_, _, rfl, fun x hx => ?_, ?_, ?_, fun k' => ?_⟩, fun {G m} hg {t kt et ti ki} ht hu hk hku => ku_old (key_str tyOK hk hku) ht hu hg hi hj⟩
    · rcases List.mem_or_eq_of_mem_set hx with hx | rfl
      · exact h1 x hx
      · have := h1 _ (List.mem_of_getElem? hj); exact this
    · rw [List.map_set]
      have : (B.map (·.2.2)).set j b = B.map (·.2.2) := by
        exact set_same (by simp [hj])
      rw [this]; exact h2
    · rw [List.map_set]
      have : (B.map (·.1)).set j k = B.map (·.1) := by
        exact set_same (by simp [hj])
      rw [this]; exact h3
    · rw [idx_set k' 0 h3 hj, updF, h4 k']
theorem SM.keys {o : AObj} {F : List UInt8 → Option Value} (s : SM o F) {ks : List (List UInt8)} (hs : ks.Pairwise fun a b => ltStr a b = true) (hm : ∀ k, k ∈ ks ↔ ∃ v, F k = some v) : ∃ B clk, o = .map (mkK encS B) clk ∧ (∀ x ∈ B, x.2.2 < clk) ∧ (∀ x ∈ B, ∀ y ∈ B, x.2.2 = y.2.2 → x = y) ∧ B.Nodup ∧ ks.Perm (B.map (·.1)) := by
  obtain ⟨B, clk, rfl, h1, h2, h3, h4⟩ := s.ex
  refine ⟨B, clk, rfl, h1, fun x hx y hy e => ?_, ?_, ?_⟩
  · obtain ⟨i, hi⟩ := List.getElem?_of_mem hx
    obtain ⟨j, hj⟩ := List.getElem?_of_mem hy
    have := (List.getElem?_inj (l := B.map (·.2.2)) (i := i) (j := j) (by simpa using (List.getElem?_eq_some_iff.1 hi).1) h2).1 (by simp [hi, hj, e])
    subst this
    rw [hi] at hj; cases hj; rfl
  · exact List.Pairwise.of_map (·.1) (fun a b h e => h (by rw [e])) h3
  · refine (List.perm_ext_iff_of_nodup (pw_nodup (fun x hx => by rw [swo_ltStr.irrefl] at hx; cases hx) hs) h3).2 fun k => ?_
    rw [hm k, h4 k, ← idx_iff (i := 0)]
    constructor
    · rintro ⟨v, hv⟩
      cases hi : idxK k B 0 with
      | none => rw [hi] at hv; cases hv
      | some jv => exact ⟨_, _, rfl⟩
    · rintro ⟨j, v, hi⟩; exact ⟨v, by rw [hi]; rfl⟩
def FR (R : List Rec) (k : List UInt8) : Option Value := (R.find? fun y => decide (y.key = k)).map Rec.V
theorem FR_snoc {R : List Rec} {r : Rec} (hn : ∀ y ∈ R, ¬ y.key = r.key) : FR (R ++ [r]) = updF (FR R) r.key r.V := by
  funext k
  simp only [FR, updF, List.find?_append]
  by_cases e : k = r.key
  · subst e
    have : R.find? (fun y => decide (y.key = r.key)) = none := List.find?_eq_none.2 fun y hy => by simpa using hn y hy
    rw [this]; simp
  · rw [if_neg e]
    cases R.find? fun y => decide (y.key = k) with
    | some a => rfl
    | none =>
      have : ¬ r.key = k := fun h => e h.symm
      simp [this]
theorem into_put {x : Rec} : ∀ {R : List Rec}, (R.Pairwise fun a b => ltK a b = true) → (∀ a, R.find? (fun y => decide (y.key = x.key)) = some a → a.lsn < x.lsn) → FR (into x R) = updF (FR R) x.key x.V
  | [], _, _ => FR_snoc (R := []) (by simp)
  | a :: R, h, hl => by
    obtain ⟨h1, h2⟩ := List.pairwise_cons.1 h
    have hgt : ∀ y ∈ R, ltStr a.key y.key = true := h1
    funext k
    simp only [into]
    split
    · rename_i hc
      have hne : ¬ a.key = x.key := fun e => by rw [e, swo_ltStr.irrefl] at hc; cases hc
      have ih := congrFun (into_put h2 fun b hb => hl b (by rw [List.find?_cons]; simp [hne]; simpa using hb)) k
      simp only [FR, updF, List.find?_cons] at ih ⊢
      by_cases e : a.key = k
      · have : ¬ k = x.key := fun e2 => hne (e.trans e2)
        simp [e, this]
      · simp only [decide_eq_false e]; exact ih
    · rename_i hc
      split
      · rename_i hk
        have hlt := hl a (by rw [List.find?_cons]; simp [hk])
        rw [if_pos hlt]
        simp only [FR, updF, List.find?_cons]
        by_cases e : k = x.key
        · simp [e]
        · have e2 : ¬ x.key = k := fun h => e h.symm
          have e3 : ¬ a.key = k := fun h => e (h.symm.trans hk)
          simp [e, e2, e3]
      · simp only [FR, updF]
        rw [List.find?_cons (a := x)]
        by_cases e : k = x.key
        · simp [e]
        · have e2 : ¬ x.key = k := fun h => e h.symm
          simp [e, e2]
theorem into_same {x a : Rec} : ∀ {R : List Rec}, (R.Pairwise fun a b => ltK a b = true) → R.find? (fun y => decide (y.key = x.key)) = some a → x.lsn ≤ a.lsn → into x R = R
  | b :: R, h, hf, hl => by
    obtain ⟨h1, h2⟩ := List.pairwise_cons.1 h
    rw [List.find?_cons] at hf
    simp only [into]
    by_cases e : b.key = x.key
    · simp only [decide_eq_true e] at hf
      cases hf
      rw [if_neg (by rw [e, swo_ltStr.irrefl]; simp), if_pos e, if_neg (by omega)]
    · simp only [decide_eq_false e] at hf
      have hm := List.mem_of_find?_eq_some hf
      have hk : a.key = x.key := by simpa using List.find?_some hf
      have := h1 a hm
      rw [ltK, hk] at this
      rw [if_pos this, into_same h2 hf hl]
theorem fold1_c (h : AHeap) (q1 q2 m : Nat) (e : Int) (x : Rec) (o : AObj) (R : List Rec) (hq1 : h.get q1 = some (.cells [U64 e] 1)) (hq2 : h.get q2 = some (.cells [.map (some m)] 1)) (l1 : q1 < h.next) (l2 : q2 < h.next) (l3 : m < h.next) (hm : h.get m = some o) (s : SM o (FR R)) (hR : R.Pairwise fun a b => ltK a b = true) (hx : 1 ≤ x.lsn) :
    FWp Try.prog 28 [x.V, P0 q1, P0 q2] h fun u g => u = .bool (decide (x.lsn ≤ e)) ∧ (∃ o', SM o' (FR (if x.lsn ≤ e then into x R else R)) ∧ g.get m = some o') ∧ h.next ≤ g.next ∧ ∀ z, z < h.next → ¬ z = m → g.get z = h.get z := by
  have tb28 := And.intro ty25 (And.intro ty29 (And.intro ty33 (ty9)))
  refine W.enter tyOK Try.func28 rfl rfl ?_
  simp only [entry]
  by_cases c1 : x.lsn > e
  · refine Wr <| Oa rfl Zx rfl <| Of rfl za rfl rfl <| On ?_
    refine W.seq <| Wr <| Oa rfl (zf (hv := fa_ok (k := 1) ty33 rfl rfl ty25 rfl rfl)) rfl <| Oa rfl (zl (hv := by simp (disch := first | omega | simp only [nx]; omega) only [aLoad, ty25, rowOf, hpl, hq1, hq2, Value.cells] <;> rfl)) rfl <| Oa rfl (zl (hv := by simp (disch := first | omega | simp only [nx]; omega) only [aLoad, ty25, rowOf, hpl, hq1, hq2, Value.cells] <;> rfl)) rfl <| Ot rfl (zb (hv := bi_gtr)) rfl (by first | rfl | assumption | ((simp only [bl, hq1, hq2, Value.cells, places, tb28]) <;> first | done | assumption | omega) | (simp; done) | (simp; omega)) <| On ?_
    refine Wy <| Wr <| Of rfl za rfl rfl <| On ?_
    refine CWp.ret <| SQ.ret <| FQ.ret (by simp only [aRet, Try.f28, aResults, aResult, lk, Nat.reduceEqDiff, reduceIte] <;> rfl) ?_
    refine ⟨by rw [decide_eq_false (by omega)], ⟨o, by rw [if_neg (by omega)]; exact s, by simp (disch := first | omega | simp only [nx]; omega) only [hpl]; exact hm⟩, by simp, fun z hz _ => by simp (disch := first | omega | simp only [nx]; omega) only [hpl]⟩
  have c2 : x.lsn ≤ e := by omega
  cases hf : R.find? fun y => decide (y.key = x.key) with
  | none =>
    have hF : FR R x.key = none := by rw [FR, hf]; rfl
    obtain ⟨o', s', hp⟩ := s.put x.key x.V
    rw [← into_put hR (fun a ha => by rw [hf] at ha; cases ha)] at s'
    have hz : (0 : Int) < x.lsn := by omega
    refine Wr <| Oa rfl Zx rfl <| Of rfl za rfl rfl <| On ?_
    refine W.seq <| Wr <| Oa rfl (zf (hv := fa_ok (k := 1) ty33 rfl rfl ty25 rfl rfl)) rfl <| Oa rfl (zl (hv := by simp (disch := first | omega | simp only [nx]; omega) only [aLoad, ty25, rowOf, hpl, hq1, hq2, Value.cells] <;> rfl)) rfl <| Oa rfl (zl (hv := by simp (disch := first | omega | simp only [nx]; omega) only [aLoad, ty25, rowOf, hpl, hq1, hq2, Value.cells] <;> rfl)) rfl <| Of rfl (zb (hv := bi_gtr)) rfl (by first | rfl | assumption | ((simp only [bl, hq1, hq2, Value.cells, places, tb28]) <;> first | done | assumption | omega) | (simp; done) | (simp; omega)) <| On ?_
    refine Wn <| CWp.skip <| SQ.normal ?_
    refine W.seq <| Wr <| Oa rfl (zf (hv := fa_ok (k := 1) ty33 rfl rfl ty25 rfl rfl)) rfl <| Oa rfl (zl (hv := by simp (disch := first | omega | simp only [nx]; omega) only [aLoad, ty25, rowOf, hpl, hq1, hq2, Value.cells] <;> rfl)) rfl <| Oa rfl (zl (hv := by simp (disch := first | omega | simp only [nx]; omega) only [aLoad, ty29, rowOf, hpl, hq1, hq2, Value.cells] <;> rfl)) rfl <| Oa rfl (zf (hv := fa_ok (k := 0) ty33 rfl rfl ty9 rfl rfl)) rfl <| Oa rfl (zl (hv := by simp (disch := first | omega | simp only [nx]; omega) only [aLoad, ty9, rowOf, hpl, hq1, hq2, Value.cells] <;> rfl)) rfl <| Oa rfl (so_lookup (by simp only [lk] <;> rfl) (by simp only [lk] <;> rfl) (s.get_none hF (by simp (disch := first | omega | simp only [nx]; omega) only [aCells, rowOf, hpl, hq1, hq2, Value.cells, places, tb28] <;> first | rfl | exact hm) ty29 rfl ty9 rfl ty33 rfl rfl)) rfl <| Oa rfl (so_field (by simp only [lk] <;> rfl) (by simp (disch := first | omega | simp only [nx]; omega) only [aField, aPart, ty33, ty25, hpl, hq1, hq2, Value.cells, places, tb28] <;> rfl)) rfl <| Ot rfl (zb (hv := bi_gtr)) rfl (by first | rfl | assumption | ((simp only [bl, hq1, hq2, Value.cells, places, tb28]) <;> first | done | assumption | omega) | (simp; done) | (simp; omega)) <| On ?_
    refine Wy <| W.reg <| Oa rfl (zl (hv := by simp (disch := first | omega | simp only [nx]; omega) only [aLoad, ty29, rowOf, hpl, hq1, hq2, Value.cells] <;> rfl)) rfl <| Oa rfl (zf (hv := fa_ok (k := 0) ty33 rfl rfl ty9 rfl rfl)) rfl <| Oa rfl (zl (hv := by simp (disch := first | omega | simp only [nx]; omega) only [aLoad, ty9, rowOf, hpl, hq1, hq2, Value.cells] <;> rfl)) rfl <| Oa rfl (zl (hv := by simp (disch := first | omega | simp only [nx]; omega) only [aLoad, ty33, rowOf, hpl, hq1, hq2, Value.cells] <;> rfl)) rfl <| Oa rfl (so_mapUpdate (by simp only [lk] <;> rfl) (by simp only [lk] <;> rfl) (by simp only [lk] <;> rfl) (hp (by simp (disch := first | omega | simp only [nx]; omega) only [aCells, rowOf, hpl, hq1, hq2, Value.cells, places, tb28] <;> first | rfl | exact hm) ty29 rfl ty9 rfl)) rfl <| On ?_
    refine Wr <| Ot rfl za rfl rfl <| On ?_
    refine CWp.ret <| FQ.ret (by simp only [aRet, Try.f28, aResults, aResult, lk, Nat.reduceEqDiff, reduceIte] <;> rfl) ?_
    refine ⟨by rw [decide_eq_true c2], ⟨o', by rw [if_pos c2]; exact s', zP⟩, by simp, fun z hz hm => by have hm' : ¬ m = z := fun e => hm e.symm; simp (disch := first | omega | simp only [nx]; omega) only [hpl]⟩
  | some a =>
    have hF : FR R x.key = some a.V := by rw [FR, hf]; rfl
    by_cases c3 : x.lsn > a.lsn
    · obtain ⟨o', s', hp⟩ := s.put x.key x.V
      rw [← into_put hR (fun b hb => by rw [hf] at hb; cases hb; omega)] at s'
      refine Wr <| Oa rfl Zx rfl <| Of rfl za rfl rfl <| On ?_
      refine W.seq <| Wr <| Oa rfl (zf (hv := fa_ok (k := 1) ty33 rfl rfl ty25 rfl rfl)) rfl <| Oa rfl (zl (hv := by simp (disch := first | omega | simp only [nx]; omega) only [aLoad, ty25, rowOf, hpl, hq1, hq2, Rec.cs, Value.cells] <;> rfl)) rfl <| Oa rfl (zl (hv := by simp (disch := first | omega | simp only [nx]; omega) only [aLoad, ty25, rowOf, hpl, hq1, hq2, Rec.cs, Value.cells] <;> rfl)) rfl <| Of rfl (zb (hv := bi_gtr)) rfl (by first | rfl | assumption | ((simp only [bl, hq1, hq2, Rec.cs, Value.cells, places, tb28]) <;> first | done | assumption | omega) | (simp; done) | (simp; omega)) <| On ?_
      refine Wn <| CWp.skip <| SQ.normal ?_
      refine W.seq <| Wr <| Oa rfl (zf (hv := fa_ok (k := 1) ty33 rfl rfl ty25 rfl rfl)) rfl <| Oa rfl (zl (hv := by simp (disch := first | omega | simp only [nx]; omega) only [aLoad, ty25, rowOf, hpl, hq1, hq2, Rec.cs, Value.cells] <;> rfl)) rfl <| Oa rfl (zl (hv := by simp (disch := first | omega | simp only [nx]; omega) only [aLoad, ty29, rowOf, hpl, hq1, hq2, Rec.cs, Value.cells] <;> rfl)) rfl <| Oa rfl (zf (hv := fa_ok (k := 0) ty33 rfl rfl ty9 rfl rfl)) rfl <| Oa rfl (zl (hv := by simp (disch := first | omega | simp only [nx]; omega) only [aLoad, ty9, rowOf, hpl, hq1, hq2, Rec.cs, Value.cells] <;> rfl)) rfl <| Oa rfl (so_lookup (by simp only [lk] <;> rfl) (by simp only [lk] <;> rfl) (s.get_some hF (by simp (disch := first | omega | simp only [nx]; omega) only [aCells, rowOf, hpl, hq1, hq2, Rec.cs, Value.cells, places, tb28] <;> first | rfl | exact hm) ty29 rfl ty9 rfl)) rfl <| Oa rfl (so_field (by simp only [lk] <;> rfl) (by simp (disch := first | omega | simp only [nx]; omega) only [aField, aPart, ty33, ty25, hpl, hq1, hq2, Rec.cs, Value.cells, places, tb28] <;> rfl)) rfl <| Ot rfl (zb (hv := bi_gtr)) rfl (by first | rfl | assumption | ((simp only [bl, hq1, hq2, Rec.cs, Value.cells, places, tb28]) <;> first | done | assumption | omega) | (simp; done) | (simp; omega)) <| On ?_
      refine Wy <| W.reg <| Oa rfl (zl (hv := by simp (disch := first | omega | simp only [nx]; omega) only [aLoad, ty29, rowOf, hpl, hq1, hq2, Rec.cs, Value.cells] <;> rfl)) rfl <| Oa rfl (zf (hv := fa_ok (k := 0) ty33 rfl rfl ty9 rfl rfl)) rfl <| Oa rfl (zl (hv := by simp (disch := first | omega | simp only [nx]; omega) only [aLoad, ty9, rowOf, hpl, hq1, hq2, Rec.cs, Value.cells] <;> rfl)) rfl <| Oa rfl (zl (hv := by simp (disch := first | omega | simp only [nx]; omega) only [aLoad, ty33, rowOf, hpl, hq1, hq2, Rec.cs, Value.cells] <;> rfl)) rfl <| Oa rfl (so_mapUpdate (by simp only [lk] <;> rfl) (by simp only [lk] <;> rfl) (by simp only [lk] <;> rfl) (hp (by simp (disch := first | omega | simp only [nx]; omega) only [aCells, rowOf, hpl, hq1, hq2, Rec.cs, Value.cells, places, tb28] <;> first | rfl | exact hm) ty29 rfl ty9 rfl)) rfl <| On ?_
      refine Wr <| Ot rfl za rfl rfl <| On ?_
      refine CWp.ret <| FQ.ret (by simp only [aRet, Try.f28, aResults, aResult, lk, Nat.reduceEqDiff, reduceIte] <;> rfl) ?_
      refine ⟨by rw [decide_eq_true c2], ⟨o', by rw [if_pos c2]; exact s', zP⟩, by simp, fun z hz hm => by have hm' : ¬ m = z := fun e => hm e.symm; simp (disch := first | omega | simp only [nx]; omega) only [hpl]⟩
    · refine Wr <| Oa rfl Zx rfl <| Of rfl za rfl rfl <| On ?_
      refine W.seq <| Wr <| Oa rfl (zf (hv := fa_ok (k := 1) ty33 rfl rfl ty25 rfl rfl)) rfl <| Oa rfl (zl (hv := by simp (disch := first | omega | simp only [nx]; omega) only [aLoad, ty25, rowOf, hpl, hq1, hq2, Rec.cs, Value.cells] <;> rfl)) rfl <| Oa rfl (zl (hv := by simp (disch := first | omega | simp only [nx]; omega) only [aLoad, ty25, rowOf, hpl, hq1, hq2, Rec.cs, Value.cells] <;> rfl)) rfl <| Of rfl (zb (hv := bi_gtr)) rfl (by first | rfl | assumption | ((simp only [bl, hq1, hq2, Rec.cs, Value.cells, places, tb28]) <;> first | done | assumption | omega) | (simp; done) | (simp; omega)) <| On ?_
      refine Wn <| CWp.skip <| SQ.normal ?_
      refine W.seq <| Wr <| Oa rfl (zf (hv := fa_ok (k := 1) ty33 rfl rfl ty25 rfl rfl)) rfl <| Oa rfl (zl (hv := by simp (disch := first | omega | simp only [nx]; omega) only [aLoad, ty25, rowOf, hpl, hq1, hq2, Rec.cs, Value.cells] <;> rfl)) rfl <| Oa rfl (zl (hv := by simp (disch := first | omega | simp only [nx]; omega) only [aLoad, ty29, rowOf, hpl, hq1, hq2, Rec.cs, Value.cells] <;> rfl)) rfl <| Oa rfl (zf (hv := fa_ok (k := 0) ty33 rfl rfl ty9 rfl rfl)) rfl <| Oa rfl (zl (hv := by simp (disch := first | omega | simp only [nx]; omega) only [aLoad, ty9, rowOf, hpl, hq1, hq2, Rec.cs, Value.cells] <;> rfl)) rfl <| Oa rfl (so_lookup (by simp only [lk] <;> rfl) (by simp only [lk] <;> rfl) (s.get_some hF (by simp (disch := first | omega | simp only [nx]; omega) only [aCells, rowOf, hpl, hq1, hq2, Rec.cs, Value.cells, places, tb28] <;> first | rfl | exact hm) ty29 rfl ty9 rfl)) rfl <| Oa rfl (so_field (by simp only [lk] <;> rfl) (by simp (disch := first | omega | simp only [nx]; omega) only [aField, aPart, ty33, ty25, hpl, hq1, hq2, Rec.cs, Value.cells, places, tb28] <;> rfl)) rfl <| Of rfl (zb (hv := bi_gtr)) rfl (by first | rfl | assumption | ((simp only [bl, hq1, hq2, Rec.cs, Value.cells, places, tb28]) <;> first | done | assumption | omega) | (simp; done) | (simp; omega)) <| On ?_
      refine Wn <| CWp.skip <| SQ.normal ?_
      refine Wr <| Ot rfl za rfl rfl <| On ?_
      refine CWp.ret <| FQ.ret (by simp only [aRet, Try.f28, aResults, aResult, lk, Nat.reduceEqDiff, reduceIte] <;> rfl) ?_
      refine ⟨by rw [decide_eq_true c2], ⟨o, by rw [if_pos c2, into_same hR hf (by omega)]; exact s, by simp (disch := first | omega | simp only [nx]; omega) only [hpl]; exact hm⟩, by simp, fun z hz _ => by simp (disch := first | omega | simp only [nx]; omega) only [hpl]⟩
end Go.Proofs.Ytebheelmgcggmaa
