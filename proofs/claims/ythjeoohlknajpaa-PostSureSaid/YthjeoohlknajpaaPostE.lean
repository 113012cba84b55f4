/-
  Contracts of the package post.
-/
import Derived.Test.YthjeoohlknajpaaTy
import Derived.Test.YthjeoohlknajpaaAb30
namespace Go.Proofs.Ythjeoohlknajpaa
open Go.Ab
set_option linter.unusedSimpArgs false
set_option linter.unusedVariables false
set_option maxRecDepth 10000

abbrev P0 (p : Nat) : Value := .pointer (some ⟨p, 0, none⟩)
abbrev I64 (n : Int) : Value := .int .i64 n
abbrev U64 (n : Int) : Value := .int .u64 n

/-! What a Post is. -/
structure Op where
  key : ByteArray
  lsn : Int
  del : Bool
  val : ByteArray
  acked : Bool
  sent : Bool
  at_ : Int
def Op.cs (o : Op) : List Value := [.string o.key, U64 o.lsn, .bool o.del, .string o.val, .bool o.acked, .bool o.sent, U64 o.at_]
def flats : List Op → List Value
  | [] => []
  | o :: l => o.cs ++ flats l
theorem flats_length : ∀ l : List Op, (flats l).length = l.length * 7
  | [] => rfl
  | o :: l => by simp only [flats, List.length_append, flats_length l, List.length_cons, Op.cs, List.length_nil]; omega
theorem flats_append : ∀ l m : List Op, flats (l ++ m) = flats l ++ flats m
  | [], m => rfl
  | o :: l, m => by simp only [flats, List.cons_append, flats_append l m, List.append_assoc]
theorem flats_get : ∀ {l : List Op} {i : Nat} {o : Op}, l[i]? = some o → ∀ k, k < 7 → (flats l)[i * 7 + k]? = o.cs[k]?
  | o :: l, 0, o', h, k, hk => by
    simp only [List.getElem?_cons_zero, Option.some.injEq] at h; subst h
    simp only [flats, Nat.zero_mul, Nat.zero_add]
    rw [List.getElem?_append_left (by simpa [Op.cs] using hk)]
  | o :: l, i + 1, o', h, k, hk => by
    simp only [List.getElem?_cons_succ] at h
    simp only [flats]
    have e : (i + 1) * 7 + k = o.cs.length + (i * 7 + k) := by simp only [Op.cs, List.length_cons, List.length_nil]; omega
    rw [e, List.getElem?_append_right (by omega), Nat.add_sub_cancel_left]
    exact flats_get h k hk
theorem row_get {pre : List Value} {l : List Op} {i : Nat} {o : Op} (h : l[i]? = some o) {off k : Nat} (hl : pre.length = off) (hk : k < 7) : (pre ++ flats l)[off + i * 7 + k]? = o.cs[k]? := by
  rw [Nat.add_assoc, ← hl, List.getElem?_append_right (by omega), Nat.add_sub_cancel_left]
  exact flats_get h k hk
theorem splice_at : ∀ (vs : List Value) (i : Nat) (x : Value), i < vs.length → splice vs i [x] = vs.set i x
  | v :: vs, 0, x, _ => by cases vs <;> rfl
  | v :: vs, i + 1, x, h => by
    simp only [splice, List.set_cons_succ]
    rw [splice_at vs i x (by simpa using h)]
theorem flats_set : ∀ {l : List Op} {i : Nat} {o o' : Op} {k : Nat} {x : Value}, l[i]? = some o → k < 7 → o'.cs = o.cs.set k x → (flats l).set (i * 7 + k) x = flats (l.set i o')
  | o :: l, 0, o', o2, k, x, h, hk, hc => by
    simp only [List.getElem?_cons_zero, Option.some.injEq] at h; subst h
    simp only [flats, Nat.zero_mul, Nat.zero_add, List.set_cons_zero, hc]
    rw [List.set_append_left _ _ (by simpa [Op.cs] using hk)]
  | o :: l, i + 1, o', o2, k, x, h, hk, hc => by
    simp only [List.getElem?_cons_succ] at h
    simp only [flats, List.set_cons_succ]
    have e : (i + 1) * 7 + k = o.cs.length + (i * 7 + k) := by simp only [Op.cs, List.length_cons, List.length_nil]; omega
    rw [e, List.set_append_right _ _ (by omega), Nat.add_sub_cancel_left, flats_set h hk hc]
theorem row_set {pre : List Value} {l : List Op} {i : Nat} {o o' : Op} {off k : Nat} {x : Value} (h : l[i]? = some o) (hl : pre.length = off) (hk : k < 7) (hc : o'.cs = o.cs.set k x) : splice (pre ++ flats l) (off + i * 7 + k) [x] = pre ++ flats (l.set i o') := by
  have hi : i < l.length := (List.getElem?_eq_some_iff.1 h).1
  rw [splice_at _ _ _ (by rw [List.length_append, flats_length]; omega), Nat.add_assoc, ← hl, List.set_append_right _ _ (by omega), Nat.add_sub_cancel_left, flats_set h hk hc]
theorem row_ble {pre : List Value} {l : List Op} {i off k : Nat} (hl : pre.length = off) (hi : i < l.length) (hk : k < 7) : Nat.ble (off + i * 7 + k + 1) (pre ++ flats l).length = true :=
  Nat.ble_eq_true_of_le (by rw [List.length_append, flats_length]; omega)
theorem row_op {pre : List Value} {l : List Op} {i : Nat} {o : Op} (h : l[i]? = some o) {off : Nat} (hl : pre.length = off) : cellsOf (pre ++ flats l) (off + i * 7) 7 = some o.cs := by
  have hi : i < l.length := (List.getElem?_eq_some_iff.1 h).1
  rw [cellsOf_mk (by rw [List.length_append, flats_length]; omega)]
  congr 1
  apply List.ext_getElem?
  intro k
  by_cases hk : k < 7
  · rw [List.getElem?_take_of_lt hk, List.getElem?_drop, row_get h hl hk]
  · rw [List.getElem?_eq_none (by simp; omega), List.getElem?_eq_none (by simp [Op.cs]; omega)]
theorem row_all {pre : List Value} {l : List Op} {off : Nat} (hl : pre.length = off) : cellsOf (pre ++ flats l) off (l.length * 7) = some (flats l) := by
  rw [cellsOf_mk (by rw [List.length_append, flats_length]; omega), ← hl, List.drop_left, ← flats_length, List.take_length]

structure PS where
  base : Int
  ops : List Op
  waits : Int
inductive OpsAt (h : AHeap) (p : Nat) (l : List Op) : Value → Option Nat → Prop
  | none (e : l = []) : OpsAt h p l (.slice none 0 0) none
  | some {r off : Nat} {pre : List Value} (hl : pre.length = off) (hn : r < h.next) (hp : ¬ p = r) (hg : h.get r = .some (.cells (pre ++ flats l) 7)) : OpsAt h p l (.slice (.some ⟨r, off, .none⟩) l.length 0) (.some r)
theorem opsAt_mk {h : AHeap} {p : Nat} {l : List Op} {r off n : Nat} {pre : List Value} (e : n = l.length) (hl : pre.length = off) (hn : r < h.next) (hp : ¬ p = r) (hg : h.get r = some (.cells (pre ++ flats l) 7)) : OpsAt h p l (.slice (some ⟨r, off, none⟩) n 0) (some r) := by
  subst e; exact .some hl hn hp hg
structure PA (h : AHeap) (p : Nat) (S : PS) (R : Option Nat) : Prop where
  lt : p < h.next
  row : ∃ s, h.get p = some (.cells [U64 S.base, s, I64 S.waits] 1) ∧ OpsAt h p S.ops s R
/-- What is not the Post's own stays. -/
def Fr (h h' : AHeap) (p : Nat) (R : Option Nat) : Prop := h.next ≤ h'.next ∧ ∀ q, q < h.next → ¬ p = q → ¬ R = some q → h'.get q = h.get q
theorem Fr.refl (h : AHeap) (p : Nat) (R : Option Nat) : Fr h h p R := ⟨Nat.le_refl _, fun _ _ _ _ => rfl⟩
theorem Fr.trans {h h' h'' : AHeap} {p : Nat} {R : Option Nat} (a : Fr h h' p R) (b : Fr h' h'' p R) : Fr h h'' p R :=
  ⟨Nat.le_trans a.1 b.1, fun q hq h1 h2 => (b.2 q (Nat.lt_of_lt_of_le hq a.1) h1 h2).trans (a.2 q hq h1 h2)⟩
/-- Rows that are read only stay. -/
theorem Fr.ro {h h' : AHeap} {p : Nat} {R : Option Nat} {S : PS} (hP : PA h p S R) (f : Fr h h' p R) {q : Nat} {vs : List Value} (hq : q < h.next) (hg : h.get q = some (.ro vs)) : h'.get q = some (.ro vs) := by
  obtain ⟨_, s, hp, hs⟩ := hP
  rw [f.2 q hq (fun e => by subst e; rw [hp] at hg; cases hg) (fun e => by cases hs with | none => cases e | some _ _ _ hr => cases e; rw [hr] at hg; cases hg)]
  exact hg

theorem new_c (h : AHeap) (base : Int) : FWp Try.prog 6 [U64 base] h fun u h' => u = P0 h.next ∧ h' = h.new (.cells [U64 base, .slice none 0 0, I64 0] 1) := by
  refine W.enter tyOK Try.func6 rfl rfl ?_
  simp only [entry]
  refine W.seq <| W.reg <| 
      OSuf.aop tyOK rfl (so_assign (by simp only [lk] <;> rfl)) rfl <|
      OSuf.nil <| SQ.normal ?_
  refine W.seq <| W.reg <| 
      OSuf.aop tyOK rfl (so_move (by simp only [lk] <;> rfl)) rfl <|
      OSuf.aop tyOK rfl (so_build (by simp only [aparts, lk] <;> rfl) (by simp (disch := first | assumption | omega | (simp only [nx] <;> omega) | fail) only [aBuild, ty41, hpl, places, ty41] <;> rfl)) rfl <|
      OSuf.aop tyOK rfl (so_box (by simp only [lk] <;> rfl)) rfl <|
      OSuf.aop tyOK rfl (so_assign (by simp only [lk] <;> rfl)) rfl <|
      OSuf.nil <| SQ.normal ?_
  refine CWp.ret <| FQ.ret (by simp only [aRet, Try.f6, aResults, aResult, lk] <;> rfl) ?_
  -- leaf: end
  exact ⟨rfl, rfl⟩
theorem new_pa (h : AHeap) (base : Int) : PA (h.new (.cells [U64 base, .slice none 0 0, I64 0] 1)) h.next ⟨base, [], 0⟩ none :=
  ⟨by simp, _, AHeap.get_new_same _ _, .none rfl⟩

theorem waits_c (h : AHeap) (p : Nat) (S : PS) (R : Option Nat) (hP : PA h p S R) : FWp Try.prog 12 [P0 p] h fun u h' => u = I64 S.waits ∧ h' = h := by
  obtain ⟨hpn, s, hp, _⟩ := hP
  refine W.enter tyOK Try.func12 rfl rfl ?_
  simp only [entry]
  refine W.seq <| W.reg <| 
      OSuf.aop tyOK rfl (so_assign (by simp only [lk] <;> rfl)) rfl <|
      OSuf.nil <| SQ.normal ?_
  refine W.seq <| W.seq <| W.reg <| 
      OSuf.aop tyOK rfl (so_move (by simp only [lk] <;> rfl)) rfl <|
      OSuf.aopF tyOK rfl (so_bin (by simp only [lk] <;> rfl) (by simp only [lk] <;> rfl) (bi_nil ⟨_, _, ty23, rfl⟩)) (fun _ => rfl) rfl <|
      OSuf.nil <| SQ.normal ?_
  refine W.no (by simp only [lk] <;> rfl) <| CWp.skip <| SQ.normal ?_
  refine W.seq <| W.reg <| 
      OSuf.aop tyOK rfl (so_move (by simp only [lk] <;> rfl)) rfl <|
      OSuf.aop tyOK rfl (so_nilCheck (by simp only [lk] <;> rfl)) rfl <|
      OSuf.aop tyOK rfl (so_fieldAddr (by simp only [lk] <;> rfl) (fa_ok (k := 2) ty41 rfl rfl ty3 rfl rfl)) rfl <|
      OSuf.aop tyOK rfl (so_load (by simp only [lk] <;> rfl) (by simp (disch := first | assumption | omega | (simp only [nx] <;> omega) | fail) only [aLoad, ty3, rowOf, hpl, hp] <;> rfl)) rfl <|
      OSuf.aop tyOK rfl (so_assign (by simp only [lk] <;> rfl)) rfl <|
      OSuf.nil <| SQ.normal ?_
  refine CWp.ret <| FQ.ret (by simp only [aRet, Try.f12, aResults, aResult, lk] <;> rfl) ?_
  -- leaf: end
  exact ⟨rfl, rfl⟩

theorem add_c (h : AHeap) (p : Nat) (S : PS) (R : Option Nat) (hP : PA h p S R) (key val : ByteArray) (del : Bool) (lsn : Int) (hb : 0 ≤ S.base) (hb2 : S.base + S.ops.length + 1 < 18446744073709551616) (hlen : S.ops.length ≤ 1000000000)
    (hw0 : 0 ≤ S.waits) (hw1 : S.waits ≤ 1000000000) (hl : lsn = S.base + S.ops.length + 1) :
    FWp Try.prog 7 [P0 p, .agg #[.string key, U64 lsn, .bool del, .string val]] h fun u h' => u = I64 0 ∧ ∃ R', PA h' p ⟨S.base, S.ops ++ [⟨key, lsn, del, val, false, false, 0⟩], S.waits + 1⟩ R' ∧ Fr h h' p R := by
  obtain ⟨hpn, s, hp, hs⟩ := hP
  have w1 : IntKind.u64.wrap (S.ops.length : Int) = S.ops.length := wrap_u64 (by omega) (by omega)
  have w2 : IntKind.u64.wrap (S.base + S.ops.length) = S.base + S.ops.length := wrap_u64 (by omega) (by omega)
  have w3 : IntKind.u64.wrap (S.base + S.ops.length + 1) = S.base + S.ops.length + 1 := wrap_u64 (by omega) (by omega)
  have w4 : IntKind.i64.wrap (S.waits + 1) = S.waits + 1 := wrap_i64 (by omega) (by omega)
  cases hs with
  | none e =>
    have e0 : S.ops.length = 0 := by rw [e]; rfl
    rw [e0] at w1 w2 w3 hl
    refine W.enter tyOK Try.func7 rfl rfl ?_
    simp only [entry]
    refine W.seq <| W.reg <| 
        OSuf.aop tyOK rfl (so_box (by simp only [lk] <;> rfl)) rfl <|
        OSuf.aop tyOK rfl (so_assign (by simp only [lk] <;> rfl)) rfl <|
        OSuf.nil <| SQ.normal ?_
    refine W.seq <| W.block <| W.seq <| W.reg <| 
        OSuf.aop tyOK rfl (so_move (by simp only [lk] <;> rfl)) rfl <|
        OSuf.aopF tyOK rfl (so_bin (by simp only [lk] <;> rfl) (by simp only [lk] <;> rfl) (bi_nil ⟨_, _, ty23, rfl⟩)) (fun _ => rfl) rfl <|
        OSuf.aopF tyOK rfl (so_assign (by simp only [lk] <;> rfl)) (fun _ => rfl) rfl <|
        OSuf.nil <| SQ.normal ?_
    refine W.no (by simp only [lk] <;> rfl) <| W.seq <| W.regD tyOK mixed (by kernel_rfl) <| 
        SqW.aop rfl (so_fieldAddr (by simp only [lk] <;> rfl) (fa_ok (k := 1) ty29 rfl rfl ty25 rfl rfl)) rfl <|
        SqW.aop rfl (so_load (by simp only [lk] <;> rfl) (by simp (disch := first | assumption | omega | (simp only [nx] <;> omega) | fail) only [aLoad, ty25, rowOf, hpl, hp, Value.cells, w4] <;> rfl)) rfl <|
        SqW.aop rfl (so_move (by simp only [lk] <;> rfl)) rfl <|
        SqW.aop rfl (so_nilCheck (by simp only [lk] <;> rfl)) rfl <|
        SqW.aop rfl (so_fieldAddr (by simp only [lk] <;> rfl) (fa_ok (k := 0) ty41 rfl rfl ty25 rfl rfl)) rfl <|
        SqW.aop rfl (so_load (by simp only [lk] <;> rfl) (by simp (disch := first | assumption | omega | (simp only [nx] <;> omega) | fail) only [aLoad, ty25, rowOf, hpl, hp, Value.cells, w4] <;> rfl)) rfl <|
        SqW.aop rfl (so_move (by simp only [lk] <;> rfl)) rfl <|
        SqW.aop rfl (so_nilCheck (by simp only [lk] <;> rfl)) rfl <|
        SqW.aop rfl (so_fieldAddr (by simp only [lk] <;> rfl) (fa_ok (k := 1) ty41 rfl rfl ty39 rfl rfl)) rfl <|
        SqW.aop rfl (so_load (by simp only [lk] <;> rfl) (by simp (disch := first | assumption | omega | (simp only [nx] <;> omega) | fail) only [aLoad, ty39, rowOf, hpl, hp, Value.cells, w4] <;> rfl)) rfl <|
        SqW.aop rfl (so_len (by simp only [aopnds, lk] <;> rfl) (by simp (disch := first | assumption | omega | (simp only [nx] <;> omega) | fail) only [aLenOf, ty39, hpl, hp, Value.cells, w4] <;> rfl)) rfl <|
        SqW.aop rfl (so_conw (so_conv tyOK (by simp only [lk] <;> rfl) ty3 ⟨_, rfl⟩ ty25 rfl) rfl) rfl <|
        SqW.aop rfl (so_bin (by simp only [lk] <;> rfl) (by simp only [lk] <;> rfl) (bi_w bi_add rfl)) rfl <|
        SqW.aop rfl (so_bin (by simp only [lk] <;> rfl) (by simp only [lk] <;> rfl) (bi_w bi_add rfl)) rfl <|
        SqW.aopF rfl (so_bin (by simp only [lk] <;> rfl) (by simp only [lk] <;> rfl) bi_neq) (fun _ => rfl) (by simp only [w1, w2, w3, hl]; simp) <|
        SqW.aopF rfl (so_assign (by simp only [lk] <;> rfl)) (fun _ => rfl) rfl <|
        SqW.nil <| SQ.normal ?_
    refine W.no (by simp only [lk] <;> rfl) <| CWp.skip <| BQ.normal <| SQ.normal ?_
    refine W.seq <| CWp.sqd tyOK mixed (ms := [0, 0, 2, 6, 14, 0, 32, 96, 254, 511, 1023, 2047]) (by kernel_rfl) (
        .free rfl rfl (so_move (by simp only [lk] <;> rfl)) rfl <|
        .free rfl rfl (so_move (by simp only [lk] <;> rfl)) rfl <|
        .free rfl rfl (so_nilCheck (by simp only [lk] <;> rfl)) rfl <|
        .free rfl rfl (so_fieldAddr (by simp only [lk] <;> rfl) (fa_ok (k := 1) ty41 rfl rfl ty39 rfl rfl)) rfl <|
        .read rfl rfl (so_load (by simp only [lk] <;> rfl) (by simp (disch := first | assumption | omega | (simp only [nx] <;> omega) | fail) only [aLoad, ty39, rowOf, hpl, hp, Value.cells, w4] <;> rfl)) (by first | rfl | simp [veq, veq1, veqs]) trivial rfl <|
        .read rfl rfl (so_load (by simp only [lk] <;> rfl) (by simp (disch := first | assumption | omega | (simp only [nx] <;> omega) | fail) only [aLoad, ty29, rowOf, hpl, hp, Value.cells, w4] <;> rfl)) (by first | rfl | simp [veq, veq1, veqs]) trivial rfl <|
        .free rfl rfl (so_build (by simp only [aparts, lk] <;> rfl) (by simp (disch := first | assumption | omega | (simp only [nx] <;> omega) | fail) only [aBuild, ty43, hpl, hp, Value.cells, w4] <;> rfl)) rfl <|
        .change rfl rfl (so_buildSlice (by simp only [aparts, lk] <;> rfl) (by simp (disch := first | assumption | omega | (simp only [nx] <;> omega) | fail) only [aBuildSlice, ty39, ty43, hpl, hp, Value.cells, w4] <;> rfl)) rfl ⟨.inl rfl, .inr (so_load (by simp only [lk] <;> rfl) (by simp (disch := first | assumption | omega | (simp only [nx] <;> omega) | fail) only [aLoad, ty39, rowOf, hpl, hp, Value.cells, w4] <;> rfl)), trivial⟩ rfl <|
        .change rfl rfl (so_append (by simp only [aopnds, lk] <;> rfl) (ap_0 (by simp only [appT, ty39, ty43] <;> rfl) rfl (by simp (disch := first | assumption | omega | (simp only [nx] <;> omega) | fail) only [aCells, rowOf, hpl, hp, Value.cells, w4] <;> rfl) (by decide) rfl)) rfl ⟨.inl rfl, .inl rfl, trivial⟩ rfl <|
        .free rfl rfl (so_nilCheck (by simp only [lk] <;> rfl)) rfl <|
        .free rfl rfl (so_fieldAddr (by simp only [lk] <;> rfl) (fa_ok (k := 1) ty41 rfl rfl ty39 rfl rfl)) rfl <|
        .change rfl rfl (so_store (by simp only [lk] <;> rfl) (by simp only [lk] <;> rfl) (by simp (disch := first | assumption | omega | (simp only [nx] <;> omega) | fail) only [aStore, ty39, writeRow, hpl, hp, Value.cells, w4] <;> rfl)) rfl ⟨.inl rfl, .inl rfl, trivial⟩ rfl <|
        .nil) <| SQ.normal ?_
    refine W.seq <| W.reg <| 
        OSuf.aop tyOK rfl (so_move (by simp only [lk] <;> rfl)) rfl <|
        OSuf.aop tyOK rfl (so_nilCheck (by simp only [lk] <;> rfl)) rfl <|
        OSuf.aop tyOK rfl (so_fieldAddr (by simp only [lk] <;> rfl) (fa_ok (k := 2) ty41 rfl rfl ty3 rfl rfl)) rfl <|
        OSuf.aop tyOK rfl (so_load (by simp only [lk] <;> rfl) (by simp (disch := first | assumption | omega | (simp only [nx] <;> omega) | fail) only [aLoad, ty3, rowOf, hpl, hp, Value.cells, w4] <;> rfl)) rfl <|
        OSuf.aop tyOK rfl (so_bin (by simp only [lk] <;> rfl) (by simp only [lk] <;> rfl) (bi_w bi_add rfl)) rfl <|
        OSuf.aop tyOK rfl (so_nilCheck (by simp only [lk] <;> rfl)) rfl <|
        OSuf.aop tyOK rfl (so_fieldAddr (by simp only [lk] <;> rfl) (fa_ok (k := 2) ty41 rfl rfl ty3 rfl rfl)) rfl <|
        OSuf.aop tyOK rfl (so_store (by simp only [lk] <;> rfl) (by simp only [lk] <;> rfl) (by simp (disch := first | assumption | omega | (simp only [nx] <;> omega) | fail) only [aStore, ty3, writeRow, hpl, hp, Value.cells, w4] <;> rfl)) rfl <|
        OSuf.nil <| SQ.normal ?_
    refine W.seq <| W.reg <| 
        OSuf.aop tyOK rfl (so_assign (by simp only [lk] <;> rfl)) rfl <|
        OSuf.nil <| SQ.normal ?_
    refine CWp.ret <| FQ.ret (by simp only [aRet, Try.f7, aResults, aResult, lk] <;> rfl) ?_
    -- leaf: end
    refine ⟨rfl, some (h.next + 1 + 1), ⟨?_, _, by simp only [AHeap.get_set_same]; rfl, ?_⟩, ?_, fun q hq h1 h2 => ?_⟩
    · simp only [AHeap.next_set, AHeap.next_new]; omega
    · refine opsAt_mk (pre := []) (by simp [e]) rfl ?_ (by omega) ?_
      · simp only [AHeap.next_set, AHeap.next_new]; omega
      · simp (disch := first | assumption | omega | (simp only [nx] <;> omega) | fail) only [AHeap.get_set_ne, AHeap.get_new_at, AHeap.next_new, List.nil_append, e, flats, List.append_nil]
        rfl
    · simp only [AHeap.next_set, AHeap.next_new]; omega
    · simp (disch := first | assumption | omega | (simp only [nx] <;> omega) | fail) only [AHeap.get_set_ne, AHeap.get_new_ne, AHeap.next_new]
  | @some r off pre hpre hrn hpr hg =>
    refine W.enter tyOK Try.func7 rfl rfl ?_
    simp only [entry]
    refine W.seq <| W.reg <| 
        OSuf.aop tyOK rfl (so_box (by simp only [lk] <;> rfl)) rfl <|
        OSuf.aop tyOK rfl (so_assign (by simp only [lk] <;> rfl)) rfl <|
        OSuf.nil <| SQ.normal ?_
    refine W.seq <| W.block <| W.seq <| W.reg <| 
        OSuf.aop tyOK rfl (so_move (by simp only [lk] <;> rfl)) rfl <|
        OSuf.aopF tyOK rfl (so_bin (by simp only [lk] <;> rfl) (by simp only [lk] <;> rfl) (bi_nil ⟨_, _, ty23, rfl⟩)) (fun _ => rfl) rfl <|
        OSuf.aopF tyOK rfl (so_assign (by simp only [lk] <;> rfl)) (fun _ => rfl) rfl <|
        OSuf.nil <| SQ.normal ?_
    refine W.no (by simp only [lk] <;> rfl) <| W.seq <| W.regD tyOK mixed (by kernel_rfl) <| 
        SqW.aop rfl (so_fieldAddr (by simp only [lk] <;> rfl) (fa_ok (k := 1) ty29 rfl rfl ty25 rfl rfl)) rfl <|
        SqW.aop rfl (so_load (by simp only [lk] <;> rfl) (by simp (disch := first | assumption | omega | (simp only [nx] <;> omega) | fail) only [aLoad, ty25, rowOf, hpl, hp, hg, Value.cells, w4] <;> rfl)) rfl <|
        SqW.aop rfl (so_move (by simp only [lk] <;> rfl)) rfl <|
        SqW.aop rfl (so_nilCheck (by simp only [lk] <;> rfl)) rfl <|
        SqW.aop rfl (so_fieldAddr (by simp only [lk] <;> rfl) (fa_ok (k := 0) ty41 rfl rfl ty25 rfl rfl)) rfl <|
        SqW.aop rfl (so_load (by simp only [lk] <;> rfl) (by simp (disch := first | assumption | omega | (simp only [nx] <;> omega) | fail) only [aLoad, ty25, rowOf, hpl, hp, hg, Value.cells, w4] <;> rfl)) rfl <|
        SqW.aop rfl (so_move (by simp only [lk] <;> rfl)) rfl <|
        SqW.aop rfl (so_nilCheck (by simp only [lk] <;> rfl)) rfl <|
        SqW.aop rfl (so_fieldAddr (by simp only [lk] <;> rfl) (fa_ok (k := 1) ty41 rfl rfl ty39 rfl rfl)) rfl <|
        SqW.aop rfl (so_load (by simp only [lk] <;> rfl) (by simp (disch := first | assumption | omega | (simp only [nx] <;> omega) | fail) only [aLoad, ty39, rowOf, hpl, hp, hg, Value.cells, w4] <;> rfl)) rfl <|
        SqW.aop rfl (so_len (by simp only [aopnds, lk] <;> rfl) (by simp (disch := first | assumption | omega | (simp only [nx] <;> omega) | fail) only [aLenOf, ty39, hpl, hp, hg, Value.cells, w4] <;> rfl)) rfl <|
        SqW.aop rfl (so_conw (so_conv tyOK (by simp only [lk] <;> rfl) ty3 ⟨_, rfl⟩ ty25 rfl) rfl) rfl <|
        SqW.aop rfl (so_bin (by simp only [lk] <;> rfl) (by simp only [lk] <;> rfl) (bi_w bi_add rfl)) rfl <|
        SqW.aop rfl (so_bin (by simp only [lk] <;> rfl) (by simp only [lk] <;> rfl) (bi_w bi_add rfl)) rfl <|
        SqW.aopF rfl (so_bin (by simp only [lk] <;> rfl) (by simp only [lk] <;> rfl) bi_neq) (fun _ => rfl) (by simp only [w1, w2, w3, hl]; simp) <|
        SqW.aopF rfl (so_assign (by simp only [lk] <;> rfl)) (fun _ => rfl) rfl <|
        SqW.nil <| SQ.normal ?_
    refine W.no (by simp only [lk] <;> rfl) <| CWp.skip <| BQ.normal <| SQ.normal ?_
    refine W.seq <| CWp.sqd tyOK mixed (ms := [0, 0, 2, 6, 14, 0, 32, 96, 254, 511, 1023, 2047]) (by kernel_rfl) (
        .free rfl rfl (so_move (by simp only [lk] <;> rfl)) rfl <|
        .free rfl rfl (so_move (by simp only [lk] <;> rfl)) rfl <|
        .free rfl rfl (so_nilCheck (by simp only [lk] <;> rfl)) rfl <|
        .free rfl rfl (so_fieldAddr (by simp only [lk] <;> rfl) (fa_ok (k := 1) ty41 rfl rfl ty39 rfl rfl)) rfl <|
        .read rfl rfl (so_load (by simp only [lk] <;> rfl) (by simp (disch := first | assumption | omega | (simp only [nx] <;> omega) | fail) only [aLoad, ty39, rowOf, hpl, hp, hg, Value.cells, w4] <;> rfl)) (by first | rfl | simp [veq, veq1, veqs]) trivial rfl <|
        .read rfl rfl (so_load (by simp only [lk] <;> rfl) (by simp (disch := first | assumption | omega | (simp only [nx] <;> omega) | fail) only [aLoad, ty29, rowOf, hpl, hp, hg, Value.cells, w4] <;> rfl)) (by first | rfl | simp [veq, veq1, veqs]) trivial rfl <|
        .free rfl rfl (so_build (by simp only [aparts, lk] <;> rfl) (by simp (disch := first | assumption | omega | (simp only [nx] <;> omega) | fail) only [aBuild, ty43, hpl, hp, hg, Value.cells, w4] <;> rfl)) rfl <|
        .change rfl rfl (so_buildSlice (by simp only [aparts, lk] <;> rfl) (by simp (disch := first | assumption | omega | (simp only [nx] <;> omega) | fail) only [aBuildSlice, ty39, ty43, hpl, hp, hg, Value.cells, w4] <;> rfl)) rfl ⟨.inl rfl, .inr (so_load (by simp only [lk] <;> rfl) (by simp (disch := first | assumption | omega | (simp only [nx] <;> omega) | fail) only [aLoad, ty39, rowOf, hpl, hp, hg, Value.cells, w4] <;> rfl)), trivial⟩ rfl <|
        .change rfl rfl (so_append (by simp only [aopnds, lk] <;> rfl) (ap_u (by simp only [appT, ty39, ty43] <;> rfl) rfl (by simp (disch := first | assumption | omega | (simp only [nx] <;> omega) | fail) only [aCells, rowOf, hpl, hp, hg, Value.cells, w4] <;> rfl) (by show (2 * (S.ops.length + 1) + 256) * 64 ≤ _; omega) rfl (by simp (disch := first | assumption | omega | (simp only [nx] <;> omega) | fail) only [aCells, rowOf, hpl, hp, hg, Value.cells, w4] <;> rfl) rfl (row_all hpre))) rfl ⟨.inl rfl, .inl rfl, trivial⟩ rfl <|
        .free rfl rfl (so_nilCheck (by simp only [lk] <;> rfl)) rfl <|
        .free rfl rfl (so_fieldAddr (by simp only [lk] <;> rfl) (fa_ok (k := 1) ty41 rfl rfl ty39 rfl rfl)) rfl <|
        .change rfl rfl (so_store (by simp only [lk] <;> rfl) (by simp only [lk] <;> rfl) (by simp (disch := first | assumption | omega | (simp only [nx] <;> omega) | fail) only [aStore, ty39, writeRow, hpl, hp, hg, Value.cells, w4] <;> rfl)) rfl ⟨.inl rfl, .inl rfl, trivial⟩ rfl <|
        .nil) <| SQ.normal ?_
    refine W.seq <| W.reg <| 
        OSuf.aop tyOK rfl (so_move (by simp only [lk] <;> rfl)) rfl <|
        OSuf.aop tyOK rfl (so_nilCheck (by simp only [lk] <;> rfl)) rfl <|
        OSuf.aop tyOK rfl (so_fieldAddr (by simp only [lk] <;> rfl) (fa_ok (k := 2) ty41 rfl rfl ty3 rfl rfl)) rfl <|
        OSuf.aop tyOK rfl (so_load (by simp only [lk] <;> rfl) (by simp (disch := first | assumption | omega | (simp only [nx] <;> omega) | fail) only [aLoad, ty3, rowOf, hpl, hp, hg, Value.cells, w4] <;> rfl)) rfl <|
        OSuf.aop tyOK rfl (so_bin (by simp only [lk] <;> rfl) (by simp only [lk] <;> rfl) (bi_w bi_add rfl)) rfl <|
        OSuf.aop tyOK rfl (so_nilCheck (by simp only [lk] <;> rfl)) rfl <|
        OSuf.aop tyOK rfl (so_fieldAddr (by simp only [lk] <;> rfl) (fa_ok (k := 2) ty41 rfl rfl ty3 rfl rfl)) rfl <|
        OSuf.aop tyOK rfl (so_store (by simp only [lk] <;> rfl) (by simp only [lk] <;> rfl) (by simp (disch := first | assumption | omega | (simp only [nx] <;> omega) | fail) only [aStore, ty3, writeRow, hpl, hp, hg, Value.cells, w4] <;> rfl)) rfl <|
        OSuf.nil <| SQ.normal ?_
    refine W.seq <| W.reg <| 
        OSuf.aop tyOK rfl (so_assign (by simp only [lk] <;> rfl)) rfl <|
        OSuf.nil <| SQ.normal ?_
    refine CWp.ret <| FQ.ret (by simp only [aRet, Try.f7, aResults, aResult, lk] <;> rfl) ?_
    -- leaf: end
    refine ⟨rfl, some (h.next + 1 + 1), ⟨?_, _, by simp only [AHeap.get_set_same]; rfl, ?_⟩, ?_, fun q hq h1 h2 => ?_⟩
    · simp only [AHeap.next_set, AHeap.next_new, AHeap.next_kill]; omega
    · refine opsAt_mk (pre := []) (by simp) rfl ?_ (by omega) ?_
      · simp only [AHeap.next_set, AHeap.next_new, AHeap.next_kill]; omega
      · simp (disch := first | assumption | omega | (simp only [nx] <;> omega) | fail) only [AHeap.get_set_ne, AHeap.get_new_at, AHeap.next_new, AHeap.next_kill, List.nil_append, flats_append, flats, List.append_nil]
        rfl
    · simp only [AHeap.next_set, AHeap.next_new, AHeap.next_kill]; omega
    · have h3 : ¬ r = q := fun e => h2 (by rw [e])
      simp (disch := first | assumption | omega | (simp only [nx] <;> omega) | fail) only [AHeap.get_set_ne, AHeap.get_new_ne, AHeap.get_kill_ne, AHeap.next_new, AHeap.next_kill]
end Go.Proofs.Ythjeoohlknajpaa
