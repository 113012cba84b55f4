/-
  Merged: PgA, PgM, PgB, PgC, PgD, PgE, PgK.
-/
import Derived.Test.YtebheelmgcggmaaGreatTy
import Derived.Test.YtebheelmgcggmaaGreatAb39
import Derived.Sort.LotA
import Derived.Test.YtebheelmgcggmaaGreatMa
namespace Go.Proofs.YtebheelmgcggmaaGreat
open Go.Ab Go.Sort
set_option linter.unusedSimpArgs false
set_option linter.unusedVariables false
set_option maxRecDepth 10000
set_option maxHeartbeats 4000000
noncomputable abbrev I64 (n : Int) : Value := .int .i64 n
noncomputable abbrev U64 (n : Int) : Value := .int .u64 n
noncomputable abbrev P0 (p : Nat) : Value := .pointer (some ⟨p, 0, none⟩)
noncomputable abbrev PA (p o : Nat) : Value := .pointer (some ⟨p, o, none⟩)
structure Rec where
  key : List UInt8
  lsn : Int
  del : Bool
  val : List UInt8
deriving Inhabited, DecidableEq
noncomputable def Rec.cs (x : Rec) : List Value := [encS x.key, U64 x.lsn, .bool x.del, encS x.val]
noncomputable abbrev Rec.V (x : Rec) : Value := .agg x.cs.toArray
noncomputable def fl (l : List Rec) : List Value := (l.map Rec.cs).flatten
theorem fl_cons (x : Rec) (l : List Rec) : fl (x :: l) = x.cs ++ fl l := rfl
theorem fl_app (a b : List Rec) : fl (a ++ b) = fl a ++ fl b := by simp [fl]
theorem fl_length (l : List Rec) : (fl l).length = l.length * 4 := by
  induction l with
  | nil => rfl
  | cons a l ih => rw [fl_cons, List.length_append, ih, List.length_cons]; simp [Rec.cs]; omega
theorem csn (x : Rec) : x.cs.length = 4 := rfl
theorem fl_split {l : List Rec} {i : Nat} {x : Rec} (hx : l[i]? = some x) : fl l = fl (l.take i) ++ (x.cs ++ fl (l.drop (i + 1))) ∧ (fl (l.take i)).length = i * 4 := by
  obtain ⟨hi, rfl⟩ := List.getElem?_eq_some_iff.1 hx
  refine ⟨?_, by rw [fl_length, List.length_take]; congr 1; omega⟩
  rw [← fl_cons, ← fl_app, List.getElem_cons_drop, List.take_append_drop]
theorem fl_get {l : List Rec} {i : Nat} {x : Rec} (hx : l[i]? = some x) : cellsOf (fl l) (i * 4) 4 = some x.cs := by
  obtain ⟨e, hl⟩ := fl_split hx
  rw [e, ← hl, cellsOf_mk (by simp [csn]), List.drop_left, List.take_left' (csn x)]
theorem fl_at {l : List Rec} {i j : Nat} {x : Rec} (hx : l[i]? = some x) (hj : j < 4) : (fl l)[i * 4 + j]? = x.cs[j]? :=
  flatten_get (fun y hy => by obtain ⟨z, _, rfl⟩ := List.mem_map.1 hy; rfl) (by simp [hx]) hj
end Go.Proofs.YtebheelmgcggmaaGreat
namespace Go.Proofs.YtebheelmgcggmaaGreat
open Go.Ab Go.Sort
set_option linter.unusedSimpArgs false
set_option linter.unusedVariables false
noncomputable def insR (lo hi k : List UInt8) : Bool := !ltStr k lo && (decide (hi = []) || ltStr k hi)
structure Lf where
  low : List UInt8
  high : List UInt8
  full : Int
  base : List Rec
  deltas : List Rec
noncomputable def Lf.all (p : Lf) : List Rec := p.base ++ p.deltas
noncomputable def mayR (x : Rec) : Bool := decide (x.key.length ≤ 16 ∧ x.val.length ≤ 24 ∧ x.key ≠ [] ∧ (x.del = true → x.val = []))
noncomputable def fit (lo hi : List UInt8) (x : Rec) : Bool := mayR x && decide (1 ≤ x.lsn ∧ x.lsn ≤ 1099511627776) && insR lo hi x.key
noncomputable def risB (lt : Rec → Rec → Bool) : List Rec → Bool
  | a :: b :: l => lt a b && risB lt (b :: l)
  | _ => true
noncomputable def ltK (a b : Rec) : Bool := ltStr a.key b.key
noncomputable def ltL (a b : Rec) : Bool := decide (a.lsn < b.lsn)
noncomputable def chk (p : Lf) : Bool := decide (p.low.length ≤ 16 ∧ p.high.length ≤ 16 ∧ (p.high = [] ∨ ltStr p.low p.high = true) ∧ p.full ≤ 1099511627776 ∧ p.base.length ≤ 64 ∧ p.deltas.length ≤ 64) && (p.all.all (fit p.low p.high) && (risB ltK p.base && risB ltL p.deltas))
noncomputable def rec0 : Rec := ⟨[], 0, false, []⟩
noncomputable def gstep (k : List UInt8) (o : Rec × Bool) (r : Rec) : Rec × Bool := if r.key = k ∧ o.1.lsn < r.lsn then (r, true) else o
noncomputable def getL (k : List UInt8) (l : List Rec) : Rec × Bool := l.foldl (gstep k) (rec0, false)
noncomputable def getM (p : Lf) (k : List UInt8) : Rec × Bool := if chk p = true then getL k p.all else (rec0, false)
noncomputable def insK (k : List UInt8) : List (List UInt8) → List (List UInt8)
  | [] => [k]
  | a :: l => if ltStr a k then a :: insK k l else if a = k then a :: l else k :: a :: l
noncomputable def keysL (l : List Rec) : List (List UInt8) := l.foldl (fun ks r => insK r.key ks) []
noncomputable def keysM (p : Lf) : List (List UInt8) := if chk p = true then keysL p.all else []
noncomputable def oldM (p : Lf) (r : Rec) : Bool := decide (r.lsn ≤ p.full) || (p.base.any (fun x => decide (x.key = r.key ∧ r.lsn ≤ x.lsn)) || p.deltas.any fun x => decide (x.lsn = r.lsn))
noncomputable def insL (r : Rec) : List Rec → List Rec
  | [] => [r]
  | a :: l => if a.lsn < r.lsn then a :: insL r l else r :: a :: l
noncomputable def appOK (p : Lf) (r : Rec) : Bool := chk p && (fit p.low p.high r && (!oldM p r && decide (p.deltas.length < 64)))
noncomputable def appM (p : Lf) (r : Rec) : Lf := if appOK p r = true then { p with deltas := insL r p.deltas } else p
noncomputable def into (r : Rec) : List Rec → List Rec
  | [] => [r]
  | a :: l => if ltStr a.key r.key then a :: into r l else if a.key = r.key then (if a.lsn < r.lsn then r :: l else a :: l) else r :: a :: l
noncomputable def foldB (e : Int) (p : Lf) : List Rec := (p.deltas.filter fun r => decide (r.lsn ≤ e)).foldl (fun b r => into r b) p.base
noncomputable def foldM (p : Lf) (e : Int) : Lf := if chk p = true ∧ (foldB e p).length ≤ 64 then { p with base := foldB e p, deltas := p.deltas.filter fun r => decide (e < r.lsn) } else p
noncomputable def resetM (p : Lf) (e : Int) : Lf := if chk p = true then { p with deltas := p.deltas.filter fun r => decide (r.lsn ≤ e) } else p
theorem str_eq_of {a b : List UInt8} (h1 : ltStr a b = false) (h2 : ltStr b a = false) : a = b := by
  simp only [ltStr, decide_eq_false_iff_not, List.not_lt] at h1 h2; exact List.le_antisymm h2 h1
end Go.Proofs.YtebheelmgcggmaaGreat
namespace Go.Proofs.YtebheelmgcggmaaGreat
open Go.Ab Go.Sort
set_option linter.unusedSimpArgs false
set_option linter.unusedVariables false
set_option maxRecDepth 10000
set_option maxHeartbeats 4000000
noncomputable abbrev lcs (p : Lf) (bv dv : Value) : List Value := [encS p.low, encS p.high, U64 p.full, bv, dv]
noncomputable abbrev LV (p : Lf) (bv dv : Value) : Value := .agg #[encS p.low, encS p.high, U64 p.full, bv, dv]
theorem sz_str (l : List UInt8) : (ByteArray.mk ⟨l⟩).size = l.length := rfl
theorem str_eq (x y : List UInt8) : ((ByteArray.toList ⟨⟨x⟩⟩) == (ByteArray.toList ⟨⟨y⟩⟩)) = decide (x = y) := by
  rw [ByteArray.toList_eq, ByteArray.toList_eq, Bool.eq_iff_iff]; simp
theorem str_nil (l : List UInt8) : ((ByteArray.mk ⟨l⟩).toList == (ByteArray.mk #[]).toList) = decide (l = []) := str_eq l []
theorem sst : (∀ x y : List UInt8, ((ByteArray.toList ⟨⟨x⟩⟩) == (ByteArray.toList ⟨⟨y⟩⟩)) = decide (x = y)) ∧ (∀ x : List UInt8, ((ByteArray.toList ⟨⟨x⟩⟩) == (ByteArray.toList ⟨#[]⟩)) = decide (x = [])) ∧ (∀ x y : List UInt8, ((ByteArray.toList ⟨⟨x⟩⟩) = (ByteArray.toList ⟨⟨y⟩⟩)) = (x = y)) ∧ (∀ x : List UInt8, ((ByteArray.toList ⟨⟨x⟩⟩) = (ByteArray.toList ⟨#[]⟩)) = (x = [])) ∧
    (∀ x y : List UInt8, Op.bytesLess (ByteArray.toList ⟨⟨x⟩⟩) (ByteArray.toList ⟨⟨y⟩⟩) = ltStr x y) ∧ (∀ x : List UInt8, (ByteArray.mk ⟨x⟩).size = x.length) ∧ (∀ x y : List UInt8, Op.bytesLess x y = ltStr x y) :=
  have e : ∀ x y : List UInt8, ((ByteArray.toList ⟨⟨x⟩⟩) = (ByteArray.toList ⟨⟨y⟩⟩)) = (x = y) := fun x y => by rw [ByteArray.toList_eq, ByteArray.toList_eq]
  ⟨str_eq, fun x => str_eq x [], e, fun x => e x [], str_lt, sz_str, bless⟩
noncomputable def mayE (x : Rec) : Int := if x.key.length ≤ 16 ∧ x.val.length ≤ 24 then (if x.key ≠ [] ∧ (x.del = true → x.val = []) then 0 else 2) else 3
theorem mayE_ok (x : Rec) : (mayE x == 0) = mayR x := by
  simp only [mayE, mayR]
  by_cases h1 : x.key.length ≤ 16 ∧ x.val.length ≤ 24
  · by_cases h2 : x.key ≠ [] ∧ (x.del = true → x.val = [])
    · rw [if_pos h1, if_pos h2, decide_eq_true ⟨h1.1, h1.2, h2.1, h2.2⟩]; rfl
    · rw [if_pos h1, if_neg h2]
      have : ¬ (x.key.length ≤ 16 ∧ x.val.length ≤ 24 ∧ x.key ≠ [] ∧ (x.del = true → x.val = [])) := fun h => h2 ⟨h.2.2.1, h.2.2.2⟩
      simp [this]
  · rw [if_neg h1]
    have : ¬ (x.key.length ≤ 16 ∧ x.val.length ≤ 24 ∧ x.key ≠ [] ∧ (x.del = true → x.val = [])) := fun h => h1 ⟨h.1, h.2.1⟩
    simp [this]
theorem unless_c (h : AHeap) (b : Bool) (e : Int) : FWp Tryz.prog 103 [.bool b, I64 e] h fun u h' => u = I64 (if b then 0 else e) ∧ h' = h := by
  refine W.enter tyOK Tryz.func103 rfl rfl ?_
  simp only [entry]
  cases b
  · refine W.seq <| W.reg <| OSuf.aop tyOK rfl za rfl <| OSuf.nil <| SQ.normal ?_
    refine W.seq <| W.seq <| W.reg <| OSuf.aopF tyOK rfl sm (fun _ => rfl) (by first | rfl | assumption | ((simp only [bl]) <;> first | done | assumption | omega) | (simp; done) | (simp; omega)) <| OSuf.nil <| SQ.normal ?_
    refine W.no (by simp only [lk] <;> rfl) <| CWp.skip <| SQ.normal ?_
    refine W.seq <| W.reg <| OSuf.aop tyOK rfl sm rfl <| OSuf.aop tyOK rfl za rfl <| OSuf.nil <| SQ.normal ?_
    refine CWp.ret <| FQ.ret (by simp only [aRet, Tryz.f103, aResults, aResult, lk, Nat.reduceEqDiff, reduceIte] <;> first | rfl | (simp only [tyall] <;> rfl) | (simp [tyall] <;> rfl)) ?_
    -- leaf: end
    exact ⟨rfl, rfl⟩
  · refine W.seq <| W.reg <| OSuf.aop tyOK rfl za rfl <| OSuf.nil <| SQ.normal ?_
    refine W.seq <| W.seq <| W.reg <| OSuf.aopT tyOK rfl sm (fun _ => rfl) (by first | rfl | assumption | ((simp only [bl]) <;> first | done | assumption | omega) | (simp; done) | (simp; omega)) <| OSuf.nil <| SQ.normal ?_
    refine W.yes (by simp only [lk] <;> rfl) <| W.seq <| W.reg <| OSuf.aop tyOK rfl za rfl <| OSuf.nil <| SQ.normal ?_
    refine CWp.ret <| SQ.ret <| FQ.ret (by simp only [aRet, Tryz.f103, aResults, aResult, lk, Nat.reduceEqDiff, reduceIte] <;> first | rfl | (simp only [tyall] <;> rfl) | (simp [tyall] <;> rfl)) ?_
    -- leaf: end
    exact ⟨rfl, rfl⟩
theorem may1_c (h : AHeap) (q : Nat) (x : Rec) (hq : h.get q = some (.cells x.cs 1)) : FWp Tryz.prog 102 [P0 q] h fun u h' => u = I64 (if x.key.length ≤ 16 ∧ x.val.length ≤ 24 then 0 else 3) ∧ h' = h := by
  have hq : h.get q = some (.cells [encS x.key, U64 x.lsn, .bool x.del, encS x.val] 1) := hq
  have e0 := sz_str x.key
  have e1 := sz_str x.val
  refine W.enter tyOK Tryz.func102 rfl rfl ?_
  simp only [entry]
  refine W.seq <| W.reg <| OSuf.aop tyOK rfl za rfl <| OSuf.nil <| SQ.normal ?_
  refine W.seq <| W.reg <| OSuf.aop tyOK rfl (zf (hv := fa_ok (k := 0) ty27 rfl rfl ty9 rfl rfl)) rfl <| OSuf.aop tyOK rfl (zl (hv := by simp (disch := first | assumption | omega | (simp only [nx] <;> omega) | fail) only [aLoad, ty9, rowOf, hpl, hq, e0, e1] <;> rfl)) rfl <| OSuf.aop tyOK rfl (so_len (by simp only [aopnds, lk] <;> rfl) (by simp (disch := first | assumption | omega | (simp only [nx] <;> omega) | fail) only [aLenOf, ty9, hpl, hq, e0, e1] <;> rfl)) rfl <| OSuf.aopB tyOK rfl (zb (hv := bi_leq)) (fun _ => rfl) (fun h1 => ?_) (fun h1 => ?_)
  · try simp only [bl] at h1
    refine OSuf.aopT tyOK rfl sm (fun _ => rfl) rfl <| OSuf.aop tyOK ag (zf (hv := fa_ok (k := 3) ty27 rfl rfl ty9 rfl rfl)) rfl <| OSuf.aop tyOK ag (zl (hv := by simp (disch := first | assumption | omega | (simp only [nx] <;> omega) | fail) only [aLoad, ty9, rowOf, hpl, hq, e0, e1] <;> rfl)) rfl <| OSuf.aop tyOK ag (so_len (by simp only [aopnds, lk] <;> rfl) (by simp (disch := first | assumption | omega | (simp only [nx] <;> omega) | fail) only [aLenOf, ty9, hpl, hq, e0, e1] <;> rfl)) rfl <| OSuf.aop tyOK ag (zb (hv := bi_leq)) rfl <| OSuf.aop tyOK rfl (so_pick (by simp only [lk] <;> rfl) (by simp only [lk, cond_true, cond_false] <;> rfl)) rfl <| OSuf.callD rfl (by simp only [aopnds, lk] <;> rfl) en103 (unless_c h _ 3) rfl <| OSuf.aop tyOK rfl za rfl <| OSuf.nil <| SQ.normal ?_
    refine CWp.ret <| FQ.ret (by simp only [aRet, Tryz.f102, aResults, aResult, lk, Nat.reduceEqDiff, reduceIte] <;> first | rfl | (simp only [tyall] <;> rfl) | (simp [tyall] <;> rfl)) ?_
    exact ⟨by have a : x.key.length ≤ 16 := (by omega); simp only [a, true_and, decide_eq_true_eq, Int.ofNat_le]; split <;> split <;> first | rfl | omega, rfl⟩
  · try simp only [bl] at h1
    refine OSuf.aopF tyOK rfl sm (fun _ => rfl) rfl <| OSuf.pass ag rfl <| OSuf.pass ag rfl <| OSuf.pass ag rfl <| OSuf.pass ag rfl <| OSuf.aopF tyOK rfl (so_pick (by simp only [lk] <;> rfl) (by simp only [lk, cond_true, cond_false] <;> rfl)) (fun _ => rfl) rfl <| OSuf.callD rfl (by simp only [aopnds, lk] <;> rfl) en103 (unless_c h _ 3) rfl <| OSuf.aop tyOK rfl za rfl <| OSuf.nil <| SQ.normal ?_
    refine CWp.ret <| FQ.ret (by simp only [aRet, Tryz.f102, aResults, aResult, lk, Nat.reduceEqDiff, reduceIte] <;> first | rfl | (simp only [tyall] <;> rfl) | (simp [tyall] <;> rfl)) ?_
    exact ⟨by have b : ¬ x.key.length ≤ 16 := (by omega); simp [b], rfl⟩
theorem may2_c (h : AHeap) (q : Nat) (x : Rec) (hq : h.get q = some (.cells x.cs 1)) : FWp Tryz.prog 104 [P0 q] h fun u h' => u = I64 (if x.key ≠ [] ∧ (x.del = true → x.val = []) then 0 else 2) ∧ h' = h := by
  have hq : h.get q = some (.cells [encS x.key, U64 x.lsn, .bool x.del, encS x.val] 1) := hq
  have e0 := str_nil x.key
  have e1 := str_nil x.val
  refine W.enter tyOK Tryz.func104 rfl rfl ?_
  simp only [entry]
  refine W.seq <| W.reg <| OSuf.aop tyOK rfl za rfl <| OSuf.nil <| SQ.normal ?_
  refine W.seq <| W.reg <| OSuf.aop tyOK rfl (zf (hv := fa_ok (k := 0) ty27 rfl rfl ty9 rfl rfl)) rfl <| OSuf.aop tyOK rfl (zl (hv := by simp (disch := first | assumption | omega | (simp only [nx] <;> omega) | fail) only [aLoad, ty9, rowOf, hpl, hq] <;> rfl)) rfl <| OSuf.aopB tyOK rfl (zb (hv := bs_neq)) (fun _ => rfl) (fun h1 => ?_) (fun h1 => ?_)
  · try simp only [bl] at h1
    refine OSuf.aopT tyOK rfl sm (fun _ => rfl) rfl <| OSuf.aop tyOK ag (zf (hv := fa_ok (k := 2) ty27 rfl rfl ty4 rfl rfl)) rfl <| OSuf.aopB tyOK ag (zl (hv := by simp (disch := first | assumption | omega | (simp only [nx] <;> omega) | fail) only [aLoad, ty4, rowOf, hpl, hq] <;> rfl)) (fun _ => rfl) (fun h2 => ?_) (fun h2 => ?_)
    · try simp only [bl] at h2
      refine OSuf.aopF tyOK ag (so_not (by simp only [lk] <;> rfl)) (fun _ => rfl) rfl <| OSuf.aopF tyOK ag sm (fun _ => rfl) rfl <| OSuf.aop tyOK ag (zf (hv := fa_ok (k := 3) ty27 rfl rfl ty9 rfl rfl)) rfl <| OSuf.aop tyOK ag (zl (hv := by simp (disch := first | assumption | omega | (simp only [nx] <;> omega) | fail) only [aLoad, ty9, rowOf, hpl, hq] <;> rfl)) rfl <| OSuf.aop tyOK ag (zb (hv := bs_eql)) rfl <| OSuf.aop tyOK ag (so_pick (by simp only [lk] <;> rfl) (by simp only [lk, cond_true, cond_false] <;> rfl)) rfl <| OSuf.aop tyOK rfl (so_pick (by simp only [lk] <;> rfl) (by simp only [lk, cond_true, cond_false] <;> rfl)) rfl <| OSuf.callD rfl (by simp only [aopnds, lk] <;> rfl) en103 (unless_c h _ 2) rfl <| OSuf.aop tyOK rfl za rfl <| OSuf.nil <| SQ.normal ?_
      refine CWp.ret <| FQ.ret (by simp only [aRet, Tryz.f104, aResults, aResult, lk, Nat.reduceEqDiff, reduceIte] <;> first | rfl | (simp only [tyall] <;> rfl) | (simp [tyall] <;> rfl)) ?_
      exact ⟨by simp [sst] at h1 h2; simp [h1, h2], rfl⟩
    · try simp only [bl] at h2
      refine OSuf.aopT tyOK ag (so_not (by simp only [lk] <;> rfl)) (fun _ => rfl) rfl <| OSuf.aopT tyOK ag sm (fun _ => rfl) rfl <| OSuf.pass ag rfl <| OSuf.pass ag rfl <| OSuf.pass ag rfl <| OSuf.aopT tyOK ag (so_pick (by simp only [lk] <;> rfl) (by simp only [lk, cond_true, cond_false] <;> rfl)) (fun _ => rfl) rfl <| OSuf.aopT tyOK rfl (so_pick (by simp only [lk] <;> rfl) (by simp only [lk, cond_true, cond_false] <;> rfl)) (fun _ => rfl) rfl <| OSuf.callD rfl (by simp only [aopnds, lk] <;> rfl) en103 (unless_c h _ 2) rfl <| OSuf.aop tyOK rfl za rfl <| OSuf.nil <| SQ.normal ?_
      refine CWp.ret <| FQ.ret (by simp only [aRet, Tryz.f104, aResults, aResult, lk, Nat.reduceEqDiff, reduceIte] <;> first | rfl | (simp only [tyall] <;> rfl) | (simp [tyall] <;> rfl)) ?_
      exact ⟨by simp [sst] at h1 h2; simp [h1, h2, sst], rfl⟩
  · try simp only [bl] at h1
    refine OSuf.aopF tyOK rfl sm (fun _ => rfl) rfl <| OSuf.pass ag rfl <| OSuf.pass ag rfl <| OSuf.pass ag rfl <| OSuf.pass ag rfl <| OSuf.pass (aguard_un rfl rfl (by simp only [lk] <;> rfl)) rfl <| OSuf.pass (aguard_un rfl rfl (by simp only [lk] <;> rfl)) rfl <| OSuf.pass (aguard_un rfl rfl (by simp only [lk] <;> rfl)) rfl <| OSuf.pass ag rfl <| OSuf.aopF tyOK rfl (so_pick (by simp only [lk] <;> rfl) (by simp only [lk, cond_true, cond_false] <;> rfl)) (fun _ => rfl) rfl <| OSuf.callD rfl (by simp only [aopnds, lk] <;> rfl) en103 (unless_c h _ 2) rfl <| OSuf.aop tyOK rfl za rfl <| OSuf.nil <| SQ.normal ?_
    refine CWp.ret <| FQ.ret (by simp only [aRet, Tryz.f104, aResults, aResult, lk, Nat.reduceEqDiff, reduceIte] <;> first | rfl | (simp only [tyall] <;> rfl) | (simp [tyall] <;> rfl)) ?_
    exact ⟨by simp [sst] at h1; simp [h1], rfl⟩
theorem cl1_v (h : AHeap) (q : Nat) (x : Rec) (hq : h.get q = some (.cells x.cs 1)) : VWp Tryz.prog (.func (.func 102) #[] #[P0 q]) [] h fun u h' => u = I64 (if x.key.length ≤ 16 ∧ x.val.length ≤ 24 then 0 else 3) ∧ h' = h := VWp.func en102 (may1_c h q x hq)
theorem cl2_v (h : AHeap) (q : Nat) (x : Rec) (hq : h.get q = some (.cells x.cs 1)) : VWp Tryz.prog (.func (.func 104) #[] #[P0 q]) [] h fun u h' => u = I64 (if x.key ≠ [] ∧ (x.del = true → x.val = []) then 0 else 2) ∧ h' = h := VWp.func en104 (may2_c h q x hq)
theorem first_c (h : AHeap) (r : Nat) (f1 f2 : Value) (e1 e2 : Int) (hr : h.get r = some (.cells [f1, f2] 1)) (c1 : VWp Tryz.prog f1 [] h fun u h' => u = I64 e1 ∧ h' = h) (c2 : VWp Tryz.prog f2 [] h fun u h' => u = I64 e2 ∧ h' = h) :
    FWp Tryz.prog 101 [.slice (some ⟨r, 0, none⟩) 2 3] h fun u h' => u = I64 (if e1 = 0 then e2 else e1) ∧ h' = h := by
  refine W.enter tyOK Tryz.func101 rfl rfl ?_
  simp only [entry]
  refine W.seq <| W.reg <| OSuf.aop tyOK rfl za rfl <| OSuf.nil <| SQ.normal ?_
  refine W.seq <| W.seq <| W.reg <| OSuf.aop tyOK rfl sm rfl <| OSuf.aop tyOK rfl (so_len (by simp only [aopnds, lk] <;> rfl) (by simp (disch := first | assumption | omega | (simp only [nx] <;> omega) | fail) only [aLenOf, ty124, hpl] <;> rfl)) rfl <| OSuf.aop tyOK rfl sm rfl <| OSuf.nil <| SQ.normal ?_
  -- leaf: loop
  refine W.block (W.loop (fun m L h' => ∃ i : Nat, m + i = 2 ∧ h' = h ∧ (i = 0 ∨ e1 = 0) ∧ (i = 2 → e2 = 0) ∧ L = [(6, .slice (some ⟨r, 0, none⟩) 2 3), (7, I64 2), (8, I64 i)]) (n := 2) ⟨0, rfl, rfl, .inl rfl, by omega, rfl⟩ ?_ ?_)
  · simp [HasA, Tr.get_put]
  rintro m L h' ⟨i, hm, rfl, ha, hb, rfl⟩
  simp only [mkA]
  have w2 : IntKind.i64.wrap ((i : Int) + 1) = ((i + 1 : Nat) : Int) := by rw [wrap_i64 (by omega) (by omega)]; omega
  obtain rfl | rfl | rfl : i = 0 ∨ i = 1 ∨ i = 2 := by omega
  · by_cases h0 : e1 = 0
    · refine W.seq <| W.reg <| OSuf.aopT tyOK rfl (zb (hv := bi_lss)) (fun _ => rfl) (by first | rfl | assumption | ((simp only [bl, hr, h0]) <;> first | done | assumption | omega) | (simp; done) | (simp; omega)) <| OSuf.nil <| SQ.normal ?_
      refine W.seq <| W.yes (by simp only [lk] <;> rfl) <| CWp.skip <| SQ.normal ?_
      refine W.seq <| W.block <| W.seq <| W.reg <| OSuf.aop tyOK rfl (zi (hv := by simp (disch := first | assumption | omega | (simp only [nx] <;> omega) | fail) only [aIndexAddr, ty124, ty107, hpl, hr, h0] <;> rfl)) rfl <| OSuf.aop tyOK rfl (zl (hv := by simp (disch := first | assumption | omega | (simp only [nx] <;> omega) | fail) only [aLoad, ty107, rowOf, hpl, hr, h0] <;> rfl)) rfl <| OSuf.aop tyOK rfl za rfl <| OSuf.nil <| SQ.normal ?_
      refine W.seq <| W.reg <| OSuf.aop tyOK rfl sm rfl <| OSuf.vcallD rfl (by simp only [lk] <;> rfl) (by simp only [aopnds, lk] <;> rfl) (c1) rfl <| OSuf.aop tyOK rfl za rfl <| OSuf.nil <| SQ.normal ?_
      refine W.seq <| W.reg <| OSuf.aop tyOK rfl sm rfl <| OSuf.aopF tyOK rfl (zb (hv := bi_neq)) (fun _ => rfl) (by first | rfl | assumption | ((simp only [bl, hr, h0]) <;> first | done | assumption | omega) | (simp; done) | (simp; omega)) <| OSuf.nil <| SQ.normal ?_
      refine W.no (by simp only [lk] <;> rfl) <| CWp.skip <| BQ.normal <| SQ.normal ?_
      refine W.reg <| OSuf.aop tyOK rfl (zb (hv := bi_w bi_add (by first | (simp only [w2] <;> rfl) | rfl))) rfl <| OSuf.aop tyOK rfl sm rfl <| OSuf.nil <| ?_
      exact LQ.normal (m := 1) (L := [(6, .slice (some ⟨r, 0, none⟩) 2 3), (7, I64 2), (8, I64 ((0 + 1 : Nat) : Int))]) (by omega) (by simp only [HasA, Tr.get_put, Nat.reduceEqDiff, reduceIte, w2, and_self]) ⟨1, rfl, rfl, .inr h0, by omega, rfl⟩
    · refine W.seq <| W.reg <| OSuf.aopT tyOK rfl (zb (hv := bi_lss)) (fun _ => rfl) (by first | rfl | assumption | ((simp only [bl, hr, h0]) <;> first | done | assumption | omega) | (simp; done) | (simp; omega)) <| OSuf.nil <| SQ.normal ?_
      refine W.seq <| W.yes (by simp only [lk] <;> rfl) <| CWp.skip <| SQ.normal ?_
      refine W.seq <| W.block <| W.seq <| W.reg <| OSuf.aop tyOK rfl (zi (hv := by simp (disch := first | assumption | omega | (simp only [nx] <;> omega) | fail) only [aIndexAddr, ty124, ty107, hpl, hr, h0] <;> rfl)) rfl <| OSuf.aop tyOK rfl (zl (hv := by simp (disch := first | assumption | omega | (simp only [nx] <;> omega) | fail) only [aLoad, ty107, rowOf, hpl, hr, h0] <;> rfl)) rfl <| OSuf.aop tyOK rfl za rfl <| OSuf.nil <| SQ.normal ?_
      refine W.seq <| W.reg <| OSuf.aop tyOK rfl sm rfl <| OSuf.vcallD rfl (by simp only [lk] <;> rfl) (by simp only [aopnds, lk] <;> rfl) (c1) rfl <| OSuf.aop tyOK rfl za rfl <| OSuf.nil <| SQ.normal ?_
      refine W.seq <| W.reg <| OSuf.aop tyOK rfl sm rfl <| OSuf.aopT tyOK rfl (zb (hv := bi_neq)) (fun _ => rfl) (by first | rfl | assumption | ((simp only [bl, hr, h0]) <;> first | done | assumption | omega) | (simp; done) | (simp; omega)) <| OSuf.nil <| SQ.normal ?_
      refine W.yes (by simp only [lk] <;> rfl) <| W.seq <| W.reg <| OSuf.aop tyOK rfl sm rfl <| OSuf.aop tyOK rfl za rfl <| OSuf.nil <| SQ.normal ?_
      refine CWp.ret <| BQ.ret <| SQ.ret <| LQ.ret <| BQ.ret <| SQ.ret <| FQ.ret (by simp only [aRet, Tryz.f101, aResults, aResult, lk, Nat.reduceEqDiff, reduceIte] <;> first | rfl | (simp only [tyall] <;> rfl) | (simp [tyall] <;> rfl)) ?_
      -- leaf: end
      exact ⟨by rw [if_neg h0], rfl⟩
  · have h0 : e1 = 0 := ha.resolve_left (by omega)
    by_cases h3 : e2 = 0
    · refine W.seq <| W.reg <| OSuf.aopT tyOK rfl (zb (hv := bi_lss)) (fun _ => rfl) (by first | rfl | assumption | ((simp only [bl, hr, h3]) <;> first | done | assumption | omega) | (simp; done) | (simp; omega)) <| OSuf.nil <| SQ.normal ?_
      refine W.seq <| W.yes (by simp only [lk] <;> rfl) <| CWp.skip <| SQ.normal ?_
      refine W.seq <| W.block <| W.seq <| W.reg <| OSuf.aop tyOK rfl (zi (hv := by simp (disch := first | assumption | omega | (simp only [nx] <;> omega) | fail) only [aIndexAddr, ty124, ty107, hpl, hr, h3] <;> rfl)) rfl <| OSuf.aop tyOK rfl (zl (hv := by simp (disch := first | assumption | omega | (simp only [nx] <;> omega) | fail) only [aLoad, ty107, rowOf, hpl, hr, h3] <;> rfl)) rfl <| OSuf.aop tyOK rfl za rfl <| OSuf.nil <| SQ.normal ?_
      refine W.seq <| W.reg <| OSuf.aop tyOK rfl sm rfl <| OSuf.vcallD rfl (by simp only [lk] <;> rfl) (by simp only [aopnds, lk] <;> rfl) (c2) rfl <| OSuf.aop tyOK rfl za rfl <| OSuf.nil <| SQ.normal ?_
      refine W.seq <| W.reg <| OSuf.aop tyOK rfl sm rfl <| OSuf.aopF tyOK rfl (zb (hv := bi_neq)) (fun _ => rfl) (by first | rfl | assumption | ((simp only [bl, hr, h3]) <;> first | done | assumption | omega) | (simp; done) | (simp; omega)) <| OSuf.nil <| SQ.normal ?_
      refine W.no (by simp only [lk] <;> rfl) <| CWp.skip <| BQ.normal <| SQ.normal ?_
      refine W.reg <| OSuf.aop tyOK rfl (zb (hv := bi_w bi_add (by first | (simp only [w2] <;> rfl) | rfl))) rfl <| OSuf.aop tyOK rfl sm rfl <| OSuf.nil <| ?_
      exact LQ.normal (m := 0) (L := [(6, .slice (some ⟨r, 0, none⟩) 2 3), (7, I64 2), (8, I64 ((1 + 1 : Nat) : Int))]) (by omega) (by simp only [HasA, Tr.get_put, Nat.reduceEqDiff, reduceIte, w2, and_self]) ⟨2, rfl, rfl, .inr h0, fun _ => h3, rfl⟩
    · refine W.seq <| W.reg <| OSuf.aopT tyOK rfl (zb (hv := bi_lss)) (fun _ => rfl) (by first | rfl | assumption | ((simp only [bl, hr, h3]) <;> first | done | assumption | omega) | (simp; done) | (simp; omega)) <| OSuf.nil <| SQ.normal ?_
      refine W.seq <| W.yes (by simp only [lk] <;> rfl) <| CWp.skip <| SQ.normal ?_
      refine W.seq <| W.block <| W.seq <| W.reg <| OSuf.aop tyOK rfl (zi (hv := by simp (disch := first | assumption | omega | (simp only [nx] <;> omega) | fail) only [aIndexAddr, ty124, ty107, hpl, hr, h3] <;> rfl)) rfl <| OSuf.aop tyOK rfl (zl (hv := by simp (disch := first | assumption | omega | (simp only [nx] <;> omega) | fail) only [aLoad, ty107, rowOf, hpl, hr, h3] <;> rfl)) rfl <| OSuf.aop tyOK rfl za rfl <| OSuf.nil <| SQ.normal ?_
      refine W.seq <| W.reg <| OSuf.aop tyOK rfl sm rfl <| OSuf.vcallD rfl (by simp only [lk] <;> rfl) (by simp only [aopnds, lk] <;> rfl) (c2) rfl <| OSuf.aop tyOK rfl za rfl <| OSuf.nil <| SQ.normal ?_
      refine W.seq <| W.reg <| OSuf.aop tyOK rfl sm rfl <| OSuf.aopT tyOK rfl (zb (hv := bi_neq)) (fun _ => rfl) (by first | rfl | assumption | ((simp only [bl, hr, h3]) <;> first | done | assumption | omega) | (simp; done) | (simp; omega)) <| OSuf.nil <| SQ.normal ?_
      refine W.yes (by simp only [lk] <;> rfl) <| W.seq <| W.reg <| OSuf.aop tyOK rfl sm rfl <| OSuf.aop tyOK rfl za rfl <| OSuf.nil <| SQ.normal ?_
      refine CWp.ret <| BQ.ret <| SQ.ret <| LQ.ret <| BQ.ret <| SQ.ret <| FQ.ret (by simp only [aRet, Tryz.f101, aResults, aResult, lk, Nat.reduceEqDiff, reduceIte] <;> first | rfl | (simp only [tyall] <;> rfl) | (simp [tyall] <;> rfl)) ?_
      -- leaf: end
      exact ⟨by rw [if_pos h0], rfl⟩
  · have h0 : e1 = 0 := ha.resolve_left (by omega)
    refine W.seq <| W.reg <| OSuf.aopF tyOK rfl (zb (hv := bi_lss)) (fun _ => rfl) (by first | rfl | assumption | ((simp only [bl]) <;> first | done | assumption | omega) | (simp; done) | (simp; omega)) <| OSuf.nil <| SQ.normal ?_
    refine W.seq <| W.no (by simp only [lk] <;> rfl) <| CWp.exit <| SQ.exit <| LQ.exit <| BQ.exit <| SQ.normal ?_
    refine W.seq <| W.reg <| OSuf.aop tyOK rfl za rfl <| OSuf.nil <| SQ.normal ?_
    refine CWp.ret <| FQ.ret (by simp only [aRet, Tryz.f101, aResults, aResult, lk, Nat.reduceEqDiff, reduceIte] <;> first | rfl | (simp only [tyall] <;> rfl) | (simp [tyall] <;> rfl)) ?_
    -- leaf: end
    exact ⟨by rw [if_pos h0, hb rfl], rfl⟩
theorem may_c (h : AHeap) (x : Rec) : FWp Tryz.prog 76 [x.V] h fun u h' => u = I64 (mayE x) ∧ h' = h := by
  refine FWp.gcs (.flat rfl) ?_
  refine W.enter tyOK Tryz.func76 rfl rfl ?_
  simp only [entry]
  refine W.seq <| W.reg <| OSuf.aop tyOK rfl (so_box (by simp only [lk] <;> rfl)) rfl <| OSuf.aop tyOK rfl za rfl <| OSuf.nil <| SQ.normal ?_
  refine W.seq <| W.reg <| OSuf.aop tyOK rfl (so_makeFunc rfl (by simp only [aopnds, lk] <;> rfl) (by simp only [aopnds, lk] <;> rfl)) rfl <| OSuf.aop tyOK rfl (so_makeFunc rfl (by simp only [aopnds, lk] <;> rfl) (by simp only [aopnds, lk] <;> rfl)) rfl <| OSuf.aop tyOK rfl (so_buildSlice (by simp only [aparts, lk] <;> rfl) (by simp only [aBuildSlice, ty124, ty107, Value.cells] <;> first | rfl | (simp only [tyall] <;> rfl) | (simp [tyall] <;> rfl))) rfl <| OSuf.callD rfl (by simp only [aopnds, lk] <;> rfl) en101 (first_c _ (h.next + 1) _ _ _ _ (by simp (disch := first | assumption | omega | (simp only [nx] <;> omega) | fail) only [hpl] <;> rfl) (cl1_v _ _ x (by simp (disch := first | assumption | omega | (simp only [nx] <;> omega) | fail) only [hpl] <;> rfl)) (cl2_v _ _ x (by simp (disch := first | assumption | omega | (simp only [nx] <;> omega) | fail) only [hpl] <;> rfl))) rfl <| OSuf.aop tyOK rfl za rfl <| OSuf.nil <| SQ.normal ?_
  refine CWp.ret <| FQ.ret (by simp only [aRet, Tryz.f76, aResults, aResult, lk, Nat.reduceEqDiff, reduceIte] <;> first | rfl | (simp only [tyall] <;> rfl) | (simp [tyall] <;> rfl)) ?_
  -- leaf: end
  refine ⟨?_, fun r o hr ho => by simp (disch := first | assumption | omega | (simp only [nx] <;> omega) | fail) only [hpl]; exact ho⟩
  simp only [mayE]
  split <;> split <;> simp_all
theorem stamp_c (h : AHeap) (n : Int) : FWp Tryz.prog 77 [U64 n] h fun u h' => u = .bool (decide (1 ≤ n ∧ n ≤ 1099511627776)) ∧ h' = h := by
  refine W.enter tyOK Tryz.func77 rfl rfl ?_
  simp only [entry]
  refine W.seq <| W.reg <| OSuf.aopF tyOK rfl za (fun _ => rfl) rfl <| OSuf.nil <| SQ.normal ?_
  refine W.seq <| W.reg <| OSuf.aop tyOK rfl sm rfl <| OSuf.aopB tyOK rfl (zb (hv := bi_geq)) (fun _ => rfl) (fun h1 => ?_) (fun h1 => ?_)
  · try simp only [bl] at h1
    refine OSuf.aopT tyOK rfl sm (fun _ => rfl) rfl <| OSuf.aop tyOK ag sm rfl <| OSuf.aop tyOK ag (zb (hv := bi_leq)) rfl <| OSuf.aop tyOK rfl (so_pick (by simp only [lk] <;> rfl) (by simp only [lk, cond_true, cond_false] <;> rfl)) rfl <| OSuf.aop tyOK rfl za rfl <| OSuf.nil <| SQ.normal ?_
    refine CWp.ret <| FQ.ret (by simp only [aRet, Tryz.f77, aResults, aResult, lk, Nat.reduceEqDiff, reduceIte] <;> first | rfl | (simp only [tyall] <;> rfl) | (simp [tyall] <;> rfl)) ?_
    exact ⟨by congr 1; rw [decide_eq_decide]; omega, rfl⟩
  · try simp only [bl] at h1
    refine OSuf.aopF tyOK rfl sm (fun _ => rfl) rfl <| OSuf.pass ag rfl <| OSuf.pass ag rfl <| OSuf.aopF tyOK rfl (so_pick (by simp only [lk] <;> rfl) (by simp only [lk, cond_true, cond_false] <;> rfl)) (fun _ => rfl) rfl <| OSuf.aopF tyOK rfl za (fun _ => rfl) rfl <| OSuf.nil <| SQ.normal ?_
    refine CWp.ret <| FQ.ret (by simp only [aRet, Tryz.f77, aResults, aResult, lk, Nat.reduceEqDiff, reduceIte] <;> first | rfl | (simp only [tyall] <;> rfl) | (simp [tyall] <;> rfl)) ?_
    exact ⟨by rw [decide_eq_false (by omega)], rfl⟩
theorem inside_c (h : AHeap) (p : Lf) (bv dv : Value) (k : List UInt8) : FWp Tryz.prog 78 [LV p bv dv, encS k] h fun u h' => u = .bool (insR p.low p.high k) ∧ h' = h := by
  refine FWp.gcs (.flat rfl) ?_
  have e0 := str_nil p.high
  have e1 := str_lt k p.low
  have e2 := str_lt k p.high
  refine W.enter tyOK Tryz.func78 rfl rfl ?_
  simp only [entry]
  refine W.seq <| W.reg <| OSuf.aop tyOK rfl (so_box (by simp only [lk] <;> rfl)) rfl <| OSuf.aopF tyOK rfl za (fun _ => rfl) rfl <| OSuf.nil <| SQ.normal ?_
  refine W.seq <| W.reg <| OSuf.aop tyOK rfl sm rfl <| OSuf.aop tyOK rfl (zf (hv := fa_ok (k := 0) ty25 rfl rfl ty9 rfl rfl)) rfl <| OSuf.aop tyOK rfl (zl (hv := by simp (disch := first | assumption | omega | (simp only [nx] <;> omega) | fail) only [aLoad, ty9, rowOf, hpl, Value.cells] <;> rfl)) rfl <| OSuf.aopB tyOK rfl (zb (hv := bs_geq)) (fun _ => rfl) (fun h1 => ?_) (fun h1 => ?_)
  · try simp only [bl] at h1
    refine OSuf.aopT tyOK rfl sm (fun _ => rfl) rfl <| OSuf.aop tyOK ag (zf (hv := fa_ok (k := 1) ty25 rfl rfl ty9 rfl rfl)) rfl <| OSuf.aop tyOK ag (zl (hv := by simp (disch := first | assumption | omega | (simp only [nx] <;> omega) | fail) only [aLoad, ty9, rowOf, hpl, Value.cells] <;> rfl)) rfl <| OSuf.aopB tyOK ag (zb (hv := bs_eql)) (fun _ => rfl) (fun h2 => ?_) (fun h2 => ?_)
    · try simp only [bl] at h2
      refine OSuf.aopT tyOK ag sm (fun _ => rfl) rfl <| OSuf.pass ag rfl <| OSuf.pass ag rfl <| OSuf.pass ag rfl <| OSuf.pass ag rfl <| OSuf.aopT tyOK ag (so_pick (by simp only [lk] <;> rfl) (by simp only [lk, cond_true, cond_false] <;> rfl)) (fun _ => rfl) rfl <| OSuf.aopT tyOK rfl (so_pick (by simp only [lk] <;> rfl) (by simp only [lk, cond_true, cond_false] <;> rfl)) (fun _ => rfl) rfl <| OSuf.aopT tyOK rfl za (fun _ => rfl) rfl <| OSuf.nil <| SQ.normal ?_
      refine CWp.ret <| FQ.ret (by simp only [aRet, Tryz.f78, aResults, aResult, lk, Nat.reduceEqDiff, reduceIte] <;> first | rfl | (simp only [tyall] <;> rfl) | (simp [tyall] <;> rfl)) ?_
      exact ⟨by simp [sst] at h1 h2; simp [insR, h1, h2], fun r o hr ho => by simp (disch := first | assumption | omega | (simp only [nx] <;> omega) | fail) only [hpl]; exact ho⟩
    · try simp only [bl] at h2
      refine OSuf.aopF tyOK ag sm (fun _ => rfl) rfl <| OSuf.aop tyOK ag sm rfl <| OSuf.aop tyOK ag (zf (hv := fa_ok (k := 1) ty25 rfl rfl ty9 rfl rfl)) rfl <| OSuf.aop tyOK ag (zl (hv := by simp (disch := first | assumption | omega | (simp only [nx] <;> omega) | fail) only [aLoad, ty9, rowOf, hpl, Value.cells] <;> rfl)) rfl <| OSuf.aop tyOK ag (zb (hv := bs_lss)) rfl <| OSuf.aop tyOK ag (so_pick (by simp only [lk] <;> rfl) (by simp only [lk, cond_true, cond_false] <;> rfl)) rfl <| OSuf.aop tyOK rfl (so_pick (by simp only [lk] <;> rfl) (by simp only [lk, cond_true, cond_false] <;> rfl)) rfl <| OSuf.aop tyOK rfl za rfl <| OSuf.nil <| SQ.normal ?_
      refine CWp.ret <| FQ.ret (by simp only [aRet, Tryz.f78, aResults, aResult, lk, Nat.reduceEqDiff, reduceIte] <;> first | rfl | (simp only [tyall] <;> rfl) | (simp [tyall] <;> rfl)) ?_
      exact ⟨by simp [sst] at h1 h2; simp [insR, h1, h2, sst], fun r o hr ho => by simp (disch := first | assumption | omega | (simp only [nx] <;> omega) | fail) only [hpl]; exact ho⟩
  · try simp only [bl] at h1
    refine OSuf.aopF tyOK rfl sm (fun _ => rfl) rfl <| OSuf.pass ag rfl <| OSuf.pass ag rfl <| OSuf.pass ag rfl <| OSuf.pass ag rfl <| OSuf.pass (aguard_un rfl rfl (by simp only [lk] <;> rfl)) rfl <| OSuf.pass (aguard_un rfl rfl (by simp only [lk] <;> rfl)) rfl <| OSuf.pass (aguard_un rfl rfl (by simp only [lk] <;> rfl)) rfl <| OSuf.pass (aguard_un rfl rfl (by simp only [lk] <;> rfl)) rfl <| OSuf.pass ag rfl <| OSuf.aopF tyOK rfl (so_pick (by simp only [lk] <;> rfl) (by simp only [lk, cond_true, cond_false] <;> rfl)) (fun _ => rfl) rfl <| OSuf.aopF tyOK rfl za (fun _ => rfl) rfl <| OSuf.nil <| SQ.normal ?_
    refine CWp.ret <| FQ.ret (by simp only [aRet, Tryz.f78, aResults, aResult, lk, Nat.reduceEqDiff, reduceIte] <;> first | rfl | (simp only [tyall] <;> rfl) | (simp [tyall] <;> rfl)) ?_
    exact ⟨by simp [sst] at h1; simp [insR, h1], fun r o hr ho => by simp (disch := first | assumption | omega | (simp only [nx] <;> omega) | fail) only [hpl]; exact ho⟩
theorem fits_c (h : AHeap) (p : Lf) (bv dv : Value) (x : Rec) : FWp Tryz.prog 38 [LV p bv dv, x.V] h fun u h' => u = .bool (fit p.low p.high x) ∧ h' = h := by
  refine FWp.gcs (.flat rfl) ?_
  refine W.enter tyOK Tryz.func38 rfl rfl ?_
  simp only [entry]
  have e0 := mayE_ok x
  have hs := stamp_c ((h.new (.cells (lcs p bv dv) 1)).new (.cells x.cs 1)) x.lsn
  have hi := inside_c ((h.new (.cells (lcs p bv dv) 1)).new (.cells x.cs 1)) p bv dv x.key
  by_cases c1 : 1 ≤ x.lsn ∧ x.lsn ≤ 1099511627776
  · rw [decide_eq_true c1] at hs
    refine W.seq <| W.reg <| OSuf.aop tyOK rfl (so_box (by simp only [lk] <;> rfl)) rfl <| OSuf.aop tyOK rfl (so_box (by simp only [lk] <;> rfl)) rfl <| OSuf.aopF tyOK rfl za (fun _ => rfl) rfl <| OSuf.nil <| SQ.normal ?_
    refine W.seq <| W.reg <| OSuf.aop tyOK rfl (zl (hv := by simp (disch := first | assumption | omega | (simp only [nx] <;> omega) | fail) only [aLoad, ty27, rowOf, hpl, Value.cells] <;> rfl)) rfl <| OSuf.callD rfl (by simp only [aopnds, lk] <;> rfl) en76 (may_c _ x) rfl <| OSuf.aopB tyOK rfl (zb (hv := bi_eql)) (fun _ => rfl) (fun h1 => ?_) (fun h1 => ?_)
    · try simp only [bl] at h1
      refine OSuf.aopT tyOK rfl sm (fun _ => rfl) rfl <| OSuf.aop tyOK ag (zf (hv := fa_ok (k := 1) ty27 rfl rfl ty22 rfl rfl)) rfl <| OSuf.aop tyOK ag (zl (hv := by simp (disch := first | assumption | omega | (simp only [nx] <;> omega) | fail) only [aLoad, ty22, rowOf, hpl, Value.cells] <;> rfl)) rfl <| OSuf.callD ag (by simp only [aopnds, lk] <;> rfl) en77 (hs) rfl <| OSuf.aopT tyOK rfl (so_pick (by simp only [lk] <;> rfl) (by simp only [lk, cond_true, cond_false] <;> rfl)) (fun _ => rfl) rfl <| OSuf.aopT tyOK rfl sm (fun _ => rfl) rfl <| OSuf.aop tyOK ag (zl (hv := by simp (disch := first | assumption | omega | (simp only [nx] <;> omega) | fail) only [aLoad, ty25, rowOf, hpl, Value.cells] <;> rfl)) rfl <| OSuf.aop tyOK ag (zf (hv := fa_ok (k := 0) ty27 rfl rfl ty9 rfl rfl)) rfl <| OSuf.aop tyOK ag (zl (hv := by simp (disch := first | assumption | omega | (simp only [nx] <;> omega) | fail) only [aLoad, ty9, rowOf, hpl, Value.cells] <;> rfl)) rfl <| OSuf.callD ag (by simp only [aopnds, lk] <;> rfl) en78 (hi) rfl <| OSuf.aop tyOK rfl (so_pick (by simp only [lk] <;> rfl) (by simp only [lk, cond_true, cond_false] <;> rfl)) rfl <| OSuf.aop tyOK rfl za rfl <| OSuf.nil <| SQ.normal ?_
      refine CWp.ret <| FQ.ret (by simp only [aRet, Tryz.f38, aResults, aResult, lk, Nat.reduceEqDiff, reduceIte] <;> first | rfl | (simp only [tyall] <;> rfl) | (simp [tyall] <;> rfl)) ?_
      exact ⟨by have e1 : mayR x = true := (by rw [← e0]; simpa using h1); simp [fit, e1, c1], fun r o hr ho => by simp (disch := first | assumption | omega | (simp only [nx] <;> omega) | fail) only [hpl]; exact ho⟩
    · try simp only [bl] at h1
      refine OSuf.aopF tyOK rfl sm (fun _ => rfl) rfl <| OSuf.pass ag rfl <| OSuf.pass ag rfl <| OSuf.pass ag rfl <| OSuf.aopF tyOK rfl (so_pick (by simp only [lk] <;> rfl) (by simp only [lk, cond_true, cond_false] <;> rfl)) (fun _ => rfl) rfl <| OSuf.aopF tyOK rfl sm (fun _ => rfl) rfl <| OSuf.pass ag rfl <| OSuf.pass ag rfl <| OSuf.pass ag rfl <| OSuf.pass ag rfl <| OSuf.aopF tyOK rfl (so_pick (by simp only [lk] <;> rfl) (by simp only [lk, cond_true, cond_false] <;> rfl)) (fun _ => rfl) rfl <| OSuf.aopF tyOK rfl za (fun _ => rfl) rfl <| OSuf.nil <| SQ.normal ?_
      refine CWp.ret <| FQ.ret (by simp only [aRet, Tryz.f38, aResults, aResult, lk, Nat.reduceEqDiff, reduceIte] <;> first | rfl | (simp only [tyall] <;> rfl) | (simp [tyall] <;> rfl)) ?_
      exact ⟨by have e1 : mayR x = false := (by rw [← e0]; simpa using h1); simp [fit, e1], fun r o hr ho => by simp (disch := first | assumption | omega | (simp only [nx] <;> omega) | fail) only [hpl]; exact ho⟩
  · rw [decide_eq_false c1] at hs
    refine W.seq <| W.reg <| OSuf.aop tyOK rfl (so_box (by simp only [lk] <;> rfl)) rfl <| OSuf.aop tyOK rfl (so_box (by simp only [lk] <;> rfl)) rfl <| OSuf.aopF tyOK rfl za (fun _ => rfl) rfl <| OSuf.nil <| SQ.normal ?_
    refine W.seq <| W.reg <| OSuf.aop tyOK rfl (zl (hv := by simp (disch := first | assumption | omega | (simp only [nx] <;> omega) | fail) only [aLoad, ty27, rowOf, hpl, Value.cells] <;> rfl)) rfl <| OSuf.callD rfl (by simp only [aopnds, lk] <;> rfl) en76 (may_c _ x) rfl <| OSuf.aopB tyOK rfl (zb (hv := bi_eql)) (fun _ => rfl) (fun h1 => ?_) (fun h1 => ?_)
    · try simp only [bl] at h1
      refine OSuf.aopT tyOK rfl sm (fun _ => rfl) rfl <| OSuf.aop tyOK ag (zf (hv := fa_ok (k := 1) ty27 rfl rfl ty22 rfl rfl)) rfl <| OSuf.aop tyOK ag (zl (hv := by simp (disch := first | assumption | omega | (simp only [nx] <;> omega) | fail) only [aLoad, ty22, rowOf, hpl, Value.cells] <;> rfl)) rfl <| OSuf.callD ag (by simp only [aopnds, lk] <;> rfl) en77 (hs) rfl <| OSuf.aopF tyOK rfl (so_pick (by simp only [lk] <;> rfl) (by simp only [lk, cond_true, cond_false] <;> rfl)) (fun _ => rfl) rfl <| OSuf.aopF tyOK rfl sm (fun _ => rfl) rfl <| OSuf.pass ag rfl <| OSuf.pass ag rfl <| OSuf.pass ag rfl <| OSuf.pass ag rfl <| OSuf.aopF tyOK rfl (so_pick (by simp only [lk] <;> rfl) (by simp only [lk, cond_true, cond_false] <;> rfl)) (fun _ => rfl) rfl <| OSuf.aopF tyOK rfl za (fun _ => rfl) rfl <| OSuf.nil <| SQ.normal ?_
      refine CWp.ret <| FQ.ret (by simp only [aRet, Tryz.f38, aResults, aResult, lk, Nat.reduceEqDiff, reduceIte] <;> first | rfl | (simp only [tyall] <;> rfl) | (simp [tyall] <;> rfl)) ?_
      exact ⟨by simp [fit, c1], fun r o hr ho => by simp (disch := first | assumption | omega | (simp only [nx] <;> omega) | fail) only [hpl]; exact ho⟩
    · try simp only [bl] at h1
      refine OSuf.aopF tyOK rfl sm (fun _ => rfl) rfl <| OSuf.pass ag rfl <| OSuf.pass ag rfl <| OSuf.pass ag rfl <| OSuf.aopF tyOK rfl (so_pick (by simp only [lk] <;> rfl) (by simp only [lk, cond_true, cond_false] <;> rfl)) (fun _ => rfl) rfl <| OSuf.aopF tyOK rfl sm (fun _ => rfl) rfl <| OSuf.pass ag rfl <| OSuf.pass ag rfl <| OSuf.pass ag rfl <| OSuf.pass ag rfl <| OSuf.aopF tyOK rfl (so_pick (by simp only [lk] <;> rfl) (by simp only [lk, cond_true, cond_false] <;> rfl)) (fun _ => rfl) rfl <| OSuf.aopF tyOK rfl za (fun _ => rfl) rfl <| OSuf.nil <| SQ.normal ?_
      refine CWp.ret <| FQ.ret (by simp only [aRet, Tryz.f38, aResults, aResult, lk, Nat.reduceEqDiff, reduceIte] <;> first | rfl | (simp only [tyall] <;> rfl) | (simp [tyall] <;> rfl)) ?_
      exact ⟨by have e1 : mayR x = false := (by rw [← e0]; simpa using h1); simp [fit, e1], fun r o hr ho => by simp (disch := first | assumption | omega | (simp only [nx] <;> omega) | fail) only [hpl]; exact ho⟩
end Go.Proofs.YtebheelmgcggmaaGreat
namespace Go.Proofs.YtebheelmgcggmaaGreat
open Go.Ab Go.Sort
set_option linter.unusedSimpArgs false
set_option linter.unusedVariables false
set_option maxRecDepth 10000
set_option maxHeartbeats 4000000
theorem sb : (∀ p : Prop, (p ∧ p) = p) ∧ (∀ {α : Type} {d : Decidable True} (a b : α), @ite α True d a b = a) ∧ (∀ n : Nat, (n : Int).toNat = n) ∧ (∀ n : Nat, 0 + n = n) ∧ (∀ n : Nat, n + 0 = n) ∧ (∀ n : Nat, n * 1 = n) := ⟨fun p => and_self p, fun {α d} a b => by simp, fun n => Int.toNat_natCast n, Nat.zero_add, Nat.add_zero, Nat.mul_one⟩
theorem new_set (h : AHeap) (o o' : AObj) : (h.new o).set h.next o' = h.new o' := congrArg (AHeap.mk _) (Tr.put_put _ _ _ _)
theorem rcl : (∀ (a b c d : Value) (x : Rec), splice [a, b, c, d] 0 x.cs = x.cs) ∧ (∀ x : Rec, List.take 4 (List.drop 0 x.cs) = x.cs) ∧ (∀ (h : AHeap) (o o' : AObj), (h.new o).set h.next o' = h.new o') := ⟨fun _ _ _ _ _ => rfl, fun _ => rfl, new_set⟩
theorem cellsOf_sub {vs l x : List Value} {off m a b : Nat} (h1 : cellsOf vs off m = some l) (h2 : cellsOf l a b = some x) : cellsOf vs (off + a) b = some x := by
  obtain ⟨p1, rfl, p3⟩ := cellsOf_some h1
  obtain ⟨q1, rfl, q3⟩ := cellsOf_some h2
  have : a + b ≤ m := by simp at q1; omega
  rw [cellsOf_mk (by omega), List.drop_take, List.take_take, List.drop_drop, Nat.min_eq_left (by omega)]
theorem cellsOf_get {vs l : List Value} {off m i : Nat} {v : Value} (h1 : cellsOf vs off m = some l) (h2 : l[i]? = some v) : vs[off + i]? = some v := by
  obtain ⟨p1, rfl, p3⟩ := cellsOf_some h1
  have hi : i < ((vs.drop off).take m).length := (List.getElem?_eq_some_iff.1 h2).1
  rw [List.getElem?_take_of_lt (by simp at hi; omega), List.getElem?_drop] at h2
  exact h2
structure RG (h : AHeap) (sz n : Nat) (cs : List Value) (v : Value) : Prop where
  ex : ∃ b c, v = .slice b n c ∧ ((b = none ∧ n = 0 ∧ c = 0) ∨ ∃ r off, b = some ⟨r, off, none⟩ ∧ (n ≠ 0 → r < h.next ∧ ∃ vs, rowOf h r = some vs ∧ cellsOf vs off (n * sz) = some cs))
noncomputable abbrev RS (h : AHeap) (l : List Rec) (v : Value) : Prop := RG h 4 l.length (fl l) v
theorem rowOf_eq {h h' : AHeap} {r : Nat} (e : h'.get r = h.get r) : rowOf h' r = rowOf h r := by simp only [rowOf, e]
theorem RG.mono {h h' : AHeap} {sz n : Nat} {cs : List Value} {v : Value} (s : RG h sz n cs v) (hn : h.next ≤ h'.next) (hk : ∀ z, z < h.next → h'.get z = h.get z) : RG h' sz n cs v := by
  obtain ⟨b, c, e, hr⟩ := s.ex
  refine ⟨b, c, e, hr.imp id ?_⟩
  rintro ⟨r, off, h1, h2⟩
  exact ⟨r, off, h1, fun h0 => let ⟨h2, vs, h3, h4⟩ := h2 h0; ⟨by omega, vs, by rw [rowOf_eq (hk r h2)]; exact h3, h4⟩⟩
theorem RG.at_ {h : AHeap} {sz n m : Nat} {cs : List Value} {b : Option Addr} {c : Nat} (s : RG h sz n cs (.slice b m c)) {i : Nat} (hi : i < n) : m = n ∧ ∃ r off, b = some ⟨r, off, none⟩ ∧ r < h.next ∧ ∀ h' : AHeap, h'.get r = h.get r →
    (∀ (t : TypeId) (ti : TI) (xs : List Value), T.get t = some ti → ti.agg = true → cellsOf cs (i * sz) ti.size = some xs → aLoad T t (PA r (off + i * sz)) h' = some (.agg xs.toArray)) ∧
    (∀ (j : Nat) (t : TypeId) (ti : TI) (v : Value), T.get t = some ti → ti.agg = false → cs[i * sz + j]? = some v → aLoad T t (PA r (off + i * sz + j)) h' = some v) := by
  obtain ⟨b', c', e, hr⟩ := s.ex
  cases e
  rcases hr with ⟨_, hr, _⟩ | ⟨r, off, h1, hr⟩
  · omega
  obtain ⟨h2, vs, h3, h4⟩ := hr (by omega)
  refine ⟨rfl, r, off, h1, h2, fun h' he => ⟨fun t ti xs ht ha hc => ?_, fun j t ti v ht ha hc => ?_⟩⟩
  · simp only [aLoad, ht, rowOf_eq he, h3, ha, cond_true, cellsOf_sub h4 hc, Option.map_some]
  · simp only [aLoad, ht, rowOf_eq he, h3, ha, cond_false]
    have := cellsOf_get h4 hc
    rwa [← Nat.add_assoc] at this
theorem RS.at_ {h : AHeap} {l : List Rec} {m : Nat} {b : Option Addr} {c : Nat} (s : RS h l (.slice b m c)) {i : Nat} {x : Rec} (hx : l[i]? = some x) : m = l.length ∧ ∃ r off, b = some ⟨r, off, none⟩ ∧ r < h.next ∧ ∀ h' : AHeap, h'.get r = h.get r →
    (∀ (t : TypeId) (ti : TI), T.get t = some ti → ti.agg = true → ti.size = 4 → aLoad T t (PA r (off + i * 4)) h' = some x.V) ∧
    (∀ (j : Nat) (t : TypeId) (ti : TI) (v : Value), T.get t = some ti → ti.agg = false → x.cs[j]? = some v → aLoad T t (PA r (off + i * 4 + j)) h' = some v) := by
  have hi := (List.getElem?_eq_some_iff.1 hx).1
  obtain ⟨h1, r, off, h2, h3, h4⟩ := RG.at_ s hi
  refine ⟨h1, r, off, h2, h3, fun h' he => ⟨fun t ti ht ha hs => (h4 h' he).1 t ti _ ht ha (by rw [hs]; exact fl_get hx), fun j t ti v ht ha hv => (h4 h' he).2 j t ti v ht ha ?_⟩⟩
  have hj : j < 4 := by
    have := (List.getElem?_eq_some_iff.1 hv).1
    rwa [csn] at this
  rw [fl_at hx hj]; exact hv
theorem RG.form {h : AHeap} {sz n : Nat} {cs : List Value} {v : Value} (s : RG h sz n cs v) : ∃ b c, v = .slice b n c := let ⟨b, c, e, _⟩ := s.ex; ⟨b, c, e⟩
theorem all_c (h : AHeap) (p : Lf) (bv dv : Value) : FWp Tryz.prog 45 [LV p bv dv] h fun u h' => u = .func (.func 86) #[] #[P0 h.next] ∧ h' = h.new (.cells (lcs p bv dv) 1) := by
  refine W.enter tyOK Tryz.func45 rfl rfl ?_
  simp only [entry]
  refine W.seq <| W.reg <| OSuf.aop tyOK rfl (so_box (by simp only [lk] <;> rfl)) rfl <| OSuf.aop tyOK rfl za rfl <| OSuf.nil <| SQ.normal ?_
  refine W.seq <| W.reg <| OSuf.aop tyOK rfl (so_makeFunc rfl (by simp only [aopnds, lk] <;> rfl) (by simp only [aopnds, lk] <;> rfl)) rfl <| OSuf.aop tyOK rfl za rfl <| OSuf.nil <| SQ.normal ?_
  refine CWp.ret <| FQ.ret (by simp only [aRet, Tryz.f45, aResults, aResult, lk, Nat.reduceEqDiff, reduceIte] <;> first | rfl | (simp only [tyall] <;> rfl) | (simp [tyall] <;> rfl)) ?_
  -- leaf: end
  exact ⟨rfl, rfl⟩
theorem all1_c (h : AHeap) (p : Lf) (bv dv yv : Value) (q : Nat) (hq : h.get q = some (.cells (lcs p bv dv) 1)) (J : List Rec → AHeap → Prop) (S : AHeap → Prop)
    (j0 : J [] (h.new (.cells [bv, dv] 1))) (jn : ∀ pre g o, J pre g → J pre (g.new o)) (jr : ∀ pre g, J pre g → RS g p.base bv ∧ RS g p.deltas dv ∧ g.get h.next = some (.cells [bv, dv] 1)) (hlb : p.base.length ≤ 1000000) (hld : p.deltas.length ≤ 1000000)
    (yield : ∀ pre x post, pre ++ x :: post = p.all → ∀ g, J pre g → (VWp Tryz.prog yv [x.V] g fun u g' => u = .bool true ∧ J (pre ++ [x]) g') ∨ (VWp Tryz.prog yv [x.V] g fun u g' => u = .bool false ∧ S g')) :
    FWp Tryz.prog 86 [yv, P0 q] h fun u g => u = .tuple #[] ∧ (J p.all g ∨ S g) := by
  have tb86 := And.intro ty23 (And.intro ty25 (And.intro ty27 (ty95)))
  obtain ⟨r1, r2, r3⟩ := jr _ _ j0
  obtain ⟨b1, c1, rfl⟩ := r1.form
  obtain ⟨b2, c2, rfl⟩ := r2.form
  obtain ⟨SV, hSV⟩ : ∃ SV : Value, SV = .slice (some ⟨h.next, 0, none⟩) 2 3 := ⟨_, rfl⟩
  refine W.enter tyOK Tryz.func86 rfl rfl ?_
  simp only [entry]
  refine W.seq <| W.reg <| OSuf.aop tyOK rfl (zf (hv := fa_ok (k := 3) ty25 rfl rfl ty23 rfl rfl)) rfl <| OSuf.aop tyOK rfl (zl (hv := by simp (disch := first | assumption | omega | (simp only [nx] <;> omega) | fail) only [aLoad, ty23, rowOf, hpl, hq, Value.cells] <;> rfl)) rfl <| OSuf.aop tyOK rfl (zf (hv := fa_ok (k := 4) ty25 rfl rfl ty23 rfl rfl)) rfl <| OSuf.aop tyOK rfl (zl (hv := by simp (disch := first | assumption | omega | (simp only [nx] <;> omega) | fail) only [aLoad, ty23, rowOf, hpl, hq, Value.cells] <;> rfl)) rfl <| OSuf.aop tyOK rfl (so_buildSlice (by simp only [aparts, lk] <;> rfl) (by simp only [aBuildSlice, ty95, ty23, hq, Value.cells, places, tb86] <;> first | rfl | (simp only [tyall] <;> rfl) | (simp [tyall] <;> rfl))) rfl <| OSuf.aop tyOK rfl (so_len (by simp only [aopnds, lk] <;> rfl) (by simp (disch := first | assumption | omega | (simp only [nx] <;> omega) | fail) only [aLenOf, ty95, hpl, hq, Value.cells, places, tb86] <;> rfl)) rfl <| OSuf.aop tyOK rfl sm rfl <| OSuf.nil <| SQ.normal ?_
  -- leaf: loop
  obtain ⟨pr, hpr⟩ : ∃ pr : Nat → List Rec, pr = fun i => if i = 0 then [] else if i = 1 then p.base else p.all := ⟨_, rfl⟩
  refine W.cut (fun L h' => J p.all h' ∧ L = []) (W.block (W.loop (fun m L h' => ∃ i : Nat, m + i = 2 ∧ J (pr i) h' ∧ L = [(0, yv), (11, .slice (some ⟨h.next, 0, none⟩) 2 3), (12, I64 2), (13, I64 i)]) (n := 2) ⟨0, rfl, by rw [hpr]; exact j0, rfl⟩ ?_ ?_)) ?_
  · simp [HasA, Tr.get_put]
  · rintro m L g ⟨i, hm, hJ, rfl⟩
    simp only [mkA]
    have w2 : IntKind.i64.wrap ((i : Int) + 1) = ((i + 1 : Nat) : Int) := by rw [wrap_i64 (by omega) (by omega)]; omega
    by_cases hi : (i : Int) < (2 : Int)
    · obtain ⟨l, b, c, k1, k2, k3, k4⟩ : ∃ l b c, [Value.slice b1 p.base.length c1, Value.slice b2 p.deltas.length c2][i]? = some (.slice b l.length c) ∧ pr (i + 1) = pr i ++ l ∧ (∀ pre g, J pre g → RS g l (.slice b l.length c)) ∧ l.length ≤ 1000000 := by
        obtain rfl | rfl : i = 0 ∨ i = 1 := by omega
        · exact ⟨p.base, b1, c1, rfl, by rw [hpr]; rfl, fun pre g hg => (jr pre g hg).1, hlb⟩
        · exact ⟨p.deltas, b2, c2, rfl, by rw [hpr]; rfl, fun pre g hg => (jr pre g hg).2.1, hld⟩
      have hpa : ∃ post, pr (i + 1) ++ post = p.all := by
        obtain rfl | rfl : i = 0 ∨ i = 1 := by omega
        · exact ⟨p.deltas, by rw [hpr]; rfl⟩
        · exact ⟨[], by rw [hpr]; simp⟩
      have r3 := (jr _ _ hJ).2.2
      have hc : (0 ≤ (i : Int) ∧ (i : Int) < ((2 : Nat) : Int)) := by omega
      refine W.seq <| W.reg <| OSuf.aopT tyOK rfl (zb (hv := bi_lss)) (fun _ => rfl) (by first | rfl | assumption | ((simp only [bl, r3, hc, sb, k1, tb86]) <;> first | done | assumption | omega) | (simp; done) | (simp; omega)) <| OSuf.nil <| SQ.normal ?_
      refine W.seq <| W.yes (by simp only [lk] <;> rfl) <| CWp.skip <| SQ.normal ?_
      refine W.seq <| W.block <| W.seq <| W.reg <| OSuf.aop tyOK rfl (zi (hv := by simp (disch := first | assumption | omega | (simp only [nx] <;> omega) | fail) only [aIndexAddr, ty95, ty23, hpl, r3, hc, sb, k1, tb86] <;> rfl)) rfl <| OSuf.aop tyOK rfl (zl (hv := by simp (disch := first | assumption | omega | (simp only [nx] <;> omega) | fail) only [aLoad, ty23, rowOf, hpl, r3, hc, sb, k1] <;> rfl)) rfl <| OSuf.aop tyOK rfl za rfl <| OSuf.nil <| SQ.normal ?_
      refine W.seq <| W.reg <| OSuf.aop tyOK rfl sm rfl <| OSuf.aop tyOK rfl (so_len (by simp only [aopnds, lk] <;> rfl) (by simp (disch := first | assumption | omega | (simp only [nx] <;> omega) | fail) only [aLenOf, ty23, hpl, r3, hc, sb, k1, tb86] <;> rfl)) rfl <| OSuf.aop tyOK rfl sm rfl <| OSuf.nil <| SQ.normal ?_
      -- leaf: loop
      refine W.cut (fun L h' => J (pr (i + 1)) h' ∧ L = [(0, yv), (11, .slice (some ⟨h.next, 0, none⟩) 2 3), (12, I64 2), (13, I64 i)]) (W.block (W.loop (fun m L h' => ∃ k : Nat, m + k = l.length ∧ J (pr i ++ l.take k) h' ∧ L = [(0, yv), (11, .slice (some ⟨h.next, 0, none⟩) 2 3), (12, I64 2), (13, I64 i), (17, .slice b l.length c), (18, I64 l.length), (19, I64 k)]) (n := l.length) ⟨0, by omega, by simpa using hJ, rfl⟩ ?_ ?_)) ?_
      · simp [HasA, Tr.get_put]
      · rintro m2 L g2 ⟨k, hm2, hJ2, rfl⟩
        simp only [mkA]
        have w3 : IntKind.i64.wrap ((k : Int) + 1) = ((k + 1 : Nat) : Int) := by rw [wrap_i64 (by omega) (by omega)]; omega
        by_cases hk : (k : Int) < (l.length : Int)
        · obtain ⟨x, hx⟩ : ∃ x, l[k]? = some x := ⟨l[k]'(by omega), by simp⟩
          have hck : (0 ≤ (k : Int) ∧ (k : Int) < (l.length : Int)) := by omega
          obtain ⟨_, r, off, rfl, hr1, hr2⟩ := RS.at_ (k3 _ _ hJ2) hx
          obtain ⟨post, hpost⟩ := hpa
          have htk : l.take (k + 1) = l.take k ++ [x] := by rw [List.take_add_one, hx]; rfl
          have hsplit : (pr i ++ l.take k) ++ x :: (l.drop (k + 1) ++ post) = p.all := by
            have e1 : l = l.take k ++ x :: l.drop (k + 1) := by
              conv => lhs; rw [← List.take_append_drop k l, List.drop_eq_getElem_cons (by omega)]
              rw [(List.getElem?_eq_some_iff.1 hx).2]
            rw [← hpost, k2]
            conv => rhs; rw [e1]
            simp
          rcases yield _ _ _ hsplit _ (jn _ _ (.cells x.cs 1) hJ2) with hy | hy
          · refine W.seq <| W.reg <| OSuf.aopT tyOK rfl (zb (hv := bi_lss)) (fun _ => rfl) (by first | rfl | assumption | ((simp only [bl, hck, sb, rcl, Value.cells, tb86]) <;> first | done | assumption | omega) | (simp; done) | (simp; omega)) <| OSuf.nil <| SQ.normal ?_
            refine W.seq <| W.yes (by simp only [lk] <;> rfl) <| CWp.skip <| SQ.normal ?_
            refine W.seq <| W.block <| W.seq <| W.reg <| OSuf.aop tyOK rfl (zi (hv := by simp (disch := first | assumption | omega | (simp only [nx] <;> omega) | fail) only [aIndexAddr, ty23, ty27, hpl, hck, sb, rcl, Value.cells, tb86] <;> rfl)) rfl <| OSuf.aop tyOK rfl (zl (hv := (hr2 _ rfl).1 _ _ ty27 rfl rfl)) rfl <| OSuf.aop tyOK rfl (so_alloc (by simp only [aAlloc, ty27] <;> rfl)) rfl <| OSuf.aop tyOK rfl (zs (hv := by simp (disch := first | assumption | omega | (simp only [nx] <;> omega) | fail) only [aStore, ty27, writeRow, hpl, hck, sb, rcl, Value.cells] <;> rfl)) rfl <| OSuf.nil <| SQ.normal ?_
            refine W.seq <| W.reg <| OSuf.aop tyOK rfl sm rfl <| OSuf.aop tyOK rfl (zl (hv := by simp (disch := first | assumption | omega | (simp only [nx] <;> omega) | fail) only [aLoad, ty27, rowOf, hpl, hck, sb, rcl, Value.cells] <;> rfl)) rfl <| OSuf.vcall rfl (by simp only [lk] <;> rfl) (by simp only [aopnds, lk] <;> rfl) (hy) ?_
            rintro _ g3 ⟨rfl, hJ3⟩
            refine ⟨_, rfl, ?_⟩
            refine OSuf.aopF tyOK rfl (so_not (by simp only [lk] <;> rfl)) (fun _ => rfl) rfl <| OSuf.nil <| SQ.normal ?_
            refine W.no (by simp only [lk] <;> rfl) <| CWp.skip <| BQ.normal <| SQ.normal ?_
            refine W.reg <| OSuf.aop tyOK rfl (zb (hv := bi_w bi_add (by first | (simp only [w3, w3] <;> rfl) | rfl))) rfl <| OSuf.aop tyOK rfl sm rfl <| OSuf.nil <| ?_
            -- leaf: round
            refine LQ.normal (m := m2 - 1) (L := [(0, yv), (11, .slice (some ⟨h.next, 0, none⟩) 2 3), (12, I64 2), (13, I64 i), (17, .slice (some ⟨r, off, none⟩) l.length c), (18, I64 l.length), (19, I64 ((k + 1 : Nat) : Int))]) (by omega) ?_ ⟨k + 1, by omega, by rw [htk, ← List.append_assoc]; exact hJ3, rfl⟩
            simp only [HasA, Tr.get_put, Nat.reduceEqDiff, reduceIte, w3, and_self]
          · refine W.seq <| W.reg <| OSuf.aopT tyOK rfl (zb (hv := bi_lss)) (fun _ => rfl) (by first | rfl | assumption | ((simp only [bl, hck, sb, rcl, Value.cells, tb86]) <;> first | done | assumption | omega) | (simp; done) | (simp; omega)) <| OSuf.nil <| SQ.normal ?_
            refine W.seq <| W.yes (by simp only [lk] <;> rfl) <| CWp.skip <| SQ.normal ?_
            refine W.seq <| W.block <| W.seq <| W.reg <| OSuf.aop tyOK rfl (zi (hv := by simp (disch := first | assumption | omega | (simp only [nx] <;> omega) | fail) only [aIndexAddr, ty23, ty27, hpl, hck, sb, rcl, Value.cells, tb86] <;> rfl)) rfl <| OSuf.aop tyOK rfl (zl (hv := (hr2 _ rfl).1 _ _ ty27 rfl rfl)) rfl <| OSuf.aop tyOK rfl (so_alloc (by simp only [aAlloc, ty27] <;> rfl)) rfl <| OSuf.aop tyOK rfl (zs (hv := by simp (disch := first | assumption | omega | (simp only [nx] <;> omega) | fail) only [aStore, ty27, writeRow, hpl, hck, sb, rcl, Value.cells] <;> rfl)) rfl <| OSuf.nil <| SQ.normal ?_
            refine W.seq <| W.reg <| OSuf.aop tyOK rfl sm rfl <| OSuf.aop tyOK rfl (zl (hv := by simp (disch := first | assumption | omega | (simp only [nx] <;> omega) | fail) only [aLoad, ty27, rowOf, hpl, hck, sb, rcl, Value.cells] <;> rfl)) rfl <| OSuf.vcall rfl (by simp only [lk] <;> rfl) (by simp only [aopnds, lk] <;> rfl) (hy) ?_
            rintro _ g3 ⟨rfl, hS⟩
            refine ⟨_, rfl, ?_⟩
            refine OSuf.aopT tyOK rfl (so_not (by simp only [lk] <;> rfl)) (fun _ => rfl) rfl <| OSuf.nil <| SQ.normal ?_
            refine W.yes (by simp only [lk] <;> rfl) <| CWp.ret <| BQ.ret <| SQ.ret <| LQ.ret <| BQ.ret <| NQ.ret <| BQ.ret <| SQ.ret <| LQ.ret <| BQ.ret <| NQ.ret <| FQ.ret (by simp only [aRet, Tryz.f86, aResults, aResult, lk, Nat.reduceEqDiff, reduceIte] <;> first | rfl | (simp only [tyall] <;> rfl) | (simp [tyall] <;> rfl)) ?_
            -- leaf: end
            exact ⟨rfl, .inr hS⟩
        · refine W.seq <| W.reg <| OSuf.aopF tyOK rfl (zb (hv := bi_lss)) (fun _ => rfl) (by first | rfl | assumption | ((simp only [bl]) <;> first | done | assumption | omega) | (simp; done) | (simp; omega)) <| OSuf.nil <| SQ.normal ?_
          refine W.seq <| W.no (by simp only [lk] <;> rfl) <| CWp.exit <| SQ.exit <| LQ.exit <| BQ.exit <| ?_
          -- leaf: cut
          refine NQ.normal (L := [(0, yv), (11, .slice (some ⟨h.next, 0, none⟩) 2 3), (12, I64 2), (13, I64 i)]) ?_ ⟨?_, rfl⟩
          · simp only [HasA, Tr.get_put, Nat.reduceEqDiff, reduceIte, and_self]
          · rw [k2]; rw [List.take_of_length_le (by omega)] at hJ2; exact hJ2
      rintro L a' h' ha ⟨hJ2, rfl⟩
      refine BQ.normal <| SQ.normal <| CWp.known ha ?_
      simp only [mkA]
      refine W.reg <| OSuf.aop tyOK rfl (zb (hv := bi_w bi_add (by first | (simp only [w2] <;> rfl) | rfl))) rfl <| OSuf.aop tyOK rfl sm rfl <| OSuf.nil <| ?_
      -- leaf: round
      refine LQ.normal (m := m - 1) (L := [(0, yv), (11, .slice (some ⟨h.next, 0, none⟩) 2 3), (12, I64 2), (13, I64 ((i + 1 : Nat) : Int))]) (by omega) ?_ ⟨i + 1, by omega, hJ2, rfl⟩
      simp only [HasA, Tr.get_put, Nat.reduceEqDiff, reduceIte, w2, and_self]
    · refine W.seq <| W.reg <| OSuf.aopF tyOK rfl (zb (hv := bi_lss)) (fun _ => rfl) (by first | rfl | assumption | ((simp only [bl]) <;> first | done | assumption | omega) | (simp; done) | (simp; omega)) <| OSuf.nil <| SQ.normal ?_
      refine W.seq <| W.no (by simp only [lk] <;> rfl) <| CWp.exit <| SQ.exit <| LQ.exit <| BQ.exit <| ?_
      -- leaf: cut
      refine NQ.normal (L := []) trivial ⟨?_, rfl⟩
      have : i = 2 := by omega
      rw [this, hpr] at hJ; exact hJ
  rintro L a' h' ha ⟨hJ, rfl⟩
  exact FQ.normal (by simp only [aRet, Tryz.f86, aResults] <;> first | rfl | (simp only [tyall] <;> rfl) | (simp [tyall] <;> rfl)) ⟨rfl, .inl hJ⟩
end Go.Proofs.YtebheelmgcggmaaGreat
namespace Go.Proofs.YtebheelmgcggmaaGreat
open Go.Ab Go.Sort
set_option linter.unusedSimpArgs false
set_option linter.unusedVariables false
set_option maxRecDepth 10000
set_option maxHeartbeats 4000000
theorem W.join {P : Program} {cx : Cx} {c Z : Code} {a : Tr Value} {h : AHeap} {Q Q' : AExit → Tr Value → AHeap → Prop} (R : List (Nat × Value) → AHeap → Prop) (hc : (∀ L a' h', HasA a' L → R L h' → CWp P cx Z a' h' Q') → CWp P cx c a h Q)
    (hz : ∀ L h', R L h' → CWp P cx Z (mkA L) h' Q') : CWp P cx c a h Q := hc fun L a' h' ha hr => CWp.known ha (hz L h' hr)
theorem risB_of {lt : Rec → Rec → Bool} : ∀ {l : List Rec}, (∀ j a b, l[j]? = some a → l[j + 1]? = some b → lt a b = true) → risB lt l = true
  | [], _ => rfl
  | [a], _ => rfl
  | a :: b :: l, h => by
    simp only [risB, Bool.and_eq_true]
    exact ⟨h 0 a b rfl rfl, risB_of fun j x y hx hy => h (j + 1) x y hx hy⟩
theorem risB_not {lt : Rec → Rec → Bool} : ∀ {l : List Rec} {j : Nat} {a b : Rec}, l[j]? = some a → l[j + 1]? = some b → lt a b = false → risB lt l = false
  | [], _, _, _, h, _, _ => by simp at h
  | [x], j, a, b, h1, h2, _ => by simp at h2
  | x :: y :: l, 0, a, b, h1, h2, h3 => by
    simp at h1 h2; subst h1 h2
    simp [risB, h3]
  | x :: y :: l, j + 1, a, b, h1, h2, h3 => by
    have := risB_not (l := y :: l) (j := j) h1 h2 h3
    simp [risB, this]
theorem rising_c (h : AHeap) (l : List Rec) (v fv : Value) (lt : Rec → Rec → Bool) (hs : RS h l v) (hf : ∀ a b, VWp Tryz.prog fv [a.V, b.V] h fun u h' => u = .bool (lt a b) ∧ h' = h) (hl : l.length ≤ 1000000) :
    FWp Tryz.prog 46 [v, fv] h fun u h' => u = .bool (risB lt l) ∧ h' = h := by
  obtain ⟨b, c, rfl⟩ := hs.form
  refine W.enter tyOK Tryz.func46 rfl rfl ?_
  simp only [entry]
  refine W.seq <| W.reg <| OSuf.aopF tyOK rfl za (fun _ => rfl) rfl <| OSuf.nil <| SQ.normal ?_
  refine W.seq <| W.seq <| W.reg <| OSuf.aop tyOK rfl za rfl <| OSuf.nil <| SQ.normal ?_
  -- leaf: loop
  refine W.block (W.loop (fun m L h' => ∃ k : Nat, m + k = l.length ∧ h' = h ∧ (∀ j a b, j < k → l[j]? = some a → l[j + 1]? = some b → lt a b = true) ∧ L = [(0, .slice b l.length c), (1, fv), (5, I64 ((k + 1 : Nat) : Int))]) (n := l.length) ⟨0, rfl, rfl, by omega, rfl⟩ ?_ ?_)
  · simp [HasA, Tr.get_put]
  rintro m L h' ⟨k, hm, rfl, hr, rfl⟩
  simp only [mkA]
  have w1 : IntKind.i64.wrap (((k + 1 : Nat) : Int) - 1) = (k : Int) := by rw [wrap_i64 (by omega) (by omega)]; omega
  have w2 : IntKind.i64.wrap (((k + 1 : Nat) : Int) + 1) = ((k + 1 + 1 : Nat) : Int) := by rw [wrap_i64 (by omega) (by omega)]; omega
  by_cases hk : ((k + 1 : Nat) : Int) < (l.length : Int)
  · obtain ⟨x, hx⟩ : ∃ x, l[k]? = some x := ⟨l[k]'(by omega), by simp⟩
    obtain ⟨y, hy⟩ : ∃ y, l[k + 1]? = some y := ⟨l[k + 1]'(by omega), by simp⟩
    obtain ⟨_, r, off, rfl, hr1, hr2⟩ := RS.at_ hs hx
    obtain ⟨_, r', off', e, _, hr3⟩ := RS.at_ hs hy
    cases e
    have c1 : (0 ≤ (k : Int) ∧ (k : Int) < (l.length : Int)) := by omega
    have c2 : (0 ≤ ((k + 1 : Nat) : Int) ∧ ((k + 1 : Nat) : Int) < (l.length : Int)) := by omega
    have hv := hf x y
    cases hlt : lt x y with
    | true =>
      rw [hlt] at hv
      refine W.seq <| W.seq <| W.reg <| OSuf.aop tyOK rfl sm rfl <| OSuf.aop tyOK rfl sm rfl <| OSuf.aop tyOK rfl (so_len (by simp only [aopnds, lk] <;> rfl) (by simp (disch := first | assumption | omega | (simp only [nx] <;> omega) | fail) only [aLenOf, ty23, hpl, c1, c2, sb] <;> rfl)) rfl <| OSuf.aopT tyOK rfl (zb (hv := bi_lss)) (fun _ => rfl) (by first | rfl | assumption | ((simp only [bl, c1, c2, sb]) <;> first | done | assumption | omega) | (simp; done) | (simp; omega)) <| OSuf.nil <| SQ.normal ?_
      refine W.yes (by simp only [lk] <;> rfl) <| CWp.skip <| SQ.normal ?_
      refine W.seq <| W.block <| W.seq <| W.regD tyOK mixed (by kernel_rfl) <| SqW.aop rfl sm rfl <| SqW.aop rfl sm rfl <| SqW.aop rfl sm rfl <| SqW.aop rfl (zb (hv := bi_w bi_sub (by first | (simp only [w1, w2] <;> rfl) | rfl))) rfl <| SqW.aop rfl (zi (hv := by simp (disch := first | assumption | omega | (simp only [nx] <;> omega) | fail) only [aIndexAddr, ty23, ty27, hpl, c1, c2, sb] <;> rfl)) rfl <| SqW.aop rfl (zl (hv := (hr2 _ rfl).1 _ _ ty27 rfl rfl)) rfl <| SqW.aop rfl sm rfl <| SqW.aop rfl sm rfl <| SqW.aop rfl (zi (hv := by simp (disch := first | assumption | omega | (simp only [nx] <;> omega) | fail) only [aIndexAddr, ty23, ty27, hpl, c1, c2, sb] <;> rfl)) rfl <| SqW.aop rfl (zl (hv := (hr3 _ rfl).1 _ _ ty27 rfl rfl)) rfl <| SqW.vcallD rfl (by simp only [lk] <;> rfl) (by simp only [aopnds, lk] <;> rfl) (hv) rfl <| SqW.aopF rfl (so_not (by simp only [lk] <;> rfl)) (fun _ => rfl) rfl <| SqW.nil <| SQ.normal ?_
      refine W.no (by simp only [lk] <;> rfl) <| CWp.skip <| BQ.normal <| SQ.normal ?_
      refine W.reg <| OSuf.aop tyOK rfl sm rfl <| OSuf.aop tyOK rfl (zb (hv := bi_w bi_add (by first | (simp only [w1, w2] <;> rfl) | rfl))) rfl <| OSuf.aop tyOK rfl za rfl <| OSuf.nil <| ?_
      refine LQ.normal (m := m - 1) (L := [(0, .slice (some ⟨r, off, none⟩) l.length c), (1, fv), (5, I64 ((k + 1 + 1 : Nat) : Int))]) (by omega) ?_ ⟨k + 1, by omega, rfl, fun j a b hj ha hb => ?_, rfl⟩
      · simp only [HasA, Tr.get_put, Nat.reduceEqDiff, reduceIte, w2, and_self]
      · by_cases e : j = k
        · subst e; rw [hx] at ha; rw [hy] at hb; cases ha; cases hb; exact hlt
        · exact hr j a b (by omega) ha hb
    | false =>
      rw [hlt] at hv
      refine W.seq <| W.seq <| W.reg <| OSuf.aop tyOK rfl sm rfl <| OSuf.aop tyOK rfl sm rfl <| OSuf.aop tyOK rfl (so_len (by simp only [aopnds, lk] <;> rfl) (by simp (disch := first | assumption | omega | (simp only [nx] <;> omega) | fail) only [aLenOf, ty23, hpl, c1, c2, sb] <;> rfl)) rfl <| OSuf.aopT tyOK rfl (zb (hv := bi_lss)) (fun _ => rfl) (by first | rfl | assumption | ((simp only [bl, c1, c2, sb]) <;> first | done | assumption | omega) | (simp; done) | (simp; omega)) <| OSuf.nil <| SQ.normal ?_
      refine W.yes (by simp only [lk] <;> rfl) <| CWp.skip <| SQ.normal ?_
      refine W.seq <| W.block <| W.seq <| W.regD tyOK mixed (by kernel_rfl) <| SqW.aop rfl sm rfl <| SqW.aop rfl sm rfl <| SqW.aop rfl sm rfl <| SqW.aop rfl (zb (hv := bi_w bi_sub (by first | (simp only [w1, w2] <;> rfl) | rfl))) rfl <| SqW.aop rfl (zi (hv := by simp (disch := first | assumption | omega | (simp only [nx] <;> omega) | fail) only [aIndexAddr, ty23, ty27, hpl, c1, c2, sb] <;> rfl)) rfl <| SqW.aop rfl (zl (hv := (hr2 _ rfl).1 _ _ ty27 rfl rfl)) rfl <| SqW.aop rfl sm rfl <| SqW.aop rfl sm rfl <| SqW.aop rfl (zi (hv := by simp (disch := first | assumption | omega | (simp only [nx] <;> omega) | fail) only [aIndexAddr, ty23, ty27, hpl, c1, c2, sb] <;> rfl)) rfl <| SqW.aop rfl (zl (hv := (hr3 _ rfl).1 _ _ ty27 rfl rfl)) rfl <| SqW.vcallD rfl (by simp only [lk] <;> rfl) (by simp only [aopnds, lk] <;> rfl) (hv) rfl <| SqW.aopT rfl (so_not (by simp only [lk] <;> rfl)) (fun _ => rfl) rfl <| SqW.nil <| SQ.normal ?_
      refine W.yes (by simp only [lk] <;> rfl) <| W.seq <| W.reg <| OSuf.aopF tyOK rfl za (fun _ => rfl) rfl <| OSuf.nil <| SQ.normal ?_
      refine CWp.ret <| BQ.ret <| SQ.ret <| LQ.ret <| BQ.ret <| SQ.ret <| FQ.ret (by simp only [aRet, Tryz.f46, aResults, aResult, lk, Nat.reduceEqDiff, reduceIte] <;> first | rfl | (simp only [tyall] <;> rfl) | (simp [tyall] <;> rfl)) ?_
      -- leaf: end
      exact ⟨by rw [risB_not hx hy hlt], rfl⟩
  · refine W.seq <| W.seq <| W.reg <| OSuf.aop tyOK rfl sm rfl <| OSuf.aop tyOK rfl sm rfl <| OSuf.aop tyOK rfl (so_len (by simp only [aopnds, lk] <;> rfl) (by simp (disch := first | assumption | omega | (simp only [nx] <;> omega) | fail) only [aLenOf, ty23, hpl] <;> rfl)) rfl <| OSuf.aopF tyOK rfl (zb (hv := bi_lss)) (fun _ => rfl) (by first | rfl | assumption | ((simp only [bl]) <;> first | done | assumption | omega) | (simp; done) | (simp; omega)) <| OSuf.nil <| SQ.normal ?_
    refine W.no (by simp only [lk] <;> rfl) <| CWp.exit <| SQ.exit <| LQ.exit <| BQ.exit <| SQ.normal ?_
    refine W.seq <| W.reg <| OSuf.aopT tyOK rfl za (fun _ => rfl) rfl <| OSuf.nil <| SQ.normal ?_
    refine CWp.ret <| FQ.ret (by simp only [aRet, Tryz.f46, aResults, aResult, lk, Nat.reduceEqDiff, reduceIte] <;> first | rfl | (simp only [tyall] <;> rfl) | (simp [tyall] <;> rfl)) ?_
    -- leaf: end
    refine ⟨?_, rfl⟩
    rw [risB_of fun j a b ha hb => hr j a b (by have := (List.getElem?_eq_some_iff.1 hb).1; omega) ha hb]
theorem chk1_c (h : AHeap) (a b : Rec) : FWp Tryz.prog 47 [a.V, b.V] h fun u h' => u = .bool (ltK a b) ∧ h' = h := by
  refine FWp.gcs (.flat rfl) ?_
  have e := str_lt a.key b.key
  refine W.enter tyOK Tryz.func47 rfl rfl ?_
  simp only [entry]
  refine W.seq <| W.reg <| OSuf.aop tyOK rfl (so_box (by simp only [lk] <;> rfl)) rfl <| OSuf.aop tyOK rfl (so_box (by simp only [lk] <;> rfl)) rfl <| OSuf.aopF tyOK rfl za (fun _ => rfl) rfl <| OSuf.nil <| SQ.normal ?_
  refine W.seq <| W.reg <| OSuf.aop tyOK rfl (zf (hv := fa_ok (k := 0) ty27 rfl rfl ty9 rfl rfl)) rfl <| OSuf.aop tyOK rfl (zl (hv := by simp (disch := first | assumption | omega | (simp only [nx] <;> omega) | fail) only [aLoad, ty9, rowOf, hpl, Value.cells, ty27, ty9] <;> rfl)) rfl <| OSuf.aop tyOK rfl (zf (hv := fa_ok (k := 0) ty27 rfl rfl ty9 rfl rfl)) rfl <| OSuf.aop tyOK rfl (zl (hv := by simp (disch := first | assumption | omega | (simp only [nx] <;> omega) | fail) only [aLoad, ty9, rowOf, hpl, Value.cells, ty27, ty9] <;> rfl)) rfl <| OSuf.aop tyOK rfl (zb (hv := bs_lss)) rfl <| OSuf.aop tyOK rfl za rfl <| OSuf.nil <| SQ.normal ?_
  refine CWp.ret <| FQ.ret (by simp only [aRet, Tryz.f47, aResults, aResult, lk, Nat.reduceEqDiff, reduceIte] <;> first | rfl | (simp only [tyall] <;> rfl) | (simp [tyall] <;> rfl)) ?_
  -- leaf: end
  exact ⟨by rw [e]; rfl, fun r o hr ho => by simp (disch := first | assumption | omega | (simp only [nx] <;> omega) | fail) only [hpl]; exact ho⟩
theorem chk2_c (h : AHeap) (a b : Rec) : FWp Tryz.prog 48 [a.V, b.V] h fun u h' => u = .bool (ltL a b) ∧ h' = h := by
  refine FWp.gcs (.flat rfl) ?_
  refine W.enter tyOK Tryz.func48 rfl rfl ?_
  simp only [entry]
  refine W.seq <| W.reg <| OSuf.aop tyOK rfl (so_box (by simp only [lk] <;> rfl)) rfl <| OSuf.aop tyOK rfl (so_box (by simp only [lk] <;> rfl)) rfl <| OSuf.aopF tyOK rfl za (fun _ => rfl) rfl <| OSuf.nil <| SQ.normal ?_
  refine W.seq <| W.reg <| OSuf.aop tyOK rfl (zf (hv := fa_ok (k := 1) ty27 rfl rfl ty22 rfl rfl)) rfl <| OSuf.aop tyOK rfl (zl (hv := by simp (disch := first | assumption | omega | (simp only [nx] <;> omega) | fail) only [aLoad, ty22, rowOf, hpl, Value.cells, ty22, ty27] <;> rfl)) rfl <| OSuf.aop tyOK rfl (zf (hv := fa_ok (k := 1) ty27 rfl rfl ty22 rfl rfl)) rfl <| OSuf.aop tyOK rfl (zl (hv := by simp (disch := first | assumption | omega | (simp only [nx] <;> omega) | fail) only [aLoad, ty22, rowOf, hpl, Value.cells, ty22, ty27] <;> rfl)) rfl <| OSuf.aop tyOK rfl (zb (hv := bi_lss)) rfl <| OSuf.aop tyOK rfl za rfl <| OSuf.nil <| SQ.normal ?_
  refine CWp.ret <| FQ.ret (by simp only [aRet, Tryz.f48, aResults, aResult, lk, Nat.reduceEqDiff, reduceIte] <;> first | rfl | (simp only [tyall] <;> rfl) | (simp [tyall] <;> rfl)) ?_
  -- leaf: end
  exact ⟨rfl, fun r o hr ho => by simp (disch := first | assumption | omega | (simp only [nx] <;> omega) | fail) only [hpl]; exact ho⟩
theorem lt_no {a b : List UInt8} (h : ltStr b a = true ∨ b = a) : ltStr a b = false := by
  rcases h with h | rfl
  · exact swo_ltStr.asymmA h
  · exact swo_ltStr.irrefl _
theorem lt_yes {a b : List UInt8} (h1 : ltStr b a = false) (h2 : ¬ b = a) : ltStr a b = true := by
  cases h3 : ltStr a b with
  | true => rfl
  | false => exact (h2 (str_eq_of h1 h3)).elim
structure CJ (h g : AHeap) (p : Lf) (bv dv : Value) (lp : ALoop) (e : Int) : Prop where
  next : h.next + 5 ≤ g.next
  leaf : g.get h.next = some (.cells (lcs p bv dv) 1)
  err : g.get (h.next + 1) = some (.cells [I64 e] 1)
  loop : g.get (h.next + 3) = some (.loop lp)
  two : g.get (h.next + 4) = some (.cells [bv, dv] 1)
  old : ∀ z, z < h.next → g.get z = h.get z
theorem CJ.mono {h g g' : AHeap} {p : Lf} {bv dv : Value} {lp lp' : ALoop} {e : Int} (c : CJ h g p bv dv lp e) (hn : g.next ≤ g'.next) (hl : g'.get (h.next + 3) = some (.loop lp')) (hk : ∀ z, z < g.next → ¬ z = h.next + 3 → g'.get z = g.get z) : CJ h g' p bv dv lp' e := by
  have := c.next
  exact ⟨by omega, by rw [hk _ (by omega) (by omega)]; exact c.leaf, by rw [hk _ (by omega) (by omega)]; exact c.err, hl, by rw [hk _ (by omega) (by omega)]; exact c.two, fun z hz => by rw [hk _ (by omega) (by omega)]; exact c.old z hz⟩
theorem check_c (h : AHeap) (p : Lf) (bv dv : Value) (hb : RS h p.base bv) (hd : RS h p.deltas dv) (hlb : p.base.length ≤ 1000000) (hld : p.deltas.length ≤ 1000000) :
    FWp Tryz.prog 13 [LV p bv dv] h fun u h' => u = I64 (if chk p = true then 0 else 2) ∧ h' = h := by
  have tb13 := And.intro ty22 (And.intro ty23 (And.intro ty25 (And.intro ty27 (And.intro ty3 (And.intro ty33 (ty9))))))
  obtain ⟨b1, c1, rfl⟩ := hb.form
  obtain ⟨b2, c2, rfl⟩ := hd.form
  refine FWp.gcs (.flat rfl) ?_
  refine W.enter tyOK Tryz.func13 rfl rfl ?_
  simp only [entry]
  have hsz1 := sz_str p.low
  have hsz2 := sz_str p.high
  have hle := str_lt p.low p.high
  have bad : ∀ e : Int, chk p = false → e = 2 → I64 e = I64 (if chk p = true then 0 else 2) := fun e h1 h2 => by rw [h1, h2]; rfl
  have bad' : ¬ (p.low.length ≤ 16 ∧ p.high.length ≤ 16 ∧ (p.high = [] ∨ ltStr p.low p.high = true) ∧ p.full ≤ 1099511627776 ∧ p.base.length ≤ 64 ∧ p.deltas.length ≤ 64) → chk p = false := fun hn => by simp only [chk]; rw [decide_eq_false hn]; rfl
  apply W.join (fun L h' => (p.low.length ≤ 16 ∧ p.high.length ≤ 16 ∧ (p.high = [] ∨ ltStr p.low p.high = true) ∧ p.full ≤ 1099511627776 ∧ p.base.length ≤ 64 ∧ p.deltas.length ≤ 64) ∧ h' = (h.new (.cells (lcs p (.slice b1 p.base.length c1) (.slice b2 p.deltas.length c2)) 1)).new (.cells [I64 0] 1) ∧ L = [(1, P0 h.next), (2, P0 (h.next + 1))])
  · intro rest
    refine W.seq <| W.reg <| OSuf.aop tyOK rfl (so_box (by simp only [lk] <;> rfl)) rfl <| OSuf.aop tyOK rfl (so_alloc (by simp only [aAlloc, ty33] <;> rfl)) rfl <| OSuf.nil <| SQ.normal ?_
    refine W.seq <| W.seq <| W.reg <| OSuf.aop tyOK rfl (zf (hv := fa_ok (k := 0) ty25 rfl rfl ty9 rfl rfl)) rfl <| OSuf.aop tyOK rfl (zl (hv := by simp (disch := first | assumption | omega | (simp only [nx] <;> omega) | fail) only [aLoad, ty9, rowOf, hpl, Value.cells, hsz1, hsz2] <;> rfl)) rfl <| OSuf.aop tyOK rfl (so_len (by simp only [aopnds, lk] <;> rfl) (by simp (disch := first | assumption | omega | (simp only [nx] <;> omega) | fail) only [aLenOf, ty9, hpl, Value.cells, hsz1, hsz2, places, tb13] <;> rfl)) rfl <| OSuf.aopB tyOK rfl (zb (hv := bi_gtr)) (fun _ => rfl) (fun h1 => ?_) (fun h1 => ?_)
    · try simp only [bl] at h1
      refine OSuf.aopT tyOK rfl sm (fun _ => rfl) rfl <| OSuf.pass ag rfl <| OSuf.pass ag rfl <| OSuf.pass ag rfl <| OSuf.pass ag rfl <| OSuf.aopT tyOK rfl (so_pick (by simp only [lk] <;> rfl) (by simp only [lk, cond_true, cond_false] <;> rfl)) (fun _ => rfl) rfl <| OSuf.aopT tyOK rfl sm (fun _ => rfl) rfl <| OSuf.pass ag rfl <| OSuf.pass ag rfl <| OSuf.pass ag rfl <| OSuf.pass ag rfl <| OSuf.pass (aguard_un rfl rfl (by simp only [lk] <;> rfl)) rfl <| OSuf.pass (aguard_un rfl rfl (by simp only [lk] <;> rfl)) rfl <| OSuf.pass (aguard_un rfl rfl (by simp only [lk] <;> rfl)) rfl <| OSuf.pass (aguard_un rfl rfl (by simp only [lk] <;> rfl)) rfl <| OSuf.pass (aguard_un rfl rfl (by simp only [lk] <;> rfl)) rfl <| OSuf.pass ag rfl <| OSuf.aopT tyOK rfl (so_pick (by simp only [lk] <;> rfl) (by simp only [lk, cond_true, cond_false] <;> rfl)) (fun _ => rfl) rfl <| OSuf.aopT tyOK rfl sm (fun _ => rfl) rfl <| OSuf.pass ag rfl <| OSuf.pass ag rfl <| OSuf.pass ag rfl <| OSuf.aopT tyOK rfl (so_pick (by simp only [lk] <;> rfl) (by simp only [lk, cond_true, cond_false] <;> rfl)) (fun _ => rfl) rfl <| OSuf.aopT tyOK rfl sm (fun _ => rfl) rfl <| OSuf.pass ag rfl <| OSuf.pass ag rfl <| OSuf.pass ag rfl <| OSuf.pass ag rfl <| OSuf.pass ag rfl <| OSuf.pass ag rfl <| OSuf.pass ag rfl <| OSuf.pass ag rfl <| OSuf.aopT tyOK rfl (so_pick (by simp only [lk] <;> rfl) (by simp only [lk, cond_true, cond_false] <;> rfl)) (fun _ => rfl) rfl <| OSuf.nil <| SQ.normal ?_
      refine W.yes (by simp only [lk] <;> rfl) <| W.seq <| W.reg <| OSuf.aop tyOK rfl (zs (hv := by simp (disch := first | assumption | omega | (simp only [nx] <;> omega) | fail) only [aStore, ty33, writeRow, hpl, Value.cells, hsz1, hsz2] <;> rfl)) rfl <| OSuf.nil <| SQ.normal ?_
      refine CWp.ret <| SQ.ret <| FQ.ret (by simp (disch := first | assumption | omega | (simp only [nx] <;> omega) | fail) only [aRet, Tryz.f13, aResults, aResult, lk, Nat.reduceEqDiff, reduceIte, aLoad, rowOf, hpl, Value.cells, hsz1, hsz2, places, tb13] <;> first | rfl | (simp only [tyall] <;> rfl) | (simp [tyall] <;> rfl)) ?_
      exact ⟨bad _ (bad' (by omega)) rfl, fun r o hr ho => by simp (disch := first | assumption | omega | (simp only [nx] <;> omega) | fail) only [hpl]; exact ho⟩
    · try simp only [bl] at h1
      refine OSuf.aopF tyOK rfl sm (fun _ => rfl) rfl <| OSuf.aop tyOK ag (zf (hv := fa_ok (k := 1) ty25 rfl rfl ty9 rfl rfl)) rfl <| OSuf.aop tyOK ag (zl (hv := by simp (disch := first | assumption | omega | (simp only [nx] <;> omega) | fail) only [aLoad, ty9, rowOf, hpl, Value.cells, hsz1, hsz2] <;> rfl)) rfl <| OSuf.aop tyOK ag (so_len (by simp only [aopnds, lk] <;> rfl) (by simp (disch := first | assumption | omega | (simp only [nx] <;> omega) | fail) only [aLenOf, ty9, hpl, Value.cells, hsz1, hsz2, places, tb13] <;> rfl)) rfl <| OSuf.aopB tyOK ag (zb (hv := bi_gtr)) (fun _ => rfl) (fun h2 => ?_) (fun h2 => ?_)
      · try simp only [bl] at h2
        refine OSuf.aopT tyOK rfl (so_pick (by simp only [lk] <;> rfl) (by simp only [lk, cond_true, cond_false] <;> rfl)) (fun _ => rfl) rfl <| OSuf.aopT tyOK rfl sm (fun _ => rfl) rfl <| OSuf.pass ag rfl <| OSuf.pass ag rfl <| OSuf.pass ag rfl <| OSuf.pass ag rfl <| OSuf.pass (aguard_un rfl rfl (by simp only [lk] <;> rfl)) rfl <| OSuf.pass (aguard_un rfl rfl (by simp only [lk] <;> rfl)) rfl <| OSuf.pass (aguard_un rfl rfl (by simp only [lk] <;> rfl)) rfl <| OSuf.pass (aguard_un rfl rfl (by simp only [lk] <;> rfl)) rfl <| OSuf.pass (aguard_un rfl rfl (by simp only [lk] <;> rfl)) rfl <| OSuf.pass ag rfl <| OSuf.aopT tyOK rfl (so_pick (by simp only [lk] <;> rfl) (by simp only [lk, cond_true, cond_false] <;> rfl)) (fun _ => rfl) rfl <| OSuf.aopT tyOK rfl sm (fun _ => rfl) rfl <| OSuf.pass ag rfl <| OSuf.pass ag rfl <| OSuf.pass ag rfl <| OSuf.aopT tyOK rfl (so_pick (by simp only [lk] <;> rfl) (by simp only [lk, cond_true, cond_false] <;> rfl)) (fun _ => rfl) rfl <| OSuf.aopT tyOK rfl sm (fun _ => rfl) rfl <| OSuf.pass ag rfl <| OSuf.pass ag rfl <| OSuf.pass ag rfl <| OSuf.pass ag rfl <| OSuf.pass ag rfl <| OSuf.pass ag rfl <| OSuf.pass ag rfl <| OSuf.pass ag rfl <| OSuf.aopT tyOK rfl (so_pick (by simp only [lk] <;> rfl) (by simp only [lk, cond_true, cond_false] <;> rfl)) (fun _ => rfl) rfl <| OSuf.nil <| SQ.normal ?_
        refine W.yes (by simp only [lk] <;> rfl) <| W.seq <| W.reg <| OSuf.aop tyOK rfl (zs (hv := by simp (disch := first | assumption | omega | (simp only [nx] <;> omega) | fail) only [aStore, ty33, writeRow, hpl, Value.cells, hsz1, hsz2] <;> rfl)) rfl <| OSuf.nil <| SQ.normal ?_
        refine CWp.ret <| SQ.ret <| FQ.ret (by simp (disch := first | assumption | omega | (simp only [nx] <;> omega) | fail) only [aRet, Tryz.f13, aResults, aResult, lk, Nat.reduceEqDiff, reduceIte, aLoad, rowOf, hpl, Value.cells, hsz1, hsz2, places, tb13] <;> first | rfl | (simp only [tyall] <;> rfl) | (simp [tyall] <;> rfl)) ?_
        exact ⟨bad _ (bad' (by omega)) rfl, fun r o hr ho => by simp (disch := first | assumption | omega | (simp only [nx] <;> omega) | fail) only [hpl]; exact ho⟩
      · try simp only [bl] at h2
        refine OSuf.aopF tyOK rfl (so_pick (by simp only [lk] <;> rfl) (by simp only [lk, cond_true, cond_false] <;> rfl)) (fun _ => rfl) rfl <| OSuf.aopF tyOK rfl sm (fun _ => rfl) rfl <| OSuf.aop tyOK ag (zf (hv := fa_ok (k := 1) ty25 rfl rfl ty9 rfl rfl)) rfl <| OSuf.aop tyOK ag (zl (hv := by simp (disch := first | assumption | omega | (simp only [nx] <;> omega) | fail) only [aLoad, ty9, rowOf, hpl, Value.cells, hsz1, hsz2] <;> rfl)) rfl <| OSuf.aopB tyOK ag (zb (hv := bs_neq)) (fun _ => rfl) (fun h3 => ?_) (fun h3 => ?_)
        · try simp only [bl] at h3
          refine OSuf.aopT tyOK ag sm (fun _ => rfl) rfl <| OSuf.aop tyOK ag (zf (hv := fa_ok (k := 1) ty25 rfl rfl ty9 rfl rfl)) rfl <| OSuf.aop tyOK ag (zl (hv := by simp (disch := first | assumption | omega | (simp only [nx] <;> omega) | fail) only [aLoad, ty9, rowOf, hpl, Value.cells, hsz1, hsz2] <;> rfl)) rfl <| OSuf.aop tyOK ag (zf (hv := fa_ok (k := 0) ty25 rfl rfl ty9 rfl rfl)) rfl <| OSuf.aop tyOK ag (zl (hv := by simp (disch := first | assumption | omega | (simp only [nx] <;> omega) | fail) only [aLoad, ty9, rowOf, hpl, Value.cells, hsz1, hsz2] <;> rfl)) rfl <| OSuf.aopB tyOK ag (zb (hv := bs_leq)) (fun _ => rfl) (fun h4 => ?_) (fun h4 => ?_)
          · try simp only [bl] at h4
            refine OSuf.aopT tyOK ag (so_pick (by simp only [lk] <;> rfl) (by simp only [lk, cond_true, cond_false] <;> rfl)) (fun _ => rfl) rfl <| OSuf.aopT tyOK rfl (so_pick (by simp only [lk] <;> rfl) (by simp only [lk, cond_true, cond_false] <;> rfl)) (fun _ => rfl) rfl <| OSuf.aopT tyOK rfl sm (fun _ => rfl) rfl <| OSuf.pass ag rfl <| OSuf.pass ag rfl <| OSuf.pass ag rfl <| OSuf.aopT tyOK rfl (so_pick (by simp only [lk] <;> rfl) (by simp only [lk, cond_true, cond_false] <;> rfl)) (fun _ => rfl) rfl <| OSuf.aopT tyOK rfl sm (fun _ => rfl) rfl <| OSuf.pass ag rfl <| OSuf.pass ag rfl <| OSuf.pass ag rfl <| OSuf.pass ag rfl <| OSuf.pass ag rfl <| OSuf.pass ag rfl <| OSuf.pass ag rfl <| OSuf.pass ag rfl <| OSuf.aopT tyOK rfl (so_pick (by simp only [lk] <;> rfl) (by simp only [lk, cond_true, cond_false] <;> rfl)) (fun _ => rfl) rfl <| OSuf.nil <| SQ.normal ?_
            refine W.yes (by simp only [lk] <;> rfl) <| W.seq <| W.reg <| OSuf.aop tyOK rfl (zs (hv := by simp (disch := first | assumption | omega | (simp only [nx] <;> omega) | fail) only [aStore, ty33, writeRow, hpl, Value.cells, hsz1, hsz2] <;> rfl)) rfl <| OSuf.nil <| SQ.normal ?_
            refine CWp.ret <| SQ.ret <| FQ.ret (by simp (disch := first | assumption | omega | (simp only [nx] <;> omega) | fail) only [aRet, Tryz.f13, aResults, aResult, lk, Nat.reduceEqDiff, reduceIte, aLoad, rowOf, hpl, Value.cells, hsz1, hsz2, places, tb13] <;> first | rfl | (simp only [tyall] <;> rfl) | (simp [tyall] <;> rfl)) ?_
            exact ⟨bad _ (bad' (by simp [sst] at h3 h4; simp [h3, lt_no h4])) rfl, fun r o hr ho => by simp (disch := first | assumption | omega | (simp only [nx] <;> omega) | fail) only [hpl]; exact ho⟩
          · try simp only [bl] at h4
            refine OSuf.aopF tyOK ag (so_pick (by simp only [lk] <;> rfl) (by simp only [lk, cond_true, cond_false] <;> rfl)) (fun _ => rfl) rfl <| OSuf.aopF tyOK rfl (so_pick (by simp only [lk] <;> rfl) (by simp only [lk, cond_true, cond_false] <;> rfl)) (fun _ => rfl) rfl <| OSuf.aopF tyOK rfl sm (fun _ => rfl) rfl <| OSuf.aop tyOK ag (zf (hv := fa_ok (k := 2) ty25 rfl rfl ty22 rfl rfl)) rfl <| OSuf.aop tyOK ag (zl (hv := by simp (disch := first | assumption | omega | (simp only [nx] <;> omega) | fail) only [aLoad, ty22, rowOf, hpl, Value.cells, hsz1, hsz2] <;> rfl)) rfl <| OSuf.aopB tyOK ag (zb (hv := bi_gtr)) (fun _ => rfl) (fun h5 => ?_) (fun h5 => ?_)
            · try simp only [bl] at h5
              refine OSuf.aopT tyOK rfl (so_pick (by simp only [lk] <;> rfl) (by simp only [lk, cond_true, cond_false] <;> rfl)) (fun _ => rfl) rfl <| OSuf.aopT tyOK rfl sm (fun _ => rfl) rfl <| OSuf.pass ag rfl <| OSuf.pass ag rfl <| OSuf.pass ag rfl <| OSuf.pass ag rfl <| OSuf.pass ag rfl <| OSuf.pass ag rfl <| OSuf.pass ag rfl <| OSuf.pass ag rfl <| OSuf.aopT tyOK rfl (so_pick (by simp only [lk] <;> rfl) (by simp only [lk, cond_true, cond_false] <;> rfl)) (fun _ => rfl) rfl <| OSuf.nil <| SQ.normal ?_
              refine W.yes (by simp only [lk] <;> rfl) <| W.seq <| W.reg <| OSuf.aop tyOK rfl (zs (hv := by simp (disch := first | assumption | omega | (simp only [nx] <;> omega) | fail) only [aStore, ty33, writeRow, hpl, Value.cells, hsz1, hsz2] <;> rfl)) rfl <| OSuf.nil <| SQ.normal ?_
              refine CWp.ret <| SQ.ret <| FQ.ret (by simp (disch := first | assumption | omega | (simp only [nx] <;> omega) | fail) only [aRet, Tryz.f13, aResults, aResult, lk, Nat.reduceEqDiff, reduceIte, aLoad, rowOf, hpl, Value.cells, hsz1, hsz2, places, tb13] <;> first | rfl | (simp only [tyall] <;> rfl) | (simp [tyall] <;> rfl)) ?_
              exact ⟨bad _ (bad' (by omega)) rfl, fun r o hr ho => by simp (disch := first | assumption | omega | (simp only [nx] <;> omega) | fail) only [hpl]; exact ho⟩
            · try simp only [bl] at h5
              refine OSuf.aopF tyOK rfl (so_pick (by simp only [lk] <;> rfl) (by simp only [lk, cond_true, cond_false] <;> rfl)) (fun _ => rfl) rfl <| OSuf.aopF tyOK rfl sm (fun _ => rfl) rfl <| OSuf.aop tyOK ag (zf (hv := fa_ok (k := 3) ty25 rfl rfl ty23 rfl rfl)) rfl <| OSuf.aop tyOK ag (zl (hv := by simp (disch := first | assumption | omega | (simp only [nx] <;> omega) | fail) only [aLoad, ty23, rowOf, hpl, Value.cells, hsz1, hsz2] <;> rfl)) rfl <| OSuf.aop tyOK ag (so_len (by simp only [aopnds, lk] <;> rfl) (by simp (disch := first | assumption | omega | (simp only [nx] <;> omega) | fail) only [aLenOf, ty23, hpl, Value.cells, hsz1, hsz2, places, tb13] <;> rfl)) rfl <| OSuf.aop tyOK ag (zf (hv := fa_ok (k := 4) ty25 rfl rfl ty23 rfl rfl)) rfl <| OSuf.aop tyOK ag (zl (hv := by simp (disch := first | assumption | omega | (simp only [nx] <;> omega) | fail) only [aLoad, ty23, rowOf, hpl, Value.cells, hsz1, hsz2] <;> rfl)) rfl <| OSuf.aop tyOK ag (so_len (by simp only [aopnds, lk] <;> rfl) (by simp (disch := first | assumption | omega | (simp only [nx] <;> omega) | fail) only [aLenOf, ty23, hpl, Value.cells, hsz1, hsz2, places, tb13] <;> rfl)) rfl <| OSuf.aop tyOK ag (so_max (by simp only [aopnds, lk] <;> rfl)) rfl <| OSuf.aopB tyOK ag (zb (hv := bi_gtr)) (fun _ => rfl) (fun h6 => ?_) (fun h6 => ?_)
              · try simp only [bl] at h6
                refine OSuf.aopT tyOK rfl (so_pick (by simp only [lk] <;> rfl) (by simp only [lk, cond_true, cond_false] <;> rfl)) (fun _ => rfl) rfl <| OSuf.nil <| SQ.normal ?_
                refine W.yes (by simp only [lk] <;> rfl) <| W.seq <| W.reg <| OSuf.aop tyOK rfl (zs (hv := by simp (disch := first | assumption | omega | (simp only [nx] <;> omega) | fail) only [aStore, ty33, writeRow, hpl, Value.cells, hsz1, hsz2] <;> rfl)) rfl <| OSuf.nil <| SQ.normal ?_
                refine CWp.ret <| SQ.ret <| FQ.ret (by simp (disch := first | assumption | omega | (simp only [nx] <;> omega) | fail) only [aRet, Tryz.f13, aResults, aResult, lk, Nat.reduceEqDiff, reduceIte, aLoad, rowOf, hpl, Value.cells, hsz1, hsz2, places, tb13] <;> first | rfl | (simp only [tyall] <;> rfl) | (simp [tyall] <;> rfl)) ?_
                exact ⟨bad _ (bad' (by split at h6 <;> omega)) rfl, fun r o hr ho => by simp (disch := first | assumption | omega | (simp only [nx] <;> omega) | fail) only [hpl]; exact ho⟩
              · try simp only [bl] at h6
                refine OSuf.aopF tyOK rfl (so_pick (by simp only [lk] <;> rfl) (by simp only [lk, cond_true, cond_false] <;> rfl)) (fun _ => rfl) rfl <| OSuf.nil <| SQ.normal ?_
                refine W.no (by simp only [lk] <;> rfl) <| CWp.skip <| SQ.normal ?_
                refine W.seq <| ?_
                refine rest _ _ _ ?_ ⟨⟨by omega, by omega, by simp [sst] at h4; exact .inr (lt_yes h4.1 h4.2), by omega, by split at h6 <;> omega, by split at h6 <;> omega⟩, rfl, rfl⟩
                simp [HasA, Tr.get_put]
        · try simp only [bl] at h3
          refine OSuf.aopF tyOK ag sm (fun _ => rfl) rfl <| OSuf.pass ag rfl <| OSuf.pass ag rfl <| OSuf.pass ag rfl <| OSuf.pass ag rfl <| OSuf.pass ag rfl <| OSuf.aopF tyOK ag (so_pick (by simp only [lk] <;> rfl) (by simp only [lk, cond_true, cond_false] <;> rfl)) (fun _ => rfl) rfl <| OSuf.aopF tyOK rfl (so_pick (by simp only [lk] <;> rfl) (by simp only [lk, cond_true, cond_false] <;> rfl)) (fun _ => rfl) rfl <| OSuf.aopF tyOK rfl sm (fun _ => rfl) rfl <| OSuf.aop tyOK ag (zf (hv := fa_ok (k := 2) ty25 rfl rfl ty22 rfl rfl)) rfl <| OSuf.aop tyOK ag (zl (hv := by simp (disch := first | assumption | omega | (simp only [nx] <;> omega) | fail) only [aLoad, ty22, rowOf, hpl, Value.cells, hsz1, hsz2] <;> rfl)) rfl <| OSuf.aopB tyOK ag (zb (hv := bi_gtr)) (fun _ => rfl) (fun h5 => ?_) (fun h5 => ?_)
          · try simp only [bl] at h5
            refine OSuf.aopT tyOK rfl (so_pick (by simp only [lk] <;> rfl) (by simp only [lk, cond_true, cond_false] <;> rfl)) (fun _ => rfl) rfl <| OSuf.aopT tyOK rfl sm (fun _ => rfl) rfl <| OSuf.pass ag rfl <| OSuf.pass ag rfl <| OSuf.pass ag rfl <| OSuf.pass ag rfl <| OSuf.pass ag rfl <| OSuf.pass ag rfl <| OSuf.pass ag rfl <| OSuf.pass ag rfl <| OSuf.aopT tyOK rfl (so_pick (by simp only [lk] <;> rfl) (by simp only [lk, cond_true, cond_false] <;> rfl)) (fun _ => rfl) rfl <| OSuf.nil <| SQ.normal ?_
            refine W.yes (by simp only [lk] <;> rfl) <| W.seq <| W.reg <| OSuf.aop tyOK rfl (zs (hv := by simp (disch := first | assumption | omega | (simp only [nx] <;> omega) | fail) only [aStore, ty33, writeRow, hpl, Value.cells, hsz1, hsz2] <;> rfl)) rfl <| OSuf.nil <| SQ.normal ?_
            refine CWp.ret <| SQ.ret <| FQ.ret (by simp (disch := first | assumption | omega | (simp only [nx] <;> omega) | fail) only [aRet, Tryz.f13, aResults, aResult, lk, Nat.reduceEqDiff, reduceIte, aLoad, rowOf, hpl, Value.cells, hsz1, hsz2, places, tb13] <;> first | rfl | (simp only [tyall] <;> rfl) | (simp [tyall] <;> rfl)) ?_
            exact ⟨bad _ (bad' (by omega)) rfl, fun r o hr ho => by simp (disch := first | assumption | omega | (simp only [nx] <;> omega) | fail) only [hpl]; exact ho⟩
          · try simp only [bl] at h5
            refine OSuf.aopF tyOK rfl (so_pick (by simp only [lk] <;> rfl) (by simp only [lk, cond_true, cond_false] <;> rfl)) (fun _ => rfl) rfl <| OSuf.aopF tyOK rfl sm (fun _ => rfl) rfl <| OSuf.aop tyOK ag (zf (hv := fa_ok (k := 3) ty25 rfl rfl ty23 rfl rfl)) rfl <| OSuf.aop tyOK ag (zl (hv := by simp (disch := first | assumption | omega | (simp only [nx] <;> omega) | fail) only [aLoad, ty23, rowOf, hpl, Value.cells, hsz1, hsz2] <;> rfl)) rfl <| OSuf.aop tyOK ag (so_len (by simp only [aopnds, lk] <;> rfl) (by simp (disch := first | assumption | omega | (simp only [nx] <;> omega) | fail) only [aLenOf, ty23, hpl, Value.cells, hsz1, hsz2, places, tb13] <;> rfl)) rfl <| OSuf.aop tyOK ag (zf (hv := fa_ok (k := 4) ty25 rfl rfl ty23 rfl rfl)) rfl <| OSuf.aop tyOK ag (zl (hv := by simp (disch := first | assumption | omega | (simp only [nx] <;> omega) | fail) only [aLoad, ty23, rowOf, hpl, Value.cells, hsz1, hsz2] <;> rfl)) rfl <| OSuf.aop tyOK ag (so_len (by simp only [aopnds, lk] <;> rfl) (by simp (disch := first | assumption | omega | (simp only [nx] <;> omega) | fail) only [aLenOf, ty23, hpl, Value.cells, hsz1, hsz2, places, tb13] <;> rfl)) rfl <| OSuf.aop tyOK ag (so_max (by simp only [aopnds, lk] <;> rfl)) rfl <| OSuf.aopB tyOK ag (zb (hv := bi_gtr)) (fun _ => rfl) (fun h6 => ?_) (fun h6 => ?_)
            · try simp only [bl] at h6
              refine OSuf.aopT tyOK rfl (so_pick (by simp only [lk] <;> rfl) (by simp only [lk, cond_true, cond_false] <;> rfl)) (fun _ => rfl) rfl <| OSuf.nil <| SQ.normal ?_
              refine W.yes (by simp only [lk] <;> rfl) <| W.seq <| W.reg <| OSuf.aop tyOK rfl (zs (hv := by simp (disch := first | assumption | omega | (simp only [nx] <;> omega) | fail) only [aStore, ty33, writeRow, hpl, Value.cells, hsz1, hsz2] <;> rfl)) rfl <| OSuf.nil <| SQ.normal ?_
              refine CWp.ret <| SQ.ret <| FQ.ret (by simp (disch := first | assumption | omega | (simp only [nx] <;> omega) | fail) only [aRet, Tryz.f13, aResults, aResult, lk, Nat.reduceEqDiff, reduceIte, aLoad, rowOf, hpl, Value.cells, hsz1, hsz2, places, tb13] <;> first | rfl | (simp only [tyall] <;> rfl) | (simp [tyall] <;> rfl)) ?_
              exact ⟨bad _ (bad' (by split at h6 <;> omega)) rfl, fun r o hr ho => by simp (disch := first | assumption | omega | (simp only [nx] <;> omega) | fail) only [hpl]; exact ho⟩
            · try simp only [bl] at h6
              refine OSuf.aopF tyOK rfl (so_pick (by simp only [lk] <;> rfl) (by simp only [lk, cond_true, cond_false] <;> rfl)) (fun _ => rfl) rfl <| OSuf.nil <| SQ.normal ?_
              refine W.no (by simp only [lk] <;> rfl) <| CWp.skip <| SQ.normal ?_
              refine W.seq <| ?_
              refine rest _ _ _ ?_ ⟨⟨by omega, by omega, by simp [sst] at h3; exact .inl h3, by omega, by split at h6 <;> omega, by split at h6 <;> omega⟩, rfl, rfl⟩
              simp [HasA, Tr.get_put]
  · rintro L h' ⟨⟨f1, f2, f3, f4, f5, f6⟩, rfl, rfl⟩
    simp only [mkA]
    have wo : chk p = (p.all.all (fit p.low p.high) && (risB ltK p.base && risB ltL p.deltas)) := by
      simp only [chk]; rw [decide_eq_true ⟨f1, f2, f3, f4, f5, f6⟩, Bool.true_and]
    refine W.seq <| W.reg <| OSuf.aop tyOK rfl (zl (hv := by simp (disch := first | assumption | omega | (simp only [nx] <;> omega) | fail) only [aLoad, ty25, rowOf, hpl, Value.cells] <;> rfl)) rfl <| OSuf.callD rfl (by simp only [aopnds, lk] <;> rfl) en45 (all_c _ p (.slice b1 p.base.length c1) (.slice b2 p.deltas.length c2)) rfl <| OSuf.nil <| SQ.normal ?_
    -- leaf: loop
    refine W.block (CWp.rangeFunc (by simp only [aopnd, Tr.get_put, Nat.reduceEqDiff, reduceIte] <;> rfl) (fun l hl => by cases hl) (VWp.func en86 ?_))
    show FWp _ _ [_, _] _ _
    generalize hLP : (ALoop.mk _ _ _ _ _ _ _ _) = LP
    have hbusy : (LP.state == .busy) = false := by rw [← hLP]; rfl
    have hjn : jumpExit LP.pending = some .normal := by rw [← hLP]; rfl
    refine FWp.mono (all1_c _ p (.slice b1 p.base.length c1) (.slice b2 p.deltas.length c2) _ (h.next + 2) (by simp (disch := first | assumption | omega | (simp only [nx] <;> omega) | fail) only [hpl]) (fun pre g => CJ h g p (.slice b1 p.base.length c1) (.slice b2 p.deltas.length c2) LP 0 ∧ pre.all (fit p.low p.high) = true) (fun g => CJ h g p (.slice b1 p.base.length c1) (.slice b2 p.deltas.length c2) (LP.with .done (some .ret)) 2 ∧ p.all.all (fit p.low p.high) = false) ?_ ?_ ?_ hlb hld ?_) ?_
    · refine ⟨⟨by simp, ?_, ?_, ?_, ?_, fun z hz => ?_⟩, rfl⟩ <;> simp (disch := first | assumption | omega | (simp only [nx] <;> omega) | fail) only [hpl]
    · rintro pre g o ⟨hc, hp⟩
      have := hc.next
      exact ⟨hc.mono (by simp) (by simp (disch := first | assumption | omega | (simp only [nx] <;> omega) | fail) only [hpl]; exact hc.loop) (fun z hz _ => by simp (disch := first | assumption | omega | (simp only [nx] <;> omega) | fail) only [hpl]), hp⟩
    · rintro pre g ⟨hc, _⟩
      have := hc.next
      exact ⟨hb.mono (by omega) hc.old, hd.mono (by omega) hc.old, hc.two⟩
    · rintro pre x post hpx g ⟨hc, hp⟩
      have hcn := hc.next
      have g1 := hc.leaf
      have g2 := hc.err
      have hl := hc.loop
      rw [← hLP] at hl
      cases hx : fit p.low p.high x with
      | true =>
        refine .inl (VWp.yield hl rfl ?_)
        refine W.reg <| OSuf.aop tyOK rfl (so_alloc (by simp only [aAlloc, ty27] <;> rfl)) rfl <| OSuf.aop tyOK rfl (zs (hv := by simp (disch := first | assumption | omega | (simp only [nx] <;> omega) | fail) only [aStore, ty27, writeRow, hpl, Value.cells, rcl] <;> rfl)) rfl <| OSuf.nil <| ?_
        -- leaf: stop
        refine ⟨rfl, _, by (simp (disch := first | assumption | omega | (simp only [nx] <;> omega) | fail) only [hpl]; exact hl), rfl, ?_⟩
        have hfx := fun H : AHeap => fits_c H p (.slice b1 p.base.length c1) (.slice b2 p.deltas.length c2) x
        rw [hx] at hfx
        refine W.block <| W.seq <| W.reg <| OSuf.aop tyOK rfl (zl (hv := by simp (disch := first | assumption | omega | (simp only [nx] <;> omega) | fail) only [aLoad, ty25, rowOf, hpl, g1, rcl, Value.cells] <;> rfl)) rfl <| OSuf.aop tyOK rfl (zl (hv := by simp (disch := first | assumption | omega | (simp only [nx] <;> omega) | fail) only [aLoad, ty27, rowOf, hpl, g1, rcl, Value.cells] <;> rfl)) rfl <| OSuf.callD rfl (by simp only [aopnds, lk] <;> rfl) en38 (hfx _) rfl <| OSuf.aopF tyOK rfl (so_not (by simp only [lk] <;> rfl)) (fun _ => rfl) rfl <| OSuf.nil <| SQ.normal ?_
        refine W.no (by simp only [lk] <;> rfl) <| CWp.skip <| BQ.normal <| ?_
        -- leaf: stop
        refine ⟨_, by (simp (disch := first | assumption | omega | (simp only [nx] <;> omega) | fail) only [hpl]; rfl), rfl, hc.mono (by simp) (by simp (disch := first | assumption | omega | (simp only [nx] <;> omega) | fail) only [hpl]; rw [← hLP]; rfl) (fun z hz hz3 => by simp (disch := first | assumption | omega | (simp only [nx] <;> omega) | fail) only [hpl]), ?_⟩
        simp [hp, hx]
      | false =>
        refine .inr (VWp.yield hl rfl ?_)
        refine W.reg <| OSuf.aop tyOK rfl (so_alloc (by simp only [aAlloc, ty27] <;> rfl)) rfl <| OSuf.aop tyOK rfl (zs (hv := by simp (disch := first | assumption | omega | (simp only [nx] <;> omega) | fail) only [aStore, ty27, writeRow, hpl, Value.cells, rcl] <;> rfl)) rfl <| OSuf.nil <| ?_
        -- leaf: stop
        refine ⟨rfl, _, by (simp (disch := first | assumption | omega | (simp only [nx] <;> omega) | fail) only [hpl]; exact hl), rfl, ?_⟩
        have hfx := fun H : AHeap => fits_c H p (.slice b1 p.base.length c1) (.slice b2 p.deltas.length c2) x
        rw [hx] at hfx
        refine W.block <| W.seq <| W.reg <| OSuf.aop tyOK rfl (zl (hv := by simp (disch := first | assumption | omega | (simp only [nx] <;> omega) | fail) only [aLoad, ty25, rowOf, hpl, g1, g2, rcl, Value.cells] <;> rfl)) rfl <| OSuf.aop tyOK rfl (zl (hv := by simp (disch := first | assumption | omega | (simp only [nx] <;> omega) | fail) only [aLoad, ty27, rowOf, hpl, g1, g2, rcl, Value.cells] <;> rfl)) rfl <| OSuf.callD rfl (by simp only [aopnds, lk] <;> rfl) en38 (hfx _) rfl <| OSuf.aopT tyOK rfl (so_not (by simp only [lk] <;> rfl)) (fun _ => rfl) rfl <| OSuf.nil <| SQ.normal ?_
        refine W.yes (by simp only [lk] <;> rfl) <| W.seq <| W.reg <| OSuf.aop tyOK rfl (zs (hv := by simp (disch := first | assumption | omega | (simp only [nx] <;> omega) | fail) only [aStore, ty33, writeRow, hpl, g1, g2, rcl, Value.cells] <;> rfl)) rfl <| OSuf.nil <| SQ.normal ?_
        refine CWp.ret <| BQ.ret <| ?_
        -- leaf: stop
        refine ⟨_, by (simp (disch := first | assumption | omega | (simp only [nx] <;> omega) | fail) only [hpl]; rfl), rfl, ⟨by simp only [nx]; omega, by simp (disch := first | assumption | omega | (simp only [nx] <;> omega) | fail) only [hpl]; exact g1, by simp (disch := first | assumption | omega | (simp only [nx] <;> omega) | fail) only [hpl]; rfl, by simp (disch := first | assumption | omega | (simp only [nx] <;> omega) | fail) only [hpl]; rw [← hLP]; rfl, by simp (disch := first | assumption | omega | (simp only [nx] <;> omega) | fail) only [hpl]; exact hc.two, fun z hz => by simp (disch := first | assumption | omega | (simp only [nx] <;> omega) | fail) only [hpl]; exact hc.old z hz⟩, ?_⟩
        rw [← hpx]; simp [hx]
    · clear hLP
      rintro _ g ⟨rfl, ⟨hc, hp⟩ | ⟨hc, hp⟩⟩
      · have hcn := hc.next
        have g1 := hc.leaf
        have g2 := hc.err
        refine ⟨LP, .normal, hc.loop, hbusy, hjn, ?_⟩
        have r1 := rising_c (g.kill (h.next + 3)) p.base (.slice b1 p.base.length c1) (.func (.func 47) #[] #[]) ltK (hb.mono (by simp; omega) (fun z hz => by simp (disch := first | assumption | omega | (simp only [nx] <;> omega) | fail) only [hpl]; exact hc.old z hz)) (fun a b => VWp.func en47 (chk1_c _ a b)) hlb
        have r2 := rising_c (g.kill (h.next + 3)) p.deltas (.slice b2 p.deltas.length c2) (.func (.func 48) #[] #[]) ltL (hd.mono (by simp; omega) (fun z hz => by simp (disch := first | assumption | omega | (simp only [nx] <;> omega) | fail) only [hpl]; exact hc.old z hz)) (fun a b => VWp.func en48 (chk2_c _ a b)) hld
        cases q1 : risB ltK p.base with
        | false =>
          rw [q1] at r1
          refine BQ.normal <| SQ.normal ?_
          refine W.seq <| W.seq <| W.reg <| OSuf.aop tyOK rfl (zf (hv := fa_ok (k := 3) ty25 rfl rfl ty23 rfl rfl)) rfl <| OSuf.aop tyOK rfl (zl (hv := by simp (disch := first | assumption | omega | (simp only [nx] <;> omega) | fail) only [aLoad, ty23, rowOf, hpl, g1, g2, Value.cells] <;> rfl)) rfl <| OSuf.callD rfl (by simp only [aopnds, lk] <;> rfl) en46 (r1) rfl <| OSuf.aopT tyOK rfl (so_not (by simp only [lk] <;> rfl)) (fun _ => rfl) rfl <| OSuf.aopT tyOK rfl sm (fun _ => rfl) rfl <| OSuf.pass ag rfl <| OSuf.pass ag rfl <| OSuf.pass ag rfl <| OSuf.pass ag rfl <| OSuf.aopT tyOK rfl (so_pick (by simp only [lk] <;> rfl) (by simp only [lk, cond_true, cond_false] <;> rfl)) (fun _ => rfl) rfl <| OSuf.nil <| SQ.normal ?_
          refine W.yes (by simp only [lk] <;> rfl) <| W.seq <| W.reg <| OSuf.aop tyOK rfl (zs (hv := by simp (disch := first | assumption | omega | (simp only [nx] <;> omega) | fail) only [aStore, ty33, writeRow, hpl, g1, g2, Value.cells] <;> rfl)) rfl <| OSuf.nil <| SQ.normal ?_
          refine CWp.ret <| SQ.ret <| FQ.ret (by simp (disch := first | assumption | omega | (simp only [nx] <;> omega) | fail) only [aRet, Tryz.f13, aResults, aResult, lk, Nat.reduceEqDiff, reduceIte, aLoad, rowOf, hpl, g1, g2, Value.cells, places, tb13] <;> first | rfl | (simp only [tyall] <;> rfl) | (simp [tyall] <;> rfl)) ?_
          -- leaf: end
          exact ⟨bad _ (by rw [wo, hp, q1]; rfl) rfl, fun r o hr ho => by simp (disch := first | assumption | omega | (simp only [nx] <;> omega) | fail) only [hpl]; rw [hc.old r hr]; exact ho⟩
        | true =>
          rw [q1] at r1
          cases q2 : risB ltL p.deltas with
          | false =>
            rw [q2] at r2
            refine BQ.normal <| SQ.normal ?_
            refine W.seq <| W.seq <| W.reg <| OSuf.aop tyOK rfl (zf (hv := fa_ok (k := 3) ty25 rfl rfl ty23 rfl rfl)) rfl <| OSuf.aop tyOK rfl (zl (hv := by simp (disch := first | assumption | omega | (simp only [nx] <;> omega) | fail) only [aLoad, ty23, rowOf, hpl, g1, g2, Value.cells] <;> rfl)) rfl <| OSuf.callD rfl (by simp only [aopnds, lk] <;> rfl) en46 (r1) rfl <| OSuf.aopF tyOK rfl (so_not (by simp only [lk] <;> rfl)) (fun _ => rfl) rfl <| OSuf.aopF tyOK rfl sm (fun _ => rfl) rfl <| OSuf.aop tyOK ag (zf (hv := fa_ok (k := 4) ty25 rfl rfl ty23 rfl rfl)) rfl <| OSuf.aop tyOK ag (zl (hv := by simp (disch := first | assumption | omega | (simp only [nx] <;> omega) | fail) only [aLoad, ty23, rowOf, hpl, g1, g2, Value.cells] <;> rfl)) rfl <| OSuf.callD ag (by simp only [aopnds, lk] <;> rfl) en46 (r2) rfl <| OSuf.aopT tyOK ag (so_not (by simp only [lk] <;> rfl)) (fun _ => rfl) rfl <| OSuf.aopT tyOK rfl (so_pick (by simp only [lk] <;> rfl) (by simp only [lk, cond_true, cond_false] <;> rfl)) (fun _ => rfl) rfl <| OSuf.nil <| SQ.normal ?_
            refine W.yes (by simp only [lk] <;> rfl) <| W.seq <| W.reg <| OSuf.aop tyOK rfl (zs (hv := by simp (disch := first | assumption | omega | (simp only [nx] <;> omega) | fail) only [aStore, ty33, writeRow, hpl, g1, g2, Value.cells] <;> rfl)) rfl <| OSuf.nil <| SQ.normal ?_
            refine CWp.ret <| SQ.ret <| FQ.ret (by simp (disch := first | assumption | omega | (simp only [nx] <;> omega) | fail) only [aRet, Tryz.f13, aResults, aResult, lk, Nat.reduceEqDiff, reduceIte, aLoad, rowOf, hpl, g1, g2, Value.cells, places, tb13] <;> first | rfl | (simp only [tyall] <;> rfl) | (simp [tyall] <;> rfl)) ?_
            -- leaf: end
            exact ⟨bad _ (by rw [wo, hp, q1, q2]; rfl) rfl, fun r o hr ho => by simp (disch := first | assumption | omega | (simp only [nx] <;> omega) | fail) only [hpl]; rw [hc.old r hr]; exact ho⟩
          | true =>
            rw [q2] at r2
            refine BQ.normal <| SQ.normal ?_
            refine W.seq <| W.seq <| W.reg <| OSuf.aop tyOK rfl (zf (hv := fa_ok (k := 3) ty25 rfl rfl ty23 rfl rfl)) rfl <| OSuf.aop tyOK rfl (zl (hv := by simp (disch := first | assumption | omega | (simp only [nx] <;> omega) | fail) only [aLoad, ty23, rowOf, hpl, g1, g2, Value.cells] <;> rfl)) rfl <| OSuf.callD rfl (by simp only [aopnds, lk] <;> rfl) en46 (r1) rfl <| OSuf.aopF tyOK rfl (so_not (by simp only [lk] <;> rfl)) (fun _ => rfl) rfl <| OSuf.aopF tyOK rfl sm (fun _ => rfl) rfl <| OSuf.aop tyOK ag (zf (hv := fa_ok (k := 4) ty25 rfl rfl ty23 rfl rfl)) rfl <| OSuf.aop tyOK ag (zl (hv := by simp (disch := first | assumption | omega | (simp only [nx] <;> omega) | fail) only [aLoad, ty23, rowOf, hpl, g1, g2, Value.cells] <;> rfl)) rfl <| OSuf.callD ag (by simp only [aopnds, lk] <;> rfl) en46 (r2) rfl <| OSuf.aopF tyOK ag (so_not (by simp only [lk] <;> rfl)) (fun _ => rfl) rfl <| OSuf.aopF tyOK rfl (so_pick (by simp only [lk] <;> rfl) (by simp only [lk, cond_true, cond_false] <;> rfl)) (fun _ => rfl) rfl <| OSuf.nil <| SQ.normal ?_
            refine W.no (by simp only [lk] <;> rfl) <| CWp.skip <| SQ.normal ?_
            refine W.seq <| W.reg <| OSuf.aop tyOK rfl (zs (hv := by simp (disch := first | assumption | omega | (simp only [nx] <;> omega) | fail) only [aStore, ty33, writeRow, hpl, g1, g2, Value.cells] <;> rfl)) rfl <| OSuf.nil <| SQ.normal ?_
            refine CWp.ret <| FQ.ret (by simp (disch := first | assumption | omega | (simp only [nx] <;> omega) | fail) only [aRet, Tryz.f13, aResults, aResult, lk, Nat.reduceEqDiff, reduceIte, aLoad, rowOf, hpl, g1, g2, Value.cells, places, tb13] <;> first | rfl | (simp only [tyall] <;> rfl) | (simp [tyall] <;> rfl)) ?_
            -- leaf: end
            exact ⟨by rw [wo, hp, q1, q2]; rfl, fun r o hr ho => by simp (disch := first | assumption | omega | (simp only [nx] <;> omega) | fail) only [hpl]; rw [hc.old r hr]; exact ho⟩
      · have hcn := hc.next
        have g2 := hc.err
        refine ⟨_, .ret, hc.loop, rfl, rfl, ?_⟩
        refine BQ.ret <| SQ.ret <| FQ.ret (by simp (disch := first | assumption | omega | (simp only [nx] <;> omega) | fail) only [aRet, Tryz.f13, aResults, aResult, lk, Nat.reduceEqDiff, reduceIte, aLoad, rowOf, hpl, g2] <;> first | rfl | (simp only [tyall] <;> rfl) | (simp [tyall] <;> rfl)) ?_
        refine ⟨bad _ (by rw [wo, hp]; rfl) rfl, fun r o hr ho => ?_⟩
        simp (disch := first | assumption | omega | (simp only [nx] <;> omega) | fail) only [hpl]; rw [hc.old r hr]; exact ho
end Go.Proofs.YtebheelmgcggmaaGreat
namespace Go.Proofs.YtebheelmgcggmaaGreat
open Go.Ab Go.Sort
set_option linter.unusedSimpArgs false
set_option linter.unusedVariables false
set_option maxRecDepth 10000
set_option maxHeartbeats 4000000
theorem may'_c (h : AHeap) (p : Lf) (bv dv : Value) (hb : RS h p.base bv) (hd : RS h p.deltas dv) (hlb : p.base.length ≤ 1000000) (hld : p.deltas.length ≤ 1000000) :
    FWp Tryz.prog 37 [LV p bv dv] h fun u h' => u = .bool (chk p) ∧ h' = h := by
  refine FWp.gcs (.flat rfl) ?_
  refine W.enter tyOK Tryz.func37 rfl rfl ?_
  simp only [entry]
  refine W.seq <| W.reg <| OSuf.aop tyOK rfl (so_box (by simp only [lk] <;> rfl)) rfl <| OSuf.aopF tyOK rfl za (fun _ => rfl) rfl <| OSuf.nil <| SQ.normal ?_
  refine W.seq <| W.reg <| OSuf.aop tyOK rfl (zl (hv := by simp (disch := first | assumption | omega | (simp only [nx] <;> omega) | fail) only [aLoad, ty25, rowOf, hpl, Value.cells, ty25] <;> rfl)) rfl <| OSuf.callD rfl (by simp only [aopnds, lk] <;> rfl) en13 (check_c _ p bv dv (hb.mono (by simp) (fun z hz => by simp (disch := first | assumption | omega | (simp only [nx] <;> omega) | fail) only [hpl])) (hd.mono (by simp) (fun z hz => by simp (disch := first | assumption | omega | (simp only [nx] <;> omega) | fail) only [hpl])) hlb hld) rfl <| OSuf.aop tyOK rfl (zb (hv := bi_eql)) rfl <| OSuf.aop tyOK rfl za rfl <| OSuf.nil <| SQ.normal ?_
  refine CWp.ret <| FQ.ret (by simp only [aRet, Tryz.f37, aResults, aResult, lk, Nat.reduceEqDiff, reduceIte] <;> first | rfl | (simp only [tyall] <;> rfl) | (simp [tyall] <;> rfl)) ?_
  -- leaf: end
  refine ⟨?_, fun r o hr ho => by simp (disch := first | assumption | omega | (simp only [nx] <;> omega) | fail) only [hpl]; exact ho⟩
  cases chk p <;> rfl
end Go.Proofs.YtebheelmgcggmaaGreat
namespace Go.Proofs.YtebheelmgcggmaaGreat
open Go.Ab Go.Sort
set_option linter.unusedSimpArgs false
set_option linter.unusedVariables false
set_option maxRecDepth 10000
set_option maxHeartbeats 4000000
noncomputable def intoAll (e : Int) (ds b : List Rec) : List Rec := (ds.filter fun r => decide (r.lsn ≤ e)).foldl (fun b r => into r b) b
noncomputable abbrev zlf : List Value := [.string ⟨#[]⟩, .string ⟨#[]⟩, U64 0, .slice none 0 0, .slice none 0 0]
noncomputable abbrev LR (p : Lf) (bv dv : Value) : AObj := .cells (lcs p bv dv) 1
end Go.Proofs.YtebheelmgcggmaaGreat
