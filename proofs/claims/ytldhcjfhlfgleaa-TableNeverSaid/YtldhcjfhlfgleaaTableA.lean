/-
  Contracts of the package table: its memory; New, slice, places, find, Floor, Len.
-/
import Derived.Test.YtldhcjfhlfgleaaTy
import Derived.Test.YtldhcjfhlfgleaaAb37
namespace Go.Proofs.Ytldhcjfhlfgleaa
open Go.Ab
set_option linter.unusedSimpArgs false
set_option linter.unusedVariables false
set_option maxRecDepth 10000
set_option maxHeartbeats 4000000

abbrev P0 (p : Nat) : Value := .pointer (some ⟨p, 0, none⟩)
abbrev PA (p o : Nat) : Value := .pointer (some ⟨p, o, none⟩)
abbrev I64 (n : Int) : Value := .int .i64 n
abbrev U64 (n : Int) : Value := .int .u64 n
theorem sb : (∀ p : Prop, (p ∧ p) = p) ∧ (∀ {α : Type} {d : Decidable True} (a b : α), @ite α True d a b = a) ∧ (∀ n : Nat, (n : Int).toNat = n) ∧ (∀ n : Nat, 0 + n = n) ∧ (∀ n : Nat, n + 0 = n) ∧ (∀ n : Nat, n * 1 = n) := ⟨fun p => and_self p, fun {α d} a b => by simp, fun n => Int.toNat_natCast n, Nat.zero_add, Nat.add_zero, Nat.mul_one⟩
theorem bv_ptr {n r o : Nat} (hr : r < n) : BV n (PA r o) := ⟨fun _ => some ⟨0, 0, 0, 0⟩, _, .ptr hr rfl⟩
theorem bv_ptr0 {n : Nat} : BV n (.pointer none) := ⟨fun _ => none, _, .ptr0⟩

/-- A version. -/
structure Vr where
  ts : Int
  lsn : Int
  del : Bool
  val : ByteArray
  acked : Bool
def Vr.cs (v : Vr) : List Value := [U64 v.ts, U64 v.lsn, .bool v.del, .string v.val, .bool v.acked]
def flatV : List Vr → List Value
  | [] => []
  | v :: l => v.cs ++ flatV l
/-- A slice of versions of one's own. -/
inductive AVo (h : AHeap) : List Vr → Value → Prop
  | nil : AVo h [] (.slice none 0 0)
  | emp {y c : Nat} (hy : y < h.next) : AVo h [] (.slice (some ⟨y, 0, none⟩) 0 c)
  | some {V : List Vr} {y : Nat} (hne : V ≠ []) (hy : y < h.next) (hg : h.get y = some (.cells (flatV V) 5)) : AVo h V (.slice (some ⟨y, 0, none⟩) V.length 0)
def avRow : Value → Option Nat
  | .slice (some a) _ _ => some a.block
  | _ => none

structure Lk where
  row : Nat
  key : List UInt8
  rts : Int
  here : Bool
  vers : Value
  V : List Vr
def headV : List Lk → Value
  | [] => .pointer none
  | l :: _ => P0 l.row
def Lk.cs (l : Lk) (rest : List Lk) : List Value := [encS l.key, U64 l.rts, .bool l.here, l.vers, headV rest]
def Chn (h : AHeap) : List Lk → Prop
  | [] => True
  | l :: c => l.row < h.next ∧ h.get l.row = some (.cells (l.cs c) 1) ∧ Chn h c

/-! Which slice a key is in. -/
def stepH (n : Int) (c : UInt8) : Int := IntKind.u64.wrap (IntKind.u64.wrap (n * 31) + (c.toNat : Int))
def hsh (k : List UInt8) : Int := k.foldl stepH 0
def ix (k : List UInt8) (n : Nat) : Nat := (hsh k).toNat % n
theorem hsh_range (k : List UInt8) : 0 ≤ hsh k ∧ hsh k < 18446744073709551616 := by
  rcases List.eq_nil_or_concat k with rfl | ⟨l, c, rfl⟩
  · simp [hsh]
  · rw [hsh, List.concat_eq_append, List.foldl_append]
    exact wrap_u64_range _
theorem ix_lt (k : List UInt8) {n : Nat} (hn : 0 < n) : ix k n < n := Nat.mod_lt _ hn
theorem ix_rem (k : List UInt8) (n : Nat) : (hsh k).tmod (n : Int) = ((ix k n : Nat) : Int) := by
  have h0 := (hsh_range k).1
  rw [ix, Int.tmod_eq_emod_of_nonneg h0, Int.natCast_emod, Int.toNat_of_nonneg h0]

structure TM where
  s : Nat
  n : Nat
  ch : List (List Lk)
def TM.all (M : TM) : List Lk := M.ch.flatten
def TM.rows (M : TM) : List Nat := M.s :: M.all.map Lk.row
structure TA (h : AHeap) (r : Nat) (fl : Int) (M : TM) : Prop where
  lt : r < h.next
  slt : M.s < h.next
  pos : 0 < M.n
  small : M.n ≤ 64
  len : M.ch.length = M.n
  row : h.get r = some (.cells [.slice (some ⟨M.s, 0, none⟩) M.n (M.n + 1), U64 fl, I64 M.all.length] 1)
  srow : h.get M.s = some (.cells (M.ch.map headV) 1)
  chn : ∀ c ∈ M.ch, Chn h c
  rs : ¬ r = M.s
  nd : (r :: M.rows).Nodup
  av : ∀ l ∈ M.all, AVo h l.V l.vers
  hash : ∀ (i : Nat) (c : List Lk), M.ch[i]? = some c → ∀ l ∈ c, ix l.key M.n = i
  keys : (M.all.map Lk.key).Nodup

theorem zeros_one (x : Value) : ∀ n, zeros [x] n = List.replicate n x
  | 0 => rfl
  | n + 1 => by rw [zeros, zeros_one x n]; rfl
theorem new_c (h : AHeap) (n : Nat) (hn : 0 < n) (hm : n ≤ 64) : FWp Try.prog 8 [I64 n] h fun u h' => u = P0 (h.next + 1) ∧ h' = (h.new (.cells (List.replicate n (.pointer none)) 1)).new (.cells [.slice (some ⟨h.next, 0, none⟩) n (n + 1), U64 0, I64 0] 1) := by
  refine W.enter tyOK Try.func8 rfl rfl ?_
  simp only [entry]
  have c0 : (0 : Int) ≤ (n : Int) := by omega
  have c1 : (n : Int) ≤ 9223372036854775807 := by omega
  have c2 : (((8 : Nat) : Int) * (n : Int) ≤ 281474976710656) := by omega
  have c3 : (Value.pointer none).cells.toList.all flat1 = true := rfl
  have c4 : (Value.pointer none).cells.size = 1 := rfl
  have c5 : (Value.pointer none).cells.toList = [.pointer none] := rfl
  refine W.seq <| W.reg <| OSuf.aop tyOK rfl (so_assign (by simp only [lk] <;> rfl)) rfl <| OSuf.nil <| SQ.normal ?_
  refine W.seq <| W.seq <| W.reg <| OSuf.aop tyOK rfl sm rfl <| OSuf.aopF tyOK rfl (so_bin (by simp only [lk] <;> rfl) (by simp only [lk] <;> rfl) bi_lss) (fun _ => rfl) (by first | rfl | assumption | ((simp only [bl, places, c0, c1, c2, c3, c4, c5, sb, zeros_one, Int.le_refl, ty65, ty67, ty70]) <;> first | done | assumption | omega) | (simp; done) | (simp; omega)) <| OSuf.aopF tyOK rfl sm (fun _ => rfl) rfl <| OSuf.aop tyOK ag sm rfl <| OSuf.aopF tyOK ag (so_bin (by simp only [lk] <;> rfl) (by simp only [lk] <;> rfl) bi_gtr) (fun _ => rfl) (by first | rfl | assumption | ((simp only [bl, places, c0, c1, c2, c3, c4, c5, sb, zeros_one, Int.le_refl, ty65, ty67, ty70]) <;> first | done | assumption | omega) | (simp; done) | (simp; omega)) <| OSuf.aopF tyOK rfl (so_pick (by simp only [lk] <;> rfl) (by simp only [lk, cond_true, cond_false] <;> rfl)) (fun _ => rfl) rfl <| OSuf.nil <| SQ.normal ?_
  refine W.no (by simp only [lk] <;> rfl) <| CWp.skip <| SQ.normal ?_
  refine W.seq <| W.reg <| OSuf.aop tyOK rfl sm rfl <| OSuf.aop tyOK rfl (so_makeSlice (by simp only [lk] <;> rfl) (by simp only [lk] <;> rfl) (by simp (disch := first | assumption | omega | (simp only [nx] <;> omega) | fail) only [aMakeSlice, ty65, ty70, hpl, places, c0, c1, c2, c3, c4, c5, sb, zeros_one, Int.le_refl, ty65, ty67, ty70] <;> rfl)) rfl <| OSuf.aop tyOK rfl (so_build (by simp only [aparts, lk] <;> rfl) (by simp (disch := first | assumption | omega | (simp only [nx] <;> omega) | fail) only [aBuild, ty67, hpl, places, c0, c1, c2, c3, c4, c5, sb, zeros_one, Int.le_refl, ty65, ty67, ty70] <;> rfl)) rfl <| OSuf.aop tyOK rfl (so_box (by simp only [lk] <;> rfl)) rfl <| OSuf.aop tyOK rfl (so_assign (by simp only [lk] <;> rfl)) rfl <| OSuf.nil <| SQ.normal ?_
  refine CWp.ret <| FQ.ret (by simp only [aRet, Try.f8, aResults, aResult, lk, Nat.reduceEqDiff, reduceIte] <;> rfl) ?_
  -- leaf: end
  exact ⟨rfl, rfl⟩
theorem new_none (h : AHeap) (n : Int) (hn : n < 1 ∨ n > 64) : FWp Try.prog 8 [I64 n] h fun u h' => u = .pointer none ∧ h' = h := by
  refine W.enter tyOK Try.func8 rfl rfl ?_
  simp only [entry]
  by_cases h1 : n < 1
  · refine W.seq <| W.reg <| OSuf.aop tyOK rfl (so_assign (by simp only [lk] <;> rfl)) rfl <| OSuf.nil <| SQ.normal ?_
    refine W.seq <| W.seq <| W.reg <| OSuf.aop tyOK rfl sm rfl <| OSuf.aopT tyOK rfl (so_bin (by simp only [lk] <;> rfl) (by simp only [lk] <;> rfl) bi_lss) (fun _ => rfl) (by first | rfl | assumption | ((simp only [bl, places]) <;> first | done | assumption | omega) | (simp; done) | (simp; omega)) <| OSuf.aopT tyOK rfl sm (fun _ => rfl) rfl <| OSuf.pass ag rfl <| OSuf.pass ag rfl <| OSuf.aopT tyOK rfl (so_pick (by simp only [lk] <;> rfl) (by simp only [lk, cond_true, cond_false] <;> rfl)) (fun _ => rfl) rfl <| OSuf.nil <| SQ.normal ?_
    refine W.yes (by simp only [lk] <;> rfl) <| W.seq <| W.reg <| OSuf.aop tyOK rfl (so_assign (by simp only [lk] <;> rfl)) rfl <| OSuf.nil <| SQ.normal ?_
    refine CWp.ret <| SQ.ret <| FQ.ret (by simp only [aRet, Try.f8, aResults, aResult, lk, Nat.reduceEqDiff, reduceIte] <;> rfl) ?_
    -- leaf: end
    exact ⟨rfl, rfl⟩
  · have h2 : n > 64 := by omega
    refine W.seq <| W.reg <| OSuf.aop tyOK rfl (so_assign (by simp only [lk] <;> rfl)) rfl <| OSuf.nil <| SQ.normal ?_
    refine W.seq <| W.seq <| W.reg <| OSuf.aop tyOK rfl sm rfl <| OSuf.aopF tyOK rfl (so_bin (by simp only [lk] <;> rfl) (by simp only [lk] <;> rfl) bi_lss) (fun _ => rfl) (by first | rfl | assumption | ((simp only [bl, places]) <;> first | done | assumption | omega) | (simp; done) | (simp; omega)) <| OSuf.aopF tyOK rfl sm (fun _ => rfl) rfl <| OSuf.aop tyOK ag sm rfl <| OSuf.aopT tyOK ag (so_bin (by simp only [lk] <;> rfl) (by simp only [lk] <;> rfl) bi_gtr) (fun _ => rfl) (by first | rfl | assumption | ((simp only [bl, places]) <;> first | done | assumption | omega) | (simp; done) | (simp; omega)) <| OSuf.aopT tyOK rfl (so_pick (by simp only [lk] <;> rfl) (by simp only [lk, cond_true, cond_false] <;> rfl)) (fun _ => rfl) rfl <| OSuf.nil <| SQ.normal ?_
    refine W.yes (by simp only [lk] <;> rfl) <| W.seq <| W.reg <| OSuf.aop tyOK rfl (so_assign (by simp only [lk] <;> rfl)) rfl <| OSuf.nil <| SQ.normal ?_
    refine CWp.ret <| SQ.ret <| FQ.ret (by simp only [aRet, Try.f8, aResults, aResult, lk, Nat.reduceEqDiff, reduceIte] <;> rfl) ?_
    -- leaf: end
    exact ⟨rfl, rfl⟩
theorem map_rep {n : Nat} : (List.replicate n ([] : List Lk)).map headV = List.replicate n (.pointer none) := by simp [headV]
theorem all_rep {n : Nat} : (List.replicate n ([] : List Lk)).flatten = [] := by simp
theorem new_ta (h : AHeap) (n : Nat) (hn : 0 < n) (hm : n ≤ 64) : TA ((h.new (.cells (List.replicate n (.pointer none)) 1)).new (.cells [.slice (some ⟨h.next, 0, none⟩) n (n + 1), U64 0, I64 0] 1)) (h.next + 1) 0 ⟨h.next, n, List.replicate n []⟩ := by
  refine ⟨by simp, by simp; omega, hn, hm, by simp, ?_, ?_, ?_, by simp, ?_, ?_, ?_, ?_⟩
  · rw [TM.all, all_rep]; exact AHeap.get_new_at (by simp)
  · rw [map_rep, AHeap.get_new_ne (by simp)]; exact AHeap.get_new_same _ _
  · intro c hc; rw [List.eq_of_mem_replicate hc]; trivial
  · simp [TM.rows, TM.all, all_rep]
  · intro l hl; rw [TM.all, all_rep] at hl; simp at hl
  · intro i c hc l hl
    have := List.eq_of_mem_replicate (List.mem_of_getElem? hc)
    subst this; simp at hl
  · rw [TM.all, all_rep]; simp
theorem floor_c (h : AHeap) (r : Nat) (fl : Int) (M : TM) (hA : TA h r fl M) : FWp Try.prog 19 [P0 r] h fun u h' => u = U64 fl ∧ h' = h := by
  have hrow := hA.row
  refine W.enter tyOK Try.func19 rfl rfl ?_
  simp only [entry]
  refine W.seq <| W.reg <| OSuf.aop tyOK rfl (so_assign (by simp only [lk] <;> rfl)) rfl <| OSuf.nil <| SQ.normal ?_
  refine W.seq <| W.seq <| W.reg <| OSuf.aop tyOK rfl sm rfl <| OSuf.aopF tyOK rfl (so_bin (by simp only [lk] <;> rfl) (by simp only [lk] <;> rfl) (bi_nil ⟨_, _, ty23, rfl⟩)) (fun _ => rfl) rfl <| OSuf.nil <| SQ.normal ?_
  refine W.no (by simp only [lk] <;> rfl) <| CWp.skip <| SQ.normal ?_
  refine W.seq <| W.reg <| OSuf.aop tyOK rfl sm rfl <| OSuf.aop tyOK rfl (so_nilCheck (by simp only [lk] <;> rfl)) rfl <| OSuf.aop tyOK rfl (so_fieldAddr (by simp only [lk] <;> rfl) (fa_ok (k := 1) ty67 rfl rfl ty27 rfl rfl)) rfl <| OSuf.aop tyOK rfl (so_load (by simp only [lk] <;> rfl) (by simp (disch := first | assumption | omega | (simp only [nx] <;> omega) | fail) only [aLoad, ty27, rowOf, hpl, hrow] <;> rfl)) rfl <| OSuf.aop tyOK rfl (so_assign (by simp only [lk] <;> rfl)) rfl <| OSuf.nil <| SQ.normal ?_
  refine CWp.ret <| FQ.ret (by simp only [aRet, Try.f19, aResults, aResult, lk, Nat.reduceEqDiff, reduceIte] <;> rfl) ?_
  -- leaf: end
  exact ⟨rfl, rfl⟩
theorem len_c (h : AHeap) (r : Nat) (fl : Int) (M : TM) (hA : TA h r fl M) : FWp Try.prog 21 [P0 r] h fun u h' => u = I64 M.all.length ∧ h' = h := by
  have hrow := hA.row
  refine W.enter tyOK Try.func21 rfl rfl ?_
  simp only [entry]
  refine W.seq <| W.reg <| OSuf.aop tyOK rfl (so_assign (by simp only [lk] <;> rfl)) rfl <| OSuf.nil <| SQ.normal ?_
  refine W.seq <| W.seq <| W.reg <| OSuf.aop tyOK rfl sm rfl <| OSuf.aopF tyOK rfl (so_bin (by simp only [lk] <;> rfl) (by simp only [lk] <;> rfl) (bi_nil ⟨_, _, ty23, rfl⟩)) (fun _ => rfl) rfl <| OSuf.nil <| SQ.normal ?_
  refine W.no (by simp only [lk] <;> rfl) <| CWp.skip <| SQ.normal ?_
  refine W.seq <| W.reg <| OSuf.aop tyOK rfl sm rfl <| OSuf.aop tyOK rfl (so_nilCheck (by simp only [lk] <;> rfl)) rfl <| OSuf.aop tyOK rfl (so_fieldAddr (by simp only [lk] <;> rfl) (fa_ok (k := 2) ty67 rfl rfl ty3 rfl rfl)) rfl <| OSuf.aop tyOK rfl (so_load (by simp only [lk] <;> rfl) (by simp (disch := first | assumption | omega | (simp only [nx] <;> omega) | fail) only [aLoad, ty3, rowOf, hpl, hrow] <;> rfl)) rfl <| OSuf.aop tyOK rfl (so_assign (by simp only [lk] <;> rfl)) rfl <| OSuf.nil <| SQ.normal ?_
  refine CWp.ret <| FQ.ret (by simp only [aRet, Try.f21, aResults, aResult, lk, Nat.reduceEqDiff, reduceIte] <;> rfl) ?_
  -- leaf: end
  exact ⟨rfl, rfl⟩

theorem slice_c (h : AHeap) (r s n : Nat) (x y : Value) (k : List UInt8) (hr : r < h.next) (hs : s < h.next) (hn : 0 < n) (hm : n ≤ 64) (hk : k.length < 9223372036854775807)
    (hrow : h.get r = some (.cells [.slice (some ⟨s, 0, none⟩) n (n + 1), x, y] 1)) : FWp Try.prog 30 [P0 r, encS k] h fun u h' => u = PA s (ix k n) ∧ h' = h := by
  refine FWp.gcs (bv_ptr hs) (W.enter tyOK Try.func30 rfl rfl ?_)
  simp only [entry]
  refine W.seq <| W.reg <| OSuf.aop tyOK rfl (so_assign (by simp only [lk] <;> rfl)) rfl <| OSuf.nil <| SQ.normal ?_
  refine W.seq <| W.reg <| OSuf.aop tyOK rfl (so_assign (by simp only [lk] <;> rfl)) rfl <| OSuf.nil <| SQ.normal ?_
  refine W.seq <| W.seq <| W.reg <| OSuf.aop tyOK rfl sm rfl <| OSuf.aop tyOK rfl (so_convert (by simp only [lk] <;> rfl) (rfl)) rfl <| OSuf.aop tyOK rfl (so_len (by simp only [aopnds, lk] <;> rfl) (by simp (disch := first | assumption | omega | (simp only [nx] <;> omega) | fail) only [aLenOf, ty54, hpl, places, ty27, ty3, ty5, ty54, ty65, ty67, ty70, ty9] <;> rfl)) rfl <| OSuf.aop tyOK rfl sm rfl <| OSuf.nil <| SQ.normal ?_
  -- leaf: loop
  have e0 : (ByteArray.mk ⟨k⟩).size = k.length := rfl
  have e1 : byteVals (ByteArray.mk ⟨k⟩) = k.map fun b => Value.int .u8 b.toNat := rfl
  refine W.cut (fun L h' => h' = h.new (.cells (k.map fun b => Value.int .u8 b.toNat) 1) ∧ L = [(0, P0 r), (5, U64 (hsh k))]) (W.block (W.loop (fun m L h' => ∃ i : Nat, m + i = k.length ∧ h' = h.new (.cells (k.map fun b => Value.int .u8 b.toNat) 1) ∧ L = [(0, P0 r), (5, U64 (hsh (k.take i))), (9, .slice (some ⟨h.next, 0, none⟩) k.length 0), (10, I64 k.length), (11, I64 i)]) (n := k.length) ⟨0, by omega, rfl, rfl⟩ ?_ ?_)) ?_
  · simp [HasA, Tr.get_put, e0, hsh]
  · rintro m L h' ⟨i, hi, rfl, rfl⟩
    simp only [mkA]
    have w2 : IntKind.i64.wrap ((i : Int) + 1) = ((i + 1 : Nat) : Int) := by rw [wrap_i64 (by omega) (by omega)]; omega
    by_cases hlt : (i : Int) < (k.length : Int)
    · obtain ⟨c, hc⟩ : ∃ c, k[i]? = some c := ⟨k[i]'(by omega), by simp⟩
      have hcc : (k.map fun b => Value.int .u8 b.toNat)[i]? = some (.int .u8 c.toNat) := by simp [hc]
      have hb : (0 ≤ (i : Int) ∧ (i : Int) < (k.length : Int)) := by omega
      have w3 : IntKind.u64.wrap (c.toNat : Int) = (c.toNat : Int) := wrap_u64 (by omega) (by have := c.toNat_lt; omega)
      have w4 : IntKind.u64.wrap (IntKind.u64.wrap (hsh (k.take i) * 31) + (c.toNat : Int)) = hsh (k.take (i + 1)) := by
        rw [List.take_add_one, hc, hsh, hsh, Option.toList_some, List.foldl_append]; rfl
      refine W.seq <| W.reg <| OSuf.aopT tyOK rfl (so_bin (by simp only [lk] <;> rfl) (by simp only [lk] <;> rfl) bi_lss) (fun _ => rfl) (by first | rfl | assumption | ((simp only [bl, hb, sb, hcc]) <;> first | done | assumption | omega) | (simp; done) | (simp; omega)) <| OSuf.nil <| SQ.normal ?_
      refine W.seq <| W.yes (by simp only [lk] <;> rfl) <| CWp.skip <| SQ.normal ?_
      refine W.seq <| W.block <| W.seq <| W.reg <| OSuf.aop tyOK rfl (so_indexAddr (by simp only [lk] <;> rfl) (by simp only [lk] <;> rfl) (by simp (disch := first | assumption | omega | (simp only [nx] <;> omega) | fail) only [aIndexAddr, ty54, ty5, hpl, hb, sb, hcc] <;> rfl)) rfl <| OSuf.aop tyOK rfl (so_load (by simp only [lk] <;> rfl) (by simp (disch := first | assumption | omega | (simp only [nx] <;> omega) | fail) only [aLoad, ty5, rowOf, hpl, hb, sb, hcc] <;> rfl)) rfl <| OSuf.aop tyOK rfl (so_assign (by simp only [lk] <;> rfl)) rfl <| OSuf.nil <| SQ.normal ?_
      refine W.reg <| OSuf.aop tyOK rfl sm rfl <| OSuf.aop tyOK rfl (so_bin (by simp only [lk] <;> rfl) (by simp only [lk] <;> rfl) (bi_w bi_mul (by first | (simp only [w2, w3, w4] <;> rfl) | rfl))) rfl <| OSuf.aop tyOK rfl sm rfl <| OSuf.aop tyOK rfl (so_conw (so_conv tyOK (by simp only [lk] <;> rfl) ty5 ⟨_, rfl⟩ ty27 rfl) (by first | (simp only [w2, w3, w4] <;> rfl) | rfl)) rfl <| OSuf.aop tyOK rfl (so_bin (by simp only [lk] <;> rfl) (by simp only [lk] <;> rfl) (bi_w bi_add (by first | (simp only [w2, w3, w4] <;> rfl) | rfl))) rfl <| OSuf.aop tyOK rfl (so_assign (by simp only [lk] <;> rfl)) rfl <| OSuf.nil <| BQ.normal <| SQ.normal ?_
      refine W.reg <| OSuf.aop tyOK rfl (so_bin (by simp only [lk] <;> rfl) (by simp only [lk] <;> rfl) (bi_w bi_add (by first | (simp only [w2, w3, w4] <;> rfl) | rfl))) rfl <| OSuf.aop tyOK rfl sm rfl <| OSuf.nil <| ?_
      -- leaf: round
      refine LQ.normal (m := m - 1) (L := [(0, P0 r), (5, U64 (hsh (k.take (i + 1)))), (9, .slice (some ⟨h.next, 0, none⟩) k.length 0), (10, I64 k.length), (11, I64 ((i + 1 : Nat) : Int))]) (by omega) ?_ ⟨i + 1, by omega, rfl, rfl⟩
      simp only [HasA, Tr.get_put, Nat.reduceEqDiff, reduceIte, w2, w3, w4, and_self]
    · have : k.take i = k := List.take_of_length_le (by omega)
      rw [this]
      refine W.seq <| W.reg <| OSuf.aopF tyOK rfl (so_bin (by simp only [lk] <;> rfl) (by simp only [lk] <;> rfl) bi_lss) (fun _ => rfl) (by first | rfl | assumption | ((simp only [bl]) <;> first | done | assumption | omega) | (simp; done) | (simp; omega)) <| OSuf.nil <| SQ.normal ?_
      refine W.seq <| W.no (by simp only [lk] <;> rfl) <| CWp.exit <| SQ.exit <| LQ.exit <| BQ.exit <| ?_
      -- leaf: cut
      refine NQ.normal (L := [(0, P0 r), (5, U64 (hsh k))]) ?_ ⟨rfl, rfl⟩
      simp only [HasA, Tr.get_put, Nat.reduceEqDiff, reduceIte, and_self]
  rintro L a' h' ha ⟨rfl, rfl⟩
  have w5 : IntKind.u64.wrap (n : Int) = (n : Int) := wrap_u64 (by omega) (by omega)
  have w6 := ix_rem k n
  have hix := ix_lt k hn
  have hb : (0 ≤ ((ix k n : Nat) : Int) ∧ ((ix k n : Nat) : Int) < (n : Int)) := by omega
  refine SQ.normal <| CWp.known ha ?_
  simp only [mkA]
  refine W.seq <| W.regD tyOK mixed (by kernel_rfl) <| SqW.aop rfl sm rfl <| SqW.aop rfl (so_nilCheck (by simp only [lk] <;> rfl)) rfl <| SqW.aop rfl (so_fieldAddr (by simp only [lk] <;> rfl) (fa_ok (k := 0) ty67 rfl rfl ty65 rfl rfl)) rfl <| SqW.aop rfl (so_load (by simp only [lk] <;> rfl) (by simp (disch := first | assumption | omega | (simp only [nx] <;> omega) | fail) only [aLoad, ty65, rowOf, hpl, hrow, sb, hb] <;> rfl)) rfl <| SqW.aop rfl sm rfl <| SqW.aop rfl sm rfl <| SqW.aop rfl (so_nilCheck (by simp only [lk] <;> rfl)) rfl <| SqW.aop rfl (so_fieldAddr (by simp only [lk] <;> rfl) (fa_ok (k := 0) ty67 rfl rfl ty65 rfl rfl)) rfl <| SqW.aop rfl (so_load (by simp only [lk] <;> rfl) (by simp (disch := first | assumption | omega | (simp only [nx] <;> omega) | fail) only [aLoad, ty65, rowOf, hpl, hrow, sb, hb] <;> rfl)) rfl <| SqW.aop rfl (so_len (by simp only [aopnds, lk] <;> rfl) (by simp (disch := first | assumption | omega | (simp only [nx] <;> omega) | fail) only [aLenOf, ty65, hpl, hrow, sb, hb] <;> rfl)) rfl <| SqW.aop rfl (so_conw (so_conv tyOK (by simp only [lk] <;> rfl) ty3 ⟨_, rfl⟩ ty27 rfl) (by first | (simp only [w5, w6] <;> rfl) | rfl)) rfl <| SqW.aop rfl (so_bin (by simp only [lk] <;> rfl) (by simp only [lk] <;> rfl) (bi_w (bi_rem (by omega)) (by first | (simp only [w5, w6] <;> rfl) | rfl))) rfl <| SqW.aop rfl (so_indexAddr (by simp only [lk] <;> rfl) (by simp only [lk] <;> rfl) (by simp (disch := first | assumption | omega | (simp only [nx] <;> omega) | fail) only [aIndexAddr, ty65, ty70, hpl, hrow, sb, hb] <;> rfl)) rfl <| SqW.aop rfl (so_assign (by simp only [lk] <;> rfl)) rfl <| SqW.nil <| SQ.normal ?_
  refine CWp.ret <| FQ.ret (by simp only [aRet, Try.f30, aResults, aResult, lk, Nat.reduceEqDiff, reduceIte] <;> rfl) ?_
  -- leaf: end
  exact ⟨rfl, fun z o hz ho => by simp (disch := first | assumption | omega | (simp only [nx] <;> omega) | fail) only [hpl]; exact ho⟩
end Go.Proofs.Ytldhcjfhlfgleaa
