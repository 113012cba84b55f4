/-
  Merged: TableA, TableB, TableC, TableD, TableV, TableE.
-/
import Derived.Test.YtjenbiohcecfnaaGreatTy
import Derived.Test.YtjenbiohcecfnaaGreatAb37
namespace Go.Proofs.YtjenbiohcecfnaaGreat
open Go.Ab
set_option linter.unusedSimpArgs false
set_option linter.unusedVariables false
set_option maxRecDepth 10000
set_option maxHeartbeats 4000000
abbrev P0 (p : Nat) : Value := .pointer (some ⟨p, 0, none⟩)
abbrev PA (p o : Nat) : Value := .pointer (some ⟨p, o, none⟩)
abbrev I64 (n : Int) : Value := .int .i64 n
abbrev U64 (n : Int) : Value := .int .u64 n
theorem sb : (∀ p : Prop, (p ∧ p) = p) ∧ (∀ {α : Type} {d : Decidable True} (a b : α), @ite α True d a b = a) ∧ (∀ n : Nat, (n : Int).toNat = n) ∧ (∀ n : Nat, 0 + n = n) ∧ (∀ n : Nat, n + 0 = n) ∧ (∀ n : Nat, n * 1 = n) := ⟨fun p => and_self p, fun {α d} a b => by simp, fun n => Int.toNat_natCast n, Nat.zero_add, Nat.add_zero, Nat.mul_one⟩
theorem bv_ptr {n r o : Nat} (hr : r < n) : BV n (PA r o) := ⟨fun _ => some ⟨0, 0, 0, 0⟩, _, .ptr hr rfl⟩
theorem bv_ptr0 {n : Nat} : BV n (.pointer none) := ⟨fun _ => none, _, .ptr0⟩
structure Vr where
  ts : Int
  lsn : Int
  del : Bool
  val : ByteArray
  acked : Bool
def Vr.cs (v : Vr) : List Value := [U64 v.ts, U64 v.lsn, .bool v.del, .string v.val, .bool v.acked]
def flatV : List Vr → List Value
  | [] => []
  | v :: l => v.cs ++ flatV l
inductive AVo (h : AHeap) : List Vr → Value → Prop
  | nil : AVo h [] (.slice none 0 0)
  | emp {y c : Nat} (hy : y < h.next) : AVo h [] (.slice (some ⟨y, 0, none⟩) 0 c)
  | some {V : List Vr} {y : Nat} (hne : V ≠ []) (hy : y < h.next) (hg : h.get y = some (.cells (flatV V) 5)) : AVo h V (.slice (some ⟨y, 0, none⟩) V.length 0)
def avRow : Value → Option Nat
  | .slice (some a) _ _ => some a.block
  | _ => none
structure Lk where
  row : Nat
  key : List UInt8
  rts : Int
  here : Bool
  vers : Value
  V : List Vr
def headV : List Lk → Value
  | [] => .pointer none
  | l :: _ => P0 l.row
def Lk.cs (l : Lk) (rest : List Lk) : List Value := [encS l.key, U64 l.rts, .bool l.here, l.vers, headV rest]
def Chn (h : AHeap) : List Lk → Prop
  | [] => True
  | l :: c => l.row < h.next ∧ h.get l.row = some (.cells (l.cs c) 1) ∧ Chn h c
def stepH (n : Int) (c : UInt8) : Int := IntKind.u64.wrap (IntKind.u64.wrap (n * 31) + (c.toNat : Int))
def hsh (k : List UInt8) : Int := k.foldl stepH 0
def ix (k : List UInt8) (n : Nat) : Nat := (hsh k).toNat % n
theorem hsh_range (k : List UInt8) : 0 ≤ hsh k ∧ hsh k < 18446744073709551616 := by
  rcases List.eq_nil_or_concat k with rfl | ⟨l, c, rfl⟩
  · simp [hsh]
  · rw [hsh, List.concat_eq_append, List.foldl_append]
    exact wrap_u64_range _
theorem ix_lt (k : List UInt8) {n : Nat} (hn : 0 < n) : ix k n < n := Nat.mod_lt _ hn
theorem ix_rem (k : List UInt8) (n : Nat) : (hsh k).tmod (n : Int) = ((ix k n : Nat) : Int) := by
  have h0 := (hsh_range k).1
  rw [ix, Int.tmod_eq_emod_of_nonneg h0, Int.natCast_emod, Int.toNat_of_nonneg h0]
structure TM where
  s : Nat
  n : Nat
  ch : List (List Lk)
def TM.all (M : TM) : List Lk := M.ch.flatten
def TM.rows (M : TM) : List Nat := M.s :: M.all.map Lk.row
structure TA (h : AHeap) (r : Nat) (fl : Int) (M : TM) : Prop where
  lt : r < h.next
  slt : M.s < h.next
  pos : 0 < M.n
  small : M.n ≤ 64
  len : M.ch.length = M.n
  row : h.get r = some (.cells [.slice (some ⟨M.s, 0, none⟩) M.n (M.n + 1), U64 fl, I64 M.all.length] 1)
  srow : h.get M.s = some (.cells (M.ch.map headV) 1)
  chn : ∀ c ∈ M.ch, Chn h c
  rs : ¬ r = M.s
  nd : (r :: M.rows).Nodup
  av : ∀ l ∈ M.all, AVo h l.V l.vers
  hash : ∀ (i : Nat) (c : List Lk), M.ch[i]? = some c → ∀ l ∈ c, ix l.key M.n = i
  keys : (M.all.map Lk.key).Nodup
theorem zeros_one (x : Value) : ∀ n, zeros [x] n = List.replicate n x
  | 0 => rfl
  | n + 1 => by rw [zeros, zeros_one x n]; rfl
theorem new_c (h : AHeap) (n : Nat) (hn : 0 < n) (hm : n ≤ 64) : FWp Tryz.prog 17 [I64 n] h fun u h' => u = P0 (h.next + 1) ∧ h' = (h.new (.cells (List.replicate n (.pointer none)) 1)).new (.cells [.slice (some ⟨h.next, 0, none⟩) n (n + 1), U64 0, I64 0] 1) := by
  have tb17 := And.intro ty105 (And.intro ty107 (ty77))
  refine W.enter tyOK Tryz.func17 rfl rfl ?_
  simp only [entry]
  have c0 : (0 : Int) ≤ (n : Int) := by omega
  have c1 : (n : Int) ≤ 9223372036854775807 := by omega
  have c2 : (((8 : Nat) : Int) * (n : Int) ≤ 281474976710656) := by omega
  have c3 : (Value.pointer none).cells.toList.all flat1 = true := rfl
  have c4 : (Value.pointer none).cells.size = 1 := rfl
  have c5 : (Value.pointer none).cells.toList = [.pointer none] := rfl
  refine W.seq <| W.reg <| OSuf.aop tyOK rfl za rfl <| OSuf.nil <| SQ.normal ?_
  refine W.seq <| W.seq <| W.reg <| OSuf.aop tyOK rfl sm rfl <| OSuf.aopF tyOK rfl (zb (hv := bi_lss)) (fun _ => rfl) (by first | rfl | assumption | ((simp only [bl, places, c0, c1, c2, c3, c4, c5, sb, zeros_one, Int.le_refl, tb17]) <;> first | done | assumption | omega) | (simp; done) | (simp; omega)) <| OSuf.aopF tyOK rfl sm (fun _ => rfl) rfl <| OSuf.aop tyOK ag sm rfl <| OSuf.aopF tyOK ag (zb (hv := bi_gtr)) (fun _ => rfl) (by first | rfl | assumption | ((simp only [bl, places, c0, c1, c2, c3, c4, c5, sb, zeros_one, Int.le_refl, tb17]) <;> first | done | assumption | omega) | (simp; done) | (simp; omega)) <| OSuf.aopF tyOK rfl (so_pick (by simp only [lk] <;> rfl) (by simp only [lk, cond_true, cond_false] <;> rfl)) (fun _ => rfl) rfl <| OSuf.nil <| SQ.normal ?_
  refine W.no (by simp only [lk] <;> rfl) <| CWp.skip <| SQ.normal ?_
  refine W.seq <| W.reg <| OSuf.aop tyOK rfl sm rfl <| OSuf.aop tyOK rfl (so_makeSlice (by simp only [lk] <;> rfl) (by simp only [lk] <;> rfl) (by simp (disch := first | assumption | omega | (simp only [nx] <;> omega) | fail) only [aMakeSlice, ty105, ty77, hpl, places, c0, c1, c2, c3, c4, c5, sb, zeros_one, Int.le_refl, tb17] <;> rfl)) rfl <| OSuf.aop tyOK rfl (so_build (by simp only [aparts, lk] <;> rfl) (by simp only [aBuild, ty107, places, c0, c1, c2, c3, c4, c5, sb, zeros_one, Int.le_refl, tb17] <;> rfl)) rfl <| OSuf.aop tyOK rfl (so_box (by simp only [lk] <;> rfl)) rfl <| OSuf.aop tyOK rfl za rfl <| OSuf.nil <| SQ.normal ?_
  refine CWp.ret <| FQ.ret (by simp only [aRet, Tryz.f17, aResults, aResult, lk, Nat.reduceEqDiff, reduceIte] <;> rfl) ?_
  -- leaf: end
  exact ⟨rfl, rfl⟩
theorem map_rep {n : Nat} : (List.replicate n ([] : List Lk)).map headV = List.replicate n (.pointer none) := by simp [headV]
theorem all_rep {n : Nat} : (List.replicate n ([] : List Lk)).flatten = [] := by simp
theorem new_ta (h : AHeap) (n : Nat) (hn : 0 < n) (hm : n ≤ 64) : TA ((h.new (.cells (List.replicate n (.pointer none)) 1)).new (.cells [.slice (some ⟨h.next, 0, none⟩) n (n + 1), U64 0, I64 0] 1)) (h.next + 1) 0 ⟨h.next, n, List.replicate n []⟩ := by
  refine ⟨by simp, by simp; omega, hn, hm, by simp, ?_, ?_, ?_, by simp, ?_, ?_, ?_, ?_⟩
  · rw [TM.all, all_rep]; exact AHeap.get_new_at (by simp)
  · rw [map_rep, AHeap.get_new_ne (by simp)]; exact AHeap.get_new_same _ _
  · intro c hc; rw [List.eq_of_mem_replicate hc]; trivial
  · simp [TM.rows, TM.all, all_rep]
  · intro l hl; rw [TM.all, all_rep] at hl; simp at hl
  · intro i c hc l hl
    have := List.eq_of_mem_replicate (List.mem_of_getElem? hc)
    subst this; simp at hl
  · rw [TM.all, all_rep]; simp
theorem slice_c (h : AHeap) (r s n : Nat) (x y : Value) (k : List UInt8) (hr : r < h.next) (hs : s < h.next) (hn : 0 < n) (hm : n ≤ 64) (hk : k.length < 9223372036854775808)
    (hrow : h.get r = some (.cells [.slice (some ⟨s, 0, none⟩) n (n + 1), x, y] 1)) : FWp Tryz.prog 43 [P0 r, encS k] h fun u h' => u = PA s (ix k n) ∧ h' = h := by
  have tb43 := And.intro ty105 (And.intro ty107 (And.intro ty118 (And.intro ty27 (And.intro ty3 (And.intro ty5 (And.intro ty77 (ty9)))))))
  refine FWp.gcs (bv_ptr hs) (W.enter tyOK Tryz.func43 rfl rfl ?_)
  simp only [entry]
  refine W.seq <| W.reg <| OSuf.aop tyOK rfl za rfl <| OSuf.nil <| SQ.normal ?_
  refine W.seq <| W.reg <| OSuf.aop tyOK rfl za rfl <| OSuf.nil <| SQ.normal ?_
  refine W.seq <| W.seq <| W.reg <| OSuf.aop tyOK rfl sm rfl <| OSuf.aop tyOK rfl (so_convert (by simp only [lk] <;> rfl) (rfl)) rfl <| OSuf.aop tyOK rfl (so_len (by simp only [aopnds, lk] <;> rfl) (by simp (disch := first | assumption | omega | (simp only [nx] <;> omega) | fail) only [aLenOf, ty118, hpl, places, tb43] <;> rfl)) rfl <| OSuf.aop tyOK rfl sm rfl <| OSuf.nil <| SQ.normal ?_
  -- leaf: loop
  have e0 : (ByteArray.mk ⟨k⟩).size = k.length := rfl
  have e1 : byteVals (ByteArray.mk ⟨k⟩) = k.map fun b => Value.int .u8 b.toNat := rfl
  refine W.cut (fun L h' => h' = h.new (.cells (k.map fun b => Value.int .u8 b.toNat) 1) ∧ L = [(0, P0 r), (5, U64 (hsh k))]) (W.block (W.loop (fun m L h' => ∃ i : Nat, m + i = k.length ∧ h' = h.new (.cells (k.map fun b => Value.int .u8 b.toNat) 1) ∧ L = [(0, P0 r), (5, U64 (hsh (k.take i))), (9, .slice (some ⟨h.next, 0, none⟩) k.length 0), (10, I64 k.length), (11, I64 i)]) (n := k.length) ⟨0, by omega, rfl, rfl⟩ ?_ ?_)) ?_
  · simp [HasA, Tr.get_put, e0, hsh]
  · rintro m L h' ⟨i, hi, rfl, rfl⟩
    simp only [mkA]
    by_cases hlt : (i : Int) < (k.length : Int)
    · have w2 : IntKind.i64.wrap ((i : Int) + 1) = ((i + 1 : Nat) : Int) := by rw [wrap_i64 (by omega) (by omega)]; omega
      obtain ⟨c, hc⟩ : ∃ c, k[i]? = some c := ⟨k[i]'(by omega), by simp⟩
      have hcc : (k.map fun b => Value.int .u8 b.toNat)[i]? = some (.int .u8 c.toNat) := by simp [hc]
      have hb : (0 ≤ (i : Int) ∧ (i : Int) < (k.length : Int)) := by omega
      have w3 : IntKind.u64.wrap (c.toNat : Int) = (c.toNat : Int) := wrap_u64 (by omega) (by have := c.toNat_lt; omega)
      have w4 : IntKind.u64.wrap (IntKind.u64.wrap (hsh (k.take i) * 31) + (c.toNat : Int)) = hsh (k.take (i + 1)) := by
        rw [List.take_add_one, hc, hsh, hsh, Option.toList_some, List.foldl_append]; rfl
      refine W.seq <| W.reg <| OSuf.aopT tyOK rfl (zb (hv := bi_lss)) (fun _ => rfl) (by first | rfl | assumption | ((simp only [bl, hb, sb, hcc]) <;> first | done | assumption | omega) | (simp; done) | (simp; omega)) <| OSuf.nil <| SQ.normal ?_
      refine W.seq <| W.yes (by simp only [lk] <;> rfl) <| CWp.skip <| SQ.normal ?_
      refine W.seq <| W.block <| W.seq <| W.reg <| OSuf.aop tyOK rfl (zi (hv := by simp (disch := first | assumption | omega | (simp only [nx] <;> omega) | fail) only [aIndexAddr, ty118, ty5, hpl, hb, sb, hcc] <;> rfl)) rfl <| OSuf.aop tyOK rfl (zl (hv := by simp (disch := first | assumption | omega | (simp only [nx] <;> omega) | fail) only [aLoad, ty5, rowOf, hpl, hb, sb, hcc] <;> rfl)) rfl <| OSuf.aop tyOK rfl za rfl <| OSuf.nil <| SQ.normal ?_
      refine W.reg <| OSuf.aop tyOK rfl sm rfl <| OSuf.aop tyOK rfl (zb (hv := bi_w bi_mul (by first | (simp only [w2, w3, w4] <;> rfl) | rfl))) rfl <| OSuf.aop tyOK rfl sm rfl <| OSuf.aop tyOK rfl (so_conw (so_conv tyOK (by simp only [lk] <;> rfl) ty5 ⟨_, rfl⟩ ty27 rfl) (by first | (simp only [w2, w3, w4] <;> rfl) | rfl)) rfl <| OSuf.aop tyOK rfl (zb (hv := bi_w bi_add (by first | (simp only [w2, w3, w4] <;> rfl) | rfl))) rfl <| OSuf.aop tyOK rfl za rfl <| OSuf.nil <| BQ.normal <| SQ.normal ?_
      refine W.reg <| OSuf.aop tyOK rfl (zb (hv := bi_w bi_add (by first | (simp only [w2, w3, w4] <;> rfl) | rfl))) rfl <| OSuf.aop tyOK rfl sm rfl <| OSuf.nil <| ?_
      -- leaf: round
      refine LQ.normal (m := m - 1) (L := [(0, P0 r), (5, U64 (hsh (k.take (i + 1)))), (9, .slice (some ⟨h.next, 0, none⟩) k.length 0), (10, I64 k.length), (11, I64 ((i + 1 : Nat) : Int))]) (by omega) ?_ ⟨i + 1, by omega, rfl, rfl⟩
      simp only [HasA, Tr.get_put, Nat.reduceEqDiff, reduceIte, w2, w3, w4, and_self]
    · have : k.take i = k := List.take_of_length_le (by omega)
      rw [this]
      refine W.seq <| W.reg <| OSuf.aopF tyOK rfl (zb (hv := bi_lss)) (fun _ => rfl) (by first | rfl | assumption | ((simp only [bl]) <;> first | done | assumption | omega) | (simp; done) | (simp; omega)) <| OSuf.nil <| SQ.normal ?_
      refine W.seq <| W.no (by simp only [lk] <;> rfl) <| CWp.exit <| SQ.exit <| LQ.exit <| BQ.exit <| ?_
      -- leaf: cut
      refine NQ.normal (L := [(0, P0 r), (5, U64 (hsh k))]) ?_ ⟨rfl, rfl⟩
      simp only [HasA, Tr.get_put, Nat.reduceEqDiff, reduceIte, and_self]
  rintro L a' h' ha ⟨rfl, rfl⟩
  have w5 : IntKind.u64.wrap (n : Int) = (n : Int) := wrap_u64 (by omega) (by omega)
  have w6 := ix_rem k n
  have hix := ix_lt k hn
  have hb : (0 ≤ ((ix k n : Nat) : Int) ∧ ((ix k n : Nat) : Int) < (n : Int)) := by omega
  refine SQ.normal <| CWp.known ha ?_
  simp only [mkA]
  refine W.seq <| W.regD tyOK mixed (by kernel_rfl) <| SqW.aop rfl sm rfl <| SqW.aop rfl (so_nilCheck (by simp only [lk] <;> rfl)) rfl <| SqW.aop rfl (zf (hv := fa_ok (k := 0) ty107 rfl rfl ty105 rfl rfl)) rfl <| SqW.aop rfl (zl (hv := by simp (disch := first | assumption | omega | (simp only [nx] <;> omega) | fail) only [aLoad, ty105, rowOf, hpl, hrow, sb, hb] <;> rfl)) rfl <| SqW.aop rfl sm rfl <| SqW.aop rfl sm rfl <| SqW.aop rfl (so_nilCheck (by simp only [lk] <;> rfl)) rfl <| SqW.aop rfl (zf (hv := fa_ok (k := 0) ty107 rfl rfl ty105 rfl rfl)) rfl <| SqW.aop rfl (zl (hv := by simp (disch := first | assumption | omega | (simp only [nx] <;> omega) | fail) only [aLoad, ty105, rowOf, hpl, hrow, sb, hb] <;> rfl)) rfl <| SqW.aop rfl (so_len (by simp only [aopnds, lk] <;> rfl) (by simp (disch := first | assumption | omega | (simp only [nx] <;> omega) | fail) only [aLenOf, ty105, hpl, hrow, sb, hb] <;> rfl)) rfl <| SqW.aop rfl (so_conw (so_conv tyOK (by simp only [lk] <;> rfl) ty3 ⟨_, rfl⟩ ty27 rfl) (by first | (simp only [w5, w6] <;> rfl) | rfl)) rfl <| SqW.aop rfl (zb (hv := bi_w (bi_rem (by omega)) (by first | (simp only [w5, w6] <;> rfl) | rfl))) rfl <| SqW.aop rfl (zi (hv := by simp (disch := first | assumption | omega | (simp only [nx] <;> omega) | fail) only [aIndexAddr, ty105, ty77, hpl, hrow, sb, hb] <;> rfl)) rfl <| SqW.aop rfl za rfl <| SqW.nil <| SQ.normal ?_
  refine CWp.ret <| FQ.ret (by simp only [aRet, Tryz.f43, aResults, aResult, lk, Nat.reduceEqDiff, reduceIte] <;> rfl) ?_
  -- leaf: end
  exact ⟨rfl, fun z o hz ho => by simp (disch := first | assumption | omega | (simp only [nx] <;> omega) | fail) only [hpl]; exact ho⟩
theorem str_eq (x y : List UInt8) : ((ByteArray.toList ⟨⟨x⟩⟩) == (ByteArray.toList ⟨⟨y⟩⟩)) = decide (x = y) := by
  rw [ByteArray.toList_eq, ByteArray.toList_eq, Bool.eq_iff_iff]; simp
theorem Chn.mono {h h' : AHeap} : ∀ {c : List Lk}, Chn h c → h.next ≤ h'.next → (∀ l ∈ c, h'.get l.row = h.get l.row) → Chn h' c
  | [], _, _, _ => trivial
  | l :: c, ⟨h1, h2, h3⟩, hn, hk => ⟨by omega, by rw [hk l List.mem_cons_self]; exact h2, h3.mono hn fun l hl => hk l (List.mem_cons_of_mem _ hl)⟩
theorem Chn.lt {h : AHeap} : ∀ {c : List Lk}, Chn h c → ∀ l ∈ c, l.row < h.next
  | l :: c, ⟨h1, h2, h3⟩, x, hx => by
    cases hx with
    | head => exact h1
    | tail _ hm => exact h3.lt x hm
theorem chn_get {h : AHeap} {l : Lk} {post : List Lk} : ∀ {pre : List Lk}, Chn h (pre ++ l :: post) → ∃ rest, h.get l.row = some (.cells [encS l.key, U64 l.rts, .bool l.here, l.vers, rest] 1)
  | [], ⟨_, h2, _⟩ => ⟨_, h2⟩
  | x :: pre, ⟨_, _, h3⟩ => chn_get h3
def plc (p : Value) : List Lk → Value
  | [] => p
  | l :: c => plc (PA l.row 4) c
theorem plc_snoc (l : Lk) : ∀ (p : Value) (c : List Lk), plc p (c ++ [l]) = PA l.row 4
  | p, [] => rfl
  | p, x :: c => plc_snoc l _ c
theorem bv_plc {n : Nat} : ∀ {c : List Lk} {p : Value}, BV n p → (∀ l ∈ c, l.row < n) → BV n (plc p c)
  | [], p, h1, _ => h1
  | l :: c, p, _, h2 => bv_plc (c := c) (p := PA l.row 4) (bv_ptr (h2 l List.mem_cons_self)) fun x hx => h2 x (List.mem_cons_of_mem _ hx)
def At (h : AHeap) (v : Value) (w : Value) : Prop := ∃ q o vs, v = PA q o ∧ q < h.next ∧ h.get q = some (.cells vs 1) ∧ vs[o]? = some w
theorem at_plc {h : AHeap} {post : List Lk} : ∀ {pre : List Lk} {p : Value}, At h p (headV (pre ++ post)) → Chn h (pre ++ post) → At h (plc p pre) (headV post)
  | [], p, h1, _ => h1
  | l :: pre, p, _, ⟨h2, h3, h4⟩ => at_plc (pre := pre) (p := PA l.row 4) ⟨l.row, 4, _, rfl, h2, h3, rfl⟩ h4
theorem at_mono {h h' : AHeap} {v w : Value} (ha : At h v w) (hn : h.next ≤ h'.next) (hk : ∀ z, z < h.next → h'.get z = h.get z) : At h' v w := by
  obtain ⟨q, o, vs, h1, h2, h3, h4⟩ := ha
  exact ⟨q, o, vs, h1, by omega, by rw [hk q h2]; exact h3, h4⟩
theorem places_c (h : AHeap) (s i : Nat) : FWp Tryz.prog 58 [PA s i] h fun u h' => u = .func (.func 73) #[] #[P0 h.next] ∧ h' = h.new (.cells [PA s i] 1) := by
  refine W.enter tyOK Tryz.func58 rfl rfl ?_
  simp only [entry]
  refine W.seq <| W.reg <| OSuf.aop tyOK rfl (so_box (by simp only [lk] <;> rfl)) rfl <| OSuf.aop tyOK rfl za rfl <| OSuf.nil <| SQ.normal ?_
  refine W.seq <| W.reg <| OSuf.aop tyOK rfl (so_makeFunc rfl (by simp only [aopnds, lk] <;> rfl) (by simp only [aopnds, lk] <;> rfl)) rfl <| OSuf.aop tyOK rfl za rfl <| OSuf.nil <| SQ.normal ?_
  refine CWp.ret <| FQ.ret (by simp only [aRet, Tryz.f58, aResults, aResult, lk, Nat.reduceEqDiff, reduceIte] <;> rfl) ?_
  -- leaf: end
  exact ⟨rfl, rfl⟩
theorem each_c (h : AHeap) (s i q : Nat) (yv : Value) (J : List Lk → AHeap → Prop) (R : AHeap → Prop) (full : List Lk) (hq : h.get q = some (.cells [PA s i] 1))
    (hJ : J [] h) (hc : ∀ pre g, J pre g → ∀ p c, p ++ c = full → At g (plc (PA s i) p) (headV c))
    (yield : ∀ pre l post g, pre ++ l :: post = full → J pre g → VWp Tryz.prog yv [plc (PA s i) pre] g (fun u g' => u = .bool true ∧ J (pre ++ [l]) g') ∨ VWp Tryz.prog yv [plc (PA s i) pre] g (fun u g' => u = .bool false ∧ R g'))
    (hend : ∀ g, J full g → R g) : FWp Tryz.prog 73 [yv, P0 q] h fun u h' => u = .tuple #[] ∧ R h' := by
  refine W.enter tyOK Tryz.func73 rfl rfl ?_
  simp only [entry]
  refine W.seq <| W.reg <| OSuf.aop tyOK rfl (zl (hv := by simp (disch := first | assumption | omega | (simp only [nx] <;> omega) | fail) only [aLoad, ty75, rowOf, hpl, hq] <;> rfl)) rfl <| OSuf.aop tyOK rfl za rfl <| OSuf.nil <| SQ.normal ?_
  -- leaf: loop
  refine W.cut (fun L h' => R h' ∧ L = []) (W.block (W.loop (fun m L h' => ∃ pre post, pre ++ post = full ∧ m = post.length ∧ J pre h' ∧ L = [(0, yv), (3, plc (PA s i) pre)]) (n := full.length) ⟨[], full, rfl, rfl, hJ, rfl⟩ ?_ ?_)) ?_
  · simp [HasA, Tr.get_put, plc]
  · rintro m L g ⟨pre, post, hfull, rfl, hj, rfl⟩
    simp only [mkA]
    obtain ⟨z, o, vs, e1, e2, e3, e4⟩ := hc pre g hj pre post hfull
    rw [e1]
    cases post with
    | nil =>
      have e4' : vs[o]? = some (.pointer none) := e4
      refine W.seq <| W.seq <| W.reg <| OSuf.aop tyOK rfl sm rfl <| OSuf.aop tyOK rfl (so_nilCheck (by simp only [lk] <;> rfl)) rfl <| OSuf.aop tyOK rfl (zl (hv := by simp (disch := first | assumption | omega | (simp only [nx] <;> omega) | fail) only [aLoad, ty77, rowOf, hpl, e3, e4'] <;> rfl)) rfl <| OSuf.aopF tyOK rfl (zb (hv := bi_nnil0 tyOK ⟨_, _, ty77, rfl⟩)) (fun _ => rfl) rfl <| OSuf.nil <| SQ.normal ?_
      refine W.no (by simp only [lk] <;> rfl) <| CWp.exit <| SQ.exit <| LQ.exit <| BQ.exit <| ?_
      -- leaf: cut
      refine NQ.normal (L := []) trivial ⟨hend _ ?_, rfl⟩
      rw [← hfull, List.append_nil]; exact hj
    | cons l post =>
      have e4' : vs[o]? = some (P0 l.row) := e4
      have hy := yield pre l post g hfull hj
      rw [e1] at hy
      rcases hy with hy | hy
      · refine W.seq <| W.seq <| W.reg <| OSuf.aop tyOK rfl sm rfl <| OSuf.aop tyOK rfl (so_nilCheck (by simp only [lk] <;> rfl)) rfl <| OSuf.aop tyOK rfl (zl (hv := by simp (disch := first | assumption | omega | (simp only [nx] <;> omega) | fail) only [aLoad, ty77, rowOf, hpl, e3, e4'] <;> rfl)) rfl <| OSuf.aopT tyOK rfl (zb (hv := bi_nnil ⟨_, _, ty77, rfl⟩)) (fun _ => rfl) rfl <| OSuf.nil <| SQ.normal ?_
        refine W.yes (by simp only [lk] <;> rfl) <| CWp.skip <| SQ.normal ?_
        refine W.seq <| W.block <| W.seq <| W.reg <| OSuf.aop tyOK rfl sm rfl <| OSuf.aop tyOK rfl sm rfl <| OSuf.vcall rfl (by simp only [lk] <;> rfl) (by simp only [aopnds, lk] <;> rfl) (hy) ?_
        rintro u g' ⟨rfl, hj'⟩
        obtain ⟨z', o', vs', f1, f2, f3, f4⟩ := hc _ g' hj' pre (l :: post) hfull
        obtain ⟨rfl, rfl⟩ : z' = z ∧ o' = o := by (rw [e1] at f1; cases f1; exact ⟨rfl, rfl⟩)
        have f4' : vs'[o']? = some (P0 l.row) := f4
        refine ⟨_, rfl, ?_⟩
        refine OSuf.aopF tyOK rfl (so_not (by simp only [lk] <;> rfl)) (fun _ => rfl) rfl <| OSuf.nil <| SQ.normal ?_
        refine W.no (by simp only [lk] <;> rfl) <| CWp.skip <| BQ.normal <| SQ.normal ?_
        refine W.reg <| OSuf.aop tyOK rfl sm rfl <| OSuf.aop tyOK rfl (so_nilCheck (by simp only [lk] <;> rfl)) rfl <| OSuf.aop tyOK rfl (zl (hv := by simp (disch := first | assumption | omega | (simp only [nx] <;> omega) | fail) only [aLoad, ty77, rowOf, hpl, e3, e4', f3, f4'] <;> rfl)) rfl <| OSuf.aop tyOK rfl (so_nilCheck (by simp only [lk] <;> rfl)) rfl <| OSuf.aop tyOK rfl (zf (hv := fa_ok (k := 4) ty79 rfl rfl ty77 rfl rfl)) rfl <| OSuf.aop tyOK rfl za rfl <| OSuf.nil <| ?_
        -- leaf: round
        refine LQ.normal (m := post.length) (L := [(0, yv), (3, plc (PA s i) (pre ++ [l]))]) (by simp) ?_ ⟨pre ++ [l], post, by simpa using hfull, rfl, hj', rfl⟩
        rw [plc_snoc]
        simp only [HasA, Tr.get_put, Nat.reduceEqDiff, reduceIte, and_self]
      · refine W.seq <| W.seq <| W.reg <| OSuf.aop tyOK rfl sm rfl <| OSuf.aop tyOK rfl (so_nilCheck (by simp only [lk] <;> rfl)) rfl <| OSuf.aop tyOK rfl (zl (hv := by simp (disch := first | assumption | omega | (simp only [nx] <;> omega) | fail) only [aLoad, ty77, rowOf, hpl, e3, e4'] <;> rfl)) rfl <| OSuf.aopT tyOK rfl (zb (hv := bi_nnil ⟨_, _, ty77, rfl⟩)) (fun _ => rfl) rfl <| OSuf.nil <| SQ.normal ?_
        refine W.yes (by simp only [lk] <;> rfl) <| CWp.skip <| SQ.normal ?_
        refine W.seq <| W.block <| W.seq <| W.reg <| OSuf.aop tyOK rfl sm rfl <| OSuf.aop tyOK rfl sm rfl <| OSuf.vcall rfl (by simp only [lk] <;> rfl) (by simp only [aopnds, lk] <;> rfl) (hy) ?_
        rintro u g' ⟨rfl, hr⟩
        refine ⟨_, rfl, ?_⟩
        refine OSuf.aopT tyOK rfl (so_not (by simp only [lk] <;> rfl)) (fun _ => rfl) rfl <| OSuf.nil <| SQ.normal ?_
        refine W.yes (by simp only [lk] <;> rfl) <| CWp.ret <| BQ.ret <| SQ.ret <| LQ.ret <| BQ.ret <| NQ.ret <| FQ.ret (by simp only [aRet, Tryz.f73, aResults, aResult, lk, Nat.reduceEqDiff, reduceIte] <;> rfl) ?_
        -- leaf: end
        exact ⟨rfl, hr⟩
  rintro L a' h' ha ⟨hr, rfl⟩
  exact FQ.normal (by simp only [aRet, Tryz.f73, aResults] <;> rfl) ⟨rfl, hr⟩
structure FG (h0 g : AHeap) (s i : Nat) (k : List UInt8) (LP : ALoop) : Prop where
  next : g.next = h0.next + 4
  kk : g.get h0.next = some (.cells [encS k] 1)
  out : g.get (h0.next + 1) = some (.cells [.pointer none] 1)
  loop : g.get (h0.next + 3) = some (.loop LP)
  old : ∀ z, z < h0.next → g.get z = h0.get z
structure FE (h0 g : AHeap) (u : Value) (LP : ALoop) : Prop where
  next : g.next = h0.next + 4
  out : g.get (h0.next + 1) = some (.cells [u] 1)
  loop : g.get (h0.next + 3) = some (.loop (LP.with .done (some .ret)))
  old : ∀ z, z < h0.next → g.get z = h0.get z
theorem split_eq {k : List UInt8} : ∀ {p q : List Lk} {l m : Lk} {a b : List Lk}, p ++ l :: a = q ++ m :: b → (∀ x ∈ p, ¬ x.key = k) → (∀ x ∈ q, ¬ x.key = k) → l.key = k → m.key = k → p = q
  | [], [], _, _, _, _, _, _, _, _, _ => rfl
  | [], y :: q, l, m, a, b, e, h1, h2, h3, h4 => by simp at e; exact absurd (by rw [← e.1]; exact h3) (h2 y List.mem_cons_self)
  | x :: p, [], l, m, a, b, e, h1, h2, h3, h4 => by simp at e; exact absurd (by rw [e.1]; exact h4) (h1 x List.mem_cons_self)
  | x :: p, y :: q, l, m, a, b, e, h1, h2, h3, h4 => by
    simp at e
    rw [e.1, split_eq e.2 (fun z hz => h1 z (List.mem_cons_of_mem _ hz)) (fun z hz => h2 z (List.mem_cons_of_mem _ hz)) h3 h4]
theorem find_g (h : AHeap) (r : Nat) (fl : Int) (M : TM) (hA : TA h r fl M) (k : List UInt8) (hk : k.length < 9223372036854775808) (c : List Lk) (hc : M.ch[ix k M.n]? = some c) (u : Value) (hu : BV h.next u)
    (hu' : (u = .pointer none ∧ ∀ l ∈ c, ¬ l.key = k) ∨ ∃ pre l post, c = pre ++ l :: post ∧ (∀ x ∈ pre, ¬ x.key = k) ∧ l.key = k ∧ u = plc (PA M.s (ix k M.n)) pre) :
    FWp Tryz.prog 30 [P0 r, encS k] h fun v h' => v = u ∧ h' = h := by
  have hrow := hA.row
  have hl := hA.lt
  have hsl := hA.slt
  have hcc : Chn h c := hA.chn c (List.mem_of_getElem? hc)
  have at0 : At h (PA M.s (ix k M.n)) (headV c) := ⟨_, _, _, rfl, hsl, hA.srow, by simp [hc]⟩
  have hAll : ∀ p q, p ++ q = c → At h (plc (PA M.s (ix k M.n)) p) (headV q) := fun p q e => at_plc (by rw [e]; exact at0) (by rw [e]; exact hcc)
  refine FWp.gcs hu (W.enter tyOK Tryz.func30 rfl rfl ?_)
  simp only [entry]
  have hsc := slice_c ((h.new (.cells [encS k] 1)).new (.cells [.pointer none] 1)) r M.s M.n (U64 fl) (I64 M.all.length) k (by simp; omega) (by simp; omega) hA.pos hA.small hk (by simp (disch := first | assumption | omega | (simp only [nx] <;> omega) | fail) only [hpl]; exact hrow)
  refine W.seq <| W.reg <| OSuf.aop tyOK rfl (so_box (by simp only [lk] <;> rfl)) rfl <| OSuf.aop tyOK rfl (so_alloc (by simp only [aAlloc, ty75] <;> rfl)) rfl <| OSuf.nil <| SQ.normal ?_
  refine W.seq <| W.seq <| W.reg <| OSuf.aop tyOK rfl sm rfl <| OSuf.aop tyOK rfl (zl (hv := by simp (disch := first | assumption | omega | (simp only [nx] <;> omega) | fail) only [aLoad, ty9, rowOf, hpl, Value.cells] <;> rfl)) rfl <| OSuf.callD rfl (by simp only [aopnds, lk] <;> rfl) en43 (hsc) rfl <| OSuf.callD rfl (by simp only [aopnds, lk] <;> rfl) en58 (places_c _ _ _) rfl <| OSuf.nil <| SQ.normal ?_
  -- leaf: loop
  refine W.block (CWp.rangeFunc (by simp only [aopnd, Tr.get_put, Nat.reduceEqDiff, reduceIte] <;> rfl) (fun l hl => by cases hl) (VWp.func en73 ?_))
  show FWp _ _ [_, _] _ _
  generalize hLP : (ALoop.mk _ _ _ _ _ _ _ _) = LP
  have nxt : (((h.new (.cells [encS k] 1)).new (.cells [.pointer none] 1)).new (.cells [PA M.s (ix k M.n)] 1)).next = h.next + 3 := rfl
  have hG : FG h ((((h.new (.cells [encS k] 1)).new (.cells [.pointer none] 1)).new (.cells [PA M.s (ix k M.n)] 1)).new (.loop LP)) M.s (ix k M.n) k LP := by
    refine ⟨rfl, ?_, ?_, ?_, fun z hz => ?_⟩ <;> simp (disch := first | assumption | omega | (simp only [nx] <;> omega) | fail) only [hpl]
  have bEq : ∀ pre l post (g : AHeap), pre ++ l :: post = c → FG h g M.s (ix k M.n) k LP → l.key = k → VWp Tryz.prog (.func (.yield (h.next + 3)) #[] #[]) [plc (PA M.s (ix k M.n)) pre] g fun v g' =>
      v = .bool false ∧ FE h g' (plc (PA M.s (ix k M.n)) pre) LP := by
    intro pre l post g hp hg hkk
    obtain ⟨g1, g2, g3, g4, g5⟩ := hg
    have hl := g4
    rw [← hLP] at hl
    obtain ⟨z, o, vs, e1, e2, e3, e4⟩ := hAll pre (l :: post) hp
    have e3' : g.get z = some (.cells vs 1) := by rw [g5 z e2]; exact e3
    have e4' : vs[o]? = some (P0 l.row) := e4
    have hlr : l.row < h.next := hcc.lt l (by rw [← hp]; simp)
    have hlk : ∃ rest, g.get l.row = some (.cells [encS l.key, U64 l.rts, .bool l.here, l.vers, rest] 1) := by
      rw [g5 _ hlr]
      exact chn_get (by rw [hp]; exact hcc)
    obtain ⟨rest, hlk⟩ := hlk
    rw [e1]
    refine VWp.yield hl rfl ?_
    refine W.reg <| OSuf.aop tyOK rfl za rfl <| OSuf.nil <| ?_
    -- leaf: stop
    refine ⟨rfl, _, hl, rfl, ?_⟩
    have hb : ((ByteArray.toList ⟨⟨l.key⟩⟩) == (ByteArray.toList ⟨⟨k⟩⟩)) = true := by rw [str_eq, hkk]; simp
    refine W.block <| W.seq <| W.regD tyOK mixed (by kernel_rfl) <| SqW.aop rfl sm rfl <| SqW.aop rfl (so_nilCheck (by simp only [lk] <;> rfl)) rfl <| SqW.aop rfl (zl (hv := by simp (disch := first | assumption | omega | (simp only [nx] <;> omega) | fail) only [aLoad, ty77, rowOf, hpl, e3', e4', hlk, g2, g3, Value.cells] <;> rfl)) rfl <| SqW.aop rfl (so_nilCheck (by simp only [lk] <;> rfl)) rfl <| SqW.aop rfl (zf (hv := fa_ok (k := 0) ty79 rfl rfl ty36 rfl rfl)) rfl <| SqW.aop rfl (zf (hv := fa_ok (k := 0) ty36 rfl rfl ty9 rfl rfl)) rfl <| SqW.aop rfl (zl (hv := by simp (disch := first | assumption | omega | (simp only [nx] <;> omega) | fail) only [aLoad, ty9, rowOf, hpl, e3', e4', hlk, g2, g3, Value.cells] <;> rfl)) rfl <| SqW.aop rfl (zl (hv := by simp (disch := first | assumption | omega | (simp only [nx] <;> omega) | fail) only [aLoad, ty9, rowOf, hpl, e3', e4', hlk, g2, g3, Value.cells] <;> rfl)) rfl <| SqW.aopT rfl (zb (hv := bs_eql)) (fun _ => rfl) (hb) <| SqW.nil <| SQ.normal ?_
    refine W.yes (by simp only [lk] <;> rfl) <| W.seq <| W.reg <| OSuf.aop tyOK rfl sm rfl <| OSuf.aop tyOK rfl (zs (hv := by simp (disch := first | assumption | omega | (simp only [nx] <;> omega) | fail) only [aStore, ty75, writeRow, hpl, e3', e4', hlk, g2, g3, Value.cells] <;> rfl)) rfl <| OSuf.nil <| SQ.normal ?_
    refine CWp.ret <| BQ.ret <| ?_
    -- leaf: stop
    refine ⟨_, by (simp (disch := first | assumption | omega | (simp only [nx] <;> omega) | fail) only [hpl]; rfl), rfl, ?_, ?_, ?_, fun z hz => ?_⟩
    · simp only [nx]; exact g1
    · simp (disch := first | assumption | omega | (simp only [nx] <;> omega) | fail) only [hpl]; rfl
    · rw [AHeap.get_set_same, ← hLP]; rfl
    · simp (disch := first | assumption | omega | (simp only [nx] <;> omega) | fail) only [hpl]; exact g5 z hz
  have bNe : ∀ pre l post (g : AHeap), pre ++ l :: post = c → FG h g M.s (ix k M.n) k LP → ¬ l.key = k → VWp Tryz.prog (.func (.yield (h.next + 3)) #[] #[]) [plc (PA M.s (ix k M.n)) pre] g fun v g' =>
      v = .bool true ∧ FG h g' M.s (ix k M.n) k LP := by
    intro pre l post g hp hg hkk
    obtain ⟨g1, g2, g3, g4, g5⟩ := hg
    have hl := g4
    rw [← hLP] at hl
    obtain ⟨z, o, vs, e1, e2, e3, e4⟩ := hAll pre (l :: post) hp
    have e3' : g.get z = some (.cells vs 1) := by rw [g5 z e2]; exact e3
    have e4' : vs[o]? = some (P0 l.row) := e4
    have hlr : l.row < h.next := hcc.lt l (by rw [← hp]; simp)
    have hlk : ∃ rest, g.get l.row = some (.cells [encS l.key, U64 l.rts, .bool l.here, l.vers, rest] 1) := by
      rw [g5 _ hlr]
      exact chn_get (by rw [hp]; exact hcc)
    obtain ⟨rest, hlk⟩ := hlk
    rw [e1]
    refine VWp.yield hl rfl ?_
    refine W.reg <| OSuf.aop tyOK rfl za rfl <| OSuf.nil <| ?_
    -- leaf: stop
    refine ⟨rfl, _, hl, rfl, ?_⟩
    have hb : ((ByteArray.toList ⟨⟨l.key⟩⟩) == (ByteArray.toList ⟨⟨k⟩⟩)) = false := by rw [str_eq]; simp [hkk]
    refine W.block <| W.seq <| W.regD tyOK mixed (by kernel_rfl) <| SqW.aop rfl sm rfl <| SqW.aop rfl (so_nilCheck (by simp only [lk] <;> rfl)) rfl <| SqW.aop rfl (zl (hv := by simp (disch := first | assumption | omega | (simp only [nx] <;> omega) | fail) only [aLoad, ty77, rowOf, hpl, e3', e4', hlk, g2, g3, Value.cells] <;> rfl)) rfl <| SqW.aop rfl (so_nilCheck (by simp only [lk] <;> rfl)) rfl <| SqW.aop rfl (zf (hv := fa_ok (k := 0) ty79 rfl rfl ty36 rfl rfl)) rfl <| SqW.aop rfl (zf (hv := fa_ok (k := 0) ty36 rfl rfl ty9 rfl rfl)) rfl <| SqW.aop rfl (zl (hv := by simp (disch := first | assumption | omega | (simp only [nx] <;> omega) | fail) only [aLoad, ty9, rowOf, hpl, e3', e4', hlk, g2, g3, Value.cells] <;> rfl)) rfl <| SqW.aop rfl (zl (hv := by simp (disch := first | assumption | omega | (simp only [nx] <;> omega) | fail) only [aLoad, ty9, rowOf, hpl, e3', e4', hlk, g2, g3, Value.cells] <;> rfl)) rfl <| SqW.aopF rfl (zb (hv := bs_eql)) (fun _ => rfl) (hb) <| SqW.nil <| SQ.normal ?_
    refine W.no (by simp only [lk] <;> rfl) <| CWp.skip <| BQ.normal <| ?_
    -- leaf: stop
    refine ⟨_, by (simp (disch := first | assumption | omega | (simp only [nx] <;> omega) | fail) only [hpl]; rfl), rfl, ?_, ?_, ?_, ?_, fun z hz => ?_⟩
    · simp only [nx]; exact g1
    · simp (disch := first | assumption | omega | (simp only [nx] <;> omega) | fail) only [hpl]; exact g2
    · simp (disch := first | assumption | omega | (simp only [nx] <;> omega) | fail) only [hpl]; exact g3
    · rw [AHeap.get_set_same, ← hLP]; rfl
    · simp (disch := first | assumption | omega | (simp only [nx] <;> omega) | fail) only [hpl]; exact g5 z hz
  have hbusy : (LP.state == .busy) = false := by rw [← hLP]; rfl
  have hjn : jumpExit LP.pending = some .normal := by rw [← hLP]; rfl
  clear hLP
  refine FWp.mono (K := fun v h2 => v = .tuple #[] ∧ ((u = .pointer none ∧ FG h h2 M.s (ix k M.n) k LP) ∨ FE h h2 u LP)) ?_ (fun v h2 hK => ?_)
  · have hq0 : ((((h.new (.cells [encS k] 1)).new (.cells [.pointer none] 1)).new (.cells [PA M.s (ix k M.n)] 1)).new (.loop LP)).get (h.next + 2) = some (.cells [PA M.s (ix k M.n)] 1) := by simp (disch := first | assumption | omega | (simp only [nx] <;> omega) | fail) only [hpl]
    refine each_c _ M.s (ix k M.n) (h.next + 2) _ (fun p g => FG h g M.s (ix k M.n) k LP ∧ ∀ l ∈ p, ¬ l.key = k) _ c hq0 ⟨hG, fun l hl => (List.not_mem_nil hl).elim⟩ (fun pre g hg p q e => at_mono (hAll p q e) (by have := hg.1.next; omega) (fun z hz => hg.1.old z hz)) ?_ ?_
    · rintro pre l post g hp ⟨hg, hpre⟩
      by_cases hkk : l.key = k
      · refine .inr ((bEq pre l post g hp hg hkk).mono ?_)
        rintro v g' ⟨rfl, hE⟩
        refine ⟨rfl, .inr ?_⟩
        rcases hu' with ⟨_, h0⟩ | ⟨pre', l', post', h1, h2, h3, h4⟩
        · exact absurd hkk (h0 l (by rw [← hp]; simp))
        · have : pre = pre' := split_eq (k := k) (by rw [hp, h1]) hpre h2 hkk h3
          rw [h4, ← this]; exact hE
      · refine .inl ((bNe pre l post g hp hg hkk).mono ?_)
        rintro v g' ⟨rfl, hE⟩
        refine ⟨rfl, hE, fun x hx => ?_⟩
        rcases List.mem_append.1 hx with h9 | h9
        · exact hpre x h9
        · simp at h9; subst h9; exact hkk
    · rintro g ⟨hg, hn⟩
      rcases hu' with ⟨h0, _⟩ | ⟨pre', l', post', h1, h2, h3, h4⟩
      · exact .inl ⟨h0, hg⟩
      · exact absurd h3 (hn l' (by rw [h1]; simp))
  · obtain ⟨rfl, ⟨rfl, hg⟩ | hE⟩ := hK
    · obtain ⟨g1, g2, g3, g4, g5⟩ := hg
      refine ⟨LP, .normal, g4, hbusy, hjn, ?_⟩
      refine BQ.normal <| SQ.normal ?_
      refine W.seq <| W.reg <| OSuf.aop tyOK rfl (zs (hv := by simp (disch := first | assumption | omega | (simp only [nx] <;> omega) | fail) only [aStore, ty75, writeRow, hpl, g3, Value.cells] <;> rfl)) rfl <| OSuf.nil <| SQ.normal ?_
      refine CWp.ret <| FQ.ret (by simp (disch := first | assumption | omega | (simp only [nx] <;> omega) | fail) only [aRet, Tryz.f30, aResults, aResult, lk, Nat.reduceEqDiff, reduceIte, aLoad, rowOf, hpl, g3, Value.cells] <;> rfl) ?_
      -- leaf: end
      refine ⟨rfl, fun z x hz hx => ?_⟩
      simp (disch := first | assumption | omega | (simp only [nx] <;> omega) | fail) only [hpl]; rw [g5 z hz]; exact hx
    · obtain ⟨g1, g3, g4, g5⟩ := hE
      refine ⟨_, .ret, g4, rfl, rfl, ?_⟩
      refine BQ.ret <| SQ.ret <| FQ.ret (by simp (disch := first | assumption | omega | (simp only [nx] <;> omega) | fail) only [aRet, Tryz.f30, aResults, aResult, lk, Nat.reduceEqDiff, reduceIte, aLoad, rowOf, hpl, g3] <;> rfl) ?_
      refine ⟨rfl, fun z x hz hx => ?_⟩
      simp (disch := first | assumption | omega | (simp only [nx] <;> omega) | fail) only [hpl]; rw [g5 z hz]; exact hx
theorem find_none (h : AHeap) (r : Nat) (fl : Int) (M : TM) (hA : TA h r fl M) (k : List UInt8) (hk : k.length < 9223372036854775808) (hn : ∀ l ∈ M.all, ¬ l.key = k) :
    FWp Tryz.prog 30 [P0 r, encS k] h fun v h' => v = .pointer none ∧ h' = h := by
  have hi : ix k M.n < M.ch.length := by rw [hA.len]; exact ix_lt k hA.pos
  obtain ⟨c, hc⟩ : ∃ c, M.ch[ix k M.n]? = some c := ⟨M.ch[ix k M.n], by simp [hi]⟩
  exact find_g h r fl M hA k hk c hc _ bv_ptr0 (.inl ⟨rfl, fun l hl => hn l (List.mem_flatten.2 ⟨c, List.mem_of_getElem? hc, hl⟩)⟩)
theorem find_some (h : AHeap) (r : Nat) (fl : Int) (M : TM) (hA : TA h r fl M) (k : List UInt8) (hk : k.length < 9223372036854775808) (c pre post : List Lk) (l : Lk) (hc : M.ch[ix k M.n]? = some c) (hp : c = pre ++ l :: post) (hpre : ∀ x ∈ pre, ¬ x.key = k) (hl : l.key = k) :
    FWp Tryz.prog 30 [P0 r, encS k] h fun v h' => v = plc (PA M.s (ix k M.n)) pre ∧ h' = h :=
  find_g h r fl M hA k hk c hc _ (bv_plc (bv_ptr hA.slt) fun x hx => (hA.chn c (List.mem_of_getElem? hc)).lt x (by rw [hp]; exact List.mem_append_left _ hx)) (.inr ⟨pre, l, post, hp, hpre, hl, rfl⟩)
theorem ch_split {α : Type} {l : List α} {i : Nat} {c : α} (h : l[i]? = some c) : ∃ A B, l = A ++ c :: B ∧ A.length = i ∧ ∀ c', l.set i c' = A ++ c' :: B := by
  obtain ⟨hi, hc⟩ := List.getElem?_eq_some_iff.1 h
  refine ⟨l.take i, l.drop (i + 1), ?_, by simp; omega, fun c' => ?_⟩
  · rw [← hc]; simp
  · rw [List.set_eq_take_append_cons_drop, if_pos hi]
theorem all_split {M : TM} {i : Nat} {c : List Lk} (h : M.ch[i]? = some c) : ∃ P Q, M.all = P ++ (c ++ Q) ∧ (∀ c', (M.ch.set i c').flatten = P ++ (c' ++ Q)) ∧ (∀ l, l ∈ P ++ Q → ∃ j d, ¬ j = i ∧ M.ch[j]? = some d ∧ l ∈ d) ∧ ∀ j d, ¬ j = i → M.ch[j]? = some d → ∀ l ∈ d, l ∈ P ++ Q := by
  obtain ⟨A, B, e1, e2, e3⟩ := ch_split h
  refine ⟨A.flatten, B.flatten, by rw [TM.all, e1]; simp, fun c' => by rw [e3]; simp, fun l hl => ?_, fun j d hj hd l hl => ?_⟩
  · rcases List.mem_append.1 hl with h9 | h9
    · obtain ⟨d, hd, hm⟩ := List.mem_flatten.1 h9
      obtain ⟨j, hj⟩ := List.getElem?_of_mem hd
      have hjl := (List.getElem?_eq_some_iff.1 hj).1
      exact ⟨j, d, by omega, by rw [e1, List.getElem?_append_left hjl]; exact hj, hm⟩
    · obtain ⟨d, hd, hm⟩ := List.mem_flatten.1 h9
      obtain ⟨j, hj⟩ := List.getElem?_of_mem hd
      refine ⟨A.length + (j + 1), d, by omega, ?_, hm⟩
      rw [e1, List.getElem?_append_right (by omega)]
      have : A.length + (j + 1) - A.length = j + 1 := by omega
      rw [this, List.getElem?_cons_succ]; exact hj
  · rw [e1] at hd
    by_cases hlt : j < A.length
    · rw [List.getElem?_append_left hlt] at hd
      exact List.mem_append_left _ (List.mem_flatten.2 ⟨d, List.mem_of_getElem? hd, hl⟩)
    · rw [List.getElem?_append_right (by omega)] at hd
      obtain ⟨k, hk⟩ : ∃ k, j - A.length = k + 1 := ⟨j - A.length - 1, by omega⟩
      rw [hk, List.getElem?_cons_succ] at hd
      exact List.mem_append_right _ (List.mem_flatten.2 ⟨d, List.mem_of_getElem? hd, hl⟩)
def TM.put (M : TM) (i : Nat) (c : List Lk) : TM := { M with ch := M.ch.set i c }
theorem avo_mono {h h' : AHeap} {V : List Vr} {v : Value} (a : AVo h V v) (hn : h.next ≤ h'.next) (hk : ∀ y w, y < h.next → h.get y = some (.cells w 5) → h'.get y = h.get y) : AVo h' V v := by
  cases a with
  | nil => exact .nil
  | emp hy => exact .emp (by omega)
  | some hne hy hg => exact .some hne (by omega) (by rw [hk _ _ hy hg]; exact hg)
theorem TA.put {h h' : AHeap} {r : Nat} {fl fl' : Int} {M : TM} (hA : TA h r fl M) {i : Nat} {c c' : List Lk} (hc : M.ch[i]? = some c) (hn : h.next ≤ h'.next)
    (hrow : h'.get r = some (.cells [.slice (some ⟨M.s, 0, none⟩) M.n (M.n + 1), U64 fl', I64 (M.put i c').all.length] 1))
    (hs : h'.get M.s = some (.cells ((M.ch.map headV).set i (headV c')) 1)) (hchn : Chn h' c')
    (hk : ∀ z, z < h.next → ¬ z = r → ¬ z = M.s → (∀ l ∈ c, ¬ z = l.row) → h'.get z = h.get z)
    (hrows : ∀ l ∈ c', (∃ m ∈ c, m.row = l.row) ∨ h.next ≤ l.row) (hnd : (c'.map Lk.row).Nodup) (hkd : (c'.map Lk.key).Nodup) (hix : ∀ l ∈ c', ix l.key M.n = i)
    (hav : ∀ l ∈ c', AVo h' l.V l.vers) : TA h' r fl' (M.put i c') := by
  obtain ⟨P, Q, e1, e2, e3, e4⟩ := all_split hc
  have hall : (M.put i c').all = P ++ (c' ++ Q) := e2 c'
  have nd := hA.nd
  have kd := hA.keys
  simp only [TM.rows, e1, List.map_append, List.nodup_cons, List.nodup_append, List.mem_cons, List.mem_append, not_or] at nd
  simp only [e1, List.map_append, List.nodup_append, List.mem_append] at kd
  have hlt : ∀ l ∈ M.all, l.row < h.next := fun l hl => by
    obtain ⟨d, hd, hm⟩ := List.mem_flatten.1 hl
    exact (hA.chn d hd).lt l hm
  have hold : ∀ l, l ∈ P ++ Q → h'.get l.row = h.get l.row := fun l hl => by
    have hla : l ∈ M.all := by rw [e1]; simp at hl ⊢; rcases hl with h9 | h9 <;> simp [h9]
    have hmr : l.row ∈ P.map Lk.row ++ Q.map Lk.row := by rw [← List.map_append]; exact List.mem_map.2 ⟨l, hl, rfl⟩
    have hmr := List.mem_append.1 hmr
    refine hk _ (hlt l hla) (fun e => ?_) (fun e => ?_) (fun m hm e => ?_)
    · rcases hmr with h9 | h9
      · exact nd.1.2.1 (by rw [← e]; exact h9)
      · exact nd.1.2.2.2 (by rw [← e]; exact h9)
    · rcases hmr with h9 | h9
      · exact nd.2.1.1 (by rw [← e]; exact h9)
      · exact nd.2.1.2.2 (by rw [← e]; exact h9)
    · have hm' : m.row ∈ c.map Lk.row := List.mem_map.2 ⟨m, hm, rfl⟩
      rcases hmr with h9 | h9
      · exact nd.2.2.2.2 _ h9 m.row (.inl hm') e
      · exact nd.2.2.2.1.2.2 _ hm' _ h9 e.symm
  refine ⟨Nat.lt_of_lt_of_le hA.lt hn, Nat.lt_of_lt_of_le hA.slt hn, hA.pos, hA.small, by rw [TM.put]; simp [hA.len], hrow, ?_, ?_, hA.rs, ?_, ?_, ?_, ?_⟩
  · rw [TM.put]; simp only [List.map_set]; exact hs
  · intro d hd
    rw [TM.put] at hd
    obtain ⟨j, hj⟩ := List.getElem?_of_mem hd
    simp only [List.getElem?_set] at hj
    split at hj
    · split at hj
      · cases hj; exact hchn
      · cases hj
    · rename_i hij
      have hdm := List.mem_of_getElem? hj
      exact (hA.chn d hdm).mono hn fun l hl => hold l (e4 j d (fun e => hij e.symm) hj l hl)
  · have hnew : ∀ l ∈ c', ¬ l.row = r ∧ ¬ l.row = M.s ∧ ∀ x ∈ P ++ Q, ¬ x.row = l.row := fun l hl => by
      rcases hrows l hl with ⟨m, hm, hml⟩ | h9
      · have hm' : m.row ∈ c.map Lk.row := List.mem_map.2 ⟨m, hm, rfl⟩
        rw [← hml]
        refine ⟨fun e => nd.1.2.2.1 (by rw [← e]; exact hm'), fun e => nd.2.1.2.1 (by rw [← e]; exact hm'), fun x hx e => ?_⟩
        rcases List.mem_append.1 hx with h9 | h9
        · exact nd.2.2.2.2 _ (List.mem_map.2 ⟨x, h9, rfl⟩) m.row (.inl hm') e
        · exact nd.2.2.2.1.2.2 _ hm' _ (List.mem_map.2 ⟨x, h9, rfl⟩) e.symm
      · have h1 := hA.lt
        have h2 := hA.slt
        refine ⟨by omega, by omega, fun x hx e => ?_⟩
        have := hlt x (by rw [e1]; simp at hx ⊢; rcases hx with h8 | h8 <;> simp [h8])
        omega
    rw [TM.rows, hall]
    simp only [List.map_append, List.nodup_cons, List.nodup_append, List.mem_cons, List.mem_append, not_or]
    refine ⟨⟨nd.1.1, nd.1.2.1, fun hm => ?_, nd.1.2.2.2⟩, ⟨nd.2.1.1, fun hm => ?_, nd.2.1.2.2⟩, nd.2.2.1, ⟨hnd, nd.2.2.2.1.2.1, fun a ha b hb => ?_⟩, fun a ha b hb => ?_⟩
    · obtain ⟨l, hl, e⟩ := List.mem_map.1 hm; exact (hnew l hl).1 e
    · obtain ⟨l, hl, e⟩ := List.mem_map.1 hm; exact (hnew l hl).2.1 e
    · obtain ⟨l, hl, rfl⟩ := List.mem_map.1 ha
      obtain ⟨x, hx, rfl⟩ := List.mem_map.1 hb
      exact fun e => (hnew l hl).2.2 x (List.mem_append_right _ hx) e.symm
    · obtain ⟨x, hx, rfl⟩ := List.mem_map.1 ha
      rcases hb with hb | hb
      · obtain ⟨l, hl, rfl⟩ := List.mem_map.1 hb
        exact fun e => (hnew l hl).2.2 x (List.mem_append_left _ hx) e
      · exact nd.2.2.2.2 _ ha b (.inr hb)
  · intro l hl
    rw [hall] at hl
    simp only [List.mem_append] at hl
    have old : l ∈ P ++ Q → AVo h' l.V l.vers := fun h9 => by
      have hla : l ∈ M.all := by rw [e1]; simp at h9 ⊢; rcases h9 with h8 | h8 <;> simp [h8]
      refine avo_mono (hA.av l hla) hn fun y w hy hg => hk y hy (fun e => ?_) (fun e => ?_) fun m hm e => ?_
      · subst e; rw [hA.row] at hg; cases hg
      · subst e; rw [hA.srow] at hg; cases hg
      · subst e
        have hcm : Chn h c := hA.chn c (List.mem_of_getElem? hc)
        obtain ⟨pre, post, rfl⟩ := List.append_of_mem hm
        obtain ⟨rest, hr⟩ := chn_get hcm
        rw [hr] at hg; cases hg
    rcases hl with h9 | h9 | h9
    · exact old (List.mem_append_left _ h9)
    · exact hav l h9
    · exact old (List.mem_append_right _ h9)
  · intro j d hd l hl
    rw [TM.put] at hd
    simp only [List.getElem?_set] at hd
    split at hd
    · split at hd
      · rename_i hij _; cases hd; subst hij; exact hix l hl
      · cases hd
    · exact hA.hash j d hd l hl
  · have hxx : ∀ x ∈ P ++ Q, ∀ l ∈ c', ¬ x.key = l.key := fun x hx l hl e => by
      obtain ⟨j, d, hj, hd, hm⟩ := e3 x hx
      have h1 := hA.hash j d hd x hm
      rw [e, hix l hl] at h1
      exact hj h1.symm
    rw [hall]
    simp only [List.map_append, List.nodup_append, List.mem_append]
    refine ⟨kd.1, ⟨hkd, kd.2.1.2.1, fun a ha b hb => ?_⟩, fun a ha b hb => ?_⟩
    · obtain ⟨l, hl, rfl⟩ := List.mem_map.1 ha
      obtain ⟨x, hx, rfl⟩ := List.mem_map.1 hb
      exact fun e => hxx x (List.mem_append_right _ hx) l hl e.symm
    · obtain ⟨x, hx, rfl⟩ := List.mem_map.1 ha
      rcases hb with hb | hb
      · obtain ⟨l, hl, rfl⟩ := List.mem_map.1 hb
        exact hxx x (List.mem_append_left _ hx) l hl
      · exact kd.2.2 _ ha b (.inr hb)
structure Rec where
  key : List UInt8
  rts : Int
  here : Bool
  V : List Vr
def Lk.rc (l : Lk) : Rec := ⟨l.key, l.rts, l.here, l.V⟩
structure TB (h : AHeap) (r : Nat) (fl : Int) (M : TM) (A : List Rec) : Prop where
  ta : TA h r fl M
  perm : (M.all.map Lk.rc).Perm A
theorem TB.nodup {h : AHeap} {r : Nat} {fl : Int} {M : TM} {A : List Rec} (t : TB h r fl M A) : (A.map Rec.key).Nodup := by
  refine ((t.perm.map Rec.key).nodup_iff).1 ?_
  rw [List.map_map]; exact t.ta.keys
structure Site (M : TM) (k : List UInt8) (c pre : List Lk) (l : Lk) (post : List Lk) : Prop where
  at_ : M.ch[ix k M.n]? = some c
  split : c = pre ++ l :: post
  pre : ∀ x ∈ pre, ¬ x.key = k
  key : l.key = k
theorem site {h : AHeap} {r : Nat} {fl : Int} {M : TM} (hA : TA h r fl M) (k : List UInt8) : (∀ l ∈ M.all, ¬ l.key = k) ∨ ∃ c pre l post, Site M k c pre l post := by
  by_cases hn : ∀ l ∈ M.all, ¬ l.key = k
  · exact .inl hn
  · refine .inr ?_
    have first : ∀ c : List Lk, (∃ l ∈ c, l.key = k) → ∃ pre l post, c = pre ++ l :: post ∧ (∀ x ∈ pre, ¬ x.key = k) ∧ l.key = k := by
      intro c
      induction c with
      | nil => rintro ⟨l, hl, _⟩; cases hl
      | cons x c ih =>
        rintro ⟨l, hl, e⟩
        by_cases hx : x.key = k
        · exact ⟨[], x, c, rfl, fun _ h => (List.not_mem_nil h).elim, hx⟩
        · cases hl with
          | head => exact (hx e).elim
          | tail _ hm =>
            obtain ⟨p, l', q, e1, e2, e3⟩ := ih ⟨l, hm, e⟩
            refine ⟨x :: p, l', q, by rw [e1]; rfl, fun y hy => ?_, e3⟩
            cases hy with
            | head => exact hx
            | tail _ h9 => exact e2 y h9
    obtain ⟨l, hl, he⟩ : ∃ l ∈ M.all, l.key = k := Classical.byContradiction fun h9 => hn fun l hl e => h9 ⟨l, hl, e⟩
    obtain ⟨c, hc, hm⟩ := List.mem_flatten.1 hl
    obtain ⟨i, hi⟩ := List.getElem?_of_mem hc
    have := hA.hash i c hi l hm
    rw [he] at this
    subst this
    obtain ⟨p, l', q, e1, e2, e3⟩ := first c ⟨l, hm, he⟩
    exact ⟨c, p, l', q, hi, e1, e2, e3⟩
def getR (k : List UInt8) (A : List Rec) : Option Rec := A.find? fun x => decide (x.key = k)
theorem getR_none {h : AHeap} {r : Nat} {fl : Int} {M : TM} {A : List Rec} (t : TB h r fl M A) {k : List UInt8} (hn : ∀ l ∈ M.all, ¬ l.key = k) : getR k A = none := by
  refine List.find?_eq_none.2 fun x hx => ?_
  obtain ⟨l, hl, rfl⟩ := List.mem_map.1 (t.perm.mem_iff.2 hx)
  simp only [decide_eq_true_eq]; exact hn l hl
theorem find_nodup {k : List UInt8} {x : Rec} : ∀ {A : List Rec}, (A.map Rec.key).Nodup → x ∈ A → x.key = k → getR k A = some x
  | y :: A, hn, hx, hk => by
    simp only [List.map_cons, List.nodup_cons] at hn
    cases hx with
    | head => simp [getR, hk]
    | tail _ hm =>
      have : ¬ y.key = k := fun e => hn.1 (by rw [e, ← hk]; exact List.mem_map.2 ⟨x, hm, rfl⟩)
      have ih := find_nodup hn.2 hm hk
      rw [getR] at ih
      rw [getR, List.find?_cons_of_neg (by simpa using this)]; exact ih
theorem getR_some {h : AHeap} {r : Nat} {fl : Int} {M : TM} {A : List Rec} (t : TB h r fl M A) {k : List UInt8} {c pre post : List Lk} {l : Lk} (hs : Site M k c pre l post) : getR k A = some l.rc := by
  refine find_nodup t.nodup (t.perm.mem_iff.1 (List.mem_map.2 ⟨l, ?_, rfl⟩)) hs.key
  exact List.mem_flatten.2 ⟨c, List.mem_of_getElem? hs.at_, by rw [hs.split]; simp⟩
def setR (x : Rec) (A : List Rec) : List Rec := match getR x.key A with
  | some _ => A.map fun y => if y.key = x.key then x else y
  | none => x :: A
def delR (k : List UInt8) (A : List Rec) : List Rec := A.filter fun y => !decide (y.key = k)
theorem map_ne {x : Rec} : ∀ {A : List Rec}, (∀ y ∈ A, ¬ y.key = x.key) → (A.map fun y => if y.key = x.key then x else y) = A
  | [], _ => rfl
  | y :: A, h => by rw [List.map_cons, if_neg (h y List.mem_cons_self), map_ne fun z hz => h z (List.mem_cons_of_mem _ hz)]
theorem perm_mid {α β : Type} (f : α → β) (P Q : List α) (p q : List α) (l : α) : ((P ++ ((p ++ l :: q) ++ Q)).map f).Perm (f l :: ((P ++ (p ++ q ++ Q)).map f)) := by
  have : (P ++ ((p ++ l :: q) ++ Q)) = (P ++ p) ++ l :: (q ++ Q) := by simp
  rw [this]
  have e2 : (P ++ (p ++ q ++ Q)) = (P ++ p) ++ (q ++ Q) := by simp
  rw [e2, List.map_append, List.map_cons, List.map_append (l₁ := P ++ p)]
  exact List.perm_middle
theorem rest_ne {x : Rec} {B : List Rec} (h : ((x :: B).map Rec.key).Nodup) : ∀ y ∈ B, ¬ y.key = x.key := fun y hy e => by
  simp only [List.map_cons, List.nodup_cons] at h
  exact h.1 (by rw [← e]; exact List.mem_map.2 ⟨y, hy, rfl⟩)
theorem TB.rest {h : AHeap} {r : Nat} {fl : Int} {M : TM} {A : List Rec} (t : TB h r fl M A) {k : List UInt8} {c pre post : List Lk} {l : Lk} (hs : Site M k c pre l post) :
    ∃ B, A.Perm (l.rc :: B) ∧ (∀ y ∈ B, ¬ y.key = k) ∧ (∀ l', ((M.put (ix k M.n) (pre ++ l' :: post)).all.map Lk.rc).Perm (l'.rc :: B)) ∧ ((M.put (ix k M.n) (pre ++ post)).all.map Lk.rc).Perm B := by
  obtain ⟨P, Q, e1, e2, e3, e4⟩ := all_split hs.at_
  have p1 := t.perm
  rw [e1, hs.split] at p1
  have p2 := p1.symm.trans (perm_mid Lk.rc P Q pre post l)
  have hB := rest_ne ((p2.map Rec.key).nodup_iff.1 t.nodup)
  refine ⟨_, p2, fun y hy e => hB y hy (by rw [e]; exact hs.key.symm), fun l' => ?_, ?_⟩
  · have := e2 (pre ++ l' :: post)
    rw [TM.all, TM.put]; simp only; rw [this]
    exact perm_mid Lk.rc P Q pre post l'
  · have := e2 (pre ++ post)
    rw [TM.all, TM.put]; simp only; rw [this]
theorem setR_perm {x y : Rec} {A B : List Rec} (hn : (A.map Rec.key).Nodup) (hp : A.Perm (y :: B)) (hk : y.key = x.key) (hB : ∀ z ∈ B, ¬ z.key = x.key) : (x :: B).Perm (setR x A) := by
  have hg : getR x.key A = some y := find_nodup hn (hp.mem_iff.2 List.mem_cons_self) hk
  rw [setR, hg]
  have := hp.map fun z => if z.key = x.key then x else z
  refine List.Perm.trans ?_ this.symm
  rw [List.map_cons, if_pos hk, map_ne hB]
theorem ins_perm {h : AHeap} {r : Nat} {fl : Int} {M : TM} {A : List Rec} (t : TB h r fl M A) {k : List UInt8} {c : List Lk} {l : Lk} (hc : M.ch[ix k M.n]? = some c) (hn : ∀ x ∈ M.all, ¬ x.key = k) (hl : l.key = k) :
    ((M.put (ix k M.n) (l :: c)).all.map Lk.rc).Perm (setR l.rc A) := by
  obtain ⟨P, Q, e1, e2, e3, e4⟩ := all_split hc
  have hg : getR l.rc.key A = none := getR_none t (k := l.rc.key) (by show ∀ x ∈ M.all, ¬ x.key = l.key; rw [hl]; exact hn)
  rw [setR, hg]
  have := e2 (l :: c)
  rw [TM.all, TM.put]; simp only; rw [this]
  have p1 := t.perm
  rw [e1] at p1
  have := perm_mid Lk.rc P Q [] c l
  exact this.trans (.cons _ p1)
theorem len_put {M : TM} {i : Nat} {c c' : List Lk} (hc : M.ch[i]? = some c) : (M.put i c').all.length + c.length = M.all.length + c'.length := by
  obtain ⟨P, Q, e1, e2, _, _⟩ := all_split hc
  have := e2 c'
  rw [TM.all, TM.put]; simp only; rw [this, e1]; simp; omega
theorem rows_put {M : TM} {i : Nat} {c c' : List Lk} (hc : M.ch[i]? = some c) {z : Nat} (hz : z ∈ (M.put i c').rows) : z ∈ M.rows ∨ z ∈ c'.map Lk.row := by
  obtain ⟨P, Q, e1, e2, _, _⟩ := all_split hc
  have := e2 c'
  have e5 : (M.put i c').all = P ++ (c' ++ Q) := this
  simp only [TM.rows, e5, e1, List.map_append, List.mem_cons, List.mem_append] at hz ⊢
  rcases hz with h9 | h9 | h9 | h9
  · exact .inl (.inl h9)
  · exact .inl (.inr (.inl h9))
  · exact .inr h9
  · exact .inl (.inr (.inr (.inr h9)))
theorem chn_sub {h : AHeap} {r : Nat} {fl : Int} {M : TM} (hA : TA h r fl M) {c : List Lk} (hc : c ∈ M.ch) : ∀ l ∈ c, l ∈ M.all := fun l hl => List.mem_flatten.2 ⟨c, hc, hl⟩
inductive AVs (h : AHeap) : List Vr → Value → Prop
  | nil : AVs h [] (.slice none 0 0)
  | emp {y off c : Nat} : AVs h [] (.slice (some ⟨y, off, none⟩) 0 c)
  | some {V : List Vr} {y off c : Nat} {vs : List Value} (hne : V ≠ []) (hy : y < h.next) (hg : rowOf h y = some vs) (hc : cellsOf vs off (V.length * 5) = some (flatV V)) : AVs h V (.slice (some ⟨y, off, none⟩) V.length c)
theorem flatV_length : ∀ l : List Vr, (flatV l).length = l.length * 5
  | [] => rfl
  | o :: l => by simp only [flatV, List.length_append, flatV_length l, List.length_cons, Vr.cs, List.length_nil]; omega
theorem avo_avs {h : AHeap} {V : List Vr} {v : Value} (a : AVo h V v) : AVs h V v := by
  cases a with
  | nil => exact .nil
  | emp hy => exact .emp
  | some hne hy hg => exact .some hne hy (by simp only [rowOf, hg]) (cellsOf_all (by rw [flatV_length]))
theorem bs_nil0 {P : Program} {T : Tr TI} (ok : TyOK P T) {t : TypeId} {x y : Operand} (ht : ∃ ti e, T.get t = some ti ∧ ti.und = .slice e) : aBin P T .eql t x y (.slice none 0 0) (.slice none 0 0) = some (.bool true) := by
  obtain ⟨ti, e, h1, h2⟩ := ht
  obtain ⟨_, _, _, _, _, u⟩ := ok.ok t ti h1
  rw [h2] at u
  refine bi_eq rfl rfl rfl (equal_run fun d => ?_)
  simp only [Op.equalIn, underlying, bind_assoc, pureRun_program, u, pure_bind, pureRun_pure, Option.isNone]
theorem bs_nil {P : Program} {T : Tr TI} {t : TypeId} {x y : Operand} {a : Addr} {n c : Nat} (ht : ∃ ti e, T.get t = some ti ∧ ti.und = .slice e) : aBin P T .eql t x y (.slice (some a) n c) (.slice none 0 0) = some (.bool false) := by
  obtain ⟨ti, e, h1, h2⟩ := ht
  simp only [aBin, flat, flat1, Bool.and_true, Bool.false_and, cond_false, isCmp, aEq, h1, h2]
  rfl
theorem clone_nil (h : AHeap) : FWp Tryz.prog 31 [.slice none 0 0] h fun u h' => u = .slice none 0 0 ∧ h' = h := by
  refine W.enter tyOK Tryz.func31 rfl rfl ?_
  simp only [entry]
  refine W.seq <| W.reg <| OSuf.aop tyOK rfl za rfl <| OSuf.nil <| SQ.normal ?_
  refine W.seq <| W.seq <| W.reg <| OSuf.aop tyOK rfl sm rfl <| OSuf.aopT tyOK rfl (zb (hv := bs_nil0 tyOK ⟨_, _, ty34, rfl⟩)) (fun _ => rfl) (by first | rfl | assumption | ((simp only [bl]) <;> first | done | assumption | omega) | (simp; done) | (simp; omega)) <| OSuf.nil <| SQ.normal ?_
  refine W.yes (by simp only [lk] <;> rfl) <| W.seq <| W.reg <| OSuf.aop tyOK rfl za rfl <| OSuf.nil <| SQ.normal ?_
  refine CWp.ret <| SQ.ret <| FQ.ret (by simp only [aRet, Tryz.f31, aResults, aResult, lk, Nat.reduceEqDiff, reduceIte] <;> rfl) ?_
  -- leaf: end
  exact ⟨rfl, rfl⟩
theorem aCells_of {h : AHeap} {r off n len size c : Nat} {vs new : List Value} (hr : rowOf h r = some vs) (hl : n ≤ len) (hc : cellsOf vs off (n * size) = some new) : aCells h size n (.slice (some ⟨r, off, none⟩) len c) = some new := by
  cases e1 : Nat.beq (n * size) 0 with
  | false => simp only [aCells, e1, cond_false, Nat.ble_eq_true_of_le hl, cond_true, hr, hc]
  | true =>
    have e2 := Nat.eq_of_beq_eq_true e1
    rw [e2] at hc
    have := (cellsOf_some hc).2.1
    simp only [List.take_zero] at this
    simp only [aCells, e1, cond_true, this]
theorem ap_k0 {T : Tr TI} {h : AHeap} {ats : Array TypeId} {A : AppT} {r k : Nat} {x : Value} {new : List Value} (ha : appT T ats = some A) (hl : aLen x = some k) (hx : aCells h A.size k x = some new) (hb : (2 * (0 + k) + 256) * A.bytes ≤ 281474976710656) (hk : Nat.beq k 0 = false) :
    aAppend T ats (.slice (some ⟨r, 0, none⟩) 0 1) x h = some (.slice (some ⟨h.next, 0, none⟩) k 0, h.new (.cells new A.size)) := by
  have e : Nat.ble (0 + k) 0 = false := by
    cases k with
    | zero => cases hk
    | succ k => rw [Nat.zero_add]; rfl
  have e0 : Nat.beq (0 * A.size) 0 = true := by rw [Nat.zero_mul]; rfl
  have e2 : sCells h A.size (.slice (some ⟨r, 0, none⟩) 0 1) = some [] := by simp only [sCells, aCells, e0, cond_true]
  simp only [aAppend, ha, hl, hx, vLen, Nat.ble_eq_true_of_le hb, cond_true, e, cond_false, e2, List.nil_append]
  rw [Nat.zero_add]
theorem ap_n0 {T : Tr TI} {h : AHeap} {ats : Array TypeId} {A : AppT} {r : Nat} {x : Value} (ha : appT T ats = some A) (hl : aLen x = some 0) (hx : aCells h A.size 0 x = some []) (hb : (2 * (0 + 0) + 256) * A.bytes ≤ 281474976710656) :
    aAppend T ats (.slice (some ⟨r, 0, none⟩) 0 1) x h = some (.slice (some ⟨r, 0, none⟩) 0 1, h) := by
  have e : Nat.ble (0 + 0) 0 = true := rfl
  have e1 : Nat.beq 0 0 = true := rfl
  simp only [aAppend, ha, hl, hx, vLen, Nat.ble_eq_true_of_le hb, cond_true, e, e1]
theorem clone_c (h : AHeap) (V : List Vr) (v : Value) (hs : AVs h V v) (hl : V.length ≤ 1000000) : ∃ u H, FWp Tryz.prog 31 [v] h (fun u' h' => u' = u ∧ h' = H) ∧ AVo H V u ∧ h.next ≤ H.next ∧ (∀ z, z < h.next → H.get z = h.get z) ∧ (V = [] → avRow u = none ∨ True) := by
  cases hs with
  | nil => exact ⟨_, _, clone_nil h, .nil, Nat.le_refl _, fun _ _ => rfl, fun _ => .inr trivial⟩
  | @emp y off c =>
    refine ⟨.slice (some ⟨h.next, 0, none⟩) 0 1, h.new (.cells [] 5), ?_, .emp (by simp), by simp, fun z hz => AHeap.get_new_ne (by omega), fun _ => .inr trivial⟩
    refine W.enter tyOK Tryz.func31 rfl rfl ?_
    simp only [entry]
    refine W.seq <| W.reg <| OSuf.aop tyOK rfl za rfl <| OSuf.nil <| SQ.normal ?_
    refine W.seq <| W.seq <| W.reg <| OSuf.aop tyOK rfl sm rfl <| OSuf.aopF tyOK rfl (zb (hv := bs_nil ⟨_, _, ty34, rfl⟩)) (fun _ => rfl) (by first | rfl | assumption | ((simp only [bl, ty34, ty49]) <;> first | done | assumption | omega) | (simp; done) | (simp; omega)) <| OSuf.nil <| SQ.normal ?_
    refine W.no (by simp only [lk] <;> rfl) <| CWp.skip <| SQ.normal ?_
    refine W.seq <| W.reg <| OSuf.aop tyOK rfl (so_buildSlice (by simp only [aparts, lk] <;> rfl) (by simp only [aBuildSlice, ty34, ty49, ty34, ty49] <;> rfl)) rfl <| OSuf.aop tyOK rfl sm rfl <| OSuf.aop tyOK rfl (so_append (by simp only [aopnds, lk] <;> rfl) (ap_n0 (by simp only [appT, ty34, ty49] <;> rfl) rfl rfl (by decide))) rfl <| OSuf.aop tyOK rfl za rfl <| OSuf.nil <| SQ.normal ?_
    refine CWp.ret <| FQ.ret (by simp only [aRet, Tryz.f31, aResults, aResult, lk, Nat.reduceEqDiff, reduceIte] <;> rfl) ?_
    -- leaf: end
    exact ⟨rfl, rfl⟩
  | @some _ y off c vs hne hy hg hc =>
    have hp0 : 0 < V.length := List.length_pos_iff.2 hne
    have hpos : Nat.beq V.length 0 = false := by (cases hv : V.length with | zero => omega | succ n => rfl)
    refine ⟨.slice (some ⟨h.next + 1, 0, none⟩) V.length 0, (h.new (.cells [] 5)).new (.cells (flatV V) 5), ?_, .some hne (by simp) (AHeap.get_new_same _ _), by simp; omega, fun z hz => by simp (disch := first | assumption | omega | (simp only [nx] <;> omega) | fail) only [hpl], fun _ => .inr trivial⟩
    refine W.enter tyOK Tryz.func31 rfl rfl ?_
    simp only [entry]
    refine W.seq <| W.reg <| OSuf.aop tyOK rfl za rfl <| OSuf.nil <| SQ.normal ?_
    refine W.seq <| W.seq <| W.reg <| OSuf.aop tyOK rfl sm rfl <| OSuf.aopF tyOK rfl (zb (hv := bs_nil ⟨_, _, ty34, rfl⟩)) (fun _ => rfl) (by first | rfl | assumption | ((simp only [bl, ty34, ty49]) <;> first | done | assumption | omega) | (simp; done) | (simp; omega)) <| OSuf.nil <| SQ.normal ?_
    refine W.no (by simp only [lk] <;> rfl) <| CWp.skip <| SQ.normal ?_
    refine W.seq <| W.reg <| OSuf.aop tyOK rfl (so_buildSlice (by simp only [aparts, lk] <;> rfl) (by simp only [aBuildSlice, ty34, ty49, ty34, ty49] <;> rfl)) rfl <| OSuf.aop tyOK rfl sm rfl <| OSuf.aop tyOK rfl (so_append (by simp only [aopnds, lk] <;> rfl) (ap_k0 (by simp only [appT, ty34, ty49] <;> rfl) rfl (aCells_of (by (have hg' := hg; simp only [rowOf] at hg' ⊢; simp (disch := first | assumption | omega | (simp only [nx] <;> omega) | fail) only [hpl]; exact hg')) (Nat.le_refl _) hc) (by show (2 * (0 + V.length) + 256) * 48 ≤ _; omega) hpos)) rfl <| OSuf.aop tyOK rfl za rfl <| OSuf.nil <| SQ.normal ?_
    refine CWp.ret <| FQ.ret (by simp only [aRet, Tryz.f31, aResults, aResult, lk, Nat.reduceEqDiff, reduceIte] <;> rfl) ?_
    -- leaf: end
    exact ⟨rfl, rfl⟩
theorem flatV_cell : ∀ {V : List Vr} {i : Nat} {x : Vr}, V[i]? = some x → ((flatV V).drop (i * 5)).take 5 = x.cs
  | [], i, x, h => by simp at h
  | y :: V, 0, x, h => by simp at h; subst h; rfl
  | y :: V, i + 1, x, h => by
    have e : (i + 1) * 5 = i * 5 + 5 := by omega
    simp only [List.getElem?_cons_succ] at h
    rw [e]
    show ((y.cs ++ flatV V).drop (i * 5 + 5)).take 5 = x.cs
    rw [Nat.add_comm, ← List.drop_drop]
    exact flatV_cell h
theorem cell_of {vs : List Value} {off : Nat} {V : List Vr} {i : Nat} {x : Vr} (hc : cellsOf vs off (V.length * 5) = some (flatV V)) (hx : V[i]? = some x) : cellsOf vs (off + i * 5) 5 = some x.cs := by
  obtain ⟨h1, h2, h3⟩ := cellsOf_some hc
  have hi := (List.getElem?_eq_some_iff.1 hx).1
  rw [cellsOf_mk (by omega), ← flatV_cell hx, h2]
  congr 1
  rw [← List.drop_drop, List.drop_take, List.take_take]
  congr 1
  omega
theorem get_of {vs : List Value} {off : Nat} {V : List Vr} {i : Nat} {x : Vr} (hc : cellsOf vs off (V.length * 5) = some (flatV V)) (hx : V[i]? = some x) (j : Nat) (hj : j < 5) : vs[off + i * 5 + j]? = x.cs[j]? := by
  obtain ⟨h1, h2, h3⟩ := cellsOf_some (cell_of hc hx)
  rw [h2, List.getElem?_take, if_pos hj, List.getElem?_drop]
def Ris (V : List Vr) : Prop := ∀ (i : Nat) (x y : Vr), V[i]? = some x → V[i + 1]? = some y → x.ts < y.ts
theorem may_c (h : AHeap) (V : List Vr) (v : Value) (hs : AVs h V v) (hl : V.length ≤ 1000000) (b : Bool) (hb : b = true ↔ Ris V) : FWp Tryz.prog 53 [v] h fun u h' => u = .bool b ∧ h' = h := by
  have hlen : ∃ a c, v = .slice a V.length c := by cases hs <;> exact ⟨_, _, rfl⟩
  obtain ⟨a, c, rfl⟩ := hlen
  refine W.enter tyOK Tryz.func53 rfl rfl ?_
  simp only [entry]
  refine W.seq <| W.reg <| OSuf.aopF tyOK rfl za (fun _ => rfl) rfl <| OSuf.nil <| SQ.normal ?_
  refine W.seq <| W.seq <| W.reg <| OSuf.aop tyOK rfl za rfl <| OSuf.nil <| SQ.normal ?_
  -- leaf: loop
  refine W.cut (fun L h' => h' = h ∧ b = true ∧ L = []) (W.block (W.loop (fun m L h' => ∃ i : Nat, 1 ≤ i ∧ m + i = V.length + 1 ∧ h' = h ∧ (∀ (j : Nat) (x y : Vr), j + 1 < i → V[j]? = some x → V[j + 1]? = some y → x.ts < y.ts) ∧ L = [(0, .slice a V.length c), (3, I64 i)]) (n := V.length) ⟨1, by omega, by omega, rfl, fun j x y hj => by omega, rfl⟩ ?_ ?_)) ?_
  · simp [HasA, Tr.get_put]
  · rintro m L h' ⟨i, hi1, hi, rfl, hr, rfl⟩
    simp only [mkA]
    have w2 : IntKind.i64.wrap ((i : Int) + 1) = ((i + 1 : Nat) : Int) := by rw [wrap_i64 (by omega) (by omega)]; omega
    have w3 : IntKind.i64.wrap ((i : Int) - 1) = ((i - 1 : Nat) : Int) := by rw [wrap_i64 (by omega) (by omega)]; omega
    by_cases hlt : (i : Int) < (V.length : Int)
    · obtain ⟨x, hx⟩ : ∃ x, V[i - 1]? = some x := ⟨V[i - 1]'(by omega), by simp⟩
      obtain ⟨y, hy⟩ : ∃ y, V[i]? = some y := ⟨V[i]'(by omega), by simp⟩
      cases hs with
      | nil => simp at hx
      | emp => simp at hx
      | @some _ z off _ vs hne hz hg hc =>
        have b1 : (0 ≤ (i : Int) ∧ (i : Int) < (V.length : Int)) := by omega
        have b2 : (0 ≤ ((i - 1 : Nat) : Int) ∧ ((i - 1 : Nat) : Int) < (V.length : Int)) := by omega
        have g1 := get_of hc hx 0 (by omega)
        have g2 := get_of hc hy 0 (by omega)
        have g1' : vs[off + (i - 1) * 5 + 0]? = some (U64 x.ts) := g1
        have g2' : vs[off + i * 5 + 0]? = some (U64 y.ts) := g2
        have g1'' : vs[off + (i - 1) * 5]? = some (U64 x.ts) := g1
        have g2'' : vs[off + i * 5]? = some (U64 y.ts) := g2
        simp only [rowOf] at hg
        by_cases hxy : x.ts ≥ y.ts
        · refine W.seq <| W.seq <| W.reg <| OSuf.aop tyOK rfl sm rfl <| OSuf.aop tyOK rfl sm rfl <| OSuf.aop tyOK rfl (so_len (by simp only [aopnds, lk] <;> rfl) (by simp (disch := first | assumption | omega | (simp only [nx] <;> omega) | fail) only [aLenOf, ty34, hpl, b1, b2, sb, hg, g1', g2', g1'', g2''] <;> rfl)) rfl <| OSuf.aopT tyOK rfl (zb (hv := bi_lss)) (fun _ => rfl) (by first | rfl | assumption | ((simp only [bl, b1, b2, sb, hg, g1', g2', g1'', g2'']) <;> first | done | assumption | omega) | (simp; done) | (simp; omega)) <| OSuf.nil <| SQ.normal ?_
          refine W.yes (by simp only [lk] <;> rfl) <| CWp.skip <| SQ.normal ?_
          refine W.seq <| W.block <| W.seq <| W.regD tyOK mixed (by kernel_rfl) <| SqW.aop rfl sm rfl <| SqW.aop rfl sm rfl <| SqW.aop rfl (zb (hv := bi_w bi_sub (by first | (simp only [w3] <;> rfl) | rfl))) rfl <| SqW.aop rfl (zi (hv := by simp (disch := first | assumption | omega | (simp only [nx] <;> omega) | fail) only [aIndexAddr, ty34, ty49, hpl, b1, b2, sb, hg, g1', g2', g1'', g2''] <;> rfl)) rfl <| SqW.aop rfl (zf (hv := fa_ok (k := 0) ty49 rfl rfl ty27 rfl rfl)) rfl <| SqW.aop rfl (zl (hv := by simp (disch := first | assumption | omega | (simp only [nx] <;> omega) | fail) only [aLoad, ty27, rowOf, hpl, b1, b2, sb, hg, g1', g2', g1'', g2''] <;> rfl)) rfl <| SqW.aop rfl sm rfl <| SqW.aop rfl sm rfl <| SqW.aop rfl (zi (hv := by simp (disch := first | assumption | omega | (simp only [nx] <;> omega) | fail) only [aIndexAddr, ty34, ty49, hpl, b1, b2, sb, hg, g1', g2', g1'', g2''] <;> rfl)) rfl <| SqW.aop rfl (zf (hv := fa_ok (k := 0) ty49 rfl rfl ty27 rfl rfl)) rfl <| SqW.aop rfl (zl (hv := by simp (disch := first | assumption | omega | (simp only [nx] <;> omega) | fail) only [aLoad, ty27, rowOf, hpl, b1, b2, sb, hg, g1', g2', g1'', g2''] <;> rfl)) rfl <| SqW.aopT rfl (zb (hv := bi_geq)) (fun _ => rfl) (by first | rfl | assumption | ((simp only [bl, b1, b2, sb, hg, g1', g2', g1'', g2'']) <;> first | done | assumption | omega) | (simp; done) | (simp; omega)) <| SqW.nil <| SQ.normal ?_
          refine W.yes (by simp only [lk] <;> rfl) <| W.seq <| W.reg <| OSuf.aopF tyOK rfl za (fun _ => rfl) rfl <| OSuf.nil <| SQ.normal ?_
          refine CWp.ret <| BQ.ret <| SQ.ret <| LQ.ret <| BQ.ret <| NQ.ret <| SQ.ret <| FQ.ret (by simp only [aRet, Tryz.f53, aResults, aResult, lk, Nat.reduceEqDiff, reduceIte] <;> rfl) ?_
          -- leaf: end
          have : ¬ b = true := fun e => by
            have := hb.1 e (i - 1) x y hx (by rw [Nat.sub_add_cancel hi1]; exact hy)
            omega
          exact ⟨by rw [Bool.eq_false_iff.2 this], rfl⟩
        · refine W.seq <| W.seq <| W.reg <| OSuf.aop tyOK rfl sm rfl <| OSuf.aop tyOK rfl sm rfl <| OSuf.aop tyOK rfl (so_len (by simp only [aopnds, lk] <;> rfl) (by simp (disch := first | assumption | omega | (simp only [nx] <;> omega) | fail) only [aLenOf, ty34, hpl, b1, b2, sb, hg, g1', g2', g1'', g2''] <;> rfl)) rfl <| OSuf.aopT tyOK rfl (zb (hv := bi_lss)) (fun _ => rfl) (by first | rfl | assumption | ((simp only [bl, b1, b2, sb, hg, g1', g2', g1'', g2'']) <;> first | done | assumption | omega) | (simp; done) | (simp; omega)) <| OSuf.nil <| SQ.normal ?_
          refine W.yes (by simp only [lk] <;> rfl) <| CWp.skip <| SQ.normal ?_
          refine W.seq <| W.block <| W.seq <| W.regD tyOK mixed (by kernel_rfl) <| SqW.aop rfl sm rfl <| SqW.aop rfl sm rfl <| SqW.aop rfl (zb (hv := bi_w bi_sub (by first | (simp only [w2, w3] <;> rfl) | rfl))) rfl <| SqW.aop rfl (zi (hv := by simp (disch := first | assumption | omega | (simp only [nx] <;> omega) | fail) only [aIndexAddr, ty34, ty49, hpl, b1, b2, sb, hg, g1', g2', g1'', g2''] <;> rfl)) rfl <| SqW.aop rfl (zf (hv := fa_ok (k := 0) ty49 rfl rfl ty27 rfl rfl)) rfl <| SqW.aop rfl (zl (hv := by simp (disch := first | assumption | omega | (simp only [nx] <;> omega) | fail) only [aLoad, ty27, rowOf, hpl, b1, b2, sb, hg, g1', g2', g1'', g2''] <;> rfl)) rfl <| SqW.aop rfl sm rfl <| SqW.aop rfl sm rfl <| SqW.aop rfl (zi (hv := by simp (disch := first | assumption | omega | (simp only [nx] <;> omega) | fail) only [aIndexAddr, ty34, ty49, hpl, b1, b2, sb, hg, g1', g2', g1'', g2''] <;> rfl)) rfl <| SqW.aop rfl (zf (hv := fa_ok (k := 0) ty49 rfl rfl ty27 rfl rfl)) rfl <| SqW.aop rfl (zl (hv := by simp (disch := first | assumption | omega | (simp only [nx] <;> omega) | fail) only [aLoad, ty27, rowOf, hpl, b1, b2, sb, hg, g1', g2', g1'', g2''] <;> rfl)) rfl <| SqW.aopF rfl (zb (hv := bi_geq)) (fun _ => rfl) (by first | rfl | assumption | ((simp only [bl, b1, b2, sb, hg, g1', g2', g1'', g2'']) <;> first | done | assumption | omega) | (simp; done) | (simp; omega)) <| SqW.nil <| SQ.normal ?_
          refine W.no (by simp only [lk] <;> rfl) <| CWp.skip <| BQ.normal <| SQ.normal ?_
          refine W.reg <| OSuf.aop tyOK rfl sm rfl <| OSuf.aop tyOK rfl (zb (hv := bi_w bi_add (by first | (simp only [w2, w3] <;> rfl) | rfl))) rfl <| OSuf.aop tyOK rfl za rfl <| OSuf.nil <| ?_
          -- leaf: round
          refine LQ.normal (m := m - 1) (L := [(0, .slice (some ⟨z, off, none⟩) V.length c), (3, I64 ((i + 1 : Nat) : Int))]) (by omega) ?_ ⟨i + 1, by omega, by omega, rfl, fun j p q hj hp hq => ?_, rfl⟩
          · simp only [HasA, Tr.get_put, Nat.reduceEqDiff, reduceIte, w2, and_self]
          · by_cases hji : j + 1 < i
            · exact hr j p q hji hp hq
            · obtain rfl : j = i - 1 := by omega
              rw [hx] at hp; cases hp
              rw [Nat.sub_add_cancel hi1, hy] at hq; cases hq
              omega
    · refine W.seq <| W.seq <| W.reg <| OSuf.aop tyOK rfl sm rfl <| OSuf.aop tyOK rfl sm rfl <| OSuf.aop tyOK rfl (so_len (by simp only [aopnds, lk] <;> rfl) (by simp (disch := first | assumption | omega | (simp only [nx] <;> omega) | fail) only [aLenOf, ty34, hpl] <;> rfl)) rfl <| OSuf.aopF tyOK rfl (zb (hv := bi_lss)) (fun _ => rfl) (by first | rfl | assumption | ((simp only [bl]) <;> first | done | assumption | omega) | (simp; done) | (simp; omega)) <| OSuf.nil <| SQ.normal ?_
      refine W.no (by simp only [lk] <;> rfl) <| CWp.exit <| SQ.exit <| LQ.exit <| BQ.exit <| ?_
      -- leaf: cut
      refine NQ.normal (L := []) trivial ⟨rfl, hb.2 fun j p q hp hq => hr j p q ?_ hp hq, rfl⟩
      have := (List.getElem?_eq_some_iff.1 hq).1
      omega
  rintro L a' h' ha ⟨rfl, rfl, rfl⟩
  refine SQ.normal <| CWp.known ha ?_
  simp only [mkA]
  refine W.seq <| W.reg <| OSuf.aopT tyOK rfl za (fun _ => rfl) rfl <| OSuf.nil <| SQ.normal ?_
  refine CWp.ret <| FQ.ret (by simp only [aRet, Tryz.f53, aResults, aResult, lk, Nat.reduceEqDiff, reduceIte] <;> rfl) ?_
  -- leaf: end
  exact ⟨rfl, rfl⟩
theorem newest1_c (h : AHeap) (x : Vr) : FWp Tryz.prog 50 [.agg #[U64 x.ts, U64 x.lsn, .bool x.del, .string x.val, .bool x.acked]] h fun u h' => u = .bool true ∧ h' = h := by
  refine FWp.gcs (.flat rfl) (W.enter tyOK Tryz.func50 rfl rfl ?_)
  simp only [entry]
  refine W.seq <| W.reg <| OSuf.aop tyOK rfl (so_box (by simp only [lk] <;> rfl)) rfl <| OSuf.aopF tyOK rfl za (fun _ => rfl) rfl <| OSuf.nil <| SQ.normal ?_
  refine W.seq <| W.reg <| OSuf.aopT tyOK rfl za (fun _ => rfl) rfl <| OSuf.nil <| SQ.normal ?_
  refine CWp.ret <| FQ.ret (by simp only [aRet, Tryz.f50, aResults, aResult, lk, Nat.reduceEqDiff, reduceIte] <;> rfl) ?_
  -- leaf: end
  exact ⟨rfl, fun z o hz ho => by simp (disch := first | assumption | omega | (simp only [nx] <;> omega) | fail) only [hpl]; exact ho⟩
theorem bw_c (h : AHeap) (v : Value) : FWp Tryz.prog 91 [v] h fun u h' => u = .func (.func 109) #[] #[P0 h.next] ∧ h' = h.new (.cells v.cells.toList 1) := by
  refine W.enter tyOK Tryz.func91 rfl rfl ?_
  simp only [entry]
  refine W.seq <| W.reg <| OSuf.aop tyOK rfl (so_box (by simp only [lk] <;> rfl)) rfl <| OSuf.aop tyOK rfl za rfl <| OSuf.nil <| SQ.normal ?_
  refine W.seq <| W.reg <| OSuf.aop tyOK rfl (so_makeFunc rfl (by simp only [aopnds, lk] <;> rfl) (by simp only [aopnds, lk] <;> rfl)) rfl <| OSuf.aop tyOK rfl za rfl <| OSuf.nil <| SQ.normal ?_
  refine CWp.ret <| FQ.ret (by simp only [aRet, Tryz.f91, aResults, aResult, lk, Nat.reduceEqDiff, reduceIte] <;> rfl) ?_
  -- leaf: end
  exact ⟨rfl, rfl⟩
theorem bw1_emp (h : AHeap) (q : Nat) (yv : Value) (a : Option Addr) (c : Nat) (hq : h.get q = some (.cells [.slice a 0 c] 1)) : FWp Tryz.prog 109 [yv, P0 q] h fun u h' => u = .tuple #[] ∧ h' = h := by
  refine W.enter tyOK Tryz.func109 rfl rfl ?_
  simp only [entry]
  have w1 : IntKind.i64.wrap ((0 : Nat) - 1 : Int) = -1 := by decide
  refine W.seq <| W.reg <| OSuf.aop tyOK rfl (zl (hv := by simp (disch := first | assumption | omega | (simp only [nx] <;> omega) | fail) only [aLoad, ty34, rowOf, hpl, hq] <;> rfl)) rfl <| OSuf.aop tyOK rfl (so_len (by simp only [aopnds, lk] <;> rfl) (by simp (disch := first | assumption | omega | (simp only [nx] <;> omega) | fail) only [aLenOf, ty34, hpl, hq] <;> rfl)) rfl <| OSuf.aop tyOK rfl (zb (hv := bi_w bi_sub (by first | (simp only [w1] <;> rfl) | rfl))) rfl <| OSuf.aop tyOK rfl za rfl <| OSuf.nil <| SQ.normal ?_
  -- leaf: loop
  refine W.cut (fun L h' => h' = h ∧ L = []) (W.block (W.loop (fun m L h' => h' = h ∧ L = [(3, I64 (-1))]) (n := 0) ⟨rfl, rfl⟩ ?_ ?_)) ?_
  · simp [HasA, Tr.get_put]
  · rintro m L g ⟨rfl, rfl⟩
    simp only [mkA]
    refine W.seq <| W.seq <| W.reg <| OSuf.aop tyOK rfl sm rfl <| OSuf.aopF tyOK rfl (zb (hv := bi_geq)) (fun _ => rfl) (by first | rfl | assumption | ((simp only [bl]) <;> first | done | assumption | omega) | (simp; done) | (simp; omega)) <| OSuf.nil <| SQ.normal ?_
    refine W.no (by simp only [lk] <;> rfl) <| CWp.exit <| SQ.exit <| LQ.exit <| BQ.exit <| ?_
    -- leaf: cut
    exact NQ.normal (L := []) trivial ⟨rfl, rfl⟩
  rintro L a' h' ha ⟨rfl, rfl⟩
  exact FQ.normal (by simp only [aRet, Tryz.f109, aResults] <;> rfl) ⟨rfl, rfl⟩
theorem bw1_some (h : AHeap) (q : Nat) (yv : Value) (V : List Vr) (v : Value) (hs : AVs h V v) (hl : V.length ≤ 1000000) (hq : h.get q = some (.cells [v] 1)) (x : Vr) (hx : V[V.length - 1]? = some x) (R : AHeap → Prop)
    (hy : VWp Tryz.prog yv [I64 ((V.length - 1 : Nat) : Int), .agg #[U64 x.ts, U64 x.lsn, .bool x.del, .string x.val, .bool x.acked]] h fun u g => u = .bool false ∧ R g) : FWp Tryz.prog 109 [yv, P0 q] h fun u h' => u = .tuple #[] ∧ R h' := by
  cases hs with
  | nil => simp at hx
  | emp => simp at hx
  | @some _ z off c vs hne hz hg hc =>
    have hpos : 0 < V.length := List.length_pos_iff.2 hne
    have w1 : IntKind.i64.wrap ((V.length : Int) - 1) = ((V.length - 1 : Nat) : Int) := by rw [wrap_i64 (by omega) (by omega)]; omega
    refine W.enter tyOK Tryz.func109 rfl rfl ?_
    simp only [entry]
    refine W.seq <| W.reg <| OSuf.aop tyOK rfl (zl (hv := by simp (disch := first | assumption | omega | (simp only [nx] <;> omega) | fail) only [aLoad, ty34, rowOf, hpl, hq] <;> rfl)) rfl <| OSuf.aop tyOK rfl (so_len (by simp only [aopnds, lk] <;> rfl) (by simp (disch := first | assumption | omega | (simp only [nx] <;> omega) | fail) only [aLenOf, ty34, hpl, hq] <;> rfl)) rfl <| OSuf.aop tyOK rfl (zb (hv := bi_w bi_sub (by first | (simp only [w1] <;> rfl) | rfl))) rfl <| OSuf.aop tyOK rfl za rfl <| OSuf.nil <| SQ.normal ?_
    -- leaf: loop
    refine W.cut (fun L h' => False) (W.block (W.loop (fun m L h' => h' = h ∧ L = [(0, yv), (1, P0 q), (3, I64 ((V.length - 1 : Nat) : Int))]) (n := 0) ⟨rfl, rfl⟩ ?_ ?_)) ?_
    · simp [HasA, Tr.get_put]
    · rintro m L g ⟨rfl, rfl⟩
      simp only [mkA]
      have b1 : (0 ≤ ((V.length - 1 : Nat) : Int) ∧ ((V.length - 1 : Nat) : Int) < (V.length : Int)) := by omega
      have g1 := cell_of hc hx
      have e1 : x.cs.toArray = #[U64 x.ts, U64 x.lsn, .bool x.del, .string x.val, .bool x.acked] := rfl
      simp only [rowOf] at hg
      refine W.seq <| W.seq <| W.reg <| OSuf.aop tyOK rfl sm rfl <| OSuf.aopT tyOK rfl (zb (hv := bi_geq)) (fun _ => rfl) (by first | rfl | assumption | ((simp only [bl, hq, b1, sb, hg, g1, e1, cond_true, Option.map_some]) <;> first | done | assumption | omega) | (simp; done) | (simp; omega)) <| OSuf.nil <| SQ.normal ?_
      refine W.yes (by simp only [lk] <;> rfl) <| CWp.skip <| SQ.normal ?_
      refine W.seq <| W.block <| W.seq <| W.reg <| OSuf.aop tyOK rfl sm rfl <| OSuf.aop tyOK rfl sm rfl <| OSuf.aop tyOK rfl (zl (hv := by simp (disch := first | assumption | omega | (simp only [nx] <;> omega) | fail) only [aLoad, ty34, rowOf, hpl, hq, b1, sb, hg, g1, e1, cond_true, Option.map_some] <;> rfl)) rfl <| OSuf.aop tyOK rfl sm rfl <| OSuf.aop tyOK rfl (zi (hv := by simp (disch := first | assumption | omega | (simp only [nx] <;> omega) | fail) only [aIndexAddr, ty34, ty49, hpl, hq, b1, sb, hg, g1, e1, cond_true, Option.map_some] <;> rfl)) rfl <| OSuf.aop tyOK rfl (zl (hv := by simp (disch := first | assumption | omega | (simp only [nx] <;> omega) | fail) only [aLoad, ty49, rowOf, hpl, hq, b1, sb, hg, g1, e1, cond_true, Option.map_some] <;> rfl)) rfl <| OSuf.vcall rfl (by simp only [lk] <;> rfl) (by simp only [aopnds, lk] <;> rfl) (hy) ?_
      rintro u g' ⟨rfl, hr⟩
      refine ⟨_, rfl, ?_⟩
      refine OSuf.aopT tyOK rfl (so_not (by simp only [lk] <;> rfl)) (fun _ => rfl) rfl <| OSuf.nil <| SQ.normal ?_
      refine W.yes (by simp only [lk] <;> rfl) <| CWp.ret <| BQ.ret <| SQ.ret <| LQ.ret <| BQ.ret <| NQ.ret <| FQ.ret (by simp only [aRet, Tryz.f109, aResults, aResult, lk, Nat.reduceEqDiff, reduceIte] <;> rfl) ?_
      -- leaf: end
      exact ⟨rfl, hr⟩
    rintro L a' h' ha hf
    exact hf.elim
theorem last_c (h : AHeap) (V : List Vr) (v : Value) (hs : AVs h V v) (hl : V.length ≤ 1000000) : FWp Tryz.prog 69 [v, .func (.func 50) #[] #[]] h fun u h' => ∃ x : Vr, u = .tuple #[.agg #[U64 x.ts, U64 x.lsn, .bool x.del, .string x.val, .bool x.acked], .bool (decide (V ≠ []))] ∧ h.next ≤ h'.next ∧ ∀ z o, z < h.next → h.get z = some o → h'.get z = some o := by
  have tb69 := And.intro ty4 (And.intro ty49 (ty74))
  obtain ⟨a, c, rfl⟩ : ∃ a c, v = .slice a V.length c := by cases hs <;> exact ⟨_, _, rfl⟩
  refine W.enter tyOK Tryz.func69 rfl rfl ?_
  simp only [entry]
  refine W.seq <| W.reg <| OSuf.aop tyOK rfl (so_box (by simp only [lk] <;> rfl)) rfl <| OSuf.aop tyOK rfl (so_alloc (by simp only [aAlloc, ty49] <;> rfl)) rfl <| OSuf.aop tyOK rfl (so_alloc (by simp only [aAlloc, ty4] <;> rfl)) rfl <| OSuf.nil <| SQ.normal ?_
  refine W.seq <| W.seq <| W.reg <| OSuf.aop tyOK rfl sm rfl <| OSuf.callD rfl (by simp only [aopnds, lk] <;> rfl) en91 (bw_c _ _) rfl <| OSuf.nil <| SQ.normal ?_
  -- leaf: loop
  refine W.block (CWp.rangeFunc (by simp only [aopnd, Tr.get_put, Nat.reduceEqDiff, reduceIte] <;> rfl) (fun l hl => by cases hl) (VWp.func en109 ?_))
  show FWp _ _ [_, _] _ _
  generalize hLP : (ALoop.mk _ _ _ _ _ _ _ _) = LP
  cases hx : V[V.length - 1]? with
  | none =>
    have hV : V = [] := by
      have := List.getElem?_eq_none_iff.1 hx
      exact List.length_eq_zero_iff.1 (by omega)
    subst hV
    have hbusy : (LP.state == .busy) = false := by rw [← hLP]; rfl
    have hjn : jumpExit LP.pending = some .normal := by rw [← hLP]; rfl
    clear hLP
    refine (bw1_emp _ (h.next + 3) _ a c (by simp (disch := first | assumption | omega | (simp only [nx] <;> omega) | fail) only [hpl] <;> rfl)).mono ?_
    rintro _ _ ⟨rfl, rfl⟩
    refine ⟨LP, .normal, by (simp (disch := first | assumption | omega | (simp only [nx] <;> omega) | fail) only [hpl]), hbusy, hjn, ?_⟩
    refine BQ.normal <| SQ.normal ?_
    refine W.seq <| W.reg <| OSuf.aop tyOK rfl (zl (hv := by simp (disch := first | assumption | omega | (simp only [nx] <;> omega) | fail) only [aLoad, ty49, rowOf, hpl, Value.cells] <;> rfl)) rfl <| OSuf.aop tyOK rfl (zs (hv := by simp (disch := first | assumption | omega | (simp only [nx] <;> omega) | fail) only [aStore, ty49, writeRow, hpl, Value.cells] <;> rfl)) rfl <| OSuf.aop tyOK rfl (zs (hv := by simp (disch := first | assumption | omega | (simp only [nx] <;> omega) | fail) only [aStore, ty4, writeRow, hpl, Value.cells] <;> rfl)) rfl <| OSuf.nil <| SQ.normal ?_
    refine CWp.ret <| FQ.ret (by simp (disch := first | assumption | omega | (simp only [nx] <;> omega) | fail) only [aRet, Tryz.f69, aResults, aResult, lk, Nat.reduceEqDiff, reduceIte, aLoad, rowOf, hpl, Value.cells, places, tb69] <;> rfl) ?_
    -- leaf: end
    refine ⟨⟨0, 0, false, ⟨#[]⟩, false⟩, rfl, by (simp only [nx]; omega), fun z o hz ho => ?_⟩
    simp (disch := first | assumption | omega | (simp only [nx] <;> omega) | fail) only [hpl]; exact ho
  | some x =>
    have hV : V ≠ [] := fun e => by subst e; simp at hx
    have hd : decide (V ≠ []) = true := by simp [hV]
    rw [hd]
    refine (bw1_some _ (h.next + 3) _ V (.slice a V.length c) ?_ hl ?_ x hx (fun g => g.next = h.next + 6 ∧ g.get (h.next + 1) = some (.cells [U64 x.ts, U64 x.lsn, .bool x.del, .string x.val, .bool x.acked] 1) ∧ g.get (h.next + 2) = some (.cells [.bool true] 1) ∧ g.get (h.next + 4) = some (.loop (LP.with .done (some .ret))) ∧ ∀ z, z < h.next → g.get z = h.get z) ?_).mono ?_
    · cases hs with
      | nil => exact (hV rfl).elim
      | emp => exact (hV rfl).elim
      | some hne hz hg hc =>
        refine .some hne (by simp only [nx]; omega) ?_ hc
        simp only [rowOf] at hg ⊢
        simp (disch := first | assumption | omega | (simp only [nx] <;> omega) | fail) only [hpl]; exact hg
    · simp (disch := first | assumption | omega | (simp only [nx] <;> omega) | fail) only [hpl] <;> rfl
    · have hl0 : (((((h.new (.cells [.func (.func 50) #[] #[]] 1)).new (.cells [U64 0, U64 0, .bool false, .string ⟨#[]⟩, .bool false] 1)).new (.cells [.bool false] 1)).new (.cells [.slice a V.length c] 1)).new (.loop LP)).get (h.next + 4) = some (.loop LP) := by simp (disch := first | assumption | omega | (simp only [nx] <;> omega) | fail) only [hpl]
      have hl1 := hl0
      rw [← hLP] at hl1
      rw [← hLP]
      refine VWp.yield hl1 rfl ?_
      refine W.reg <| OSuf.aop tyOK rfl (so_alloc (by simp only [aAlloc, ty49] <;> rfl)) rfl <| OSuf.aop tyOK rfl (zs (hv := by simp (disch := first | assumption | omega | (simp only [nx] <;> omega) | fail) only [aStore, ty49, writeRow, hpl, Value.cells] <;> rfl)) rfl <| OSuf.nil <| ?_
      -- leaf: stop
      refine ⟨rfl, _, by (simp (disch := first | assumption | omega | (simp only [nx] <;> omega) | fail) only [hpl]; rfl), rfl, ?_⟩
      refine W.block <| W.seq <| W.reg <| OSuf.aop tyOK rfl (zl (hv := by simp (disch := first | assumption | omega | (simp only [nx] <;> omega) | fail) only [aLoad, ty74, rowOf, hpl, Value.cells] <;> rfl)) rfl <| OSuf.aop tyOK rfl (zl (hv := by simp (disch := first | assumption | omega | (simp only [nx] <;> omega) | fail) only [aLoad, ty49, rowOf, hpl, Value.cells] <;> rfl)) rfl <| OSuf.vcallD rfl (by simp only [lk] <;> rfl) (by simp only [aopnds, lk] <;> rfl) (VWp.func en50 (newest1_c _ x)) rfl <| OSuf.nil <| SQ.normal ?_
      refine W.yes (by simp only [lk] <;> rfl) <| W.seq <| W.reg <| OSuf.aop tyOK rfl (zl (hv := by simp (disch := first | assumption | omega | (simp only [nx] <;> omega) | fail) only [aLoad, ty49, rowOf, hpl, Value.cells] <;> rfl)) rfl <| OSuf.aop tyOK rfl (zs (hv := by simp (disch := first | assumption | omega | (simp only [nx] <;> omega) | fail) only [aStore, ty49, writeRow, hpl, Value.cells] <;> rfl)) rfl <| OSuf.aop tyOK rfl (zs (hv := by simp (disch := first | assumption | omega | (simp only [nx] <;> omega) | fail) only [aStore, ty4, writeRow, hpl, Value.cells] <;> rfl)) rfl <| OSuf.nil <| SQ.normal ?_
      refine CWp.ret <| BQ.ret <| ?_
      -- leaf: stop
      refine ⟨_, by (simp (disch := first | assumption | omega | (simp only [nx] <;> omega) | fail) only [hpl]; rfl), rfl, ?_, ?_, ?_, ?_, fun z hz => ?_⟩
      · simp only [nx]
      · simp (disch := first | assumption | omega | (simp only [nx] <;> omega) | fail) only [hpl]; rfl
      · simp (disch := first | assumption | omega | (simp only [nx] <;> omega) | fail) only [hpl]; rfl
      · simp (disch := first | assumption | omega | (simp only [nx] <;> omega) | fail) only [hpl]; rfl
      · simp (disch := first | assumption | omega | (simp only [nx] <;> omega) | fail) only [hpl]
    · rintro _ g ⟨rfl, g1, g2, g3, g4, g5⟩
      refine ⟨_, .ret, g4, rfl, rfl, ?_⟩
      refine BQ.ret <| SQ.ret <| FQ.ret (by simp (disch := first | assumption | omega | (simp only [nx] <;> omega) | fail) only [aRet, Tryz.f69, aResults, aResult, lk, Nat.reduceEqDiff, reduceIte, aLoad, rowOf, hpl, g2, g3] <;> rfl) ?_
      refine ⟨x, rfl, by (simp only [nx]; omega), fun z o hz ho => ?_⟩
      simp (disch := first | assumption | omega | (simp only [nx] <;> omega) | fail) only [hpl]; rw [g5 z hz]; exact ho
theorem seen_c (h : AHeap) (V : List Vr) (v : Value) (hs : AVs h V v) (hl : V.length ≤ 1000000) (b : Bool) (hb : b = true ↔ Ris V) : FWp Tryz.prog 47 [v, .func (.func 50) #[] #[]] h fun u h' => ∃ x : Vr, u = .tuple #[.agg #[U64 x.ts, U64 x.lsn, .bool x.del, .string x.val, .bool x.acked], .bool (b && decide (V ≠ []))] ∧ h.next ≤ h'.next ∧ ∀ z o, z < h.next → h.get z = some o → h'.get z = some o := by
  have hs1 : ∀ o, AVs (h.new o) V v := fun o => by
    cases hs with
    | nil => exact .nil
    | emp => exact .emp
    | some hne hz hg hc =>
      refine .some hne (by simp only [nx]; omega) ?_ hc
      simp only [rowOf] at hg ⊢
      rw [AHeap.get_new_ne (by omega)]; exact hg
  refine W.enter tyOK Tryz.func47 rfl rfl ?_
  simp only [entry]
  cases b with
  | false =>
    refine W.seq <| W.reg <| OSuf.aop tyOK rfl (so_alloc (by simp only [aAlloc, ty49] <;> rfl)) rfl <| OSuf.aopF tyOK rfl za (fun _ => rfl) rfl <| OSuf.nil <| SQ.normal ?_
    refine W.seq <| W.seq <| W.reg <| OSuf.aop tyOK rfl sm rfl <| OSuf.callD rfl (by simp only [aopnds, lk] <;> rfl) en53 (may_c _ V v (hs1 _) hl false hb) rfl <| OSuf.aopT tyOK rfl (so_not (by simp only [lk] <;> rfl)) (fun _ => rfl) rfl <| OSuf.nil <| SQ.normal ?_
    refine W.yes (by simp only [lk] <;> rfl) <| W.seq <| W.reg <| OSuf.aop tyOK rfl (so_build (by simp only [aparts, lk] <;> rfl) (by simp only [aBuild, ty49, Value.cells, places, ty49] <;> rfl)) rfl <| OSuf.aop tyOK rfl (zs (hv := by simp (disch := first | assumption | omega | (simp only [nx] <;> omega) | fail) only [aStore, ty49, writeRow, hpl, Value.cells, ty49] <;> rfl)) rfl <| OSuf.aopF tyOK rfl za (fun _ => rfl) rfl <| OSuf.nil <| SQ.normal ?_
    refine CWp.ret <| SQ.ret <| FQ.ret (by simp (disch := first | assumption | omega | (simp only [nx] <;> omega) | fail) only [aRet, Tryz.f47, aResults, aResult, lk, Nat.reduceEqDiff, reduceIte, aLoad, rowOf, hpl, Value.cells, places, ty49] <;> rfl) ?_
    -- leaf: end
    refine ⟨⟨0, 0, false, ⟨#[]⟩, false⟩, rfl, by (simp only [nx]; omega), fun z o hz ho => ?_⟩
    simp (disch := first | assumption | omega | (simp only [nx] <;> omega) | fail) only [hpl]; exact ho
  | true =>
    refine W.seq <| W.reg <| OSuf.aop tyOK rfl (so_alloc (by simp only [aAlloc, ty49] <;> rfl)) rfl <| OSuf.aopF tyOK rfl za (fun _ => rfl) rfl <| OSuf.nil <| SQ.normal ?_
    refine W.seq <| W.seq <| W.reg <| OSuf.aop tyOK rfl sm rfl <| OSuf.callD rfl (by simp only [aopnds, lk] <;> rfl) en53 (may_c _ V v (hs1 _) hl true hb) rfl <| OSuf.aopF tyOK rfl (so_not (by simp only [lk] <;> rfl)) (fun _ => rfl) rfl <| OSuf.nil <| SQ.normal ?_
    refine W.no (by simp only [lk] <;> rfl) <| CWp.skip <| SQ.normal ?_
    refine W.seq <| W.reg <| OSuf.aop tyOK rfl sm rfl <| OSuf.aop tyOK rfl sm rfl <| OSuf.call rfl (by simp only [aopnds, lk] <;> rfl) en69 (last_c _ V v (hs1 _) hl) ?_
    rintro _ h1 ⟨x, rfl, hn, hx⟩
    have h2 : h1.get h.next = some (.cells [U64 0, U64 0, .bool false, .string ⟨#[]⟩, .bool false] 1) := hx _ _ (by simp) (AHeap.get_new_same _ _)
    refine ⟨_, rfl, ?_⟩
    refine OSuf.aop tyOK rfl (ze (hv := by simp (disch := first | assumption | omega | (simp only [nx] <;> omega) | fail) only [aExtract, hpl, Value.cells, places, ty49, h2, Value.cells] <;> rfl)) rfl <| OSuf.aop tyOK rfl (ze (hv := by simp (disch := first | assumption | omega | (simp only [nx] <;> omega) | fail) only [aExtract, hpl, Value.cells, places, ty49, h2, Value.cells] <;> rfl)) rfl <| OSuf.aop tyOK rfl (zs (hv := by simp (disch := first | assumption | omega | (simp only [nx] <;> omega) | fail) only [aStore, ty49, writeRow, hpl, Value.cells, ty49, h2, Value.cells] <;> rfl)) rfl <| OSuf.aop tyOK rfl za rfl <| OSuf.nil <| SQ.normal ?_
    refine CWp.ret <| FQ.ret (by simp (disch := first | assumption | omega | (simp only [nx] <;> omega) | fail) only [aRet, Tryz.f47, aResults, aResult, lk, Nat.reduceEqDiff, reduceIte, aLoad, rowOf, hpl, Value.cells, places, ty49, h2, Value.cells] <;> rfl) ?_
    -- leaf: end
    refine ⟨x, rfl, by (simp only [nx] at hn ⊢; omega), fun z o hz ho => ?_⟩
    simp (disch := first | assumption | omega | (simp only [nx] <;> omega) | fail) only [hpl]
    exact hx z o (by simp only [nx]; omega) (by rw [AHeap.get_new_ne (by omega)]; exact ho)
theorem newest_c (h : AHeap) (V : List Vr) (v : Value) (hs : AVs h V v) (hl : V.length ≤ 1000000) (b : Bool) (hb : b = true ↔ Ris V) : FWp Tryz.prog 25 [v] h fun u h' => ∃ x : Vr, u = .tuple #[.agg #[U64 x.ts, U64 x.lsn, .bool x.del, .string x.val, .bool x.acked], .bool (b && decide (V ≠ []))] ∧ h.next ≤ h'.next ∧ ∀ z o, z < h.next → h.get z = some o → h'.get z = some o := by
  have hs1 : ∀ o, AVs (h.new o) V v := fun o => by
    cases hs with
    | nil => exact .nil
    | emp => exact .emp
    | some hne hz hg hc =>
      refine .some hne (by simp only [nx]; omega) ?_ hc
      simp only [rowOf] at hg ⊢
      rw [AHeap.get_new_ne (by omega)]; exact hg
  refine W.enter tyOK Tryz.func25 rfl rfl ?_
  simp only [entry]
  refine W.seq <| W.reg <| OSuf.aop tyOK rfl (so_alloc (by simp only [aAlloc, ty49] <;> rfl)) rfl <| OSuf.aopF tyOK rfl za (fun _ => rfl) rfl <| OSuf.nil <| SQ.normal ?_
  refine W.seq <| W.reg <| OSuf.aop tyOK rfl sm rfl <| OSuf.call rfl (by simp only [aopnds, lk] <;> rfl) en47 (seen_c _ V v (hs1 _) hl b hb) ?_
  rintro _ h1 ⟨x, rfl, hn, hx⟩
  have h2 : h1.get h.next = some (.cells [U64 0, U64 0, .bool false, .string ⟨#[]⟩, .bool false] 1) := hx _ _ (by simp) (AHeap.get_new_same _ _)
  refine ⟨_, rfl, ?_⟩
  refine OSuf.aop tyOK rfl (ze (hv := by simp (disch := first | assumption | omega | (simp only [nx] <;> omega) | fail) only [aExtract, hpl, Value.cells, places, ty49, h2, Value.cells] <;> rfl)) rfl <| OSuf.aop tyOK rfl (ze (hv := by simp (disch := first | assumption | omega | (simp only [nx] <;> omega) | fail) only [aExtract, hpl, Value.cells, places, ty49, h2, Value.cells] <;> rfl)) rfl <| OSuf.aop tyOK rfl (zs (hv := by simp (disch := first | assumption | omega | (simp only [nx] <;> omega) | fail) only [aStore, ty49, writeRow, hpl, Value.cells, ty49, h2, Value.cells] <;> rfl)) rfl <| OSuf.aop tyOK rfl za rfl <| OSuf.nil <| SQ.normal ?_
  refine CWp.ret <| FQ.ret (by simp (disch := first | assumption | omega | (simp only [nx] <;> omega) | fail) only [aRet, Tryz.f25, aResults, aResult, lk, Nat.reduceEqDiff, reduceIte, aLoad, rowOf, hpl, Value.cells, places, ty49, h2, Value.cells] <;> rfl) ?_
  -- leaf: end
  refine ⟨x, rfl, by (simp only [nx] at hn ⊢; omega), fun z o hz ho => ?_⟩
  simp (disch := first | assumption | omega | (simp only [nx] <;> omega) | fail) only [hpl]
  exact hx z o (by simp only [nx]; omega) (by rw [AHeap.get_new_ne (by omega)]; exact ho)
theorem versions_c (h : AHeap) (V : List Vr) (v : Value) (hs : AVs h V v) (hl : V.length ≤ 1000000) (b : Bool) (hb : b = true ↔ Ris V) : FWp Tryz.prog 42 [v] h fun u h' => u = .bool b ∧ h' = h := by
  obtain ⟨a, c, hv⟩ : ∃ a c, v = .slice a V.length c := by cases hs <;> exact ⟨_, _, rfl⟩
  refine FWp.gcs (.flat rfl) (W.enter tyOK Tryz.func42 rfl rfl ?_)
  simp only [entry]
  cases hbb : b && decide (V ≠ []) with
  | true =>
    have hb1 : b = true := by cases b <;> simp_all
    refine W.seq <| W.reg <| OSuf.aopF tyOK rfl za (fun _ => rfl) rfl <| OSuf.nil <| SQ.normal ?_
    refine W.seq <| W.reg <| OSuf.aop tyOK rfl sm rfl <| OSuf.call rfl (by simp only [aopnds, lk] <;> rfl) en25 (newest_c _ V v hs hl b hb) ?_
    rintro _ h1 ⟨x, rfl, hn, hx⟩
    refine ⟨_, rfl, ?_⟩
    refine OSuf.aop tyOK rfl sm rfl <| OSuf.aop tyOK rfl (ze (hv := by simp (disch := first | assumption | omega | (simp only [nx] <;> omega) | fail) only [aExtract, hpl, Value.cells, places, ty34, ty49, Value.cells] <;> rfl)) rfl <| OSuf.aopT tyOK rfl (ze (hv := by simp (disch := first | assumption | omega | (simp only [nx] <;> omega) | fail) only [aExtract, hpl, Value.cells, places, ty34, ty49, Value.cells] <;> rfl)) (fun _ => rfl) (hbb) <| OSuf.aop tyOK rfl (so_alloc (by simp only [aAlloc, ty49] <;> rfl)) rfl <| OSuf.aop tyOK rfl (zs (hv := by simp (disch := first | assumption | omega | (simp only [nx] <;> omega) | fail) only [aStore, ty49, writeRow, hpl, Value.cells, ty34, ty49, Value.cells] <;> rfl)) rfl <| OSuf.aopT tyOK rfl za (fun _ => rfl) rfl <| OSuf.nil <| SQ.normal ?_
    refine W.seq <| W.reg <| OSuf.aopT tyOK rfl sm (fun _ => rfl) rfl <| OSuf.aopT tyOK rfl sm (fun _ => rfl) rfl <| OSuf.pass ag rfl <| OSuf.pass ag rfl <| OSuf.pass ag rfl <| OSuf.aopT tyOK rfl (so_pick (by simp only [lk] <;> rfl) (by simp only [lk, cond_true, cond_false] <;> rfl)) (fun _ => rfl) rfl <| OSuf.aopT tyOK rfl za (fun _ => rfl) rfl <| OSuf.nil <| SQ.normal ?_
    refine CWp.ret <| FQ.ret (by simp only [aRet, Tryz.f42, aResults, aResult, lk, Nat.reduceEqDiff, reduceIte] <;> rfl) ?_
    -- leaf: end
    refine ⟨by rw [hb1], fun z o hz ho => ?_⟩
    simp (disch := first | assumption | omega | (simp only [nx] <;> omega) | fail) only [hpl]
    exact hx z o hz ho
  | false =>
    have hbe : ((V.length : Int) == 0) = b := by
      cases hV : V with
      | nil =>
        have : b = true := hb.2 fun i x y hx => by rw [hV] at hx; simp at hx
        rw [this]; rfl
      | cons x l =>
        have : b = false := by rw [hV] at hbb; simpa using hbb
        rw [this]
        have : ¬ ((x :: l).length : Int) = 0 := by simp; omega
        simpa using this
    subst hv
    refine W.seq <| W.reg <| OSuf.aopF tyOK rfl za (fun _ => rfl) rfl <| OSuf.nil <| SQ.normal ?_
    refine W.seq <| W.reg <| OSuf.aop tyOK rfl sm rfl <| OSuf.call rfl (by simp only [aopnds, lk] <;> rfl) en25 (newest_c _ V _ hs hl b hb) ?_
    rintro _ h1 ⟨x, rfl, hn, hx⟩
    refine ⟨_, rfl, ?_⟩
    refine OSuf.aop tyOK rfl sm rfl <| OSuf.aop tyOK rfl (ze (hv := by simp (disch := first | assumption | omega | (simp only [nx] <;> omega) | fail) only [aExtract, hpl, Value.cells, places, ty34, ty49, Value.cells] <;> rfl)) rfl <| OSuf.aopF tyOK rfl (ze (hv := by simp (disch := first | assumption | omega | (simp only [nx] <;> omega) | fail) only [aExtract, hpl, Value.cells, places, ty34, ty49, Value.cells] <;> rfl)) (fun _ => rfl) (hbb) <| OSuf.aop tyOK rfl (so_alloc (by simp only [aAlloc, ty49] <;> rfl)) rfl <| OSuf.aop tyOK rfl (zs (hv := by simp (disch := first | assumption | omega | (simp only [nx] <;> omega) | fail) only [aStore, ty49, writeRow, hpl, Value.cells, ty34, ty49, Value.cells] <;> rfl)) rfl <| OSuf.aopF tyOK rfl za (fun _ => rfl) rfl <| OSuf.nil <| SQ.normal ?_
    refine W.seq <| W.reg <| OSuf.aopF tyOK rfl sm (fun _ => rfl) rfl <| OSuf.aopF tyOK rfl sm (fun _ => rfl) rfl <| OSuf.aop tyOK ag sm rfl <| OSuf.aop tyOK ag (so_len (by simp only [aopnds, lk] <;> rfl) (by simp (disch := first | assumption | omega | (simp only [nx] <;> omega) | fail) only [aLenOf, ty34, hpl, Value.cells, places, ty34, ty49, Value.cells] <;> rfl)) rfl <| OSuf.aop tyOK ag (zb (hv := bi_eql)) rfl <| OSuf.aop tyOK rfl (so_pick (by simp only [lk] <;> rfl) (by simp only [lk, cond_true, cond_false] <;> rfl)) rfl <| OSuf.aop tyOK rfl za rfl <| OSuf.nil <| SQ.normal ?_
    refine CWp.ret <| FQ.ret (by simp only [aRet, Tryz.f42, aResults, aResult, lk, Nat.reduceEqDiff, reduceIte] <;> rfl) ?_
    -- leaf: end
    refine ⟨by rw [hbe], fun z o hz ho => ?_⟩
    simp (disch := first | assumption | omega | (simp only [nx] <;> omega) | fail) only [hpl]
    exact hx z o hz ho
structure FrT (h h' : AHeap) (r : Nat) (M M' : TM) : Prop where
  next : h.next ≤ h'.next
  old : ∀ z, z < h.next → ¬ z = r → z ∉ M.rows → h'.get z = h.get z
  rows : ∀ z ∈ M'.rows, z ∈ M.rows ∨ h.next ≤ z
theorem FrT.refl (h : AHeap) (r : Nat) (M : TM) : FrT h h r M M := ⟨Nat.le_refl _, fun _ _ _ _ => rfl, fun z hz => .inl hz⟩
theorem TA.mono {h h' : AHeap} {r : Nat} {fl : Int} {M : TM} (hA : TA h r fl M) (hn : h.next ≤ h'.next) (hk : ∀ z, z < h.next → h'.get z = h.get z) : TA h' r fl M := by
  have hlt : ∀ c ∈ M.ch, ∀ l ∈ c, l.row < h.next := fun c hc l hl => (hA.chn c hc).lt l hl
  exact ⟨Nat.lt_of_lt_of_le hA.lt hn, Nat.lt_of_lt_of_le hA.slt hn, hA.pos, hA.small, hA.len, by rw [hk _ hA.lt]; exact hA.row, by rw [hk _ hA.slt]; exact hA.srow,
    fun c hc => (hA.chn c hc).mono hn fun l hl => hk _ (hlt c hc l hl), hA.rs, hA.nd, fun l hl => avo_mono (hA.av l hl) hn fun y w hy _ => hk y hy, hA.hash, hA.keys⟩
theorem TA.keep {h h' : AHeap} {r : Nat} {fl : Int} {M : TM} (hA : TA h r fl M) (hn : h.next ≤ h'.next) (hr : h'.get r = h.get r) (hk : ∀ z ∈ M.rows, h'.get z = h.get z) (hv : ∀ y w, y < h.next → h.get y = some (.cells w 5) → h'.get y = h.get y) : TA h' r fl M := by
  have hrow : ∀ c ∈ M.ch, ∀ l ∈ c, l.row ∈ M.rows := fun c hc l hl => List.mem_cons_of_mem _ (List.mem_map.2 ⟨l, chn_sub hA hc l hl, rfl⟩)
  exact ⟨Nat.lt_of_lt_of_le hA.lt hn, Nat.lt_of_lt_of_le hA.slt hn, hA.pos, hA.small, hA.len, by rw [hr]; exact hA.row, by rw [hk _ List.mem_cons_self]; exact hA.srow,
    fun c hc => (hA.chn c hc).mono hn fun l hl => hk _ (hrow c hc l hl), hA.rs, hA.nd, fun l hl => avo_mono (hA.av l hl) hn hv, hA.hash, hA.keys⟩
theorem TB.mono {h h' : AHeap} {r : Nat} {fl : Int} {M : TM} {A : List Rec} (t : TB h r fl M A) (hn : h.next ≤ h'.next) (hk : ∀ z, z < h.next → h'.get z = h.get z) : TB h' r fl M A := ⟨t.ta.mono hn hk, t.perm⟩
theorem chn_full {h : AHeap} {l : Lk} {post : List Lk} : ∀ {pre : List Lk}, Chn h (pre ++ l :: post) → h.get l.row = some (.cells [encS l.key, U64 l.rts, .bool l.here, l.vers, headV post] 1)
  | [], ⟨_, h2, _⟩ => h2
  | x :: pre, ⟨_, _, h3⟩ => chn_full h3
theorem head_app (p : List Lk) (x y : Lk) (a b : List Lk) (e : x.row = y.row) : headV (p ++ x :: a) = headV (p ++ y :: b) := by
  cases p with
  | nil => simp only [List.nil_append, headV, e]
  | cons z p => rfl
theorem chn_upd {h H : AHeap} {l l' : Lk} {post : List Lk} (hr : l'.row = l.row) : ∀ {pre : List Lk}, Chn h (pre ++ l :: post) → h.next ≤ H.next → (∀ y ∈ pre ++ post, H.get y.row = h.get y.row) → H.get l.row = some (.cells (l'.cs post) 1) → Chn H (pre ++ l' :: post)
  | [], ⟨h1, h2, h3⟩, hn, hk, hx => ⟨by omega, by rw [hr]; exact hx, h3.mono hn fun y hy => hk y (by simpa using hy)⟩
  | y :: pre, ⟨h1, h2, h3⟩, hn, hk, hx => by
    refine ⟨by omega, ?_, chn_upd hr h3 hn (fun z hz => hk z (List.mem_cons_of_mem _ hz)) hx⟩
    rw [hk y List.mem_cons_self, h2, Lk.cs, Lk.cs]
    show some (AObj.cells [_, _, _, _, headV (pre ++ l :: post)] 1) = some (AObj.cells [_, _, _, _, headV (pre ++ l' :: post)] 1)
    rw [head_app pre l l' post post hr.symm]
theorem TA.chain_nd {h : AHeap} {r : Nat} {fl : Int} {M : TM} (hA : TA h r fl M) {i : Nat} {c : List Lk} (hc : M.ch[i]? = some c) : (c.map Lk.row).Nodup ∧ (c.map Lk.key).Nodup ∧ (∀ l ∈ c, ¬ l.row = r ∧ ¬ l.row = M.s ∧ l.row < h.next ∧ l.row ∈ M.rows) := by
  obtain ⟨P, Q, e1, e2, e3, e4⟩ := all_split hc
  have nd := hA.nd
  have kd := hA.keys
  simp only [TM.rows, e1, List.map_append, List.nodup_cons, List.nodup_append, List.mem_cons, List.mem_append, not_or] at nd
  simp only [e1, List.map_append, List.nodup_append, List.mem_append] at kd
  have hcm := List.mem_of_getElem? hc
  refine ⟨nd.2.2.2.1.1, kd.2.1.1, fun l hl => ⟨fun e => nd.1.2.2.1 (by rw [← e]; exact List.mem_map.2 ⟨l, hl, rfl⟩), fun e => nd.2.1.2.1 (by rw [← e]; exact List.mem_map.2 ⟨l, hl, rfl⟩), (hA.chn c hcm).lt l hl, ?_⟩⟩
  exact List.mem_cons_of_mem _ (List.mem_map.2 ⟨l, chn_sub hA hcm l hl, rfl⟩)
theorem splice_one {vs : List Value} {i : Nat} {x : Value} (h : i < vs.length) : splice vs i [x] = vs.set i x := by
  induction vs generalizing i with
  | nil => simp at h
  | cons v vs ih =>
    cases i with
    | zero => cases vs <;> simp [splice]
    | succ i =>
      simp only [splice, List.set_cons_succ]
      rw [ih (by simpa using h)]
theorem nd_mid {p q : List Lk} {l : Lk} (h : ((p ++ l :: q).map Lk.row).Nodup) : ∀ y ∈ p ++ q, ¬ y.row = l.row := fun y hy e => by
  simp only [List.map_append, List.map_cons, List.nodup_append, List.nodup_cons, List.mem_cons, List.mem_map] at h
  rcases List.mem_append.1 hy with h9 | h9
  · exact h.2.2 y.row ⟨y, h9, rfl⟩ l.row (.inl rfl) e
  · exact h.2.1.1 ⟨y, h9, e⟩
theorem avo_form {h : AHeap} {V : List Vr} {v : Value} (a : AVo h V v) : ∃ b c, v = .slice b V.length c := by cases a <;> exact ⟨_, _, rfl⟩
def rowV (x : Rec) (v : Value) : Value := .agg #[encS x.key, U64 x.rts, .bool x.here, v]
theorem row_none (h : AHeap) (r : Nat) (fl : Int) (M : TM) (A : List Rec) (hB : TB h r fl M A) (k : List UInt8) (hk : k.length < 9223372036854775808) (hg : getR k A = none) :
    FWp Tryz.prog 8 [P0 r, encS k] h fun u h' => u = .tuple #[.agg #[encS [], U64 0, .bool false, .slice none 0 0], .bool false] ∧ h' = h := by
  have tb8 := And.intro ty22 (And.intro ty34 (And.intro ty36 (And.intro ty75 (And.intro ty77 (ty79)))))
  have hn : ∀ l ∈ M.all, ¬ l.key = k := by
    rcases site hB.ta k with h1 | ⟨c, pre, l, post, hs⟩
    · exact h1
    · rw [getR_some hB hs] at hg; cases hg
  have hB1 : ∀ o, TB (h.new o) r fl M A := fun o => hB.mono (by simp) fun z hz => AHeap.get_new_ne (by omega)
  refine FWp.gcs ⟨fun _ => none, _, .tuple (.cons (.agg (.cons (.string _) (.cons (.int _ _) (.cons (.bool _) (.cons .slice0 .nil))))) (.cons (.bool _) .nil))⟩ (W.enter tyOK Tryz.func8 rfl rfl ?_)
  simp only [entry]
  refine W.seq <| W.reg <| OSuf.aop tyOK rfl (so_alloc (by simp only [aAlloc, ty36] <;> rfl)) rfl <| OSuf.aopF tyOK rfl za (fun _ => rfl) rfl <| OSuf.nil <| SQ.normal ?_
  refine W.seq <| W.seq <| W.reg <| OSuf.aop tyOK rfl sm rfl <| OSuf.aopF tyOK rfl (zb (hv := bi_nil ⟨_, _, ty22, rfl⟩)) (fun _ => rfl) rfl <| OSuf.nil <| SQ.normal ?_
  refine W.no (by simp only [lk] <;> rfl) <| CWp.skip <| SQ.normal ?_
  refine W.seq <| W.reg <| OSuf.aop tyOK rfl sm rfl <| OSuf.aop tyOK rfl sm rfl <| OSuf.callD rfl (by simp only [aopnds, lk] <;> rfl) en30 (find_none _ r fl M (hB1 _).ta k hk hn) rfl <| OSuf.aop tyOK rfl za rfl <| OSuf.nil <| SQ.normal ?_
  refine W.seq <| W.seq <| W.reg <| OSuf.aop tyOK rfl sm rfl <| OSuf.aopT tyOK rfl (zb (hv := bi_nil0 tyOK ⟨_, _, ty75, rfl⟩)) (fun _ => rfl) rfl <| OSuf.nil <| SQ.normal ?_
  refine W.yes (by simp only [lk] <;> rfl) <| W.seq <| W.reg <| OSuf.aop tyOK rfl (so_build (by simp only [aparts, lk] <;> rfl) (by simp only [aBuild, ty36, Value.cells, places, tb8] <;> rfl)) rfl <| OSuf.aop tyOK rfl (zs (hv := by simp (disch := first | assumption | omega | (simp only [nx] <;> omega) | fail) only [aStore, ty36, writeRow, hpl, Value.cells] <;> rfl)) rfl <| OSuf.aopF tyOK rfl za (fun _ => rfl) rfl <| OSuf.nil <| SQ.normal ?_
  refine CWp.ret <| SQ.ret <| FQ.ret (by simp (disch := first | assumption | omega | (simp only [nx] <;> omega) | fail) only [aRet, Tryz.f8, aResults, aResult, lk, Nat.reduceEqDiff, reduceIte, aLoad, rowOf, hpl, Value.cells, places, tb8] <;> rfl) ?_
  -- leaf: end
  refine ⟨rfl, fun z o hz ho => ?_⟩
  simp (disch := first | assumption | omega | (simp only [nx] <;> omega) | fail) only [hpl]; exact ho
theorem row_some (h : AHeap) (r : Nat) (fl : Int) (M : TM) (A : List Rec) (hB : TB h r fl M A) (k : List UInt8) (hk : k.length < 9223372036854775808) (x : Rec) (hg : getR k A = some x) (hl : x.V.length ≤ 1000000) :
    ∃ v H, FWp Tryz.prog 8 [P0 r, encS k] h (fun u h' => u = .tuple #[rowV x v, .bool true] ∧ h' = H) ∧ AVo H x.V v ∧ h.next ≤ H.next ∧ ∀ z, z < h.next → H.get z = h.get z := by
  have tb8 := And.intro ty22 (And.intro ty34 (And.intro ty36 (And.intro ty75 (And.intro ty77 (ty79)))))
  obtain ⟨c, pre, l, post, hs⟩ : ∃ c pre l post, Site M k c pre l post := by
    rcases site hB.ta k with h1 | h1
    · rw [getR_none hB h1] at hg; cases hg
    · exact h1
  obtain rfl : l.rc = x := by rw [getR_some hB hs] at hg; cases hg; rfl
  have hA := hB.ta
  have hcm := List.mem_of_getElem? hs.at_
  obtain ⟨nd1, nd2, nd3⟩ := hA.chain_nd hs.at_
  have hlm : l ∈ c := by rw [hs.split]; simp
  have hllt := (nd3 l hlm).2.2.1
  have hlg : h.get l.row = some (.cells [encS l.key, U64 l.rts, .bool l.here, l.vers, headV post] 1) := chn_full (by rw [← hs.split]; exact hA.chn c hcm)
  have at0 : At h (PA M.s (ix k M.n)) (headV c) := ⟨_, _, _, rfl, hA.slt, hA.srow, by simp [hs.at_]⟩
  obtain ⟨q, o, vs, q1, q2, q3, q4⟩ := at_plc (pre := pre) (post := l :: post) (by rw [← hs.split]; exact at0) (by rw [← hs.split]; exact hA.chn c hcm)
  have q4' : vs[o]? = some (P0 l.row) := q4
  have hB1 : ∀ o, TB (h.new o) r fl M A := fun o => hB.mono (by simp) fun z hz => AHeap.get_new_ne (by omega)
  have hf := fun o => find_some (h.new o) r fl M (hB1 o).ta k hk c pre post l hs.at_ hs.split hs.pre hs.key
  rw [q1] at hf
  have hav : AVo (((h.new (.cells [encS [], U64 0, .bool false, .slice none 0 0] 1)).new (.cells [encS [], U64 0, .bool false, .slice none 0 0] 1)).set (h.next + 1) (.cells [encS l.key, U64 l.rts, .bool l.here, l.vers] 1)) l.V l.vers := avo_mono (hA.av l (chn_sub hA hcm l hlm)) (by simp; omega) fun y w hy _ => by simp (disch := first | assumption | omega | (simp only [nx] <;> omega) | fail) only [hpl]
  obtain ⟨a1, c1, hvv⟩ := avo_form hav
  rw [hvv] at hav hlg
  obtain ⟨v, H, hcl, hcv, hcn, hck, _⟩ := clone_c _ l.V _ (avo_avs hav) hl
  obtain ⟨a2, c2, rfl⟩ := avo_form hcv
  have e4 : cellsOf [encS l.key, U64 l.rts, .bool l.here, .slice a1 l.V.length c1, headV post] (0 + 0) 4 = some [encS l.key, U64 l.rts, .bool l.here, .slice a1 l.V.length c1] := rfl
  have e5 : cellsOf [encS l.key, U64 l.rts, .bool l.here, .slice a2 l.V.length c2] 0 4 = some [encS l.key, U64 l.rts, .bool l.here, .slice a2 l.V.length c2] := rfl
  have hcn' : h.next + 2 ≤ H.next := by simpa using hcn
  have z1 : H.get h.next = some (.cells [encS [], U64 0, .bool false, .slice none 0 0] 1) := by rw [hck _ (by simp; omega)]; simp (disch := first | assumption | omega | (simp only [nx] <;> omega) | fail) only [hpl]
  have z2 : H.get (h.next + 1) = some (.cells [encS l.key, U64 l.rts, .bool l.here, .slice a1 l.V.length c1] 1) := by rw [hck _ (by simp)]; simp (disch := first | assumption | omega | (simp only [nx] <;> omega) | fail) only [hpl]
  refine ⟨.slice a2 l.V.length c2, (H.set (h.next + 1) (.cells [encS l.key, U64 l.rts, .bool l.here, .slice a2 l.V.length c2] 1)).set h.next (.cells [encS l.key, U64 l.rts, .bool l.here, .slice a2 l.V.length c2] 1), ?_, ?_, ?_, ?_⟩
  · refine W.enter tyOK Tryz.func8 rfl rfl ?_
    simp only [entry]
    refine W.seq <| W.reg <| OSuf.aop tyOK rfl (so_alloc (by simp only [aAlloc, ty36] <;> rfl)) rfl <| OSuf.aopF tyOK rfl za (fun _ => rfl) rfl <| OSuf.nil <| SQ.normal ?_
    refine W.seq <| W.seq <| W.reg <| OSuf.aop tyOK rfl sm rfl <| OSuf.aopF tyOK rfl (zb (hv := bi_nil ⟨_, _, ty22, rfl⟩)) (fun _ => rfl) rfl <| OSuf.nil <| SQ.normal ?_
    refine W.no (by simp only [lk] <;> rfl) <| CWp.skip <| SQ.normal ?_
    refine W.seq <| W.reg <| OSuf.aop tyOK rfl sm rfl <| OSuf.aop tyOK rfl sm rfl <| OSuf.callD rfl (by simp only [aopnds, lk] <;> rfl) en30 (hf _) rfl <| OSuf.aop tyOK rfl za rfl <| OSuf.nil <| SQ.normal ?_
    refine W.seq <| W.seq <| W.reg <| OSuf.aop tyOK rfl sm rfl <| OSuf.aopF tyOK rfl (zb (hv := bi_nil ⟨_, _, ty75, rfl⟩)) (fun _ => rfl) rfl <| OSuf.nil <| SQ.normal ?_
    refine W.no (by simp only [lk] <;> rfl) <| CWp.skip <| SQ.normal ?_
    refine W.seq <| W.reg <| OSuf.aop tyOK rfl sm rfl <| OSuf.aop tyOK rfl (so_nilCheck (by simp only [lk] <;> rfl)) rfl <| OSuf.aop tyOK rfl (zl (hv := by simp (disch := first | assumption | omega | (simp only [nx] <;> omega) | fail) only [aLoad, ty77, rowOf, hpl, Value.cells, q3, q4', hlg, z1, z2, e4, e5, Option.map_some, cond_true] <;> rfl)) rfl <| OSuf.aop tyOK rfl (so_nilCheck (by simp only [lk] <;> rfl)) rfl <| OSuf.aop tyOK rfl (zf (hv := fa_ok (k := 0) ty79 rfl rfl ty36 rfl rfl)) rfl <| OSuf.aop tyOK rfl (zl (hv := by simp (disch := first | assumption | omega | (simp only [nx] <;> omega) | fail) only [aLoad, ty36, rowOf, hpl, Value.cells, q3, q4', hlg, z1, z2, e4, e5, Option.map_some, cond_true] <;> rfl)) rfl <| OSuf.aop tyOK rfl (so_alloc (by simp only [aAlloc, ty36] <;> rfl)) rfl <| OSuf.aop tyOK rfl (zs (hv := by simp (disch := first | assumption | omega | (simp only [nx] <;> omega) | fail) only [aStore, ty36, writeRow, hpl, Value.cells, q3, q4', hlg, z1, z2, e4, e5, Option.map_some, cond_true] <;> rfl)) rfl <| OSuf.nil <| SQ.normal ?_
    refine W.seq <| W.reg <| OSuf.aop tyOK rfl (zf (hv := fa_ok (k := 3) ty36 rfl rfl ty34 rfl rfl)) rfl <| OSuf.aop tyOK rfl (zl (hv := by simp (disch := first | assumption | omega | (simp only [nx] <;> omega) | fail) only [aLoad, ty34, rowOf, hpl, Value.cells, q3, q4', hlg, z1, z2, e4, e5, Option.map_some, cond_true] <;> rfl)) rfl <| OSuf.callD rfl (by simp only [aopnds, lk] <;> rfl) en31 (hcl) rfl <| OSuf.aop tyOK rfl (zf (hv := fa_ok (k := 3) ty36 rfl rfl ty34 rfl rfl)) rfl <| OSuf.aop tyOK rfl (zs (hv := by simp (disch := first | assumption | omega | (simp only [nx] <;> omega) | fail) only [aStore, ty34, writeRow, hpl, Value.cells, q3, q4', hlg, z1, z2, e4, e5, Option.map_some, cond_true] <;> rfl)) rfl <| OSuf.nil <| SQ.normal ?_
    refine W.seq <| W.reg <| OSuf.aop tyOK rfl (zl (hv := by simp (disch := first | assumption | omega | (simp only [nx] <;> omega) | fail) only [aLoad, ty36, rowOf, hpl, Value.cells, q3, q4', hlg, z1, z2, e4, e5, Option.map_some, cond_true] <;> rfl)) rfl <| OSuf.aop tyOK rfl (zs (hv := by simp (disch := first | assumption | omega | (simp only [nx] <;> omega) | fail) only [aStore, ty36, writeRow, hpl, Value.cells, q3, q4', hlg, z1, z2, e4, e5, Option.map_some, cond_true] <;> rfl)) rfl <| OSuf.aopT tyOK rfl za (fun _ => rfl) rfl <| OSuf.nil <| SQ.normal ?_
    refine CWp.ret <| FQ.ret (by simp (disch := first | assumption | omega | (simp only [nx] <;> omega) | fail) only [aRet, Tryz.f8, aResults, aResult, lk, Nat.reduceEqDiff, reduceIte, aLoad, rowOf, hpl, Value.cells, places, tb8, q3, q4', hlg, z1, z2, e4, e5, Option.map_some, cond_true] <;> rfl) ?_
    -- leaf: end
    exact ⟨rfl, rfl⟩
  · refine avo_mono hcv (by simp) fun y w hy hg => ?_
    have e1 : ¬ h.next + 1 = y := fun e => by rw [← e, z2] at hg; cases hg
    have e2 : ¬ h.next = y := fun e => by rw [← e, z1] at hg; cases hg
    simp (disch := first | assumption | omega | (simp only [nx] <;> omega) | fail) only [hpl]
  · simp only [nx]; omega
  · intro z hz
    simp (disch := first | assumption | omega | (simp only [nx] <;> omega) | fail) only [hpl]
    rw [hck z (by simp; omega)]
    simp (disch := first | assumption | omega | (simp only [nx] <;> omega) | fail) only [hpl]
end Go.Proofs.YtjenbiohcecfnaaGreat
