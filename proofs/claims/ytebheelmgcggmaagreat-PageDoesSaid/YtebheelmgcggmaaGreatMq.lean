/-
  Merged: RgN, RgO, RgP, RgQ, RgS, RgT.
-/
import Derived.Test.YtebheelmgcggmaaGreatMb
import Derived.Test.YtebheelmgcggmaaGreatMp
import Derived.Test.YtebheelmgcggmaaGreatMa
import Derived.Test.YtebheelmgcggmaaGreatMf
set_option linter.unusedSimpArgs false
set_option linter.unusedVariables false
set_option maxRecDepth 10000
set_option maxHeartbeats 8000000
namespace Go.Proofs.YtebheelmgcggmaaGreat
open Go.Ab Go.Sort
def num (n : Nat) : List UInt8 := if n < 128 then [UInt8.ofNat n] else UInt8.ofNat (128 + n % 128) :: num (n / 128)
termination_by n
theorem num_lo {n : Nat} (h : n < 128) : num n = [UInt8.ofNat n] := by rw [num, if_pos h]
theorem num_hi {n : Nat} (h : ¬ n < 128) : num n = UInt8.ofNat (128 + n % 128) :: num (n / 128) := by rw [num, if_neg h]
theorem num_len : ∀ (k n : Nat), n < 128 ^ (k + 1) → (num n).length ≤ k + 1
  | 0, n, h => by rw [num_lo xA]; simp
  | k + 1, n, h => by
    by_cases c : n < 128
    · rw [num_lo c]; simp
    · rw [num_hi c]
      have := num_len k (n / 128) (by rw [Nat.pow_succ] at h; exact Nat.div_lt_of_lt_mul (by rw [Nat.mul_comm]; exact h))
      simp only [List.length_cons]; omega
abbrev u8v (b : UInt8) : Value := .int .u8 b.toNat
theorem of_lt {n : Nat} (h : n < 256) : ((UInt8.ofNat n).toNat : Int) = (n : Int) := by
  rw [UInt8.toNat_ofNat', Nat.mod_eq_of_lt h]
theorem bytesIn_map : ∀ l : List UInt8, bytesIn (l.map u8v) = some l
  | [] => rfl
  | a :: l => by
    simp only [List.map_cons, bytesIn, bytesIn_map l]
    simp
theorem cv_str {h : AHeap} {s d e : TypeId} {si di ei : TI} {r n c : Nat} {l : List UInt8} (hs : T.get s = some si) (hsu : si.und = .slice e) (hd : T.get d = some di) (hdu : di.und = .string) (he : T.get e = some ei) (heu : ei.und = .int .u8) (hr : h.get r = some (.cells (l.map u8v) 1)) (hn : n = l.length) :
    aConv T s d (.slice (some ⟨r, 0, none⟩) n c) h = some (encS l, h) := by
  subst hn
  have e1 : aCells h 1 l.length (.slice (some ⟨r, 0, none⟩) l.length c) = some (l.map u8v) := by
    cases l with
    | nil => simp [aCells]
    | cons a l =>
      have : Nat.beq ((a :: l).length * 1) 0 = false := rfl
      have h2 : cellsOf ((a :: l).map u8v) 0 ((a :: l).length * 1) = some ((a :: l).map u8v) := cellsOf_all xI
      simp only [aCells, this, cond_false, Nat.ble_eq_true_of_le (Nat.le_refl _), cond_true, rowOf, hr, h2]
  simp only [aConv, hs, hd, hsu, hdu, he, e1, heu, bytesIn_map]
theorem str_app (a b : List UInt8) : ((⟨⟨a⟩⟩ : ByteArray) ++ ⟨⟨b⟩⟩) = ⟨⟨a ++ b⟩⟩ := by
  apply ByteArray.ext
  simp
theorem bs_add {t : TypeId} {x y : Operand} {a b : List UInt8} (h : a.length + b.length ≤ 9223372036854775807 := by first | assumption | omega | (simp only [List.length_append, List.length_cons, List.length_nil]; omega)) : aBin Tryz.prog T .add t x y (encS a) (encS b) = some (encS (a ++ b)) := by
  have e0 : (ByteArray.mk ⟨a⟩).size = a.length := rfl
  have e1 : (ByteArray.mk ⟨b⟩).size = b.length := rfl
  have h2 : ¬ (9223372036854775807 : Int) < ((ByteArray.mk ⟨a⟩).size : Int) + ((ByteArray.mk ⟨b⟩).size : Int) := by rw [e0, e1]; omega
  simp [aBin, flat, flat1, eqGuard, binOp, Op.stringOp, h2, pureRun_pure, str_app]
theorem put0_c (h : AHeap) (s : List UInt8) (n : Nat) (hn : n < 18446744073709551616) (hs : s.length ≤ 1000000) : FWp Tryz.prog 62 [encS s, U64 n] h fun u h' => u = encS (s ++ num n) ∧ h' = h := by
  refine FWp.gcs (.flat rfl) ?_
  refine W.enter tyOK Tryz.func62 rfl rfl ?_
  simp only [entry]
  refine Wr <| ja za <| On ?_
  refine W.seq <| ?_
  refine W.cut (fun L g => ∃ (pre : List UInt8) (m : Nat), num n = pre ++ num m ∧ m < 128 ∧ pre.length ≤ 10 ∧ h.next ≤ g.next ∧ (∀ z, z < h.next → g.get z = h.get z) ∧ L = [(0, encS (s ++ pre)), (1, U64 m)]) (W.block (W.loop (fun k L g => ∃ (i : Nat) (pre : List UInt8) (m : Nat), k + i = 10 ∧ num n = pre ++ num m ∧ pre.length = i ∧ m * 128 ^ i < 18446744073709551616 ∧ h.next ≤ g.next ∧ (∀ z, z < h.next → g.get z = h.get z) ∧ L = [(0, encS (s ++ pre)), (1, U64 m)]) (n := 10) ⟨0, [], n, rfl, rfl, rfl, by simpa using hn, Nat.le_refl _, fun _ _ => rfl, by rw [List.append_nil]⟩ ?_ ?_)) ?_
  · simp [HasA, Tr.get_put]
  · rintro k L g ⟨i, pre, m, hk, e1, hp, hlt, hn1, hk1, rfl⟩
    simp only [mkA]
    by_cases hm : m < 128
    · refine W.seq <| Wr <| ja sm <| jy Jx <| On ?_
      refine Wn <| CWp.exit <| SQ.exit <| LQ.exit <| BQ.exit <| ?_
      refine NQ.normal (L := [(0, encS (s ++ pre)), (1, U64 m)]) ?_ ⟨pre, m, e1, hm, by omega, hn1, hk1, rfl⟩
      simp only [HasA, Tr.get_put, Nat.reduceEqDiff, reduceIte, and_self]
    · have hi : i ≤ 8 := by
        by_cases c : i ≤ 8
        · exact c
        · have h1 : 128 ^ 9 ≤ 128 ^ i := Nat.pow_le_pow_right xK xA
          have h2 : 128 * 128 ^ 9 ≤ m * 128 ^ i := Nat.mul_le_mul xA h1
          have h3 : (128 : Nat) * 128 ^ 9 = 1180591620717411303424 := by decide
          omega
      have hm2 : m < 18446744073709551616 := by
        have h1 : 0 < 128 ^ i := Nat.pow_pos xK
        have h2 : m * 1 ≤ m * 128 ^ i := Nat.mul_le_mul_left _ h1
        omega
      have w1 : ((m : Int)).tmod 128 = ((m % 128 : Nat) : Int) := by rw [Int.tmod_eq_emod_of_nonneg xA]; omega
      have w2 : IntKind.u8.wrap ((m % 128 : Nat) : Int) = ((m % 128 : Nat) : Int) := by
        simp only [IntKind.wrap, IntKind.bits, IntKind.signed]; simp; omega
      have w3 : IntKind.u8.wrap (128 + ((m % 128 : Nat) : Int)) = ((UInt8.ofNat (128 + m % 128)).toNat : Int) := by
        rw [of_lt xA]
        simp only [IntKind.wrap, IntKind.bits, IntKind.signed]; simp; omega
      have w4 : IntKind.u64.wrap ((m : Int).tdiv 128) = ((m / 128 : Nat) : Int) := by
        rw [Int.tdiv_eq_ediv_of_nonneg xA]
        simp only [IntKind.wrap, IntKind.bits, IntKind.signed]; simp; omega
      have jY := @Nat.zero_add
      refine W.seq <| Wr <| ja sm <| je Jx <| On ?_
      refine Wy <| CWp.skip <| SQ.normal ?_
      have jY := An ty22 <| An ty5 <| ty99
      have jW := An @w1 <| An @w2 <| An @w3 <| @w4
      refine W.block <| Wr <| ja sm <| ja sm <| ja (Jw (e := (bi_rem xK))) <| ja Jk <| ja Ja <| ja Jh <| ja (so_convert xB (cv_str (l := [UInt8.ofNat (128 + m % 128)]) ty99 rfl ty9 rfl ty5 rfl (zQ) rfl)) <| ja (zb (hv := bs_add)) <| ja za <| On ?_
      refine W.reg <| ja sm <| ja (Jw (e := (bi_quo xK))) <| ja za <| OSuf.nil <| BQ.normal <| ?_
      refine LQ.normal (m := k - 1) (L := [(0, encS (s ++ (pre ++ [UInt8.ofNat (128 + m % 128)]))), (1, U64 ((m / 128 : Nat) : Int))]) xA ?_ ⟨i + 1, pre ++ [UInt8.ofNat (128 + m % 128)], m / 128, by omega, ?_, by simp [hp], ?_, by simp only [nx]; omega, fun z hz => ?_, rfl⟩
      · simp only [HasA, Tr.get_put, Nat.reduceEqDiff, reduceIte, w4, List.append_assoc, and_self]
      · rw [e1, num_hi hm]; simp
      · rw [Nat.pow_succ]
        have : m / 128 * 128 ≤ m := Nat.div_mul_le_self _ _
        have h2 : m / 128 * 128 * 128 ^ i ≤ m * 128 ^ i := Nat.mul_le_mul_right _ this
        rw [Nat.mul_comm (128 ^ i) 128, ← Nat.mul_assoc]; omega
      · simp (disch := first | omega | simp only [nx]; omega) only [hpl]; exact hk1 z hz
  rintro L a' g ha ⟨pre, m, e1, hm, hp, hn1, hk1, rfl⟩
  have w1 : IntKind.u8.wrap (m : Int) = ((UInt8.ofNat m).toNat : Int) := by
    rw [of_lt xA]
    simp only [IntKind.wrap, IntKind.bits, IntKind.signed]; simp; omega
  refine SQ.normal <| CWp.known ha ?_
  simp only [mkA]
  have jY := An ty22 <| An ty5 <| ty99
  have jW := @w1
  refine Wr <| ja sm <| ja sm <| ja Jk <| ja Jh <| ja (so_convert xB (cv_str (l := [UInt8.ofNat m]) ty99 rfl ty9 rfl ty5 rfl (zQ) rfl)) <| ja (zb (hv := bs_add)) <| ja za <| On ?_
  refine CWp.ret <| Jr ?_
  refine ⟨by rw [e1, num_lo hm, List.append_assoc], fun r o hr ho => ?_⟩
  simp (disch := first | omega | simp only [nx]; omega) only [hpl]
  rw [hk1 r hr]; exact ho
theorem putt0_c (h : AHeap) (s t : List UInt8) (ht : t.length ≤ 1000000) (hs : s.length ≤ 1000000) : FWp Tryz.prog 61 [encS s, encS t] h fun u h' => u = encS (s ++ num t.length ++ t) ∧ h' = h := by
  have hp := put0_c h s t.length xA hs
  have hl : (num t.length).length ≤ 10 := num_len 9 _ (by have : (128 : Nat) ^ (9 + 1) = 1180591620717411303424 := by decide
                                                          omega)
  have e1 : (ByteArray.mk ⟨t⟩).size = t.length := rfl
  have w1 : IntKind.u64.wrap (t.length : Int) = (t.length : Int) := by
    simp only [IntKind.wrap, IntKind.bits, IntKind.signed]; simp; omega
  refine W.enter tyOK Tryz.func61 rfl rfl ?_
  simp only [entry]
  refine Wr <| ja za <| On ?_
  have jY := An @e1 <| An ty9 <| An ty3 <| ty22
  have jW := @w1
  refine Wr <| ja sm <| ja sm <| ja Jn <| ja Jk <| jk (Jc en62 (hp)) rfl <| ja sm <| ja (zb (hv := bs_add)) <| ja za <| On ?_
  refine CWp.ret <| Jr ?_
  exact ⟨rfl, rfl⟩
end Go.Proofs.YtebheelmgcggmaaGreat
namespace Go.Proofs.YtebheelmgcggmaaGreat
open Go.Ab Go.Sort
theorem bi_or0 {t : TypeId} {x y : Operand} {k : IntKind} {m n : Int} : aBin Tryz.prog T .or t x y (.int k m) (.int k n) = some (.int k (k.wrap ((BitVec.ofInt k.bits m ||| BitVec.ofInt k.bits n).toNat : Nat))) := by simp [aBin, flat, flat1, eqGuard, binOp, Op.intBits, pureRun_pure]
theorem bi_or {t : TypeId} {x y : Operand} {m : Nat} : aBin Tryz.prog T .or t x y (.int .u8 128) (.int .u8 ((m % 256 : Nat) : Int)) = some (u8v (UInt8.ofNat (128 + m % 128))) := by
  have key : ∀ r, r < 256 → IntKind.u8.wrap ((BitVec.ofInt IntKind.u8.bits 128 ||| BitVec.ofInt IntKind.u8.bits ((r : Nat) : Int)).toNat : Nat) = ((UInt8.ofNat (128 + r % 128)).toNat : Int) := by decide +kernel
  have h1 := key (m % 256) xA
  have h2 : m % 256 % 128 = m % 128 := by omega
  rw [h2] at h1
  rw [bi_or0, h1]
def dg (pre : List UInt8) : List Value := pre.map u8v ++ List.replicate (10 - pre.length) (u8v 0)
theorem dg_length {pre : List UInt8} (h : pre.length ≤ 10) : (dg pre).length = 10 := by simp [dg]; omega
theorem dg_put {pre : List UInt8} (x : UInt8) (h : pre.length < 10) : splice (dg pre) pre.length [u8v x] = dg (pre ++ [x]) := by
  have e : 10 - pre.length = (10 - (pre ++ [x]).length) + 1 := by simp; omega
  have := splice_app (pre.map u8v) [u8v 0] (List.replicate (10 - (pre ++ [x]).length) (u8v 0)) [u8v x] rfl
  simp only [dg, e, List.replicate_succ]
  rw [List.length_map] at this
  simpa using this
theorem dg_part {pre : List UInt8} (h : pre.length ≤ 10) : cellsOf (dg pre) 0 (pre.length * 1) = some (pre.map u8v) := by
  have h1 : 0 + pre.length * 1 ≤ (dg pre).length := by rw [dg_length h]; omega
  simp only [cellsOf, Nat.ble_eq_true_of_le h1, cond_true]
  simp [dg]
theorem dg_cells {h : AHeap} {r c : Nat} {P : List UInt8} (hr : h.get r = some (.cells (dg P) 1)) (hP : P.length ≤ 10) : aCells h 1 P.length (.slice (some ⟨r, 0, none⟩) P.length c) = some (P.map u8v) := by
  cases P with
  | nil => simp [aCells]
  | cons a P =>
    have e : Nat.beq ((a :: P).length * 1) 0 = false := rfl
    simp only [aCells, e, cond_false, Nat.ble_eq_true_of_le (Nat.le_refl _), cond_true, rowOf, hr, dg_part hP]
theorem st_dg {h : AHeap} {r off : Nat} {pre : List UInt8} {x : UInt8} {t : TypeId} {ti : TI} (hr : h.get r = some (.cells (dg pre) 1)) (ho : off = pre.length) (h10 : pre.length < 10) (ht : T.get t = some ti) (hs : ti.size = 1) :
    aStore T t (PA r off) (u8v x) h = some (h.set r (.cells (dg (pre ++ [x])) 1)) := by
  subst ho
  have e1 : Nat.ble (pre.length + [u8v x].length) (dg pre).length = true := Nat.ble_eq_true_of_le (by rw [dg_length xA]; simp; omega)
  have e2 : Nat.beq (u8v x).cells.size ti.size = true := by rw [hs]; rfl
  have e3 : (u8v x).cells.toList = [u8v x] := rfl
  have e4 : oneCells [u8v x] = true := rfl
  simp only [aStore, ht, e2, cond_true, writeRow, hr, e3, e1, e4, Bool.and_self, dg_put x h10]
theorem one_u8 : ∀ l : List UInt8, oneCells (l.map u8v) = true
  | [] => rfl
  | a :: l => by
    have := one_u8 l
    simp only [oneCells, List.map_cons, List.all_cons, Bool.and_eq_true] at this ⊢
    exact ⟨rfl, this⟩
theorem mk_sl {h : AHeap} {t e : TypeId} {ti ei : TI} {n : Nat} (ht : T.get t = some ti) (hu : ti.und = .slice e) (he : T.get e = some ei) (hz : ei.zero = some (.int .u8 0)) (h1 : ei.size = 1) (h2 : ei.bytes = 1) (hn : n ≤ 281474976710656) :
    aMakeSlice T t (I64 n) (I64 n) h = some (.slice (some ⟨h.next, 0, none⟩) n (n + 1), h.new (.cells (zeros [u8v 0] n) 1)) := by
  have c : (Value.int .u8 0).cells.toList.all flat1 = true ∧ (Value.int .u8 0).cells.size = ei.size ∧ (0 : Int) ≤ (n : Int) ∧ (n : Int) ≤ (n : Int) ∧ (n : Int) ≤ 9223372036854775807 ∧ (ei.bytes : Int) * (n : Int) ≤ 281474976710656 := by
    rw [h1, h2]
    exact ⟨rfl, rfl, by omega, by omega, by omega, by omega⟩
  simp only [aMakeSlice, ht, hu, he, hz]
  rw [if_pos c]
  simp only [Int.toNat_natCast, h1]; rfl
theorem cp_row {h : AHeap} {ats : Array TypeId} {t e : TypeId} {rest : List TypeId} {ti ei : TI} {r off dl c : Nat} {x : Value} {pre mid post : List Value} {l : List UInt8} (ha : ats.toList = t :: rest) (ht : T.get t = some ti) (hu : ti.und = .slice e) (he : T.get e = some ei) (h1 : ei.size = 1)
    (hl : aLen x = some l.length) (hx : aCells h 1 l.length x = some (l.map u8v)) (hr : h.get r = some (.cells (pre ++ (mid ++ post)) 1)) (hoff : off = pre.length) (hm : mid.length = l.length) (hd : l.length ≤ dl) :
    aCopy T ats (.slice (some ⟨r, off, none⟩) dl c) x h = some (I64 l.length, h.set r (.cells (pre ++ (l.map u8v ++ post)) 1)) := by
  subst hoff
  have e1 : Nat.min l.length dl = l.length := Nat.min_eq_left hd
  cases l with
  | nil =>
    have : mid = [] := List.length_eq_zero_iff.1 hm
    subst this
    have e2 : Nat.beq (Nat.min ([] : List UInt8).length dl) 0 = true := by rw [e1]; rfl
    have e3 := AHeap.set_self hr
    simp only [aCopy, ha, ht, hu, he, hl]
    cases dl with
    | zero => simp only [e2, cond_true]; rw [show (List.map u8v [] : List Value) = [] from rfl, e3]; rfl
    | succ dl => simp only [e2, cond_true]; rw [show (List.map u8v [] : List Value) = [] from rfl, e3]; rfl
  | cons a l =>
    have e2 : Nat.beq (a :: l).length 0 = false := rfl
    have e3 : Nat.ble (pre.length + ((a :: l).map u8v).length) (pre ++ (mid ++ post)).length = true := Nat.ble_eq_true_of_le (by simp only [List.length_append, List.length_map]; omega)
    have e4 := splice_app pre mid post ((a :: l).map u8v) (by rw [List.length_map]; exact hm.symm)
    simp only [aCopy, ha, ht, hu, he, hl, e1, e2, cond_false, h1, hx, writeRow, hr, e3, one_u8, Bool.and_self, cond_true, e4]
theorem str_cells {h : AHeap} {s : List UInt8} : aCells h 1 s.length (encS s) = some (s.map u8v) := by
  simp only [aCells, Nat.beq_refl, cond_true, byteVals]
  rw [List.take_of_length_le xI]
theorem str_len {s : List UInt8} : aLen (encS s) = some s.length := rfl
theorem sl_k {h : AHeap} {t e : TypeId} {ti ei : TI} {r n i : Nat} (ht : T.get t = some ti) (hu : ti.und = .slice e) (he : T.get e = some ei) (h1 : ei.size = 1) (hi : i < n) :
    aSlice T t (.slice (some ⟨r, 0, none⟩) n (n + 1)) (some (I64 i)) none none h = some (.slice (some ⟨r, i, none⟩) (n - i) (n - i + 1)) := by
  have e2 : Nat.beq n i = false := by
    cases e9 : Nat.beq n i with
    | false => rfl
    | true => have := Nat.eq_of_beq_eq_true e9; omega
  simp only [aSlice, ht, hu, he, if_pos (Nat.le_refl n), bounds_lo (Nat.le_of_lt hi), e2, cond_false, h1, Nat.mul_one, Nat.zero_add]
theorem sl_arr {h : AHeap} {t e : TypeId} {ti ei : TI} {r i : Nat} (ht : T.get t = some ti) (hu : ti.und = .array 10 e) (he : T.get e = some ei) (hi : i ≤ 10) :
    aSlice T t (P0 r) none (some (I64 i)) none h = some (.slice (some ⟨r, 0, none⟩) i 11) := by
  have e2 : Nat.beq 10 0 = false := rfl
  simp only [aSlice, ht, hu, he, bounds_hi hi, e2, cond_false, Nat.zero_mul, Nat.zero_add, Nat.sub_zero, Nat.add_zero]
theorem zeros_rep : ∀ n : Nat, zeros [u8v 0] n = List.replicate n (u8v 0)
  | 0 => rfl
  | n + 1 => by simp only [zeros, zeros_rep n, List.replicate_succ, List.cons_append, List.nil_append]
theorem put_c (h : AHeap) (s : List UInt8) (n : Nat) (hn : n < 18446744073709551616) (hs : s.length ≤ 1000000) : FWp Tryz.prog 60 [encS s, U64 n] h fun u h' => u = encS (s ++ num n) ∧ h' = h := by
  have tb60 := And.intro ty22 (And.intro ty5 (And.intro ty9 (And.intro ty98 (ty99))))
  refine FWp.gcs (.flat rfl) ?_
  have hd0 : (AObj.cells (dg []) 1) = .cells [.int .u8 0, .int .u8 0, .int .u8 0, .int .u8 0, .int .u8 0, .int .u8 0, .int .u8 0, .int .u8 0, .int .u8 0, .int .u8 0] 1 := rfl
  refine W.enter tyOK Tryz.func60 rfl rfl ?_
  simp only [entry]
  refine Wr <| ja za <| On ?_
  have jY := ty98
  refine Wr <| ja Jo <| On ?_
  refine Wr <| ja za <| On ?_
  refine W.seq <| ?_
  refine W.cut (fun L g => ∃ (pre : List UInt8) (m : Nat), num n = pre ++ num m ∧ m < 128 ∧ pre.length ≤ 9 ∧ g.next = h.next + 1 ∧ g.get h.next = some (.cells (dg pre) 1) ∧ (∀ z, z < h.next → g.get z = h.get z) ∧ L = [(0, encS s), (1, U64 m), (5, P0 h.next), (6, I64 pre.length)]) (W.block (W.loop (fun k L g => ∃ (pre : List UInt8) (m : Nat), k + pre.length = 10 ∧ num n = pre ++ num m ∧ m * 128 ^ pre.length < 18446744073709551616 ∧ pre.length ≤ 9 ∧ g.next = h.next + 1 ∧ g.get h.next = some (.cells (dg pre) 1) ∧ (∀ z, z < h.next → g.get z = h.get z) ∧ L = [(0, encS s), (1, U64 m), (5, P0 h.next), (6, I64 pre.length)]) (n := 10) ⟨[], n, rfl, rfl, by simpa using hn, by simp, by simp, zQ, fun z hz => zN xA, rfl⟩ ?_ ?_)) ?_
  · simp [HasA, Tr.get_put]
  · rintro k L g ⟨pre, m, hk, e1, hlt, h9, hn1, hg, hk1, rfl⟩
    simp only [mkA]
    by_cases hm : m < 128
    · refine W.seq <| Wr <| ja sm <| jy Jx <| On ?_
      refine Wn <| CWp.exit <| SQ.exit <| LQ.exit <| BQ.exit <| ?_
      refine NQ.normal (L := [(0, encS s), (1, U64 m), (5, P0 h.next), (6, I64 pre.length)]) ?_ ⟨pre, m, e1, hm, h9, hn1, hg, hk1, rfl⟩
      simp only [HasA, Tr.get_put, Nat.reduceEqDiff, reduceIte, and_self]
    · have hi : pre.length ≤ 8 := by
        by_cases c : pre.length ≤ 8
        · exact c
        · have h1 : 128 ^ 9 ≤ 128 ^ pre.length := Nat.pow_le_pow_right xK xA
          have h2 : 128 * 128 ^ 9 ≤ m * 128 ^ pre.length := Nat.mul_le_mul xA h1
          have h3 : (128 : Nat) * 128 ^ 9 = 1180591620717411303424 := by decide
          omega
      have hc1 : (0 ≤ (pre.length : Int) ∧ (pre.length : Int) < ((10 : Nat) : Int)) := by omega
      have w1 : IntKind.u8.wrap (m : Int) = ((m % 256 : Nat) : Int) := by
        simp only [IntKind.wrap, IntKind.bits, IntKind.signed]; simp
      have w2 : ((m : Int)).fdiv (2 ^ (min (7 : Int).toNat IntKind.u64.bits)) = ((m / 128 : Nat) : Int) := by
        have : (2 : Int) ^ (min (7 : Int).toNat IntKind.u64.bits) = 128 := by decide
        rw [this, Int.fdiv_eq_ediv_of_nonneg _ xA]; omega
      have w3 : IntKind.i64.wrap ((pre.length : Int) + 1) = ((pre.length + 1 : Nat) : Int) := by rw [wrap_i64 xA xA]; omega
      have jY := An @hg <| An @hc1 <| An @sb <| An tb60 <| An ty98 <| An ty5 <| ty22
      refine W.seq <| Wr <| ja sm <| je Jx <| On ?_
      refine Wy <| CWp.skip <| SQ.normal ?_
      have jW := An @w1 <| An @w2 <| @w3
      refine W.seq <| W.block <| Wr <| ja sm <| ja sm <| ja Jk <| ja (zb (hv := bi_or)) <| ja Ji <| Oa rfl (zs (hv := st_dg (x := UInt8.ofNat (128 + m % 128)) hg xI xA ty5 rfl)) rfl <| On ?_
      refine W.reg <| ja sm <| ja (Jw (e := (bi_shr xK))) <| ja za <| OSuf.nil <| BQ.normal <| SQ.normal ?_
      refine W.reg <| ja sm <| ja Ja <| ja za <| OSuf.nil <| ?_
      refine LQ.normal (m := k - 1) (L := [(0, encS s), (1, U64 ((m / 128 : Nat) : Int)), (5, P0 h.next), (6, I64 ((pre ++ [UInt8.ofNat (128 + m % 128)]).length : Nat))]) xA ?_ ⟨pre ++ [UInt8.ofNat (128 + m % 128)], m / 128, by simp; omega, ?_, ?_, by simp; omega, hn1, zP, fun z hz => by rw [zS xA]; exact hk1 z hz, rfl⟩
      · simp only [HasA, Tr.get_put, Nat.reduceEqDiff, reduceIte, w2, w3, List.length_append, List.length_cons, List.length_nil, and_self]
      · rw [e1, num_hi hm]; simp
      · rw [List.length_append, List.length_singleton, Nat.pow_succ]
        have : m / 128 * 128 ≤ m := Nat.div_mul_le_self _ _
        have h2 : m / 128 * 128 * 128 ^ pre.length ≤ m * 128 ^ pre.length := Nat.mul_le_mul_right _ this
        rw [Nat.mul_comm (128 ^ pre.length) 128, ← Nat.mul_assoc]; omega
  rintro L a' g ha ⟨pre, m, e1, hm, hp, hn1, hg, hk1, rfl⟩
  have w1 : IntKind.u8.wrap (m : Int) = ((UInt8.ofNat m).toNat : Int) := by
    rw [of_lt xA]
    simp only [IntKind.wrap, IntKind.bits, IntKind.signed]; simp; omega
  have e0 : (ByteArray.mk ⟨s⟩).size = s.length := rfl
  have w2 : IntKind.i64.wrap ((s.length : Int) + (pre.length : Int)) = ((s.length + pre.length : Nat) : Int) := by rw [wrap_i64 xA xA]; omega
  obtain ⟨P, hP⟩ : ∃ P, P = pre ++ [UInt8.ofNat m] := ⟨_, rfl⟩
  have hPl : P.length = pre.length + 1 := by rw [hP]; simp
  have w3 : IntKind.i64.wrap (((s.length + pre.length : Nat) : Int) + 1) = ((s.length + P.length : Nat) : Int) := by rw [wrap_i64 xA xA]; omega
  have w4 : IntKind.i64.wrap ((pre.length : Int) + 1) = (P.length : Int) := by rw [wrap_i64 xA xA]; omega
  have hc1 : (0 ≤ (pre.length : Int) ∧ (pre.length : Int) < ((10 : Nat) : Int)) := by omega
  refine SQ.normal <| CWp.known ha ?_
  simp only [mkA]
  have jY := An @hg <| An @hc1 <| An @e0 <| An @sb <| An ty98 <| An ty5 <| An tb60 <| An ty22 <| ty9
  have jW := An @w1 <| An @w2 <| An @w3 <| @w4
  refine Wr <| ja sm <| ja sm <| ja Jk <| ja Ji <| Oa rfl (zs (hv := st_dg (x := UInt8.ofNat m) hg xI xA ty5 rfl)) rfl <| On ?_
  refine Wr <| ja sm <| ja Jn <| ja sm <| ja Ja <| ja Ja <| ja (so_makeSlice xB xB (mk_sl ty99 rfl ty5 rfl rfl rfl xA)) <| ja za <| On ?_
  rw [← hP]
  obtain ⟨G, hG⟩ : ∃ G, G = (g.set h.next (.cells (dg P) 1)).new (.cells (zeros [u8v 0] (s.length + P.length)) 1) := ⟨_, rfl⟩
  have q1 : G.get h.next = some (.cells (dg P) 1) := by rw [hG]; simp (disch := first | omega | simp only [nx]; omega) only [hpl]
  have q2 : G.get (h.next + 1) = some (.cells ([] ++ (List.replicate s.length (u8v 0) ++ List.replicate P.length (u8v 0))) 1) := by
    rw [hG, ← hn1, List.nil_append, List.replicate_append_replicate, ← zeros_rep]
    exact zQ
  have old : ∀ z, z < h.next → G.get z = h.get z := fun z hz => by rw [hG]; simp (disch := first | omega | simp only [nx]; omega) only [hpl]; exact hk1 z hz
  show CWp _ _ _ _ ((g.set h.next (.cells (dg P) 1)).new (.cells (zeros [u8v 0] (s.length + P.length)) 1)) _
  rw [← hG]
  refine CWp.known (L := [(0, encS s), (5, P0 h.next), (6, I64 pre.length), (7, .slice (some ⟨h.next + 1, 0, none⟩) (s.length + P.length) (s.length + P.length + 1))]) ⟨xB, xB, xB, (by simp only [lk, AHeap.next_set, hn1] <;> rfl), trivial⟩ ?_
  simp only [mkA]
  have jW := @w4
  refine W.seq <| CWp.sqd tyOK mixed (ms := [0, 0, 0, 6, 15, 0, 32, 96, 255]) xJ (
      jR sm <| jR sm <| jR sm <| jt (so_copy xD (cp_row rfl ty99 rfl ty5 rfl str_len str_cells q2 rfl xI xA)) rfl <| js (so_slice xB xE xE xE (sl_k ty99 rfl ty5 rfl xA)) <| jR sm <| jR Ja <| .read rfl rfl (so_slice xB xE xE xE (sl_arr ty98 rfl ty5 xA)) xC ⟨.inr (so_slice xB xE xE xE (sl_arr ty98 rfl ty5 xA)), trivial⟩ rfl <| .change rfl rfl (so_copy xD (cp_row (pre := s.map u8v) (mid := List.replicate P.length (u8v 0)) (post := []) (l := P) rfl ty99 rfl ty5 rfl rfl (dg_cells (by rw [zS xA]; exact q1) xA) (by rw [AHeap.get_set_same, List.append_nil]; rfl) xI xI xA)) rfl ⟨.inl rfl, .inl rfl, trivial⟩ rfl <| .nil) <| SQ.normal ?_
  refine Wr <| ja sm <| ja (so_convert xB (cv_str (l := s ++ P) ty99 rfl ty9 rfl ty5 rfl (by rw [AHeap.get_set_same]; simp) xI)) <| ja za <| On ?_
  refine CWp.ret <| Jr ?_
  refine ⟨by rw [e1, num_lo hm, hP], fun r o hr ho => ?_⟩
  simp (disch := first | omega | simp only [nx]; omega) only [hpl]
  rw [old r hr]; exact ho
theorem putt_c (h : AHeap) (s t : List UInt8) (ht : t.length ≤ 1000000) (hs : s.length ≤ 1000000) : FWp Tryz.prog 59 [encS s, encS t] h fun u h' => u = encS (s ++ num t.length ++ t) ∧ h' = h := by
  have hp := put_c h s t.length xA hs
  have hl : (num t.length).length ≤ 10 := num_len 9 _ (by have : (128 : Nat) ^ (9 + 1) = 1180591620717411303424 := by decide
                                                          omega)
  have e1 : (ByteArray.mk ⟨t⟩).size = t.length := rfl
  have w1 : IntKind.u64.wrap (t.length : Int) = (t.length : Int) := by
    simp only [IntKind.wrap, IntKind.bits, IntKind.signed]; simp; omega
  refine W.enter tyOK Tryz.func59 rfl rfl ?_
  simp only [entry]
  refine Wr <| ja za <| On ?_
  have jY := An @e1 <| An ty9 <| An ty3 <| ty22
  have jW := @w1
  refine Wr <| ja sm <| ja sm <| ja Jn <| ja Jk <| jk (Jc en60 (hp)) rfl <| ja sm <| ja (zb (hv := bs_add)) <| ja za <| On ?_
  refine CWp.ret <| Jr ?_
  exact ⟨rfl, rfl⟩
end Go.Proofs.YtebheelmgcggmaaGreat
namespace Go.Proofs.YtebheelmgcggmaaGreat
open Go.Ab Go.Sort
theorem num_le {n : Nat} (h : n < 18446744073709551616) : (num n).length ≤ 10 := by
  have h2 : (128 : Nat) ^ (9 + 1) = 1180591620717411303424 := by decide
  exact num_len 9 _ xA
def delN (r : Rec) : Nat := if r.del = true then 1 else 0
def imgR (s : List UInt8) (r : Rec) : List UInt8 := s ++ num r.key.length ++ r.key ++ num r.lsn.toNat ++ num (delN r) ++ num r.val.length ++ r.val
def img0 (M : Lf) : List UInt8 := [] ++ num M.low.length ++ M.low ++ num M.high.length ++ M.high ++ num M.full.toNat ++ num M.base.length
def img (M : Lf) : List UInt8 := M.base.foldl imgR (img0 M)
def imgM (p : Lf) (e : Int) : List UInt8 := if chk p = true then img (foldM p e) else []
structure FB (r : Rec) : Prop where
  key : r.key.length ≤ 16
  val : r.val.length ≤ 24
  pos : 1 ≤ r.lsn
  lsn : r.lsn ≤ 1099511627776
structure FM (M : Lf) : Prop where
  low : M.low.length ≤ 16
  high : M.high.length ≤ 16
  pos : 0 ≤ M.full
  full : M.full ≤ 1099511627776
  base : M.base.length ≤ 64
  recs : ∀ r ∈ M.base, FB r
theorem fit_fb {lo hi : List UInt8} {x : Rec} (h : fit lo hi x = true) : FB x := by
  simp only [fit, mayR, Bool.and_eq_true, decide_eq_true_eq] at h
  exact ⟨h.1.1.1, h.1.1.2.1, h.1.2.1, h.1.2.2⟩
theorem fm_of {p : Lf} {e : Int} (hc : chk p = true) (hp : 0 ≤ p.full) : FM (foldM p e) := by
  obtain ⟨f1, _, _, f4, _⟩ := fits_of hc
  have hc' := hc
  simp only [chk, Bool.and_eq_true, decide_eq_true_eq] at hc'
  obtain ⟨⟨g1, g2, _, g4, _⟩, _⟩ := hc'
  simp only [foldM]
  split
  · rename_i h
    refine ⟨g1, g2, hp, g4, h.2, fun r hr => ?_⟩
    rw [← show fB e p p.deltas.length = foldB e p by simp only [fB, foldB, List.take_length]] at hr
    exact fit_fb (f1 r (fB_mem hr))
  · exact ⟨g1, g2, hp, g4, f4, fun r hr => fit_fb (f1 r (List.mem_append.2 (.inl hr)))⟩
theorem imgR_len {s : List UInt8} {r : Rec} (h : FB r) : (imgR s r).length ≤ s.length + 100 := by
  have h1 := num_le (n := r.key.length) (by have := h.key; omega)
  have h2 := num_le (n := r.lsn.toNat) (by have := h.lsn; omega)
  have h3 := num_le (n := delN r) xg
  have h4 := num_le (n := r.val.length) (by have := h.val; omega)
  have := h.key
  have := h.val
  simp only [imgR, List.length_append]; omega
theorem img0_len {M : Lf} (h : FM M) : (img0 M).length ≤ 100 := by
  have := h.low
  have := h.high
  have := h.full
  have := h.base
  have h1 := num_le (n := M.low.length) xA
  have h2 := num_le (n := M.high.length) xA
  have h3 := num_le (n := M.full.toNat) xA
  have h4 := num_le (n := M.base.length) xA
  simp only [img0, List.length_append, List.length_nil]; omega
theorem img_step {s : List UInt8} {l : List Rec} {i : Nat} {x : Rec} (hx : l[i]? = some x) : (l.take (i + 1)).foldl imgR s = imgR ((l.take i).foldl imgR s) x := by
  rw [take_snoc hx, List.foldl_append]; rfl
theorem imgs_len {s : List UInt8} : ∀ l : List Rec, (∀ r ∈ l, FB r) → (l.foldl imgR s).length ≤ s.length + 100 * l.length := by
  intro l
  induction l generalizing s with
  | nil => intro _; simp
  | cons a l ih =>
    intro h
    have h1 := ih (s := imgR s a) fun r hr => h r (List.mem_cons_of_mem _ hr)
    have h2 := imgR_len (s := s) (h a List.mem_cons_self)
    simp only [List.foldl_cons, List.length_cons]; omega
theorem image_c (h : AHeap) (p : Lf) (bv dv : Value) (e : Int) (hb : RS h p.base bv) (hd : RS h p.deltas dv) (hlb : p.base.length ≤ 1000000) (hld : p.deltas.length ≤ 1000000) (hp : 0 ≤ p.full) :
    FWp Tryz.prog 25 [LV p bv dv, U64 e] h fun u h' => u = encS (imgM p e) ∧ h' = h := by
  have tb25 := And.intro ty22 (And.intro ty23 (And.intro ty25 (And.intro ty27 (And.intro ty3 (And.intro ty4 (ty9))))))
  refine FWp.gcs (.flat rfl) ?_
  obtain ⟨b1, c1, rfl⟩ := hb.form
  obtain ⟨b2, c2, rfl⟩ := hd.form
  obtain ⟨h1, hh1⟩ : ∃ h1, h1 = h.new (.cells (lcs p (.slice b1 p.base.length c1) (.slice b2 p.deltas.length c2)) 1) := ⟨_, rfl⟩
  have n1 : h1.next = h.next + 1 := by rw [hh1]; rfl
  have k1 : ∀ z, z < h.next → h1.get z = h.get z := fun z hz => by rw [hh1]; exact zN xA
  have q0 : h1.get h.next = some (.cells (lcs p (.slice b1 p.base.length c1) (.slice b2 p.deltas.length c2)) 1) := by rw [hh1]; exact zQ
  have hm := may'_c h1 p _ _ (hb.mono xA k1) (hd.mono xA k1) hlb hld
  refine W.enter tyOK Tryz.func25 rfl rfl ?_
  simp only [entry]
  cases fc : chk p with
  | false =>
    rw [fc, hh1] at hm
    refine Wr <| ja Zx <| ja za <| On ?_
    have jY := An @q0 <| An @rcl <| ty25
    refine W.seq <| Wr <| ja Jl <| jk (Jc en37 (hm)) rfl <| jE Zt rfl <| On ?_
    refine Wy <| Wr <| ja za <| On ?_
    refine CWp.ret <| SQ.ret <| Jr ?_
    exact ⟨by rw [imgM, if_neg (by rw [fc]; simp)], fun r o hr ho => by simp (disch := first | omega | simp only [nx]; omega) only [hpl]; exact ho⟩
  | true =>
    rw [fc, hh1] at hm
    obtain ⟨nb, nd, o1, o2, wf⟩ := fold_c h1 p _ _ e (hb.mono xA k1) (hd.mono xA k1) hlb hld (fun _ => by
      have := fB_len e p p.deltas.length
      rw [show fB e p p.deltas.length = foldB e p by simp only [fB, foldB, List.take_length]] at this
      have := fits_of fc
      omega)
    obtain ⟨M, hM⟩ : ∃ M, M = foldM p e := ⟨_, rfl⟩
    have fm : FM M := by rw [hM]; exact fm_of fc hp
    rw [← hM] at o1 o2 wf
    obtain ⟨s1, s2⟩ := hand_rs (h := h1) o1 o2
    obtain ⟨x1, y1, ev1⟩ := s1.form
    obtain ⟨x2, y2, ev2⟩ := s2.form
    rw [ev1, ev2] at wf
    rw [ev1] at s1
    have nH := hand_next h1 M nb nd
    have kH : ∀ z, z < h1.next → (hand h1 M nb nd).get z = h1.get z := fun z hz => hand_old _ _ _ _ _ hz
    obtain ⟨H2, hH2⟩ : ∃ H2, H2 = hand h1 M nb nd := ⟨_, rfl⟩
    rw [← hH2] at wf s1 nH kH
    rw [hh1] at wf
    obtain ⟨g1, hg1⟩ : ∃ g1, g1 = H2.new (LR M (.slice x1 M.base.length y1) (.slice x2 M.deltas.length y2)) := ⟨_, rfl⟩
    have qg : g1.get H2.next = some (LR M (.slice x1 M.base.length y1) (.slice x2 M.deltas.length y2)) := by rw [hg1]; exact zQ
    have ng : g1.next = H2.next + 1 := by rw [hg1]; rfl
    have sg : RS g1 M.base (.slice x1 M.base.length y1) := s1.mono xA (fun z hz => by rw [hg1]; exact zN xA)
    have oldg : ∀ z, z < h.next → g1.get z = h.get z := fun z hz => by rw [hg1, zN xA, kH z xA]; exact k1 z hz
    have lo := fm.low
    have hi := fm.high
    have fu := fm.full
    have fp := fm.pos
    have lb := fm.base
    refine Wr <| ja Zx <| ja za <| On ?_
    have jY := An @q0 <| An @rcl <| ty25
    refine W.seq <| Wr <| ja Jl <| jk (Jc en37 (hm)) rfl <| jF Zt rfl <| On ?_
    refine Wn <| CWp.skip <| SQ.normal ?_
    refine Wr <| ja Jl <| ja sm <| jk (Jc en19 (wf)) rfl <| ja Jo <| jc Js <| On ?_
    show CWp _ _ _ _ (H2.new (LR M (.slice x1 M.base.length y1) (.slice x2 M.deltas.length y2))) _
    rw [← hg1]
    refine CWp.known (L := [(1, U64 e), (4, .string ⟨#[]⟩), (5, P0 H2.next)]) ⟨xB, xB, xB, trivial⟩ ?_
    simp only [mkA]
    have t1 : num M.low.length = num M.low.length := rfl
    have hl1 := num_le (n := M.low.length) xA
    have hl2 := num_le (n := M.high.length) xA
    have hl3 := num_le (n := M.full.toNat) xA
    have hl4 := num_le (n := M.base.length) xA
    have eF : (M.full.toNat : Int) = M.full := Int.toNat_of_nonneg fp
    have w1 := putt_c g1 [] M.low xA xI
    have w2 := putt_c g1 ([] ++ num M.low.length ++ M.low) M.high xA xG
    have w3 := put_c g1 ([] ++ num M.low.length ++ M.low ++ num M.high.length ++ M.high) M.full.toNat xA xG
    have w4 := put_c g1 ([] ++ num M.low.length ++ M.low ++ num M.high.length ++ M.high ++ num M.full.toNat) M.base.length xA xG
    rw [eF] at w3
    have wl : IntKind.u64.wrap (M.base.length : Int) = (M.base.length : Int) := by
      simp only [IntKind.wrap, IntKind.bits, IntKind.signed]; simp; omega
    have jY := An @qg <| An @rcl <| An ty9 <| An ty22 <| An ty23 <| An tb25 <| ty3
    refine W.seq <| CWp.sqd tyOK mixed (ms := [0, 1, 3, 0, 8, 31, 63]) xJ (
        jR J25f0 <| js Jl <| ju (Jc en59 (w1)) rfl <| jR J25f1 <| .read rfl rfl Jl xC ⟨.inr Jl, trivial⟩ rfl <| ju (Jc en59 (w2)) rfl <| jR za <| .nil) <| SQ.normal ?_
    have jW := @wl
    refine W.seq <| CWp.sqd tyOK mixed (ms := [0, 0, 2, 7, 0, 16, 48, 112, 255, 511]) xJ (
        jR sm <| jR J25f2 <| js Jl <| ju (Jc en60 (w3)) rfl <| jR J25f3 <| .read rfl rfl Jl xC ⟨.inr Jl, trivial⟩ rfl <| .read rfl rfl Jn xC ⟨.inr Jn, trivial⟩ rfl <| .read rfl xJ Jk xC ⟨.inr Jk, trivial⟩ rfl <| ju (Jc en60 (w4)) rfl <| jR za <| .nil) <| SQ.normal ?_
    refine W.seq <| Wr <| ja J25f3 <| ja Jl <| ja Jn <| ja sm <| On ?_
    refine W.cut (fun L g => (∀ z, z < h.next → g.get z = h.get z) ∧ L = [(6, encS (img M))]) (W.block (W.loop (fun m L g => ∃ i : Nat, m + i = M.base.length ∧ g1.next ≤ g.next ∧ (∀ z, z < g1.next → g.get z = g1.get z) ∧ L = [(6, encS ((M.base.take i).foldl imgR (img0 M))), (32, .slice x1 M.base.length y1), (33, I64 M.base.length), (34, I64 i)]) (n := M.base.length) ⟨0, rfl, Nat.le_refl _, fun _ _ => rfl, rfl⟩ ?_ ?_)) ?_
    · simp [HasA, Tr.get_put, img0]
    · rintro m L g ⟨i, hm, gn, gk, rfl⟩
      simp only [mkA]
      have w2 : IntKind.i64.wrap ((i : Int) + 1) = ((i + 1 : Nat) : Int) := by rw [wrap_i64 xA xA]; omega
      by_cases hi : (i : Int) < (M.base.length : Int)
      · obtain ⟨x, hx⟩ : ∃ x, M.base[i]? = some x := ⟨M.base[i]'xA, by simp⟩
        obtain ⟨_, r, off, eb2, hr1, hr2⟩ := RS.at_ sg hx
        have hc1 : (0 ≤ (i : Int) ∧ (i : Int) < (M.base.length : Int)) := by omega
        have fx := fm.recs x (List.mem_of_getElem? hx)
        have f1 := fx.key
        have f2 := fx.val
        have f3 := fx.pos
        have f4 := fx.lsn
        subst eb2
        obtain ⟨S, hS⟩ : ∃ S, S = (M.base.take i).foldl imgR (img0 M) := ⟨_, rfl⟩
        have lS : S.length ≤ 6500 := by
          have h1 := imgs_len (s := img0 M) (M.base.take i) (fun r hr => fm.recs r (List.mem_of_mem_take hr))
          have h2 := img0_len fm
          rw [List.length_take] at h1
          rw [hS]; omega
        have k1 := num_le (n := x.key.length) xA
        have k2 := num_le (n := x.lsn.toNat) xA
        have k3 := num_le (n := delN x) xg
        have eL : (x.lsn.toNat : Int) = x.lsn := Int.toNat_of_nonneg xA
        obtain ⟨G, hG⟩ : ∃ G, G = g.new (.cells x.cs 1) := ⟨_, rfl⟩
        have v1 := putt_c G S x.key xA xA
        have v2 := put_c G (S ++ num x.key.length ++ x.key) x.lsn.toNat xA xG
        have v3 := put_c G (S ++ num x.key.length ++ x.key ++ num x.lsn.toNat) (delN x) xg xG
        have v4 := putt_c G (S ++ num x.key.length ++ x.key ++ num x.lsn.toNat ++ num (delN x)) x.val xA xG
        rw [eL] at v2
        rw [hG] at v1 v2 v3 v4
        rw [← hS]
        have hn := img_step (s := img0 M) hx
        rw [← hS] at hn
        cases dl : x.del with
        | true =>
          have ed : delN x = 1 := by simp [delN, dl]
          rw [ed] at v3 v4
          have jY := An @hc1 <| An @rcl <| An @sb <| An @Rec.csE <| An tb25 <| An ty23 <| An ty27 <| An ty4 <| An ty9 <| ty22
          refine Wr <| je Jt <| On ?_
          refine W.seq <| Wy <| CWp.skip <| SQ.normal ?_
          refine W.seq <| W.block <| Wr <| ja Ji <| ja (zl (hv := (hr2 _ (gk _ hr1)).1 _ _ ty27 rfl rfl)) <| ja Jo <| jc Js <| On ?_
          refine Wr <| ja za <| On ?_
          refine W.seq <| Wr <| ja J27f2 <| jE Jl (dl) <| On ?_
          refine Wy <| W.reg <| ja za <| On ?_
          refine CWp.sqd tyOK mixed (ms := [0, 0, 2, 7, 0, 16, 63, 0, 255, 0, 512, 2047, 4095]) xJ (
              jR sm <| jR J27f0 <| js Jl <| ju (Jc en59 (v1)) rfl <| jR J27f1 <| .read rfl rfl Jl xC ⟨.inr Jl, trivial⟩ rfl <| ju (Jc en60 (v2)) rfl <| jR sm <| ju (Jc en60 (v3)) rfl <| jR J27f3 <| .read rfl rfl Jl xC ⟨.inr Jl, .inr Jl, .inr Jl, trivial⟩ rfl <| ju (Jc en59 (v4)) rfl <| jR za <| .nil) <| BQ.normal <| SQ.normal ?_
          have jW := @w2
          refine W.reg <| ja Ja <| ja sm <| OSuf.nil <| ?_
          refine LQ.normal (m := m - 1) (L := [(6, encS (imgR S x)), (32, .slice (some ⟨r, off, none⟩) M.base.length y1), (33, I64 M.base.length), (34, I64 ((i + 1 : Nat) : Int))]) xA ?_ ⟨i + 1, by omega, by simp only [nx]; omega, fun z hz => by simp (disch := first | omega | simp only [nx]; omega) only [hpl]; exact gk z hz, by rw [hn]⟩
          simp only [HasA, Tr.get_put, Nat.reduceEqDiff, reduceIte, w2, imgR, ed, and_self]
        | false =>
          have ed : delN x = 0 := by simp [delN, dl]
          rw [ed] at v3 v4
          have jY := An @hc1 <| An @rcl <| An @sb <| An @Rec.csE <| An tb25 <| An ty23 <| An ty27 <| An ty4 <| An ty9 <| ty22
          refine Wr <| je Jt <| On ?_
          refine W.seq <| Wy <| CWp.skip <| SQ.normal ?_
          refine W.seq <| W.block <| Wr <| ja Ji <| ja (zl (hv := (hr2 _ (gk _ hr1)).1 _ _ ty27 rfl rfl)) <| ja Jo <| jc Js <| On ?_
          refine Wr <| ja za <| On ?_
          refine W.seq <| Wr <| ja J27f2 <| jF Jl (dl) <| On ?_
          refine Wn <| CWp.skip <| SQ.normal ?_
          refine CWp.sqd tyOK mixed (ms := [0, 0, 2, 7, 0, 16, 63, 0, 255, 0, 512, 2047, 4095]) xJ (
              jR sm <| jR J27f0 <| js Jl <| ju (Jc en59 (v1)) rfl <| jR J27f1 <| .read rfl rfl Jl xC ⟨.inr Jl, trivial⟩ rfl <| ju (Jc en60 (v2)) rfl <| jR sm <| ju (Jc en60 (v3)) rfl <| jR J27f3 <| .read rfl rfl Jl xC ⟨.inr Jl, .inr Jl, .inr Jl, trivial⟩ rfl <| ju (Jc en59 (v4)) rfl <| jR za <| .nil) <| BQ.normal <| SQ.normal ?_
          have jW := @w2
          refine W.reg <| ja Ja <| ja sm <| OSuf.nil <| ?_
          refine LQ.normal (m := m - 1) (L := [(6, encS (imgR S x)), (32, .slice (some ⟨r, off, none⟩) M.base.length y1), (33, I64 M.base.length), (34, I64 ((i + 1 : Nat) : Int))]) xA ?_ ⟨i + 1, by omega, by simp only [nx]; omega, fun z hz => by simp (disch := first | omega | simp only [nx]; omega) only [hpl]; exact gk z hz, by rw [hn]⟩
          simp only [HasA, Tr.get_put, Nat.reduceEqDiff, reduceIte, w2, imgR, ed, and_self]
      · refine Wr <| jy Jt <| On ?_
        refine W.seq <| Wn <| CWp.exit <| SQ.exit <| LQ.exit <| BQ.exit <| ?_
        refine NQ.normal (L := [(6, encS (img M))]) ?_ ⟨fun z hz => by rw [gk z xA]; exact oldg z hz, rfl⟩
        have : M.base.take i = M.base := List.take_of_length_le xA
        simp only [HasA, Tr.get_put, Nat.reduceEqDiff, reduceIte, this, img, and_self]
    rintro L a' g ha ⟨gk, rfl⟩
    refine SQ.normal <| CWp.known ha ?_
    simp only [mkA]
    refine Wr <| ja sm <| ja za <| On ?_
    refine CWp.ret <| Jr ?_
    exact ⟨by rw [imgM, if_pos fc, ← hM], fun r o hr ho => by rw [gk r hr]; exact ho⟩
end Go.Proofs.YtebheelmgcggmaaGreat
namespace Go.Proofs.YtebheelmgcggmaaGreat
open Go.Ab Go.Sort
theorem image0_c (h : AHeap) (p : Lf) (bv dv : Value) (e : Int) (hb : RS h p.base bv) (hd : RS h p.deltas dv) (hlb : p.base.length ≤ 400000) (hld : p.deltas.length ≤ 400000) (lb : LB p) (hp : 0 ≤ p.full) :
    FWp Tryz.prog 26 [LV p bv dv, U64 e] h fun u h' => u = encS (imgM p e) ∧ h' = h := by
  have tb26 := And.intro ty22 (And.intro ty23 (And.intro ty25 (And.intro ty27 (And.intro ty3 (And.intro ty4 (ty9))))))
  refine FWp.gcs (.flat rfl) ?_
  obtain ⟨b1, c1, rfl⟩ := hb.form
  obtain ⟨b2, c2, rfl⟩ := hd.form
  obtain ⟨h1, hh1⟩ : ∃ h1, h1 = h.new (.cells (lcs p (.slice b1 p.base.length c1) (.slice b2 p.deltas.length c2)) 1) := ⟨_, rfl⟩
  have n1 : h1.next = h.next + 1 := by rw [hh1]; rfl
  have k1 : ∀ z, z < h.next → h1.get z = h.get z := fun z hz => by rw [hh1]; exact zN xA
  have q0 : h1.get h.next = some (.cells (lcs p (.slice b1 p.base.length c1) (.slice b2 p.deltas.length c2)) 1) := by rw [hh1]; exact zQ
  have hm := check0_c h1 p _ _ (hb.mono xA k1) (hd.mono xA k1) xA xA lb
  refine W.enter tyOK Tryz.func26 rfl rfl ?_
  simp only [entry]
  cases fc : chk p with
  | false =>
    rw [if_neg (by rw [fc]; decide), hh1] at hm
    refine Wr <| ja Zx <| ja za <| On ?_
    have jY := An @q0 <| An @rcl <| ty25
    refine W.seq <| Wr <| ja Jl <| jk (Jc en14 (hm)) rfl <| jE Jz (rfl) <| On ?_
    refine Wy <| Wr <| ja za <| On ?_
    refine CWp.ret <| SQ.ret <| Jr ?_
    exact ⟨by rw [imgM, if_neg (by rw [fc]; simp)], fun r o hr ho => by simp (disch := first | omega | simp only [nx]; omega) only [hpl]; exact ho⟩
  | true =>
    rw [if_pos fc, hh1] at hm
    obtain ⟨nb, nd, o1, o2, wf⟩ := fold0_c h1 p _ _ e (hb.mono xA k1) (hd.mono xA k1) hlb hld lb
    obtain ⟨M, hM⟩ : ∃ M, M = foldM p e := ⟨_, rfl⟩
    have fm : FM M := by rw [hM]; exact fm_of fc hp
    rw [← hM] at o1 o2 wf
    obtain ⟨s1, s2⟩ := hand_rs (h := h1) o1 o2
    obtain ⟨x1, y1, ev1⟩ := s1.form
    obtain ⟨x2, y2, ev2⟩ := s2.form
    rw [ev1, ev2] at wf
    rw [ev1] at s1
    have nH := hand_next h1 M nb nd
    have kH : ∀ z, z < h1.next → (hand h1 M nb nd).get z = h1.get z := fun z hz => hand_old _ _ _ _ _ hz
    obtain ⟨H2, hH2⟩ : ∃ H2, H2 = hand h1 M nb nd := ⟨_, rfl⟩
    rw [← hH2] at wf s1 nH kH
    rw [hh1] at wf
    obtain ⟨g1, hg1⟩ : ∃ g1, g1 = H2.new (LR M (.slice x1 M.base.length y1) (.slice x2 M.deltas.length y2)) := ⟨_, rfl⟩
    have qg : g1.get H2.next = some (LR M (.slice x1 M.base.length y1) (.slice x2 M.deltas.length y2)) := by rw [hg1]; exact zQ
    have ng : g1.next = H2.next + 1 := by rw [hg1]; rfl
    have sg : RS g1 M.base (.slice x1 M.base.length y1) := s1.mono xA (fun z hz => by rw [hg1]; exact zN xA)
    have oldg : ∀ z, z < h.next → g1.get z = h.get z := fun z hz => by rw [hg1, zN xA, kH z xA]; exact k1 z hz
    have lo := fm.low
    have hi := fm.high
    have fu := fm.full
    have fp := fm.pos
    have lb9 := fm.base
    refine Wr <| ja Zx <| ja za <| On ?_
    have jY := An @q0 <| An @rcl <| ty25
    refine W.seq <| Wr <| ja Jl <| jk (Jc en14 (hm)) rfl <| jF Jz (rfl) <| On ?_
    refine Wn <| CWp.skip <| SQ.normal ?_
    refine Wr <| ja Jl <| ja sm <| jk (Jc en20 (wf)) rfl <| ja Jo <| jc Js <| On ?_
    show CWp _ _ _ _ (H2.new (LR M (.slice x1 M.base.length y1) (.slice x2 M.deltas.length y2))) _
    rw [← hg1]
    refine CWp.known (L := [(1, U64 e), (4, .string ⟨#[]⟩), (5, P0 H2.next)]) ⟨xB, xB, xB, trivial⟩ ?_
    simp only [mkA]
    have t1 : num M.low.length = num M.low.length := rfl
    have hl1 := num_le (n := M.low.length) xA
    have hl2 := num_le (n := M.high.length) xA
    have hl3 := num_le (n := M.full.toNat) xA
    have hl4 := num_le (n := M.base.length) xA
    have eF : (M.full.toNat : Int) = M.full := Int.toNat_of_nonneg fp
    have w1 := putt0_c g1 [] M.low xA xI
    have w2 := putt0_c g1 ([] ++ num M.low.length ++ M.low) M.high xA xG
    have w3 := put0_c g1 ([] ++ num M.low.length ++ M.low ++ num M.high.length ++ M.high) M.full.toNat xA xG
    have w4 := put0_c g1 ([] ++ num M.low.length ++ M.low ++ num M.high.length ++ M.high ++ num M.full.toNat) M.base.length xA xG
    rw [eF] at w3
    have wl : IntKind.u64.wrap (M.base.length : Int) = (M.base.length : Int) := by
      simp only [IntKind.wrap, IntKind.bits, IntKind.signed]; simp; omega
    have jY := An @qg <| An @rcl <| An ty9 <| An ty22 <| An ty23 <| An tb26 <| ty3
    refine W.seq <| CWp.sqd tyOK mixed (ms := [0, 1, 3, 0, 8, 31, 63]) xJ (
        jR J25f0 <| js Jl <| ju (Jc en61 (w1)) rfl <| jR J25f1 <| .read rfl rfl Jl xC ⟨.inr Jl, trivial⟩ rfl <| ju (Jc en61 (w2)) rfl <| jR za <| .nil) <| SQ.normal ?_
    have jW := @wl
    refine W.seq <| CWp.sqd tyOK mixed (ms := [0, 0, 2, 7, 0, 16, 48, 112, 255, 511]) xJ (
        jR sm <| jR J25f2 <| js Jl <| ju (Jc en62 (w3)) rfl <| jR J25f3 <| .read rfl rfl Jl xC ⟨.inr Jl, trivial⟩ rfl <| .read rfl rfl Jn xC ⟨.inr Jn, trivial⟩ rfl <| .read rfl xJ Jk xC ⟨.inr Jk, trivial⟩ rfl <| ju (Jc en62 (w4)) rfl <| jR za <| .nil) <| SQ.normal ?_
    refine W.seq <| Wr <| ja za <| On ?_
    refine W.cut (fun L g => (∀ z, z < h.next → g.get z = h.get z) ∧ L = [(6, encS (img M))]) (W.block (W.loop (fun m L g => ∃ i : Nat, m + i = M.base.length ∧ g1.next ≤ g.next ∧ (∀ z, z < g1.next → g.get z = g1.get z) ∧ L = [(5, P0 H2.next), (6, encS ((M.base.take i).foldl imgR (img0 M))), (7, I64 i)]) (n := M.base.length) ⟨0, rfl, Nat.le_refl _, fun _ _ => rfl, rfl⟩ ?_ ?_)) ?_
    · simp [HasA, Tr.get_put, img0]
    · rintro m L g ⟨i, hm, gn, gk, rfl⟩
      simp only [mkA]
      have qq : g.get H2.next = some (LR M (.slice x1 M.base.length y1) (.slice x2 M.deltas.length y2)) := by rw [gk _ xA]; exact qg
      have w2 : IntKind.i64.wrap ((i : Int) + 1) = ((i + 1 : Nat) : Int) := by rw [wrap_i64 xA xA]; omega
      by_cases hi : (i : Int) < (M.base.length : Int)
      · obtain ⟨x, hx⟩ : ∃ x, M.base[i]? = some x := ⟨M.base[i]'xA, by simp⟩
        obtain ⟨_, r, off, eb2, hr1, hr2⟩ := RS.at_ sg hx
        have hc1 : (0 ≤ (i : Int) ∧ (i : Int) < (M.base.length : Int)) := by omega
        have fx := fm.recs x (List.mem_of_getElem? hx)
        have f1 := fx.key
        have f2 := fx.val
        have f3 := fx.pos
        have f4 := fx.lsn
        subst eb2
        obtain ⟨S, hS⟩ : ∃ S, S = (M.base.take i).foldl imgR (img0 M) := ⟨_, rfl⟩
        have lS : S.length ≤ 6500 := by
          have h1 := imgs_len (s := img0 M) (M.base.take i) (fun r hr => fm.recs r (List.mem_of_mem_take hr))
          have h2 := img0_len fm
          rw [List.length_take] at h1
          rw [hS]; omega
        have k1 := num_le (n := x.key.length) xA
        have k2 := num_le (n := x.lsn.toNat) xA
        have k3 := num_le (n := delN x) xg
        have eL : (x.lsn.toNat : Int) = x.lsn := Int.toNat_of_nonneg xA
        obtain ⟨G, hG⟩ : ∃ G, G = g.new (.cells x.cs 1) := ⟨_, rfl⟩
        have v1 := putt0_c G S x.key xA xA
        have v2 := put0_c G (S ++ num x.key.length ++ x.key) x.lsn.toNat xA xG
        have v3 := put0_c G (S ++ num x.key.length ++ x.key ++ num x.lsn.toNat) (delN x) xg xG
        have v4 := putt0_c G (S ++ num x.key.length ++ x.key ++ num x.lsn.toNat ++ num (delN x)) x.val xA xG
        rw [eL] at v2
        rw [hG] at v1 v2 v3 v4
        rw [← hS]
        have hn := img_step (s := img0 M) hx
        rw [← hS] at hn
        cases dl : x.del with
        | true =>
          have ed : delN x = 1 := by simp [delN, dl]
          rw [ed] at v3 v4
          have jY := An @qq <| An @hc1 <| An @rcl <| An @sb <| An @Rec.csE <| An ty23 <| An tb26 <| An ty27 <| An ty4 <| An ty9 <| ty22
          refine W.seq <| Wr <| ja sm <| ja J25f3 <| ja Jl <| ja Jn <| je Jt <| On ?_
          refine Wy <| CWp.skip <| SQ.normal ?_
          refine W.seq <| W.block <| Wr <| ja J25f3 <| ja Jl <| ja sm <| ja Ji <| ja (zl (hv := (hr2 _ (gk _ hr1)).1 _ _ ty27 rfl rfl)) <| ja Jo <| jc Js <| On ?_
          refine Wr <| ja za <| On ?_
          refine W.seq <| Wr <| ja J27f2 <| jE Jl (dl) <| On ?_
          refine Wy <| W.reg <| ja za <| On ?_
          refine W.seq <| CWp.sqd tyOK mixed (ms := [0, 0, 2, 7, 0, 16, 63, 127]) xJ (
              jR sm <| jR J27f0 <| js Jl <| ju (Jc en61 (v1)) rfl <| jR J27f1 <| .read rfl rfl Jl xC ⟨.inr Jl, trivial⟩ rfl <| ju (Jc en62 (v2)) rfl <| jR za <| .nil) <| SQ.normal ?_
          refine CWp.sqd tyOK mixed (ms := [0, 0, 3, 0, 8, 31, 63]) xJ (
              jR sm <| jR sm <| ju (Jc en62 (v3)) rfl <| jR J27f3 <| .read rfl rfl Jl xC ⟨.inr Jl, trivial⟩ rfl <| ju (Jc en61 (v4)) rfl <| jR za <| .nil) <| BQ.normal <| SQ.normal ?_
          have jW := @w2
          refine W.reg <| ja sm <| ja Ja <| ja za <| OSuf.nil <| ?_
          refine LQ.normal (m := m - 1) (L := [(5, P0 H2.next), (6, encS (imgR S x)), (7, I64 ((i + 1 : Nat) : Int))]) xA ?_ ⟨i + 1, by omega, by simp only [nx]; omega, fun z hz => by simp (disch := first | omega | simp only [nx]; omega) only [hpl]; exact gk z hz, by rw [hn]⟩
          simp only [HasA, Tr.get_put, Nat.reduceEqDiff, reduceIte, w2, imgR, ed, and_self]
        | false =>
          have ed : delN x = 0 := by simp [delN, dl]
          rw [ed] at v3 v4
          have jY := An @qq <| An @hc1 <| An @rcl <| An @sb <| An @Rec.csE <| An ty23 <| An tb26 <| An ty27 <| An ty4 <| An ty9 <| ty22
          refine W.seq <| Wr <| ja sm <| ja J25f3 <| ja Jl <| ja Jn <| je Jt <| On ?_
          refine Wy <| CWp.skip <| SQ.normal ?_
          refine W.seq <| W.block <| Wr <| ja J25f3 <| ja Jl <| ja sm <| ja Ji <| ja (zl (hv := (hr2 _ (gk _ hr1)).1 _ _ ty27 rfl rfl)) <| ja Jo <| jc Js <| On ?_
          refine Wr <| ja za <| On ?_
          refine W.seq <| Wr <| ja J27f2 <| jF Jl (dl) <| On ?_
          refine Wn <| CWp.skip <| SQ.normal ?_
          refine W.seq <| CWp.sqd tyOK mixed (ms := [0, 0, 2, 7, 0, 16, 63, 127]) xJ (
              jR sm <| jR J27f0 <| js Jl <| ju (Jc en61 (v1)) rfl <| jR J27f1 <| .read rfl rfl Jl xC ⟨.inr Jl, trivial⟩ rfl <| ju (Jc en62 (v2)) rfl <| jR za <| .nil) <| SQ.normal ?_
          refine CWp.sqd tyOK mixed (ms := [0, 0, 3, 0, 8, 31, 63]) xJ (
              jR sm <| jR sm <| ju (Jc en62 (v3)) rfl <| jR J27f3 <| .read rfl rfl Jl xC ⟨.inr Jl, trivial⟩ rfl <| ju (Jc en61 (v4)) rfl <| jR za <| .nil) <| BQ.normal <| SQ.normal ?_
          have jW := @w2
          refine W.reg <| ja sm <| ja Ja <| ja za <| OSuf.nil <| ?_
          refine LQ.normal (m := m - 1) (L := [(5, P0 H2.next), (6, encS (imgR S x)), (7, I64 ((i + 1 : Nat) : Int))]) xA ?_ ⟨i + 1, by omega, by simp only [nx]; omega, fun z hz => by simp (disch := first | omega | simp only [nx]; omega) only [hpl]; exact gk z hz, by rw [hn]⟩
          simp only [HasA, Tr.get_put, Nat.reduceEqDiff, reduceIte, w2, imgR, ed, and_self]
      · have jY := An @qq <| An @rcl <| An ty23 <| tb26
        refine W.seq <| Wr <| ja sm <| ja J25f3 <| ja Jl <| ja Jn <| jf Jt <| On ?_
        refine Wn <| CWp.exit <| SQ.exit <| LQ.exit <| BQ.exit <| ?_
        refine NQ.normal (L := [(6, encS (img M))]) ?_ ⟨fun z hz => by rw [gk z xA]; exact oldg z hz, rfl⟩
        have : M.base.take i = M.base := List.take_of_length_le xA
        simp only [HasA, Tr.get_put, Nat.reduceEqDiff, reduceIte, this, img, and_self]
    rintro L a' g ha ⟨gk, rfl⟩
    refine SQ.normal <| CWp.known ha ?_
    simp only [mkA]
    refine Wr <| ja sm <| ja za <| On ?_
    refine CWp.ret <| Jr ?_
    exact ⟨by rw [imgM, if_pos fc, ← hM], fun r o hr ho => by rw [gk r hr]; exact ho⟩
end Go.Proofs.YtebheelmgcggmaaGreat
namespace Go.Proofs.YtebheelmgcggmaaGreat
open Go.Ab Go.Sort
theorem keys_big (P : Lf) (h1 : P.base.length ≤ 70) (h2 : P.deltas.length ≤ 70) : (keysM P).length ≤ 1000000 := by
  simp only [keysM]
  split
  · have := keysL_length P.all P.all.length
    rw [List.take_length, Lf.all, List.length_append] at this
    simp only [Lf.all] at this ⊢
    omega
  · simp
theorem texts_c (h : AHeap) (v w : Value) (ks : List (List UInt8)) (hv : RG h 1 ks.length (ks.map encS) v) (hw : RG h 1 ks.length (ks.map encS) w) (hl : ks.length ≤ 1000000) : FWp Tryz.prog 16 [v, w] h fun u h' => u = .bool true ∧ h' = h := by
  obtain ⟨b, c, rfl⟩ := hv.form
  obtain ⟨b', c', rfl⟩ := hw.form
  refine W.enter tyOK Tryz.func16 rfl rfl ?_
  simp only [entry]
  have b0 : ((ks.length : Int) != (ks.length : Int)) = false := by simp
  refine Wr <| jF za rfl <| On ?_
  have jY := ty37
  refine W.seq <| Wr <| ja sm <| ja Jn <| ja sm <| ja Jn <| jF Jz (b0) <| On ?_
  refine Wn <| CWp.skip <| SQ.normal ?_
  refine W.seq <| Wr <| ja za <| On ?_
  refine W.block (W.loop (fun m L h' => ∃ k : Nat, m + k = ks.length ∧ h' = h ∧ L = [(0, .slice b ks.length c), (1, .slice b' ks.length c'), (5, I64 k)]) (n := ks.length) ⟨0, rfl, rfl, rfl⟩ ?_ ?_)
  · simp [HasA, Tr.get_put]
  rintro m L h' ⟨k, hm, rfl, rfl⟩
  simp only [mkA]
  have w2 : IntKind.i64.wrap ((k : Int) + 1) = ((k + 1 : Nat) : Int) := by rw [wrap_i64 xA xA]; omega
  by_cases hk : (k : Int) < (ks.length : Int)
  · obtain ⟨x, hx⟩ : ∃ x, ks[k]? = some x := ⟨ks[k]'xA, by simp⟩
    obtain ⟨_, r, off, rfl, hr1, hr2⟩ := RG.at_ hv (i := k) xA
    obtain ⟨_, r', off', rfl, hr1', hr2'⟩ := RG.at_ hw (i := k) xA
    have hc1 : (0 ≤ (k : Int) ∧ (k : Int) < (ks.length : Int)) := by omega
    have l1 : ∀ t ti, T.get t = some ti → ti.agg = false → aLoad T t (PA r (off + k)) h' = some (encS x) := fun t ti ht ha => by
      have := (hr2 h' rfl).2 0 t ti (encS x) ht ha (by simp [hx])
      simpa using this
    have l2 : ∀ t ti, T.get t = some ti → ti.agg = false → aLoad T t (PA r' (off' + k)) h' = some (encS x) := fun t ti ht ha => by
      have := (hr2' h' rfl).2 0 t ti (encS x) ht ha (by simp [hx])
      simpa using this
    have jY := An @hc1 <| An @sb <| An ty37 <| ty9
    refine W.seq <| Wr <| ja sm <| ja sm <| ja Jn <| je Jt <| On ?_
    refine Wy <| CWp.skip <| SQ.normal ?_
    refine W.seq <| W.block <| Wd <| jb sm <| jb sm <| jb Ji <| jb (zl (hv := l1 _ _ ty9 rfl)) <| jb sm <| jb sm <| jb Ji <| jb (zl (hv := l2 _ _ ty9 rfl)) <| jH (zb (hv := bs_neq)) xI <| Sn ?_
    refine Wn <| CWp.skip <| BQ.normal <| SQ.normal ?_
    have jW := @w2
    refine W.reg <| ja sm <| ja Ja <| ja za <| OSuf.nil <| ?_
    refine LQ.normal (m := m - 1) (L := [(0, .slice (some ⟨r, off, none⟩) ks.length c), (1, .slice (some ⟨r', off', none⟩) ks.length c'), (5, I64 ((k + 1 : Nat) : Int))]) xA ?_ ⟨k + 1, by omega, rfl, rfl⟩
    simp only [HasA, Tr.get_put, Nat.reduceEqDiff, reduceIte, w2, and_self]
  · refine W.seq <| Wr <| ja sm <| ja sm <| ja Jn <| jy Jt <| On ?_
    refine Wn <| CWp.exit <| SQ.exit <| LQ.exit <| BQ.exit <| SQ.normal ?_
    refine Wr <| jE za rfl <| On ?_
    refine CWp.ret <| Jr ?_
    exact ⟨rfl, rfl⟩
theorem rd_rec {h : AHeap} {n : Nat} {v : Value} (hr : RdV Tryz.prog h (n + 4) 27 v) : ∃ r : Rec, v = r.V ∧ SL r.key := by
  unfold RdV at hr
  rw [Tryz.underlying27] at hr
  simp only at hr
  obtain ⟨vs, rfl, hr⟩ := hr
  obtain ⟨fss, g1, g2, g3⟩ := Rd.fields Tryz.underlying27 hr
  match fss, g2 with
  | [a, b, c, d], _ =>
    obtain ⟨_, x1⟩ := g3 0 _ a rfl rfl
    obtain ⟨_, x2⟩ := g3 1 _ b rfl rfl
    obtain ⟨_, x3⟩ := g3 2 _ c rfl rfl
    obtain ⟨_, x4⟩ := g3 3 _ d rfl rfl
    obtain ⟨⟨⟨k⟩⟩, rfl, m1⟩ := Rd.string Tryz.underlying9 x1
    obtain ⟨i, rfl, _⟩ := Rd.int Tryz.underlying22 x2
    obtain ⟨o, rfl⟩ := Rd.bool Tryz.underlying4 x3
    obtain ⟨⟨⟨w⟩⟩, rfl, m4⟩ := Rd.string Tryz.underlying9 x4
    exact ⟨⟨k, i, o, w⟩, by rw [g1]; rfl, max_sl m1⟩
theorem rd_full {h : AHeap} {n : Nat} {p : Lf} {bv dv : Value} (hr : RdV Tryz.prog h (n + 4) 25 (LV p bv dv)) : 0 ≤ p.full := by
  unfold RdV at hr
  rw [Tryz.underlying25] at hr
  simp only at hr
  obtain ⟨vs, e, hr⟩ := hr
  obtain ⟨fss, g1, g2, g3⟩ := Rd.fields Tryz.underlying25 hr
  match fss, g2 with
  | [a, b, c, d, e'], _ =>
    obtain ⟨l1, x1⟩ := g3 0 _ a rfl rfl
    obtain ⟨l2, x2⟩ := g3 1 _ b rfl rfl
    obtain ⟨_, x3⟩ := g3 2 _ c rfl rfl
    obtain ⟨s1, rfl, _⟩ := Rd.string Tryz.underlying9 x1
    obtain ⟨s2, rfl, _⟩ := Rd.string Tryz.underlying9 x2
    obtain ⟨i, rfl, hi⟩ := Rd.int Tryz.underlying22 x3
    have h1 : [encS p.low, encS p.high, U64 p.full, bv, dv] = vs := by
      have := congrArg (fun v : Value => match v with | .agg a => a.toList | _ => []) e
      simpa using this
    rw [g1] at h1
    have h2 : p.full = i := by
      have := congrArg (fun l : List Value => l[2]?) h1
      simpa using this
    rw [h2]
    simp [Lit.wf, IntKind.min, IntKind.max, IntKind.bits, IntKind.signed] at hi; omega
theorem OS.cap0 {h : AHeap} {lo : Nat} {l : List Rec} {v : Value} (s : OS h lo l v) : Cap0 l v := fun hne => by
  cases s with
  | nil e => exact (hne e).elim
  | emp e _ _ _ => exact (hne e).elim
  | some _ hn _ _ _ => subst hn; exact ⟨_, rfl⟩
end Go.Proofs.YtebheelmgcggmaaGreat
namespace Go.Proofs.YtebheelmgcggmaaGreat
open Go.Ab Go.Sort
theorem does_c (h : AHeap) (p : Lf) (r : Rec) (n : Int) (b1 b2 : Option Addr) (a1 : AtB b1 p.base.length) (a2 : AtB b2 p.deltas.length)
    (h1 : RS h p.base (.slice b1 p.base.length 0)) (h2 : RS h p.deltas (.slice b2 p.deltas.length 0)) (lbp : LB p) (hrk : SL r.key) (hp : 0 ≤ p.full) :
    FWp Tryz.prog 3 [LV p (.slice b1 p.base.length 0) (.slice b2 p.deltas.length 0), r.V, U64 n] h fun u _ => u = .bool true := by
  have tb3 := And.intro ty25 (And.intro ty27 (And.intro ty4 (ty9)))
  obtain ⟨P, hP⟩ : ∃ P, P = cutM p := ⟨_, rfl⟩
  have lP : P.base.length ≤ 70 ∧ P.deltas.length ≤ 70 := by rw [hP]; simp only [cutM, List.length_take]; omega
  have lbP : LB P := by rw [hP]; exact lbp.cut
  have fP : 0 ≤ P.full := by rw [hP]; exact hp
  have tk : ∀ (l : List Rec) (b : Option Addr), RS h l (.slice b l.length 0) → RS h (l.take 70) (.slice b (l.take 70).length 0) := fun l b s => by
    have hl : (l.take 70).length = min 70 l.length := List.length_take
    have e : l.take 70 = l.take (min 70 l.length) := by
      rcases Nat.le_total 70 l.length with h9 | h9
      · rw [Nat.min_eq_left h9]
      · rw [Nat.min_eq_right h9, List.take_of_length_le h9, List.take_of_length_le (Nat.le_refl _)]
    rw [hl, e]
    exact rs_take s (Nat.min_le_right _ _)
  have s1 : RS h P.base (.slice b1 P.base.length 0) := by rw [hP]; exact tk _ _ h1
  have s2 : RS h P.deltas (.slice b2 P.deltas.length 0) := by rw [hP]; exact tk _ _ h2
  have cp := fun G : AHeap => cut_c G p b1 b2 a1 a2
  rw [← hP] at cp
  have rf : r.cs[0]? = some (encS r.key) := rfl
  refine W.enter tyOK Tryz.func3 rfl rfl ?_
  simp only [entry]
  refine Wr <| ja Zx <| ja Zx <| jF za rfl <| On ?_
  have jY := An @rcl <| ty25
  refine Wr <| ja Jl <| jm (Jc en7 (cp _)) ?_
  rintro _ G1 ⟨rfl, n1, k1⟩
  simp only [nx] at n1
  have qp1 : G1.get h.next = some (LR p (.slice b1 p.base.length 0) (.slice b2 p.deltas.length 0)) := qC
  have qr1 : G1.get (h.next + 1) = some (.cells r.cs 1) := qC
  have old1 : ∀ z, z < h.next → G1.get z = h.get z := (fun z hz => by rw [k1 _ xF]; simp (disch := first | omega | simp only [nx]; omega) only [hpl])
  refine ⟨_, rfl, ?_⟩
  have jY := An @rcl <| An @qp1 <| An @qr1 <| ty25
  refine jc Js <| On ?_
  obtain ⟨A1, hA1⟩ : ∃ A1, A1 = G1.set h.next (LR P (.slice b1 P.base.length 0) (.slice b2 P.deltas.length 0)) := ⟨_, rfl⟩
  show CWp _ _ _ _ (G1.set h.next (LR P (.slice b1 P.base.length 0) (.slice b2 P.deltas.length 0))) _
  rw [← hA1]
  have nA1 : A1.next = G1.next := by rw [hA1]; rfl
  have qp : A1.get h.next = some (LR P (.slice b1 P.base.length 0) (.slice b2 P.deltas.length 0)) := by rw [hA1]; exact zP
  have qr : A1.get (h.next + 1) = some (.cells r.cs 1) := by rw [hA1, zS xA]; exact qr1
  have old : ∀ z, z < h.next → A1.get z = h.get z := fun z hz => by rw [hA1, zS xA]; exact old1 z hz
  have t1 := s1.mono (h' := A1) xA old
  have t2 := s2.mono (h' := A1) xA old
  refine CWp.known (L := [(2, U64 n), (3, P0 h.next), (4, P0 (h.next + 1)), (6, .bool false)]) ⟨xB, xB, xB, xB, trivial⟩ ?_
  simp only [mkA]
  -- the copy
  have jY := An @qp <| An @qr <| An @rcl <| ty25
  refine Wr <| ja Jl <| jm (Jc en8 (copied_c A1 P _ _ t1 t2 xA xA)) ?_
  rintro _ B2 ⟨v1, v2, rfl, os1, os2, n2, k2⟩
  obtain ⟨x1, y1, rfl⟩ := os1.form
  obtain ⟨x2, y2, rfl⟩ := os2.form
  refine ⟨_, rfl, ?_⟩
  refine ja Jo <| jc Js <| On ?_
  obtain ⟨A2, hA2⟩ : ∃ A2, A2 = B2.new (LR P (.slice x1 P.base.length y1) (.slice x2 P.deltas.length y2)) := ⟨_, rfl⟩
  show CWp _ _ _ _ (B2.new (LR P (.slice x1 P.base.length y1) (.slice x2 P.deltas.length y2))) _
  rw [← hA2]
  have m2 : A2.next = B2.next + 1 := by rw [hA2]; rfl
  have j2 : ∀ z, z < B2.next → A2.get z = B2.get z := fun z hz => by rw [hA2]; exact zN xA
  have i2 : ∀ z, z < A1.next → A2.get z = A1.get z := fun z hz => by rw [j2 z xA]; exact k2 z hz
  have qq2 : A2.get B2.next = some (LR P (.slice x1 P.base.length y1) (.slice x2 P.deltas.length y2)) := by rw [hA2]; exact zQ
  have qp2 : A2.get h.next = some (LR P (.slice b1 P.base.length 0) (.slice b2 P.deltas.length 0)) := by rw [i2 _ xA]; exact qp
  have qr2 : A2.get (h.next + 1) = some (.cells r.cs 1) := by rw [i2 _ xA]; exact qr
  have u1 : OS A2 A1.next P.base (.slice x1 P.base.length y1) := os1.mono xA (fun z _ hz => j2 z hz)
  have u2 : OS A2 A1.next P.deltas (.slice x2 P.deltas.length y2) := os2.mono xA (fun z _ hz => j2 z hz)
  have t1 := t1.mono (h' := A2) xA i2
  have t2 := t2.mono (h' := A2) xA i2
  refine CWp.known (L := [(2, U64 n), (3, P0 h.next), (4, P0 (h.next + 1)), (6, .bool false), (7, P0 B2.next)]) ⟨xB, xB, xB, xB, xB, trivial⟩ ?_
  simp only [mkA]
  -- page.Apply
  obtain ⟨w1, w2, B3, ap, ra, rb, n3, k3⟩ := apply_c A2 P _ _ r t1 t2 xA xA
  obtain ⟨M, hM⟩ : ∃ M, M = appM P r := ⟨_, rfl⟩
  have eMb : (appM P r).base = P.base := by simp only [appM]; split <;> rfl
  have ra' : RS B3 M.base w1 := by rw [hM, eMb]; exact ra.rs
  have rb' : RS B3 M.deltas w2 := by rw [hM]; exact rb.rs
  rw [← hM] at ap
  obtain ⟨x3, y3, rfl⟩ := ra'.form
  obtain ⟨x4, y4, rfl⟩ := rb'.form
  have jY := An @qp2 <| An @qr2 <| An @rcl <| An ty25 <| An ty27 <| tb3
  refine Wr <| ja Jl <| ja Jl <| jk (Jc en9 (ap)) rfl <| ja sm <| ja Je <| ja Je <| ja Jo <| jc Js <| ja za <| On ?_
  obtain ⟨A3, hA3⟩ : ∃ A3, A3 = B3.new (LR M (.slice x3 M.base.length y3) (.slice x4 M.deltas.length y4)) := ⟨_, rfl⟩
  show CWp _ _ _ _ (B3.new (LR M (.slice x3 M.base.length y3) (.slice x4 M.deltas.length y4))) _
  rw [← hA3]
  have m3 : A3.next = B3.next + 1 := by rw [hA3]; rfl
  have j3 : ∀ z, z < B3.next → A3.get z = B3.get z := fun z hz => by rw [hA3]; exact zN xA
  have i3 : ∀ z, z < A2.next → A3.get z = A2.get z := fun z hz => by rw [j3 z xA]; exact k3 z hz
  have qm3 : A3.get B3.next = some (LR M (.slice x3 M.base.length y3) (.slice x4 M.deltas.length y4)) := by rw [hA3]; exact zQ
  have qp3 : A3.get h.next = some (LR P (.slice b1 P.base.length 0) (.slice b2 P.deltas.length 0)) := by rw [i3 _ xA]; exact qp2
  have qr3 : A3.get (h.next + 1) = some (.cells r.cs 1) := by rw [i3 _ xA]; exact qr2
  have qq3 : A3.get B2.next = some (LR P (.slice x1 P.base.length y1) (.slice x2 P.deltas.length y2)) := by rw [i3 _ xA]; exact qq2
  have u1 : OS A3 A1.next P.base (.slice x1 P.base.length y1) := u1.mono xA (fun z _ hz => i3 z hz)
  have u2 : OS A3 A1.next P.deltas (.slice x2 P.deltas.length y2) := u2.mono xA (fun z _ hz => i3 z hz)
  have t1 := t1.mono (h' := A3) xA i3
  have t2 := t2.mono (h' := A3) xA i3
  have ra3 := ra'.mono (h' := A3) xA j3
  have rb3 := rb'.mono (h' := A3) xA j3
  refine CWp.known (L := [(2, U64 n), (3, P0 h.next), (4, P0 (h.next + 1)), (6, .bool false), (7, P0 B2.next), (8, P0 B3.next), (9, .bool (appOK P r))]) ⟨xB, xB, xB, xB, xB, xB, xB, trivial⟩ ?_
  simp only [mkA]
  -- the document's
  have jY := An @qq3 <| An @qr3 <| An @rcl <| An ty25 <| An ty27 <| tb3
  refine Wr <| ja Jl <| ja Jl <| jm (Jc en10 (apply0_c A3 A1.next P _ _ r u1.rs u2 xA xA lbP hrk)) ?_
  rintro _ B4 ⟨w5, w6, rfl, rc, rd, n4, k4⟩
  rw [← hM] at rc rd ⊢
  obtain ⟨x5, y5, rfl⟩ := rc.form
  obtain ⟨x6, y6, rfl⟩ := rd.form
  refine ⟨_, rfl, ?_⟩
  refine ja sm <| ja Je <| ja Je <| ja Jo <| jc Js <| ja za <| On ?_
  obtain ⟨A4, hA4⟩ : ∃ A4, A4 = B4.new (LR M (.slice x5 M.base.length y5) (.slice x6 M.deltas.length y6)) := ⟨_, rfl⟩
  show CWp _ _ _ _ (B4.new (LR M (.slice x5 M.base.length y5) (.slice x6 M.deltas.length y6))) _
  rw [← hA4]
  have m4 : A4.next = B4.next + 1 := by rw [hA4]; rfl
  have j4 : ∀ z, z < B4.next → A4.get z = B4.get z := fun z hz => by rw [hA4]; exact zN xA
  have i4 : ∀ z, z < A3.next → A4.get z = A3.get z := fun z hz => by rw [j4 z xA]; exact k4 z hz
  have qn4 : A4.get B4.next = some (LR M (.slice x5 M.base.length y5) (.slice x6 M.deltas.length y6)) := by rw [hA4]; exact zQ
  have qm4 : A4.get B3.next = some (LR M (.slice x3 M.base.length y3) (.slice x4 M.deltas.length y4)) := by rw [i4 _ xA]; exact qm3
  have qp4 : A4.get h.next = some (LR P (.slice b1 P.base.length 0) (.slice b2 P.deltas.length 0)) := by rw [i4 _ xA]; exact qp3
  have qr4 : A4.get (h.next + 1) = some (.cells r.cs 1) := by rw [i4 _ xA]; exact qr3
  have qq4 : A4.get B2.next = some (LR P (.slice x1 P.base.length y1) (.slice x2 P.deltas.length y2)) := by rw [i4 _ xA]; exact qq3
  have u1 : OS A4 A1.next P.base (.slice x1 P.base.length y1) := u1.mono xA (fun z _ hz => i4 z hz)
  have u2 : OS A4 A1.next P.deltas (.slice x2 P.deltas.length y2) := u2.mono xA (fun z _ hz => i4 z hz)
  have t1 := t1.mono (h' := A4) xA i4
  have t2 := t2.mono (h' := A4) xA i4
  have ra4 := ra3.mono (h' := A4) xA i4
  have rb4 := rb3.mono (h' := A4) xA i4
  have rc4 := rc.mono (h' := A4) xA j4
  have rd4 := rd.mono (h' := A4) xA j4
  refine CWp.known (L := [(2, U64 n), (3, P0 h.next), (4, P0 (h.next + 1)), (6, .bool false), (7, P0 B2.next), (8, P0 B3.next), (9, .bool (appOK P r)), (10, P0 B4.next), (11, .bool (appOK P r))]) ⟨xB, xB, xB, xB, xB, xB, xB, xB, xB, trivial⟩ ?_
  simp only [mkA]
  obtain ⟨o, ho⟩ : ∃ o, o = getM P r.key := ⟨_, rfl⟩
  have gt := get_c A4 P _ _ t1 t2 xA xA r.key
  rw [← ho] at gt
  have jY := An @qp4 <| An @qr4 <| An @rf <| An @sb <| An @rcl <| An @csz <| An @csl <| An @csn <| An @cso <| An @csb <| An ty25 <| An ty9 <| An ty27 <| tb3
  refine Wr <| ja Jl <| ja J27f0 <| ja Jl <| jk (Jc en11 (gt)) rfl <| ja sm <| ja Je <| ja Je <| ja Jo <| jc Js <| ja za <| On ?_
  obtain ⟨A5, hA5⟩ : ∃ A5, A5 = A4.new (.cells o.1.cs 1) := ⟨_, rfl⟩
  show CWp _ _ _ _ (A4.new (.cells o.1.cs 1)) _
  rw [← hA5]
  have m5 : A5.next = A4.next + 1 := by rw [hA5]; rfl
  have i5 : ∀ z, z < A4.next → A5.get z = A4.get z := fun z hz => by rw [hA5]; exact zN xA
  have qo5 : A5.get A4.next = some (.cells o.1.cs 1) := by rw [hA5]; exact zQ
  have qr5 : A5.get (h.next + 1) = some (.cells r.cs 1) := by rw [i5 _ xA]; exact qr4
  have qq5 : A5.get B2.next = some (LR P (.slice x1 P.base.length y1) (.slice x2 P.deltas.length y2)) := by rw [i5 _ xA]; exact qq4
  have gt0 := get0_c A5 P _ _ (u1.rs.mono xA i5) (u2.rs.mono xA i5) xA xA lbP r.key
  rw [← ho] at gt0
  refine CWp.known (L := [(2, U64 n), (3, P0 h.next), (4, P0 (h.next + 1)), (6, .bool false), (7, P0 B2.next), (8, P0 B3.next), (9, .bool (appOK P r)), (10, P0 B4.next), (11, .bool (appOK P r)), (12, P0 A4.next), (13, .bool o.2)]) ⟨xB, xB, xB, xB, xB, xB, xB, xB, xB, xB, xB, trivial⟩ ?_
  simp only [mkA]
  have jY := An @qq5 <| An @qr5 <| An @rf <| An @sb <| An @rcl <| An @csz <| An @csl <| An @csn <| An @cso <| An @csb <| An ty25 <| An ty9 <| An ty27 <| tb3
  refine Wr <| ja Jl <| ja J27f0 <| ja Jl <| jk (Jc en12 (gt0)) rfl <| ja sm <| ja Je <| ja Je <| ja Jo <| jc Js <| ja za <| On ?_
  refine W.seq <| ?_
  obtain ⟨A6, hA6⟩ : ∃ A6, A6 = A5.new (.cells o.1.cs 1) := ⟨_, rfl⟩
  show CWp _ _ _ _ (A5.new (.cells o.1.cs 1)) _
  rw [← hA6]
  have m6 : A6.next = A4.next + 2 := by rw [hA6]; simp; omega
  have qx6 : A6.get A5.next = some (.cells [encS o.1.key, U64 o.1.lsn, .bool o.1.del, encS o.1.val] 1) := by rw [hA6]; exact zQ
  have qo6 : A6.get A4.next = some (.cells [encS o.1.key, U64 o.1.lsn, .bool o.1.del, encS o.1.val] 1) := by rw [hA6, zN xA]; exact qo5
  have i6 : ∀ z, z < A4.next → A6.get z = A4.get z := fun z hz => by rw [hA6, zN xA]; exact i5 z hz
  have qn6 : A6.get B4.next = some (LR M (.slice x5 M.base.length y5) (.slice x6 M.deltas.length y6)) := by rw [i6 _ xA]; exact qn4
  have qm6 : A6.get B3.next = some (LR M (.slice x3 M.base.length y3) (.slice x4 M.deltas.length y4)) := by rw [i6 _ xA]; exact qm4
  have qp6 : A6.get h.next = some (LR P (.slice b1 P.base.length 0) (.slice b2 P.deltas.length 0)) := by rw [i6 _ xA]; exact qp4
  have qq6 : A6.get B2.next = some (LR P (.slice x1 P.base.length y1) (.slice x2 P.deltas.length y2)) := by rw [i6 _ xA]; exact qq4
  have z1 := u1.rs.mono (h' := A6) xA i6
  have z2 : OS A6 A1.next P.deltas (.slice x2 P.deltas.length y2) := u2.mono xA (fun z _ hz => i6 z hz)
  have t1 := t1.mono (h' := A6) xA i6
  have t2 := t2.mono (h' := A6) xA i6
  refine CWp.known (L := [(2, U64 n), (3, P0 h.next), (6, .bool false), (7, P0 B2.next), (8, P0 B3.next), (9, .bool (appOK P r)), (10, P0 B4.next), (11, .bool (appOK P r)), (12, P0 A4.next), (13, .bool o.2), (14, P0 A5.next), (15, .bool o.2)]) ⟨xB, xB, xB, xB, xB, xB, xB, xB, xB, xB, xB, xB, trivial⟩ ?_
  simp only [mkA]
  have lM : M.base.length ≤ 70 ∧ M.deltas.length ≤ 71 := by
    rw [hM]; simp only [appM]
    split
    · refine ⟨lP.1, ?_⟩
      have := insL_length (r := r) (l := P.deltas)
      show (insL r P.deltas).length ≤ 71
      omega
    · omega
  have k1 := check_c A6 P _ _ t1 t2 xA xA
  have k2 := check0_c A6 P _ _ z1 z2.rs xA xA lbP
  have k3 := same0_c A6 M _ _ _ _ (ra4.mono xA i6) (rb4.mono xA i6) (rc4.mono xA i6) (rd4.mono xA i6) xA xA
  have k4 := keys_c A6 P _ _ t1 t2 xA xA (keys_big P lP.1 lP.2)
  obtain ⟨ks, hks⟩ : ∃ ks, ks = keysM P := ⟨_, rfl⟩
  have lks : ks.length ≤ 1000000 := by rw [hks]; exact keys_big P lP.1 lP.2
  rw [← hks] at k4
  have nK := kheap_next A6 ks
  have oK := kheap_old A6 ks
  have gK := kval_rg A6 ks
  obtain ⟨K1, hK1⟩ : ∃ K1, K1 = kheap A6 ks := ⟨_, rfl⟩
  rw [← hK1] at k4 nK oK gK
  have k5 := keys0_c K1 P _ _ (z1.mono nK.1 oK) (z2.rs.mono nK.1 oK) xA xA lbP
  rw [← hks] at k5
  have nK2 := kheap_next K1 ks
  have oK2 := kheap_old K1 ks
  have gK2 := kval_rg K1 ks
  obtain ⟨K2, hK2⟩ : ∃ K2, K2 = kheap K1 ks := ⟨_, rfl⟩
  rw [← hK2] at k5 nK2 oK2 gK2
  have k6 := texts_c K2 _ _ ks (gK.mono nK2.1 oK2) gK2 lks
  have qp7 : K1.get h.next = some (LR P (.slice b1 P.base.length 0) (.slice b2 P.deltas.length 0)) := by rw [oK _ xA]; exact qp6
  have qq7 : K1.get B2.next = some (LR P (.slice x1 P.base.length y1) (.slice x2 P.deltas.length y2)) := by rw [oK _ xA]; exact qq6
  have qp8 : K2.get h.next = some (LR P (.slice b1 P.base.length 0) (.slice b2 P.deltas.length 0)) := by rw [oK2 _ xA]; exact qp7
  have qq8 : K2.get B2.next = some (LR P (.slice x1 P.base.length y1) (.slice x2 P.deltas.length y2)) := by rw [oK2 _ xA]; exact qq7
  have jY := An @qp6 <| An @qq6 <| An @qm6 <| An @qn6 <| An @qo6 <| An @qx6 <| An @qp7 <| An @qq7 <| An @qp8 <| An @qq8 <| An @rcl <| An @sb <| An ty25 <| ty27
  refine W.seq <| CWp.sqd tyOK mixed (ms := [0, 1, 0, 7, 15, 31, 63, 63, 255, 511, 1023, 2047, 2047, 8191, 16383, 32767, 65535, 131071, 131071, 524287, 1048575, 2097151, 4194303, 4194303, 16777215, 33554431, 67108863, 134217727, 268435455, 134217727, 1073741823, 2147483647, 4294967295, 8589934591]) xJ (
      js Jl <| ju (Jc en13 (k1)) rfl <| .read rfl rfl Jl xC ⟨.inr Jl, trivial⟩ rfl <| ju (Jc en14 (k2)) rfl <| jR (so_bw Jz (b' := false) xI) <| jR sm <| jR sm <| jR sm <| jR (so_bw (zb (hv := bb_neq tyOK ty4 rfl)) (b' := false) xI) <| jR Zp <| jR sm <| js Jl <| js Jl <| ju (Jc en15 (k3)) rfl <| jR (so_bw Zt (b' := false) rfl) <| jR Zp <| jR sm <| js Jl <| js Jl <| jR (so_bw (zb (hv := neR o.1 o.1 rfl)) (b' := false) (by simp [eqRb_self])) <| jR Zp <| jR sm <| jR sm <| jR sm <| jR (so_bw (zb (hv := bb_neq tyOK ty4 rfl)) (b' := false) xI) <| jR Zp <| jR sm <| js Jl <| ju (Jc en17 (k4)) rfl <| .read ag rfl Jl xC ⟨.inr Jl, .inl rfl, .inl rfl, .inl rfl, trivial⟩ rfl <| ju (Jc en18 (k5)) rfl <| ju (Jc en16 (k6)) rfl <| jR (so_bw Zt (b' := false) rfl) <| jR Zp <| .nil) <| SQ.normal ?_
  refine Wn <| CWp.skip <| SQ.normal ?_
  have e7 : ∀ z, z < A6.next → K2.get z = A6.get z := fun z hz => by rw [oK2 z xA]; exact oK z hz
  have n7 : A6.next ≤ K2.next := by omega
  refine CWp.known (L := [(2, U64 n), (3, P0 h.next), (7, P0 B2.next)]) ⟨xB, xB, xB, trivial⟩ ?_
  simp only [mkA]
  have pp : P.base.length ≤ 1000000 ∧ P.deltas.length ≤ 1000000 := by omega
  have tt1 : ∀ X : AHeap, K2.next ≤ X.next → (∀ z, z < K2.next → X.get z = K2.get z) → RS X P.base (.slice b1 P.base.length 0) ∧ RS X P.deltas (.slice b2 P.deltas.length 0) ∧ RS X P.base (.slice x1 P.base.length y1) ∧ OS X A1.next P.deltas (.slice x2 P.deltas.length y2) ∧ X.get h.next = some (LR P (.slice b1 P.base.length 0) (.slice b2 P.deltas.length 0)) ∧ X.get B2.next = some (LR P (.slice x1 P.base.length y1) (.slice x2 P.deltas.length y2)) := fun X hn hk =>
    have e : ∀ z, z < A6.next → X.get z = A6.get z := fun z hz => by rw [hk z xA]; exact e7 z hz
    ⟨t1.mono xA e, t2.mono xA e, z1.mono xA e, z2.mono xA (fun z _ hz => e z hz), by rw [hk _ xA]; exact qp8, by rw [hk _ xA]; exact qq8⟩
  -- what each pair of calls hands back
  have two : ∀ (f g : FuncId) (N : Lf), N.base.length ≤ 1000000 → N.deltas.length ≤ 1000000 →
      (∀ X : AHeap, K2.next ≤ X.next → (∀ z, z < K2.next → X.get z = K2.get z) → HC f [LV P (.slice b1 P.base.length 0) (.slice b2 P.deltas.length 0), U64 n] N X) →
      (∀ X : AHeap, K2.next ≤ X.next → (∀ z, z < K2.next → X.get z = K2.get z) → HC g [LV P (.slice x1 P.base.length y1) (.slice x2 P.deltas.length y2), U64 n] N X) →
      ∀ X : AHeap, K2.next ≤ X.next → (∀ z, z < K2.next → X.get z = K2.get z) → ∃ c1 c2 c3 c4 X1 X2, FWp Tryz.prog f [LV P (.slice b1 P.base.length 0) (.slice b2 P.deltas.length 0), U64 n] X (fun u g => u = LV N c1 c2 ∧ g = X1) ∧ FWp Tryz.prog g [LV P (.slice x1 P.base.length y1) (.slice x2 P.deltas.length y2), U64 n] X1 (fun u g => u = LV N c3 c4 ∧ g = X2) ∧ FWp Tryz.prog 15 [LV N c1 c2, LV N c3 c4] X2 (fun u g => u = .bool true ∧ g = X2) ∧ (K2.next ≤ X1.next ∧ ∀ z, z < K2.next → X1.get z = K2.get z) ∧ (K2.next ≤ X2.next ∧ ∀ z, z < K2.next → X2.get z = K2.get z) := fun f g N l1 l2 hf hg X hn hk => by
    obtain ⟨nb, nd, o1, o2, w⟩ := hf X hn hk
    obtain ⟨r1, r2⟩ := hand_rs (h := X) o1 o2
    have m1 := hand_next X N nb nd
    have g1 : ∀ z, z < X.next → (hand X N nb nd).get z = X.get z := fun z hz => hand_old _ _ _ _ _ hz
    have hk1 : ∀ z, z < K2.next → (hand X N nb nd).get z = K2.get z := fun z hz => by rw [g1 z xA]; exact hk z hz
    obtain ⟨nb', nd', o1', o2', w'⟩ := hg (hand X N nb nd) xA hk1
    obtain ⟨r3, r4⟩ := hand_rs (h := hand X N nb nd) o1' o2'
    have m2 := hand_next (hand X N nb nd) N nb' nd'
    have g2 : ∀ z, z < (hand X N nb nd).next → (hand (hand X N nb nd) N nb' nd').get z = (hand X N nb nd).get z := fun z hz => hand_old _ _ _ _ _ hz
    exact ⟨_, _, _, _, _, _, w, w', same0_c _ N _ _ _ _ (r1.mono xA g2) (r2.mono xA g2) r3 r4 l1 l2, ⟨by omega, hk1⟩, by omega, fun z hz => by rw [g2 z xA]; exact hk1 z hz⟩
  have rl : ∀ N, N = foldM P n ∨ N = resetM P n ∨ N = advM P n → N.base.length ≤ 1000000 ∧ N.deltas.length ≤ 1000000 := by
    intro N hN
    have hB := fB_len n P P.deltas.length
    rw [show fB n P P.deltas.length = foldB n P by simp only [fB, foldB, List.take_length]] at hB
    rcases hN with rfl | rfl | rfl
    · simp only [foldM]
      split
      · exact ⟨by show (foldB n P).length ≤ 1000000; omega, Nat.le_trans (List.length_filter_le _ _) xA⟩
      · exact pp
    · simp only [resetM]
      split
      · exact ⟨pp.1, Nat.le_trans (List.length_filter_le _ _) xA⟩
      · exact pp
    · simp only [advM]
      split
      · refine ⟨?_, pp.2⟩
        show (if advK P n = true then P.base.filter _ else P.base).length ≤ 1000000
        split
        · exact Nat.le_trans (List.length_filter_le _ _) xA
        · exact pp.1
      · exact pp
  obtain ⟨c1, c2, c3, c4, X1, X2, fa, fb, fs, ⟨g1, g2⟩, g3, g4⟩ := two 19 20 (foldM P n) (rl _ (.inl rfl)).1 (rl _ (.inl rfl)).2
    (fun X a b => fold_c X P _ _ n (tt1 X a b).1 (tt1 X a b).2.1 pp.1 pp.2 (fun _ => by
      have hB := fB_len n P P.deltas.length
      rw [show fB n P P.deltas.length = foldB n P by simp only [fB, foldB, List.take_length]] at hB
      omega))
    (fun X a b => fold0_c X P _ _ n (tt1 X a b).2.2.1 (tt1 X a b).2.2.2.1.rs xA xA lbP) K2 (Nat.le_refl _) (fun _ _ => rfl)
  obtain ⟨c5, c6, c7, c8, X3, X4, ga, gb, gs, ⟨g5, g6⟩, g7, g8⟩ := two 21 22 (resetM P n) (rl _ (.inr (.inl rfl))).1 (rl _ (.inr (.inl rfl))).2
    (fun X a b => reset_c X P _ _ n (tt1 X a b).1 (tt1 X a b).2.1 pp.1 pp.2)
    (fun X a b => reset0_c X P _ _ n (tt1 X a b).2.2.1 (tt1 X a b).2.2.2.1.rs pp.1 pp.2 lbP (tt1 X a b).2.2.2.1.cap0) X2 g3 g4
  obtain ⟨c9, c10, c11, c12, X5, X6, ha, hb, hs, ⟨g9, g10⟩, g11, g12⟩ := two 23 24 (advM P n) (rl _ (.inr (.inr rfl))).1 (rl _ (.inr (.inr rfl))).2
    (fun X a b => adv_c X P _ _ n (tt1 X a b).1 (tt1 X a b).2.1 pp.1 pp.2)
    (fun X a b => adv0_c X P _ _ n (tt1 X a b).2.2.1 (tt1 X a b).2.2.2.1.rs pp.1 pp.2 lbP) X4 g7 g8
  obtain ⟨q1, q2, q3, q4, q5, q6⟩ := tt1 X6 g11 g12
  have im := image_c X6 P _ _ n q1 q2 pp.1 pp.2 fP
  have im0 := image0_c X6 P _ _ n q3 q4.rs xA xA lbP fP
  have smx := same0_c X6 P _ _ _ _ q1 q2 q3 q4.rs pp.1 pp.2
  obtain ⟨_, _, _, _, d1, d2⟩ := tt1 X1 g1 g2
  obtain ⟨_, _, _, _, d3, d4⟩ := tt1 X2 g3 g4
  obtain ⟨_, _, _, _, d5, d6⟩ := tt1 X3 g5 g6
  obtain ⟨_, _, _, _, d7, d8⟩ := tt1 X4 g7 g8
  obtain ⟨_, _, _, _, d9, d10⟩ := tt1 X5 g9 g10
  have jY := An @qp8 <| An @qq8 <| An @d1 <| An @d2 <| An @d3 <| An @d4 <| An @d5 <| An @d6 <| An @d7 <| An @d8 <| An @d9 <| An @d10 <| An @q5 <| An @q6 <| An @rcl <| An @sb <| ty25
  refine W.seq <| CWp.sqd tyOK mixed (ms := [0, 0, 3, 0, 0, 31, 63, 127, 255, 255, 1023, 255, 255, 8191, 16383, 32767, 65535, 131071, 131071, 524287, 131071, 131071, 4194303, 8388607, 16777215, 33554431, 67108863, 67108863, 268435455, 67108863, 67108863, 2147483647, 4294967295, 8589934591, 17179869183, 34359738367, 34359738367, 137438953471, 274877906943, 549755813887, 1099511627775, 2199023255551, 4398046511103]) xJ (
      js Jl <| jR sm <| ju (Jc en19 (fa)) rfl <| .read rfl rfl Jl xC ⟨.inr Jl, trivial⟩ rfl <| jR sm <| ju (Jc en20 (fb)) rfl <| ju (Jc en15 (fs)) rfl <| jR sm <| js Jl <| jR sm <| ju (Jc en21 (ga)) rfl <| .read ag rfl Jl xC ⟨.inr Jl, .inl rfl, .inl rfl, .inl rfl, trivial⟩ rfl <| jR sm <| ju (Jc en22 (gb)) rfl <| ju (Jc en15 (gs)) rfl <| jR Zp <| jR sm <| js Jl <| jR sm <| ju (Jc en23 (ha)) rfl <| .read ag rfl Jl xC ⟨.inr Jl, .inl rfl, .inl rfl, .inl rfl, .inl rfl, .inl rfl, .inl rfl, trivial⟩ rfl <| jR sm <| ju (Jc en24 (hb)) rfl <| ju (Jc en15 (hs)) rfl <| jR Zp <| jR sm <| js Jl <| jR sm <| ju (Jc en25 (im)) rfl <| .read ag rfl Jl xC ⟨.inr Jl, .inl rfl, .inl rfl, .inl rfl, .inl rfl, .inl rfl, .inl rfl, .inl rfl, .inl rfl, .inl rfl, trivial⟩ rfl <| jR sm <| ju (Jc en26 (im0)) rfl <| jR (so_bw (zb (hv := bs_eql)) (b' := true) (by simp [sst])) <| jR Zp <| jR sm <| js Jl <| js Jl <| ju (Jc en15 (smx)) rfl <| jR Zp <| jR sm <| ju (Jc en27 (works_c _)) rfl <| jR Zp <| jR za <| .nil) <| SQ.normal ?_
  refine CWp.ret <| Jr ?_
  rfl
end Go.Proofs.YtebheelmgcggmaaGreat
