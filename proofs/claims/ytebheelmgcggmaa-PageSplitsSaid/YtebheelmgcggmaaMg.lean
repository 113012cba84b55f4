/-
  Merged: PgO, PgP, PgQ, PgR, PgS.
-/
import Derived.Test.YtebheelmgcggmaaMf
import Derived.Test.YtebheelmgcggmaaMa
import Derived.Test.YtebheelmgcggmaaAb39
set_option linter.unusedSimpArgs false
set_option linter.unusedVariables false
set_option maxRecDepth 10000
set_option maxHeartbeats 8000000
namespace Go.Proofs.Ytebheelmgcggmaa
open Go.Ab Go.Sort
theorem aCells_of {h : AHeap} {r off n len size c : Nat} {vs new : List Value} (hr : rowOf h r = some vs) (hl : n ≤ len) (hc : cellsOf vs off (n * size) = some new) : aCells h size n (.slice (some ⟨r, off, none⟩) len c) = some new := by
  cases e1 : Nat.beq (n * size) 0 with
  | false => simp only [aCells, e1, cond_false, Nat.ble_eq_true_of_le hl, cond_true, hr, hc]
  | true =>
    have e2 := Nat.eq_of_beq_eq_true e1
    rw [e2] at hc
    have := (cellsOf_some hc).2.1
    simp only [List.take_zero] at this
    simp only [aCells, e1, cond_true, this]
theorem conv_b {T : Tr TI} {s d e : TypeId} {si di ei : TI} {l : List Value} {r : List UInt8} {h : AHeap} {b : Option Addr} {n c : Nat} (hs : T.get s = some si) (hsu : si.und = .slice e) (he : T.get e = some ei) (heu : ei.und = .int .u8) (hd : T.get d = some di) (hdu : di.und = .string) (hc : aCells h 1 n (.slice b n c) = some l) (hb : bytesIn l = some r) :
    aConv T s d (.slice b n c) h = some (.string ⟨r.toArray⟩, h) := by
  unfold aConv; rw [hs, hd]; simp only [hsu, hdu, he, hc, heu, hb]
theorem one_b {h : AHeap} {y c : Nat} {n : Int} (hg : h.get y = some (.cells [.int .u8 n] 1)) : aCells h 1 1 (.slice (some ⟨y, 0, none⟩) 1 c) = some [.int .u8 n] := aCells_of (vs := [.int .u8 n]) (by simp only [rowOf, hg]) (Nat.le_refl _) rfl
theorem two_b {h : AHeap} {y c : Nat} {n m : Int} (hg : h.get y = some (.cells [.int .u8 n, .int .u8 m] 1)) : aCells h 1 2 (.slice (some ⟨y, 0, none⟩) 2 c) = some [.int .u8 n, .int .u8 m] := aCells_of (vs := [.int .u8 n, .int .u8 m]) (by simp only [rowOf, hg]) (Nat.le_refl _) rfl
theorem u8_wrap (n : Nat) : IntKind.u8.wrap (n : Int) = ((n % 256 : Nat) : Int) := by
  simp only [IntKind.wrap, IntKind.bits, IntKind.signed]
  simp
theorem bv_rec {n : Nat} (x : Rec) : BV n x.V := ⟨fun _ => none, _, .agg (.cons (.string _) (.cons (.int _ _) (.cons (.bool _) (.cons (.string _) .nil))))⟩
theorem keyed_c (h : AHeap) (N : Nat) (hN : N < 65536) : FWp Try.prog 9 [.agg #[.int .u16 N]] h fun u h' => u = (keyed (1 + N % 400)).V ∧ h' = h := by
  have tb9 := And.intro ty25 (And.intro ty31 (And.intro ty33 (And.intro ty36 (And.intro ty4 (And.intro ty5 (And.intro ty58 (ty9)))))))
  obtain ⟨M, hM⟩ : ∃ M, M = 1 + N % 400 := ⟨_, rfl⟩
  rw [← hM]
  have m1 : 1 ≤ M ∧ M ≤ 400 := by omega
  have w1 : Int.tmod (N : Int) 400 = ((N % 400 : Nat) : Int) := by rw [Int.tmod_eq_emod_of_nonneg (by omega)]; omega
  have w2 : IntKind.u64.wrap ((N % 400 : Nat) : Int) = ((N % 400 : Nat) : Int) := wrap_u64 (by omega) (by omega)
  have w3 : IntKind.u64.wrap (1 + ((N % 400 : Nat) : Int)) = (M : Int) := by rw [wrap_u64 (by omega) (by omega)]; omega
  have w4 : Int.tmod (M : Int) 6 = ((M % 6 : Nat) : Int) := by rw [Int.tmod_eq_emod_of_nonneg (by omega)]; omega
  have w5 : IntKind.u64.wrap (97 + ((M % 6 : Nat) : Int)) = ((97 + M % 6 : Nat) : Int) := by rw [wrap_u64 (by omega) (by omega)]; omega
  have w6 : IntKind.u8.wrap ((97 + M % 6 : Nat) : Int) = ((97 + M % 6 : Nat) : Int) := wrap_u8 (by omega) (by omega)
  have w7 : Int.tmod (M : Int) 5 = ((M % 5 : Nat) : Int) := by rw [Int.tmod_eq_emod_of_nonneg (by omega)]; omega
  have w8 : IntKind.u8.wrap (M : Int) = ((M % 256 : Nat) : Int) := u8_wrap M
  have w9 : Int.fdiv (M : Int) (2 ^ (min (Int.toNat 8) (IntKind.u64.bits))) = ((M / 256 : Nat) : Int) := by
    show Int.fdiv (M : Int) (2 ^ 8) = _
    rw [Int.fdiv_eq_ediv_of_nonneg _ (by decide)]; omega
  have w10 : IntKind.u8.wrap ((M / 256 : Nat) : Int) = ((M / 256 : Nat) : Int) := wrap_u8 (by omega) (by omega)
  refine FWp.gcs (bv_rec _) ?_
  refine W.enter tyOK Try.func9 rfl rfl ?_
  simp only [entry]
  by_cases h5 : M % 5 = 0
  · have hb : (((M % 5 : Nat) : Int) == 0) = true := by simp [h5]
    refine Wr <| Oa rfl Zx rfl <| Oa rfl (so_alloc (by simp only [aAlloc, ty33] <;> rfl)) rfl <| On ?_
    refine Wr <| Oa rfl (zf (hv := fa_ok (k := 0) ty36 rfl rfl ty31 rfl rfl)) rfl <| Oa rfl (zl (hv := by simp (disch := first | omega | simp only [nx] <;> omega | fail) only [aLoad, ty31, rowOf, hpl, rcl, Value.cells] <;> rfl)) rfl <| Oa rfl (zb (hv := bi_w (bi_rem (by decide)) (by first | (simp only [w1, w2, w3, w4, w5, w6, w7, w8, w9, w10] <;> rfl) | rfl))) rfl <| Oa rfl (so_conw (so_conv tyOK (by simp only [lk] <;> rfl) ty31 ⟨_, rfl⟩ ty25 rfl) (by first | (simp only [w1, w2, w3, w4, w5, w6, w7, w8, w9, w10] <;> rfl) | rfl)) rfl <| Oa rfl (zb (hv := bi_w bi_add (by first | (simp only [w1, w2, w3, w4, w5, w6, w7, w8, w9, w10] <;> rfl) | rfl))) rfl <| Oa rfl za rfl <| On ?_
    refine Wr <| Oa rfl sm rfl <| Oa rfl (zb (hv := bi_w (bi_rem (by decide)) (by first | (simp only [w1, w2, w3, w4, w5, w6, w7, w8, w9, w10] <;> rfl) | rfl))) rfl <| Oa rfl (zb (hv := bi_w bi_add (by first | (simp only [w1, w2, w3, w4, w5, w6, w7, w8, w9, w10] <;> rfl) | rfl))) rfl <| Oa rfl (so_conw (so_conv tyOK (by simp only [lk] <;> rfl) ty25 ⟨_, rfl⟩ ty5 rfl) (by first | (simp only [w1, w2, w3, w4, w5, w6, w7, w8, w9, w10] <;> rfl) | rfl)) rfl <| Oa rfl (so_buildSlice (by simp only [aparts, lk] <;> rfl) (by simp only [aBuildSlice, ty58, ty5, rcl, Value.cells, places, tb9] <;> rfl)) rfl <| Oa rfl (so_convert (by simp only [lk] <;> rfl) (conv_b ty58 rfl ty5 rfl ty9 rfl (one_b (AHeap.get_new_same _ _)) rfl)) rfl <| Oa rfl sm rfl <| Oa rfl sm rfl <| Oa rfl (zb (hv := bi_w (bi_rem (by decide)) (by first | (simp only [w1, w2, w3, w4, w5, w6, w7, w8, w9, w10] <;> rfl) | rfl))) rfl <| Oa rfl (zb (hv := bi_eql)) rfl <| Oa rfl (so_build (by simp only [aparts, lk] <;> rfl) (by simp only [aBuild, ty33, rcl, Value.cells, places, tb9] <;> rfl)) rfl <| Oa rfl (so_alloc (by simp only [aAlloc, ty33] <;> rfl)) rfl <| Oa rfl (zs (hv := by simp (disch := first | omega | simp only [nx] <;> omega | fail) only [aStore, ty33, writeRow, hpl, rcl, Value.cells] <;> rfl)) rfl <| On ?_
    refine W.seq <| Wr <| Oa rfl (zf (hv := fa_ok (k := 2) ty33 rfl rfl ty4 rfl rfl)) rfl <| Ot rfl (zl (hv := by simp (disch := first | omega | simp only [nx] <;> omega | fail) only [aLoad, ty4, rowOf, hpl, rcl, Value.cells] <;> rfl)) rfl (hb) <| Of rfl Zt rfl rfl <| On ?_
    refine Wn <| CWp.skip <| SQ.normal ?_
    refine Wr <| Oa rfl (zl (hv := by simp (disch := first | omega | simp only [nx] <;> omega | fail) only [aLoad, ty33, rowOf, hpl, rcl, Value.cells] <;> rfl)) rfl <| Oa rfl (zs (hv := by simp (disch := first | omega | simp only [nx] <;> omega | fail) only [aStore, ty33, writeRow, hpl, rcl, Value.cells] <;> rfl)) rfl <| On ?_
    refine CWp.ret <| FQ.ret (by simp (disch := first | omega | simp only [nx] <;> omega | fail) only [aRet, Try.f9, aResults, aResult, lk, Nat.reduceEqDiff, reduceIte, aLoad, rowOf, hpl, rcl, Value.cells, places, tb9] <;> rfl) ?_
    -- leaf: end
    refine ⟨?_, fun r o hr ho => by simp (disch := first | omega | simp only [nx] <;> omega | fail) only [hpl]; exact ho⟩
    refine (show _ = Value.agg #[encS [UInt8.ofNat (((97 + M % 6 : Nat) : Int)).toNat], U64 M, .bool (((M % 5 : Nat) : Int) == 0), encS []] from rfl).trans ?_
    rw [hb, Int.toNat_natCast]
    simp [keyed, h5, Rec.cs]
  · have hb : (((M % 5 : Nat) : Int) == 0) = false := by simp; omega
    refine Wr <| Oa rfl Zx rfl <| Oa rfl (so_alloc (by simp only [aAlloc, ty33] <;> rfl)) rfl <| On ?_
    refine Wr <| Oa rfl (zf (hv := fa_ok (k := 0) ty36 rfl rfl ty31 rfl rfl)) rfl <| Oa rfl (zl (hv := by simp (disch := first | omega | simp only [nx] <;> omega | fail) only [aLoad, ty31, rowOf, hpl, rcl, Value.cells] <;> rfl)) rfl <| Oa rfl (zb (hv := bi_w (bi_rem (by decide)) (by first | (simp only [w1, w2, w3, w4, w5, w6, w7, w8, w9, w10] <;> rfl) | rfl))) rfl <| Oa rfl (so_conw (so_conv tyOK (by simp only [lk] <;> rfl) ty31 ⟨_, rfl⟩ ty25 rfl) (by first | (simp only [w1, w2, w3, w4, w5, w6, w7, w8, w9, w10] <;> rfl) | rfl)) rfl <| Oa rfl (zb (hv := bi_w bi_add (by first | (simp only [w1, w2, w3, w4, w5, w6, w7, w8, w9, w10] <;> rfl) | rfl))) rfl <| Oa rfl za rfl <| On ?_
    refine Wr <| Oa rfl sm rfl <| Oa rfl (zb (hv := bi_w (bi_rem (by decide)) (by first | (simp only [w1, w2, w3, w4, w5, w6, w7, w8, w9, w10] <;> rfl) | rfl))) rfl <| Oa rfl (zb (hv := bi_w bi_add (by first | (simp only [w1, w2, w3, w4, w5, w6, w7, w8, w9, w10] <;> rfl) | rfl))) rfl <| Oa rfl (so_conw (so_conv tyOK (by simp only [lk] <;> rfl) ty25 ⟨_, rfl⟩ ty5 rfl) (by first | (simp only [w1, w2, w3, w4, w5, w6, w7, w8, w9, w10] <;> rfl) | rfl)) rfl <| Oa rfl (so_buildSlice (by simp only [aparts, lk] <;> rfl) (by simp only [aBuildSlice, ty58, ty5, rcl, Value.cells, places, tb9] <;> rfl)) rfl <| Oa rfl (so_convert (by simp only [lk] <;> rfl) (conv_b ty58 rfl ty5 rfl ty9 rfl (one_b (AHeap.get_new_same _ _)) rfl)) rfl <| Oa rfl sm rfl <| Oa rfl sm rfl <| Oa rfl (zb (hv := bi_w (bi_rem (by decide)) (by first | (simp only [w1, w2, w3, w4, w5, w6, w7, w8, w9, w10] <;> rfl) | rfl))) rfl <| Oa rfl (zb (hv := bi_eql)) rfl <| Oa rfl (so_build (by simp only [aparts, lk] <;> rfl) (by simp only [aBuild, ty33, rcl, Value.cells, places, tb9] <;> rfl)) rfl <| Oa rfl (so_alloc (by simp only [aAlloc, ty33] <;> rfl)) rfl <| Oa rfl (zs (hv := by simp (disch := first | omega | simp only [nx] <;> omega | fail) only [aStore, ty33, writeRow, hpl, rcl, Value.cells] <;> rfl)) rfl <| On ?_
    refine W.seq <| Wr <| Oa rfl (zf (hv := fa_ok (k := 2) ty33 rfl rfl ty4 rfl rfl)) rfl <| Of rfl (zl (hv := by simp (disch := first | omega | simp only [nx] <;> omega | fail) only [aLoad, ty4, rowOf, hpl, rcl, Value.cells] <;> rfl)) rfl (hb) <| Ot rfl Zt rfl rfl <| On ?_
    refine Wy <| W.reg <| Oa rfl sm rfl <| Oa rfl (so_conw (so_conv tyOK (by simp only [lk] <;> rfl) ty25 ⟨_, rfl⟩ ty5 rfl) (by first | (simp only [w1, w2, w3, w4, w5, w6, w7, w8, w9, w10] <;> rfl) | rfl)) rfl <| Oa rfl sm rfl <| Oa rfl (zb (hv := bi_w (bi_shr (by decide)) (by first | (simp only [w1, w2, w3, w4, w5, w6, w7, w8, w9, w10] <;> rfl) | rfl))) rfl <| Oa rfl (so_conw (so_conv tyOK (by simp only [lk] <;> rfl) ty25 ⟨_, rfl⟩ ty5 rfl) (by first | (simp only [w1, w2, w3, w4, w5, w6, w7, w8, w9, w10] <;> rfl) | rfl)) rfl <| Oa rfl (so_buildSlice (by simp only [aparts, lk] <;> rfl) (by simp only [aBuildSlice, ty58, ty5, rcl, Value.cells, places, tb9] <;> rfl)) rfl <| Oa rfl (so_convert (by simp only [lk] <;> rfl) (conv_b ty58 rfl ty5 rfl ty9 rfl (two_b (AHeap.get_new_same _ _)) rfl)) rfl <| Oa rfl (zf (hv := fa_ok (k := 3) ty33 rfl rfl ty9 rfl rfl)) rfl <| Oa rfl (zs (hv := by simp (disch := first | omega | simp only [nx] <;> omega | fail) only [aStore, ty9, writeRow, hpl, rcl, Value.cells] <;> rfl)) rfl <| On ?_
    refine Wr <| Oa rfl (zl (hv := by simp (disch := first | omega | simp only [nx] <;> omega | fail) only [aLoad, ty33, rowOf, hpl, rcl, Value.cells] <;> rfl)) rfl <| Oa rfl (zs (hv := by simp (disch := first | omega | simp only [nx] <;> omega | fail) only [aStore, ty33, writeRow, hpl, rcl, Value.cells] <;> rfl)) rfl <| On ?_
    refine CWp.ret <| FQ.ret (by simp (disch := first | omega | simp only [nx] <;> omega | fail) only [aRet, Try.f9, aResults, aResult, lk, Nat.reduceEqDiff, reduceIte, aLoad, rowOf, hpl, rcl, Value.cells, places, tb9] <;> rfl) ?_
    -- leaf: end
    refine ⟨?_, fun r o hr ho => by simp (disch := first | omega | simp only [nx] <;> omega | fail) only [hpl]; exact ho⟩
    refine (show _ = Value.agg #[encS [UInt8.ofNat (((97 + M % 6 : Nat) : Int)).toNat], U64 M, .bool (((M % 5 : Nat) : Int) == 0), encS [UInt8.ofNat (((M % 256 : Nat) : Int)).toNat, UInt8.ofNat (((M / 256 : Nat) : Int)).toNat]] from rfl).trans ?_
    rw [hb, Int.toNat_natCast, Int.toNat_natCast, Int.toNat_natCast]
    have e1 : UInt8.ofNat (M % 256) = UInt8.ofNat M := UInt8.ofNat_mod_size
    simp [keyed, h5, Rec.cs, e1]
def eqRb (x y : Rec) : Bool := (⟨⟨x.key⟩⟩ : ByteArray) == ⟨⟨y.key⟩⟩ && (x.lsn == y.lsn && (x.del == y.del && ((⟨⟨x.val⟩⟩ : ByteArray) == ⟨⟨y.val⟩⟩ && true)))
theorem eqRb_self (x : Rec) : eqRb x x = true := by simp [eqRb, beq_str]
theorem eqR {p q : Operand} (x y : Rec) : aBin Try.prog T .eql 33 p q x.V y.V = some (.bool (eqRb x y)) := by
  have hs : pureRun Try.prog (Op.equal 33 x.V y.V) = some (eqRb x y) := by
    refine seq_equal Try.underlying33 (by kernel_rfl) ?_
    refine .cons (by decide) (x := encS x.key) (y := encS y.key) (by kernel_rfl) (by kernel_rfl) (eq_str Try.underlying9) ?_
    refine .cons (by decide) (x := U64 x.lsn) (y := U64 y.lsn) (by kernel_rfl) (by kernel_rfl) (eq_int Try.underlying25) ?_
    refine .cons (by decide) (x := .bool x.del) (y := .bool y.del) (by kernel_rfl) (by kernel_rfl) (eq_bool Try.underlying4) ?_
    refine .cons (by decide) (x := encS x.val) (y := encS y.val) (by kernel_rfl) (by kernel_rfl) (eq_str Try.underlying9) ?_
    exact .nil
  exact bi_seq rfl (by kernel_rfl) hs
end Go.Proofs.Ytebheelmgcggmaa
namespace Go.Proofs.Ytebheelmgcggmaa
open Go.Ab Go.Sort
abbrev U16 (n : Nat) : Value := .int .u16 (n : Int)
theorem keys_six {U : List Rec} (hk : ∀ r ∈ U, ∃ n, 1 ≤ n ∧ n ≤ 400 ∧ r = keyed n) {ks : List (List UInt8)} (hn : ks.Nodup) (hs : ∀ k ∈ ks, ∃ r ∈ U, r.key = k) : ks.length ≤ 12 := by
  have h6 : ∀ k ∈ ks, k ∈ [[97], [98], [99], [100], [101], ([102] : List UInt8)] := fun k h => by
    obtain ⟨r, hr, rfl⟩ := hs k h
    obtain ⟨n, n1, n2, rfl⟩ := hk r hr
    simp only [keyed]
    have : n % 6 = 0 ∨ n % 6 = 1 ∨ n % 6 = 2 ∨ n % 6 = 3 ∨ n % 6 = 4 ∨ n % 6 = 5 := by omega
    rcases this with e | e | e | e | e | e <;> rw [e] <;> decide
  have := nodup_sub hn h6
  simp at this; omega
theorem keysL_six {U : List Rec} (hk : ∀ r ∈ U, ∃ n, 1 ≤ n ∧ n ≤ 400 ∧ r = keyed n) {l : List Rec} (hl : ∀ r ∈ l, r ∈ U) : (keysL l).length ≤ 12 :=
  keys_six hk (pw_nodup (fun x hx => by rw [swo_ltStr.irrefl] at hx; cases hx) (keysL_pw l)) fun k h => by
    obtain ⟨r, hr, e⟩ := mem_keysL.1 h
    exact ⟨r, hl r hr, e⟩
theorem PInv.fold_six {p : Lf} {U C : List Rec} (h : PInv p U C) (e : Int) : (foldB e p).length ≤ 12 := by
  obtain ⟨b1, b2, b3⟩ := PInv.into_all (p.deltas.filter fun r => decide (r.lsn ≤ e)) p.base h.rb
  have hn : ((foldB e p).map Rec.key).Nodup := pw_nodup (R := fun a b => ltStr a b = true) (fun x hx => by rw [swo_ltStr.irrefl] at hx; cases hx) (List.Pairwise.map _ (fun a b h => h) b1)
  have := keys_six h.ky hn fun k hk => by
    obtain ⟨x, hx, rfl⟩ := List.mem_map.1 hk
    refine ⟨x, h.mem x ?_, rfl⟩
    rcases b2 x hx with hx | hx
    · simp [Lf.all, (List.mem_filter.1 hx).1]
    · simp [Lf.all, hx]
  simpa using this
theorem PInv.keys_six {p : Lf} {U C : List Rec} (h : PInv p U C) : (keysM p).length ≤ 12 := by
  rw [keysM, if_pos h.chk]
  exact keysL_six h.ky h.mem
theorem PInv.l6 {p : Lf} {U C : List Rec} (h : PInv p U C) : p.base.length ≤ 1000000 ∧ p.deltas.length ≤ 1000000 := by
  have := h.lb; have := h.ld; omega
theorem one_at {l : List Value} {i : Nat} {x : Value} (h : l[i]? = some x) : (l.drop i).take 1 = [x] := by
  obtain ⟨hi, rfl⟩ := List.getElem?_eq_some_iff.1 h
  rw [List.drop_eq_getElem_cons hi]; rfl
def FB (A : List Rec) (k : List UInt8) : Option Value := if (getL k A).2 = true then some (getL k A).1.V else none
structure HJ (h g : AHeap) (A B : List Rec) (L : Lf) : Prop where
  inv : PInv L A A
  lt : h.next + 2 ≤ g.next
  lf : ∃ b c b' c', g.get h.next = some (LR L (.slice b L.base.length c) (.slice b' L.deltas.length c')) ∧ RSl g (h.next + 2) L.base (.slice b L.base.length c) ∧ RSl g (h.next + 2) L.deltas (.slice b' L.deltas.length c')
  mp : ∃ o, g.get (h.next + 1) = some o ∧ SM o (FB B)
  old : ∀ z, z < h.next → g.get z = h.get z
theorem HJ.new {h g : AHeap} {A B : List Rec} {L : Lf} (hJ : HJ h g A B L) (o : AObj) : HJ h (g.new o) A B L := by
  obtain ⟨inv, lt, ⟨b, c, b', c', l1, l2, l3⟩, ⟨o', m1, m2⟩, old⟩ := hJ
  exact ⟨inv, by simp; omega, ⟨b, c, b', c', by rw [Gn (by omega)]; exact l1, l2.mono (Nat.le_refl _) (by simp) (fun z _ hz => Gn (by omega)), l3.mono (Nat.le_refl _) (by simp) (fun z _ hz => Gn (by omega))⟩, ⟨o', by rw [Gn (by omega)]; exact m1, m2⟩, fun z hz => by rw [Gn (by omega)]; exact old z hz⟩
theorem HJ.put {h g G : AHeap} {A A' B : List Rec} {L F : Lf} (hJ : HJ h g A B L) {b1 b2 : Option Addr} {c1 c2 : Nat} (hinv : PInv F A' A') (hn : g.next ≤ G.next) (hk : ∀ z, z < g.next → G.get z = g.get z) (s1 : RSl G g.next F.base (.slice b1 F.base.length c1)) (s2 : RSl G g.next F.deltas (.slice b2 F.deltas.length c2)) :
    HJ h (G.set h.next (LR F (.slice b1 F.base.length c1) (.slice b2 F.deltas.length c2))) A' B F := by
  obtain ⟨inv, lt, _, ⟨o', m1, m2⟩, old⟩ := hJ
  exact ⟨hinv, by simp only [nx]; omega, ⟨_, _, _, _, AHeap.get_set_same _ _ _, s1.mono (by omega) (by simp) (fun z hz _ => Gs (by omega)), s2.mono (by omega) (by simp) (fun z hz _ => Gs (by omega))⟩, ⟨o', by rw [Gs (by omega), hk _ (by omega)]; exact m1, m2⟩, fun z hz => by rw [Gs (by omega), hk _ (by omega)]; exact old z hz⟩
theorem HJ.best {h g : AHeap} {A B B' : List Rec} {L : Lf} (hJ : HJ h g A B L) {o : AObj} (hs : SM o (FB B')) : HJ h (g.set (h.next + 1) o) A B' L := by
  obtain ⟨inv, lt, ⟨b, c, b', c', l1, l2, l3⟩, _, old⟩ := hJ
  exact ⟨inv, by simp only [nx]; omega, ⟨b, c, b', c', by rw [Gs (by omega)]; exact l1, l2.mono (Nat.le_refl _) (by simp) (fun z hz _ => Gs (by omega)), l3.mono (Nat.le_refl _) (by simp) (fun z hz _ => Gs (by omega))⟩, ⟨o, AHeap.get_set_same _ _ _, hs⟩, fun z hz => by rw [Gs (by omega)]; exact old z hz⟩
end Go.Proofs.Ytebheelmgcggmaa
namespace Go.Proofs.Ytebheelmgcggmaa
open Go.Ab
theorem lit_u16 {n : Int} (h : (Lit.int .u16 n).wf = true) : ∃ m : Nat, n = m ∧ m < 65536 := by
  simp [Lit.wf, IntKind.min, IntKind.max, IntKind.bits, IntKind.signed] at h
  exact ⟨n.toNat, by omega, by omega⟩
theorem flat_u : ∀ l : List Nat, (l.map fun n => [U16 n]).flatten = l.map U16
  | [] => rfl
  | x :: l => by rw [List.map_cons, List.flatten_cons, flat_u l]; rfl
theorem rg_ro {h : AHeap} {b : Option Addr} {ns : List Nat} {vs : List Value} (hv : vs = ns.map U16) (hb : ns ≠ [] → ∃ r, b = some ⟨r, 0, none⟩ ∧ r < h.next ∧ h.get r = some (.ro vs)) (h0 : ns = [] → b = none ∨ ∃ r, b = some ⟨r, 0, none⟩) : RG h 1 ns.length (ns.map U16) (.slice b ns.length 0) := by
  refine ⟨b, 0, rfl, ?_⟩
  by_cases e : ns = []
  · rcases h0 e with rfl | ⟨r, rfl⟩
    · exact .inl ⟨rfl, by rw [e]; rfl, rfl⟩
    · exact .inr ⟨_, _, rfl, fun h9 => (h9 (by rw [e]; rfl)).elim⟩
  · obtain ⟨r, rfl, h1, h2⟩ := hb e
    exact .inr ⟨_, _, rfl, fun _ => ⟨h1, vs, by simp only [rowOf, h2], by rw [hv]; exact cellsOf_all (by simp)⟩⟩
theorem recs_b {h : AHeap} {n : Nat} {t e : TypeId} {v : Value} (ht : Try.prog.underlying t = some (.slice e)) (hr : RdV Try.prog h (n + 1) t v) : ∃ (b : Option Addr) (vss : List (List Value)), v = .slice b vss.length 0 ∧ (∀ x ∈ vss, x.length = Try.prog.cellsOf e ∧ Rd Try.prog h n e x) ∧ (vss ≠ [] → ∃ r, b = some ⟨r, 0, none⟩ ∧ r < h.next ∧ h.get r = some (.ro vss.flatten)) ∧ (vss = [] → b = none ∨ ∃ r, b = some ⟨r, 0, none⟩) := by
  unfold RdV at hr
  rw [ht] at hr
  simp only at hr
  unfold Rd at hr
  rw [ht] at hr
  simp only at hr
  rcases hr with h1 | ⟨r, vss, h1, h2, h3, h4, h5⟩
  · exact ⟨none, [], by simpa using h1, by simp, fun h => (h rfl).elim, fun _ => .inl rfl⟩
  · exact ⟨some ⟨r, 0, none⟩, vss, by simpa using h1, h5, fun hn => ⟨r, rfl, h3, h4 hn⟩, fun _ => .inr ⟨r, rfl⟩⟩
theorem RdV.ops {h : AHeap} {n : Nat} {v : Value} (hr : RdV Try.prog h (n + 3) 22 v) : ∃ (b : Option Addr) (ns : List Nat), v = .slice b ns.length 0 ∧ RG h 1 ns.length (ns.map U16) (.slice b ns.length 0) ∧ ∀ n ∈ ns, n < 65536 := by
  obtain ⟨b, vss, rfl, h2, h3, h4⟩ := recs_b Try.underlying22 hr
  have key : ∃ ns : List Nat, vss = ns.map (fun n => [U16 n]) ∧ ∀ n ∈ ns, n < 65536 := by
    clear h3 h4 hr
    induction vss with
    | nil => exact ⟨[], rfl, by simp⟩
    | cons v vss ih =>
      obtain ⟨l, e1, e2⟩ := ih fun x hx => h2 x (List.mem_cons_of_mem _ hx)
      obtain ⟨fss, g1, g2, g3⟩ := Rd.fields Try.underlying36 (h2 v List.mem_cons_self).2
      match fss, g2 with
      | [a], _ =>
        obtain ⟨_, x1⟩ := g3 0 _ a rfl rfl
        obtain ⟨i, rfl, w1⟩ := Rd.int Try.underlying31 x1
        obtain ⟨m, rfl, hm⟩ := lit_u16 w1
        exact ⟨m :: l, by rw [e1, g1]; rfl, fun x hx => by
          cases hx with
          | head => exact hm
          | tail _ hx => exact e2 x hx⟩
  obtain ⟨l, rfl, h5⟩ := key
  exact ⟨b, l, by simp, rg_ro (flat_u l) (fun hn => h3 (by simpa using hn)) (fun hn => h4 (by simpa using hn)), h5⟩
end Go.Proofs.Ytebheelmgcggmaa
namespace Go.Proofs.Ytebheelmgcggmaa
open Go.Ab Go.Sort
end Go.Proofs.Ytebheelmgcggmaa
namespace Go.Proofs.Ytebheelmgcggmaa
open Go.Ab Go.Sort
structure L2 (lo : Nat) (g : AHeap) (z : Nat) (L : Lf) : Prop where
  ex : ∃ b c b' c', g.get z = some (LR L (.slice b L.base.length c) (.slice b' L.deltas.length c')) ∧ RSl g lo L.base (.slice b L.base.length c) ∧ RSl g lo L.deltas (.slice b' L.deltas.length c')
theorem L2.keep {lo : Nat} {g g' : AHeap} {z : Nat} {L : Lf} (l : L2 lo g z L) (hn : g.next ≤ g'.next) (hz : g'.get z = g.get z) (hk : ∀ y, lo ≤ y → y < g.next → g'.get y = g.get y) : L2 lo g' z L := by
  obtain ⟨b, c, b', c', l1, l2, l3⟩ := l.ex
  exact ⟨b, c, b', c', by rw [hz]; exact l1, l2.mono (Nat.le_refl _) hn hk, l3.mono (Nat.le_refl _) hn hk⟩
theorem L2.put {lo n : Nat} {G : AHeap} {z : Nat} {F : Lf} {b1 b2 : Option Addr} {c1 c2 : Nat} (hz : z < lo) (hn : lo ≤ n) (s1 : RSl G n F.base (.slice b1 F.base.length c1)) (s2 : RSl G n F.deltas (.slice b2 F.deltas.length c2)) : L2 lo (G.set z (LR F (.slice b1 F.base.length c1) (.slice b2 F.deltas.length c2))) z F :=
  ⟨_, _, _, _, AHeap.get_set_same _ _ _, s1.mono hn (by simp) (fun y hy _ => Gs (by omega)), s2.mono hn (by simp) (fun y hy _ => Gs (by omega))⟩
theorem app_base (F : Lf) (r : Rec) : (appM F r).base = F.base := by simp only [appM]; split <;> rfl
theorem app_step {lo : Nat} {g : AHeap} {z : Nat} {F : Lf} (l : L2 lo g z F) (hz : z < lo) (hlo : lo ≤ g.next) (h6 : F.base.length ≤ 1000000 ∧ F.deltas.length ≤ 1000000) (r : Rec) :
    ∃ b c b' c' b1 c1 b2 c2 H, g.get z = some (LR F (.slice b F.base.length c) (.slice b' F.deltas.length c')) ∧ H.get z = g.get z ∧ FWp Try.prog 10 [LV F (.slice b F.base.length c) (.slice b' F.deltas.length c'), r.V] g (fun u g => u = .tuple #[LV (appM F r) (.slice b1 (appM F r).base.length c1) (.slice b2 (appM F r).deltas.length c2), .bool (appOK F r)] ∧ g = H) ∧
      L2 lo (H.set z (LR (appM F r) (.slice b1 (appM F r).base.length c1) (.slice b2 (appM F r).deltas.length c2))) z (appM F r) ∧ g.next ≤ H.next ∧ ∀ y, y < g.next → H.get y = g.get y := by
  obtain ⟨b, c, b', c', l1, l2, l3⟩ := l.ex
  obtain ⟨v1, v2, H, wa, s1, s2, hn, hk⟩ := apply_c g F _ _ r l2.rs l3.rs h6.1 h6.2
  rw [← app_base F r] at s1
  obtain ⟨x1, y1, rfl⟩ := s1.rs.form
  obtain ⟨x2, y2, rfl⟩ := s2.rs.form
  exact ⟨b, c, b', c', x1, y1, x2, y2, H, l1, hk z (by omega), wa, L2.put hz hlo s1 s2, hn, hk⟩
theorem fold_step {lo : Nat} {g : AHeap} {z : Nat} {F : Lf} (l : L2 lo g z F) (hlo : lo ≤ g.next) (h6 : F.base.length ≤ 1000000 ∧ F.deltas.length ≤ 1000000) (e : Nat) (hK : (foldB (e : Int) F).length ≤ 12) :
    ∃ b c b' c' b1 c1 b2 c2 H, g.get z = some (LR F (.slice b F.base.length c) (.slice b' F.deltas.length c')) ∧ FWp Try.prog 8 [LV F (.slice b F.base.length c) (.slice b' F.deltas.length c'), U64 e] g (fun u g => u = LV (foldM F e) (.slice b1 (foldM F e).base.length c1) (.slice b2 (foldM F e).deltas.length c2) ∧ g = H) ∧
      (∀ z', z' < lo → L2 lo (H.set z' (LR (foldM F e) (.slice b1 (foldM F e).base.length c1) (.slice b2 (foldM F e).deltas.length c2))) z' (foldM F e)) ∧ g.next ≤ H.next ∧ ∀ y, y < g.next → H.get y = g.get y := by
  obtain ⟨b, c, b', c', l1, l2, l3⟩ := l.ex
  obtain ⟨nb, nd, n1, n2, wf⟩ := fold_c g F _ _ (e : Int) l2.rs l3.rs h6.1 h6.2 (fun _ => hK)
  obtain ⟨s1, s2⟩ := hand_rsl (h := g) (p := foldM F e) n1 n2
  obtain ⟨x1, y1, e1⟩ := s1.rs.form
  obtain ⟨x2, y2, e2⟩ := s2.rs.form
  rw [e1] at wf s1
  rw [e2] at wf s2
  exact ⟨b, c, b', c', x1, y1, x2, y2, _, l1, wf, fun z' hz' => L2.put hz' hlo s1 s2, by rw [hand_next]; omega, fun y hy => hand_old _ _ _ _ _ hy⟩
end Go.Proofs.Ytebheelmgcggmaa
