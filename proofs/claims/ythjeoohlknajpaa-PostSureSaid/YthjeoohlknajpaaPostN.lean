/-
  For PostSure: an exact contract of Ack, and how Post goes on.
-/
import Derived.Test.YthjeoohlknajpaaPostI
import Derived.Test.YthjeoohlknajpaaPostM
namespace Go.Proofs.Ythjeoohlknajpaa
open Go.Ab
set_option linter.unusedSimpArgs false
set_option linter.unusedVariables false
set_option maxRecDepth 10000

theorem ack_e (h : AHeap) (p : Nat) (S : PS) (R : Option Nat) (hP : PA h p S R) (i : Nat) (o : Op) (ho : S.ops[i]? = some o) (ha : o.acked = false) (hl : o.lsn = S.base + i + 1) (hb : 0 ≤ S.base) (hb1 : S.base ≤ 1000000) (hlen : S.ops.length ≤ 1000000) (hw0 : 0 ≤ S.waits) (hw1 : S.waits ≤ 1000000) :
    ∃ H, PA H p ⟨S.base, S.ops.set i { o with acked := true }, S.waits - 1⟩ R ∧ Fr h H p R ∧ FWp Try.prog 10 [P0 p, U64 o.lsn] h fun u h' => u = .bool true ∧ h' = H := by
  obtain ⟨hpn, s, hp, hs⟩ := hP
  have hil : i < S.ops.length := (List.getElem?_eq_some_iff.1 ho).1
  have w1 : IntKind.u64.wrap (S.ops.length : Int) = S.ops.length := wrap_u64 (by omega) (by omega)
  have w2 : IntKind.u64.wrap (o.lsn - S.base) = i + 1 := by rw [wrap_u64 (by omega) (by omega)]; omega
  have w3 : IntKind.u64.wrap ((i : Int) + 1 - 1) = i := by rw [wrap_u64 (by omega) (by omega)]; omega
  have h1 : ¬ o.lsn ≤ S.base := by omega
  have h2 : ¬ (S.ops.length : Int) < (i : Int) + 1 := by omega
  have hc : (0 ≤ (i : Int) ∧ (i : Int) < (S.ops.length : Int)) := by omega
  cases hs with
  | none e => rw [e] at hil; simp at hil
  | @some r off pre hpre hrn hpr hg =>
    have r0 : (pre ++ flats S.ops)[off + i * 7 + 4]? = some (.bool o.acked) := row_get ho hpre (by omega)
    have r1 : splice (pre ++ flats S.ops) (off + i * 7 + 4) [.bool true] = pre ++ flats (S.ops.set i { o with acked := true }) := row_set ho hpre (by omega) rfl
    have r2 : Nat.ble (off + i * 7 + 4 + 1) (pre ++ flats S.ops).length = true := row_ble hpre hil (by omega)
    have w4 : IntKind.i64.wrap (S.waits - 1) = S.waits - 1 := wrap_i64 (by omega) (by omega)
    have hpr' : ¬ r = p := fun e => hpr e.symm
    refine ⟨(h.set r (.cells (pre ++ flats (S.ops.set i { o with acked := true })) 7)).set p (.cells [U64 S.base, .slice (some ⟨r, off, none⟩) S.ops.length 0, I64 (S.waits - 1)] 1), ⟨?_, _, by simp only [AHeap.get_set_same]; rfl, opsAt_mk (by simp) hpre ?_ hpr ?_⟩, ⟨?_, fun q hq h3 h4 => ?_⟩, ?_⟩
    · simp only [AHeap.next_set]; exact hpn
    · simp only [AHeap.next_set]; exact hrn
    · simp (disch := first | assumption | omega | (simp only [nx] <;> omega) | fail) only [AHeap.get_set_ne, AHeap.get_set_same]
    · simp only [AHeap.next_set]; exact Nat.le_refl _
    · have h5 : ¬ r = q := fun e => h4 (by rw [e])
      simp (disch := first | assumption | omega | (simp only [nx] <;> omega) | fail) only [AHeap.get_set_ne]
    · refine W.enter tyOK Try.func10 rfl rfl ?_
      simp only [entry]
      refine W.seq <| W.reg <| 
          OSuf.aopF tyOK rfl (so_assign (by simp only [lk] <;> rfl)) (fun _ => rfl) rfl <|
          OSuf.nil <| SQ.normal ?_
      refine W.seq <| W.seq <| W.regD tyOK mixed (by kernel_rfl) <| 
          SqW.aop rfl (so_move (by simp only [lk] <;> rfl)) rfl <|
          SqW.aopF rfl (so_bin (by simp only [lk] <;> rfl) (by simp only [lk] <;> rfl) (bi_nil ⟨_, _, ty23, rfl⟩)) (fun _ => rfl) rfl <|
          SqW.aopF rfl (so_move (by simp only [lk] <;> rfl)) (fun _ => rfl) rfl <|
          SqW.aop (aguard_of rfl rfl (by simp only [lk] <;> rfl) rfl) (so_move (by simp only [lk] <;> rfl)) rfl <|
          SqW.aop (aguard_of rfl rfl (by simp only [lk] <;> rfl) rfl) (so_move (by simp only [lk] <;> rfl)) rfl <|
          SqW.aop (aguard_of rfl rfl (by simp only [lk] <;> rfl) rfl) (so_nilCheck (by simp only [lk] <;> rfl)) rfl <|
          SqW.aop (aguard_of rfl rfl (by simp only [lk] <;> rfl) rfl) (so_fieldAddr (by simp only [lk] <;> rfl) (fa_ok (k := 0) ty41 rfl rfl ty25 rfl rfl)) rfl <|
          SqW.aop (aguard_of rfl rfl (by simp only [lk] <;> rfl) rfl) (so_load (by simp only [lk] <;> rfl) (by simp (disch := first | assumption | omega | (simp only [nx] <;> omega) | fail) only [aLoad, ty25, rowOf, hpl, hp, hg, r0, w1, w2, w3, w4, hc, and_self, if_true, Int.toNat_natCast, Value.cells, List.length_cons, List.length_nil, Nat.zero_add, r1, r2, oneCells, List.all_cons, List.all_nil, Value.oneCell', Bool.and_self, cond_true] <;> rfl)) rfl <|
          SqW.aopF (aguard_of rfl rfl (by simp only [lk] <;> rfl) rfl) (so_bin (by simp only [lk] <;> rfl) (by simp only [lk] <;> rfl) bi_leq) (fun _ => rfl) (by first | rfl | assumption | ((simp only [bl, hp, hg, r0, w1, w2, w3, w4, hc, and_self, if_true, Int.toNat_natCast, Value.cells, List.length_cons, List.length_nil, Nat.zero_add, r1, r2, oneCells, List.all_cons, List.all_nil, Value.oneCell', Bool.and_self, cond_true]) <;> first | done | assumption | omega) | (simp [hp, hg, r0, w1, w2, w3, w4, hc, and_self, if_true, Int.toNat_natCast, Value.cells, List.length_cons, List.length_nil, Nat.zero_add, r1, r2, oneCells, List.all_cons, List.all_nil, Value.oneCell', Bool.and_self, cond_true]; done) | (simp [hp, hg, r0, w1, w2, w3, w4, hc, and_self, if_true, Int.toNat_natCast, Value.cells, List.length_cons, List.length_nil, Nat.zero_add, r1, r2, oneCells, List.all_cons, List.all_nil, Value.oneCell', Bool.and_self, cond_true]; omega)) <|
          SqW.aopF rfl (so_pick (by simp only [lk] <;> rfl) (by simp only [lk, cond_true, cond_false] <;> rfl)) (fun _ => rfl) rfl <|
          SqW.aopF rfl (so_move (by simp only [lk] <;> rfl)) (fun _ => rfl) rfl <|
          SqW.aop (aguard_of rfl rfl (by simp only [lk] <;> rfl) rfl) (so_move (by simp only [lk] <;> rfl)) rfl <|
          SqW.aop (aguard_of rfl rfl (by simp only [lk] <;> rfl) rfl) (so_move (by simp only [lk] <;> rfl)) rfl <|
          SqW.aop (aguard_of rfl rfl (by simp only [lk] <;> rfl) rfl) (so_nilCheck (by simp only [lk] <;> rfl)) rfl <|
          SqW.aop (aguard_of rfl rfl (by simp only [lk] <;> rfl) rfl) (so_fieldAddr (by simp only [lk] <;> rfl) (fa_ok (k := 0) ty41 rfl rfl ty25 rfl rfl)) rfl <|
          SqW.aop (aguard_of rfl rfl (by simp only [lk] <;> rfl) rfl) (so_load (by simp only [lk] <;> rfl) (by simp (disch := first | assumption | omega | (simp only [nx] <;> omega) | fail) only [aLoad, ty25, rowOf, hpl, hp, hg, r0, w1, w2, w3, w4, hc, and_self, if_true, Int.toNat_natCast, Value.cells, List.length_cons, List.length_nil, Nat.zero_add, r1, r2, oneCells, List.all_cons, List.all_nil, Value.oneCell', Bool.and_self, cond_true] <;> rfl)) rfl <|
          SqW.aop (aguard_of rfl rfl (by simp only [lk] <;> rfl) rfl) (so_bin (by simp only [lk] <;> rfl) (by simp only [lk] <;> rfl) (bi_w bi_sub (by first | (simp only [w1, w2, w3, w4] <;> rfl) | rfl))) rfl <|
          SqW.aop (aguard_of rfl rfl (by simp only [lk] <;> rfl) rfl) (so_move (by simp only [lk] <;> rfl)) rfl <|
          SqW.aop (aguard_of rfl rfl (by simp only [lk] <;> rfl) rfl) (so_nilCheck (by simp only [lk] <;> rfl)) rfl <|
          SqW.aop (aguard_of rfl rfl (by simp only [lk] <;> rfl) rfl) (so_fieldAddr (by simp only [lk] <;> rfl) (fa_ok (k := 1) ty41 rfl rfl ty39 rfl rfl)) rfl <|
          SqW.aop (aguard_of rfl rfl (by simp only [lk] <;> rfl) rfl) (so_load (by simp only [lk] <;> rfl) (by simp (disch := first | assumption | omega | (simp only [nx] <;> omega) | fail) only [aLoad, ty39, rowOf, hpl, hp, hg, r0, w1, w2, w3, w4, hc, and_self, if_true, Int.toNat_natCast, Value.cells, List.length_cons, List.length_nil, Nat.zero_add, r1, r2, oneCells, List.all_cons, List.all_nil, Value.oneCell', Bool.and_self, cond_true] <;> rfl)) rfl <|
          SqW.aop (aguard_of rfl rfl (by simp only [lk] <;> rfl) rfl) (so_len (by simp only [aopnds, lk] <;> rfl) (by simp (disch := first | assumption | omega | (simp only [nx] <;> omega) | fail) only [aLenOf, ty39, hpl, hp, hg, r0, w1, w2, w3, w4, hc, and_self, if_true, Int.toNat_natCast, Value.cells, List.length_cons, List.length_nil, Nat.zero_add, r1, r2, oneCells, List.all_cons, List.all_nil, Value.oneCell', Bool.and_self, cond_true] <;> rfl)) rfl <|
          SqW.aop (aguard_of rfl rfl (by simp only [lk] <;> rfl) rfl) (so_conw (so_conv tyOK (by simp only [lk] <;> rfl) ty3 ⟨_, rfl⟩ ty25 rfl) (by first | (simp only [w1, w2, w3, w4] <;> rfl) | rfl)) rfl <|
          SqW.aopF (aguard_of rfl rfl (by simp only [lk] <;> rfl) rfl) (so_bin (by simp only [lk] <;> rfl) (by simp only [lk] <;> rfl) bi_gtr) (fun _ => rfl) (by first | rfl | assumption | ((simp only [bl, hp, hg, r0, w1, w2, w3, w4, hc, and_self, if_true, Int.toNat_natCast, Value.cells, List.length_cons, List.length_nil, Nat.zero_add, r1, r2, oneCells, List.all_cons, List.all_nil, Value.oneCell', Bool.and_self, cond_true]) <;> first | done | assumption | omega) | (simp [hp, hg, r0, w1, w2, w3, w4, hc, and_self, if_true, Int.toNat_natCast, Value.cells, List.length_cons, List.length_nil, Nat.zero_add, r1, r2, oneCells, List.all_cons, List.all_nil, Value.oneCell', Bool.and_self, cond_true]; done) | (simp [hp, hg, r0, w1, w2, w3, w4, hc, and_self, if_true, Int.toNat_natCast, Value.cells, List.length_cons, List.length_nil, Nat.zero_add, r1, r2, oneCells, List.all_cons, List.all_nil, Value.oneCell', Bool.and_self, cond_true]; omega)) <|
          SqW.aopF rfl (so_pick (by simp only [lk] <;> rfl) (by simp only [lk, cond_true, cond_false] <;> rfl)) (fun _ => rfl) rfl <|
          SqW.nil <| SQ.normal ?_
      refine W.no (by simp only [lk] <;> rfl) <| CWp.skip <| SQ.normal ?_
      refine W.seq <| W.regD tyOK mixed (by kernel_rfl) <| 
          SqW.aop rfl (so_move (by simp only [lk] <;> rfl)) rfl <|
          SqW.aop rfl (so_nilCheck (by simp only [lk] <;> rfl)) rfl <|
          SqW.aop rfl (so_fieldAddr (by simp only [lk] <;> rfl) (fa_ok (k := 1) ty41 rfl rfl ty39 rfl rfl)) rfl <|
          SqW.aop rfl (so_load (by simp only [lk] <;> rfl) (by simp (disch := first | assumption | omega | (simp only [nx] <;> omega) | fail) only [aLoad, ty39, rowOf, hpl, hp, hg, r0, w1, w2, w3, w4, hc, and_self, if_true, Int.toNat_natCast, Value.cells, List.length_cons, List.length_nil, Nat.zero_add, r1, r2, oneCells, List.all_cons, List.all_nil, Value.oneCell', Bool.and_self, cond_true] <;> rfl)) rfl <|
          SqW.aop rfl (so_move (by simp only [lk] <;> rfl)) rfl <|
          SqW.aop rfl (so_move (by simp only [lk] <;> rfl)) rfl <|
          SqW.aop rfl (so_nilCheck (by simp only [lk] <;> rfl)) rfl <|
          SqW.aop rfl (so_fieldAddr (by simp only [lk] <;> rfl) (fa_ok (k := 0) ty41 rfl rfl ty25 rfl rfl)) rfl <|
          SqW.aop rfl (so_load (by simp only [lk] <;> rfl) (by simp (disch := first | assumption | omega | (simp only [nx] <;> omega) | fail) only [aLoad, ty25, rowOf, hpl, hp, hg, r0, w1, w2, w3, w4, hc, and_self, if_true, Int.toNat_natCast, Value.cells, List.length_cons, List.length_nil, Nat.zero_add, r1, r2, oneCells, List.all_cons, List.all_nil, Value.oneCell', Bool.and_self, cond_true] <;> rfl)) rfl <|
          SqW.aop rfl (so_bin (by simp only [lk] <;> rfl) (by simp only [lk] <;> rfl) (bi_w bi_sub (by first | (simp only [w1, w2, w3, w4] <;> rfl) | rfl))) rfl <|
          SqW.aop rfl (so_bin (by simp only [lk] <;> rfl) (by simp only [lk] <;> rfl) (bi_w bi_sub (by first | (simp only [w1, w2, w3, w4] <;> rfl) | rfl))) rfl <|
          SqW.aop rfl (so_indexAddr (by simp only [lk] <;> rfl) (by simp only [lk] <;> rfl) (by simp (disch := first | assumption | omega | (simp only [nx] <;> omega) | fail) only [aIndexAddr, ty39, ty43, hpl, hp, hg, r0, w1, w2, w3, w4, hc, and_self, if_true, Int.toNat_natCast, Value.cells, List.length_cons, List.length_nil, Nat.zero_add, r1, r2, oneCells, List.all_cons, List.all_nil, Value.oneCell', Bool.and_self, cond_true] <;> rfl)) rfl <|
          SqW.aop rfl (so_assign (by simp only [lk] <;> rfl)) rfl <|
          SqW.nil <| SQ.normal ?_
      refine W.seq <| W.seq <| W.reg <| 
          OSuf.aop tyOK rfl (so_move (by simp only [lk] <;> rfl)) rfl <|
          OSuf.aop tyOK rfl (so_nilCheck (by simp only [lk] <;> rfl)) rfl <|
          OSuf.aop tyOK rfl (so_fieldAddr (by simp only [lk] <;> rfl) (fa_ok (k := 4) ty43 rfl rfl ty4 rfl rfl)) rfl <|
          OSuf.aopF tyOK rfl (so_load (by simp only [lk] <;> rfl) (by simp (disch := first | assumption | omega | (simp only [nx] <;> omega) | fail) only [aLoad, ty4, rowOf, hpl, hp, hg, r0, w1, w2, w3, w4, hc, and_self, if_true, Int.toNat_natCast, Value.cells, List.length_cons, List.length_nil, Nat.zero_add, r1, r2, oneCells, List.all_cons, List.all_nil, Value.oneCell', Bool.and_self, cond_true] <;> rfl)) (fun _ => rfl) (ha) <|
          OSuf.nil <| SQ.normal ?_
      refine W.no (by simp only [lk] <;> rfl) <| CWp.skip <| SQ.normal ?_
      refine W.seq <| W.reg <| 
          OSuf.aop tyOK rfl (so_move (by simp only [lk] <;> rfl)) rfl <|
          OSuf.aop tyOK rfl (so_nilCheck (by simp only [lk] <;> rfl)) rfl <|
          OSuf.aop tyOK rfl (so_fieldAddr (by simp only [lk] <;> rfl) (fa_ok (k := 4) ty43 rfl rfl ty4 rfl rfl)) rfl <|
          OSuf.aop tyOK rfl (so_store (by simp only [lk] <;> rfl) (by simp only [lk] <;> rfl) (by simp (disch := first | assumption | omega | (simp only [nx] <;> omega) | fail) only [aStore, ty4, writeRow, hpl, hp, hg, r0, w1, w2, w3, w4, hc, and_self, if_true, Int.toNat_natCast, Value.cells, List.length_cons, List.length_nil, Nat.zero_add, r1, r2, oneCells, List.all_cons, List.all_nil, Value.oneCell', Bool.and_self, cond_true] <;> rfl)) rfl <|
          OSuf.nil <| SQ.normal ?_
      refine W.seq <| W.reg <| 
          OSuf.aop tyOK rfl (so_move (by simp only [lk] <;> rfl)) rfl <|
          OSuf.aop tyOK rfl (so_nilCheck (by simp only [lk] <;> rfl)) rfl <|
          OSuf.aop tyOK rfl (so_fieldAddr (by simp only [lk] <;> rfl) (fa_ok (k := 2) ty41 rfl rfl ty3 rfl rfl)) rfl <|
          OSuf.aop tyOK rfl (so_load (by simp only [lk] <;> rfl) (by simp (disch := first | assumption | omega | (simp only [nx] <;> omega) | fail) only [aLoad, ty3, rowOf, hpl, hp, hg, r0, w1, w2, w3, w4, hc, and_self, if_true, Int.toNat_natCast, Value.cells, List.length_cons, List.length_nil, Nat.zero_add, r1, r2, oneCells, List.all_cons, List.all_nil, Value.oneCell', Bool.and_self, cond_true] <;> rfl)) rfl <|
          OSuf.aop tyOK rfl (so_bin (by simp only [lk] <;> rfl) (by simp only [lk] <;> rfl) (bi_w bi_sub (by first | (simp only [w1, w2, w3, w4] <;> rfl) | rfl))) rfl <|
          OSuf.aop tyOK rfl (so_nilCheck (by simp only [lk] <;> rfl)) rfl <|
          OSuf.aop tyOK rfl (so_fieldAddr (by simp only [lk] <;> rfl) (fa_ok (k := 2) ty41 rfl rfl ty3 rfl rfl)) rfl <|
          OSuf.aop tyOK rfl (so_store (by simp only [lk] <;> rfl) (by simp only [lk] <;> rfl) (by simp (disch := first | assumption | omega | (simp only [nx] <;> omega) | fail) only [aStore, ty3, writeRow, hpl, hp, hg, r0, w1, w2, w3, w4, hc, and_self, if_true, Int.toNat_natCast, Value.cells, List.length_cons, List.length_nil, Nat.zero_add, r1, r2, oneCells, List.all_cons, List.all_nil, Value.oneCell', Bool.and_self, cond_true] <;> rfl)) rfl <|
          OSuf.nil <| SQ.normal ?_
      refine W.seq <| W.reg <| 
          OSuf.aopT tyOK rfl (so_assign (by simp only [lk] <;> rfl)) (fun _ => rfl) rfl <|
          OSuf.nil <| SQ.normal ?_
      refine CWp.ret <| FQ.ret (by simp only [aRet, Try.f10, aResults, aResult, lk, Nat.reduceEqDiff, reduceIte] <;> rfl) ?_
      -- leaf: end
      exact ⟨rfl, rfl⟩

theorem flatsR_get : ∀ {l : List Op} {k : Nat} {o : Op}, l[k]? = some o → (flatsR l)[k * 4 + 1]? = some (U64 o.lsn)
  | o :: l, 0, o', h => by simp at h; subst h; rfl
  | o :: l, k + 1, o', h => by
    simp only [List.getElem?_cons_succ] at h
    simp only [flatsR]
    have e : (k + 1) * 4 + 1 = o.rcs.length + (k * 4 + 1) := by simp only [Op.rcs, List.length_cons, List.length_nil]; omega
    rw [e, List.getElem?_append_right (by omega), Nat.add_sub_cancel_left]
    exact flatsR_get h
theorem RecsAt_keep {h h' : AHeap} {lo : Nat} {rs : List Op} {u : Value} (hr : RecsAt h lo rs u) (hn : h.next ≤ h'.next) (hk : ∀ x, lo ≤ x → x < h.next → h'.get x = h.get x) : RecsAt h' lo rs u := by
  cases hr with
  | none e => exact .none e
  | some ne e h1 h2 h3 => exact .some ne e h1 (by omega) (by rw [hk _ h1 h2]; exact h3)
theorem recs_slice {h : AHeap} {lo : Nat} {rs : List Op} {u : Value} (hr : RecsAt h lo rs u) : ∃ b, u = .slice b rs.length 0 ∧ ∀ k, k < rs.length → ∃ x, b = some ⟨x, 0, none⟩ ∧ lo ≤ x ∧ x < h.next ∧ h.get x = some (.cells (flatsR rs) 4) := by
  cases hr with
  | none e => exact ⟨none, by rw [e]; rfl, fun k hk => by rw [e] at hk; simp at hk⟩
  | some ne e h1 h2 h3 => exact ⟨_, by rw [e], fun k hk => ⟨_, rfl, h1, h2, h3⟩⟩
theorem Okp.of {S S' : PS} {top : Int} (h : Okp S top) (hb : S'.base = S.base) (hl : S'.ops.map Op.lsn = S.ops.map Op.lsn) (hw : S'.waits = cnt S'.ops) : Okp S' top := by
  have hlen : S'.ops.length = S.ops.length := by have := congrArg List.length hl; simpa using this
  refine ⟨by rw [hb]; exact h.base, by rw [hb, hlen]; exact h.sum, fun i o ho => ?_, hw, h.big⟩
  have e : (S'.ops.map Op.lsn)[i]? = some o.lsn := by simp [ho]
  rw [hl] at e
  simp at e
  obtain ⟨x, hx, hx2⟩ := e
  have := h.seqd i x hx
  rw [hb, ← hx2]; exact this
theorem sn_cnt (now : Int) : ∀ (w : Nat) (l : List Op), cnt (sn now w l) = cnt l
  | 0, l => by rw [sn_zero]
  | w + 1, [] => rfl
  | w + 1, o :: l => by
    have e : (stamp now o).acked = o.acked := by unfold stamp; cases dueb now o <;> rfl
    simp only [sn]
    cases ha : o.acked <;> simp [cnt, ha, e, sn_cnt now]
theorem Okp.sn {S : PS} {top : Int} (h : Okp S top) (now : Int) : Okp ⟨S.base, sn now 8 S.ops, S.waits⟩ top :=
  h.of rfl (by rw [← pt_nil]; exact pt_lsn now 8 [] S.ops) (by simp only [sn_cnt]; exact h.waits)
theorem Okp.ackd {S : PS} {top : Int} (h : Okp S top) {i : Nat} {x : Op} (hx : S.ops[i]? = some x) (ha : x.acked = false) : Okp ⟨S.base, S.ops.set i { x with acked := true }, S.waits - 1⟩ top := by
  refine h.of rfl ?_ ?_
  · simp only [List.map_set]
    have : (S.ops.map Op.lsn)[i]? = some x.lsn := by simp [hx]
    rw [List.getElem?_eq_some_iff] at this
    obtain ⟨h1, h2⟩ := this
    rw [← h2]; exact List.set_getElem_self h1
  · have := cnt_set hx ha
    have := h.waits
    simp only; omega
theorem cnt_anew : ∀ l : List Op, cnt (l.map anew) = l.length
  | [] => rfl
  | o :: l => by simp [cnt, anew, cnt_anew l]; omega
theorem lead_anew (l : List Op) : lead (l.map anew) = 0 := by cases l <;> rfl
theorem Okp.again {S : PS} {top : Int} (h : Okp S top) : Okp ⟨S.base, S.ops.map anew, S.ops.length⟩ top :=
  h.of rfl (by simp [anew, Function.comp_def]) (by simp only [cnt_anew])
theorem lead_all : ∀ {l : List Op}, cnt l = 0 → lead l = l.length
  | [], _ => rfl
  | o :: l, h => by
    simp only [cnt] at h
    cases ha : o.acked
    · rw [ha] at h; simp at h
    · rw [ha] at h; simp at h
      simp [lead, ha, lead_all h]
theorem dl_none (now : Int) : ∀ (w : Nat) {l : List Op}, cnt l = 0 → dl now w l = []
  | 0, l, _ => dl_zero now l
  | w + 1, [], _ => rfl
  | w + 1, o :: l, h => by
    simp only [cnt] at h
    cases ha : o.acked
    · rw [ha] at h; simp at h
    · rw [ha] at h; simp at h
      simp [dl, ha, dl_none now (w + 1) h]
theorem Ats.mono {n n' : Int} {l : List Op} (h : Ats n l) (hn : n ≤ n') : Ats n' l := fun o ho => by have := h o ho; omega
theorem Ats.anew {n : Int} {l : List Op} (h : Ats n l) : Ats n (l.map anew) := fun o ho => by
  obtain ⟨x, hx, rfl⟩ := List.mem_map.1 ho
  exact h x hx
end Go.Proofs.Ythjeoohlknajpaa
