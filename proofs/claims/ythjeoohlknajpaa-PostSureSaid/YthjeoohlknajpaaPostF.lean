/-
  Contracts of the package post: Ack, Prefix, Trim, Again.
-/
import Derived.Test.YthjeoohlknajpaaPostE
namespace Go.Proofs.Ythjeoohlknajpaa
open Go.Ab
set_option linter.unusedSimpArgs false
set_option linter.unusedVariables false
set_option maxRecDepth 10000

def ackS (S : PS) (lsn : Int) : Bool × PS :=
  if lsn ≤ S.base then (false, S) else if (S.ops.length : Int) < lsn - S.base then (false, S) else
    match S.ops[(lsn - S.base - 1).toNat]? with
    | some o => if o.acked = true then (false, S) else (true, ⟨S.base, S.ops.set (lsn - S.base - 1).toNat { o with acked := true }, S.waits - 1⟩)
    | none => (false, S)

theorem ops_slice {h : AHeap} {p : Nat} {l : List Op} {s : Value} {R : Option Nat} (hs : OpsAt h p l s R) : ∃ b c, s = .slice b l.length c := by
  cases hs with
  | none e => exact ⟨none, 0, by rw [e]; rfl⟩
  | some => exact ⟨_, _, rfl⟩

theorem ack_c (h : AHeap) (p : Nat) (S : PS) (R : Option Nat) (hP : PA h p S R) (lsn : Int) (hb : 0 ≤ S.base) (hl0 : 0 ≤ lsn) (hl1 : lsn < 18446744073709551616) (hlen : S.ops.length ≤ 1000000000) (hw0 : 0 ≤ S.waits) (hw1 : S.waits ≤ 1000000000) :
    FWp Try.prog 10 [P0 p, U64 lsn] h fun u h' => u = .bool (ackS S lsn).1 ∧ PA h' p (ackS S lsn).2 R ∧ Fr h h' p R := by
  have hP0 := hP
  obtain ⟨hpn, s, hp, hs⟩ := hP
  have w1 : IntKind.u64.wrap (S.ops.length : Int) = S.ops.length := wrap_u64 (by omega) (by omega)
  by_cases h1 : lsn ≤ S.base
  · have e : ackS S lsn = (false, S) := by simp [ackS, h1]
    obtain ⟨b, c, rfl⟩ := ops_slice hs
    rw [e]
    refine W.enter tyOK Try.func10 rfl rfl ?_
    simp only [entry]
    refine W.seq <| W.reg <| 
        OSuf.aopF tyOK rfl (so_assign (by simp only [lk] <;> rfl)) (fun _ => rfl) rfl <|
        OSuf.nil <| SQ.normal ?_
    refine W.seq <| W.seq <| W.regD tyOK mixed (by kernel_rfl) <| 
        SqW.aop rfl (so_move (by simp only [lk] <;> rfl)) rfl <|
        SqW.aopF rfl (so_bin (by simp only [lk] <;> rfl) (by simp only [lk] <;> rfl) (bi_nil ⟨_, _, ty23, rfl⟩)) (fun _ => rfl) rfl <|
        SqW.aopF rfl (so_move (by simp only [lk] <;> rfl)) (fun _ => rfl) rfl <|
        SqW.aop (aguard_of rfl rfl (by simp only [lk] <;> rfl) rfl) (so_move (by simp only [lk] <;> rfl)) rfl <|
        SqW.aop (aguard_of rfl rfl (by simp only [lk] <;> rfl) rfl) (so_move (by simp only [lk] <;> rfl)) rfl <|
        SqW.aop (aguard_of rfl rfl (by simp only [lk] <;> rfl) rfl) (so_nilCheck (by simp only [lk] <;> rfl)) rfl <|
        SqW.aop (aguard_of rfl rfl (by simp only [lk] <;> rfl) rfl) (so_fieldAddr (by simp only [lk] <;> rfl) (fa_ok (k := 0) ty41 rfl rfl ty25 rfl rfl)) rfl <|
        SqW.aop (aguard_of rfl rfl (by simp only [lk] <;> rfl) rfl) (so_load (by simp only [lk] <;> rfl) (by simp (disch := first | assumption | omega | (simp only [nx] <;> omega) | fail) only [aLoad, ty25, rowOf, hpl, hp] <;> rfl)) rfl <|
        SqW.aopT (aguard_of rfl rfl (by simp only [lk] <;> rfl) rfl) (so_bin (by simp only [lk] <;> rfl) (by simp only [lk] <;> rfl) bi_leq) (fun _ => rfl) (by first | rfl | assumption | ((simp only [bl, hp]) <;> first | done | assumption | omega) | (simp [hp]; done) | (simp [hp]; omega)) <|
        SqW.aopT rfl (so_pick (by simp only [lk] <;> rfl) (by simp only [lk, cond_true, cond_false] <;> rfl)) (fun _ => rfl) rfl <|
        SqW.aopT rfl (so_move (by simp only [lk] <;> rfl)) (fun _ => rfl) rfl <|
        SqW.pass (aguard_of rfl rfl (by simp only [lk] <;> rfl) rfl) rfl <|
        SqW.pass (aguard_of rfl rfl (by simp only [lk] <;> rfl) rfl) rfl <|
        SqW.pass (aguard_of rfl rfl (by simp only [lk] <;> rfl) rfl) rfl <|
        SqW.pass (aguard_of rfl rfl (by simp only [lk] <;> rfl) rfl) rfl <|
        SqW.pass (aguard_of rfl rfl (by simp only [lk] <;> rfl) rfl) rfl <|
        SqW.pass (aguard_of rfl rfl (by simp only [lk] <;> rfl) rfl) rfl <|
        SqW.pass (aguard_of rfl rfl (by simp only [lk] <;> rfl) rfl) rfl <|
        SqW.pass (aguard_of rfl rfl (by simp only [lk] <;> rfl) rfl) rfl <|
        SqW.pass (aguard_of rfl rfl (by simp only [lk] <;> rfl) rfl) rfl <|
        SqW.pass (aguard_of rfl rfl (by simp only [lk] <;> rfl) rfl) rfl <|
        SqW.pass (aguard_of rfl rfl (by simp only [lk] <;> rfl) rfl) rfl <|
        SqW.pass (aguard_of rfl rfl (by simp only [lk] <;> rfl) rfl) rfl <|
        SqW.pass (aguard_of rfl rfl (by simp only [lk] <;> rfl) rfl) rfl <|
        SqW.aopT rfl (so_pick (by simp only [lk] <;> rfl) (by simp only [lk, cond_true, cond_false] <;> rfl)) (fun _ => rfl) rfl <|
        SqW.nil <| SQ.normal ?_
    refine W.yes (by simp only [lk] <;> rfl) <| W.seq <| W.reg <| 
        OSuf.aopF tyOK rfl (so_assign (by simp only [lk] <;> rfl)) (fun _ => rfl) rfl <|
        OSuf.nil <| SQ.normal ?_
    refine CWp.ret <| SQ.ret <| FQ.ret (by simp only [aRet, Try.f10, aResults, aResult, lk] <;> rfl) ?_
    -- leaf: end
    exact ⟨rfl, hP0, Fr.refl _ _ _⟩
  have w2 : IntKind.u64.wrap (lsn - S.base) = lsn - S.base := wrap_u64 (by omega) (by omega)
  by_cases h2 : (S.ops.length : Int) < lsn - S.base
  · have e : ackS S lsn = (false, S) := by simp [ackS, h1, h2]
    obtain ⟨b, c, rfl⟩ := ops_slice hs
    rw [e]
    refine W.enter tyOK Try.func10 rfl rfl ?_
    simp only [entry]
    refine W.seq <| W.reg <| 
        OSuf.aopF tyOK rfl (so_assign (by simp only [lk] <;> rfl)) (fun _ => rfl) rfl <|
        OSuf.nil <| SQ.normal ?_
    refine W.seq <| W.seq <| W.regD tyOK mixed (by kernel_rfl) <| 
        SqW.aop rfl (so_move (by simp only [lk] <;> rfl)) rfl <|
        SqW.aopF rfl (so_bin (by simp only [lk] <;> rfl) (by simp only [lk] <;> rfl) (bi_nil ⟨_, _, ty23, rfl⟩)) (fun _ => rfl) rfl <|
        SqW.aopF rfl (so_move (by simp only [lk] <;> rfl)) (fun _ => rfl) rfl <|
        SqW.aop (aguard_of rfl rfl (by simp only [lk] <;> rfl) rfl) (so_move (by simp only [lk] <;> rfl)) rfl <|
        SqW.aop (aguard_of rfl rfl (by simp only [lk] <;> rfl) rfl) (so_move (by simp only [lk] <;> rfl)) rfl <|
        SqW.aop (aguard_of rfl rfl (by simp only [lk] <;> rfl) rfl) (so_nilCheck (by simp only [lk] <;> rfl)) rfl <|
        SqW.aop (aguard_of rfl rfl (by simp only [lk] <;> rfl) rfl) (so_fieldAddr (by simp only [lk] <;> rfl) (fa_ok (k := 0) ty41 rfl rfl ty25 rfl rfl)) rfl <|
        SqW.aop (aguard_of rfl rfl (by simp only [lk] <;> rfl) rfl) (so_load (by simp only [lk] <;> rfl) (by simp (disch := first | assumption | omega | (simp only [nx] <;> omega) | fail) only [aLoad, ty25, rowOf, hpl, hp, w1, w2] <;> rfl)) rfl <|
        SqW.aopF (aguard_of rfl rfl (by simp only [lk] <;> rfl) rfl) (so_bin (by simp only [lk] <;> rfl) (by simp only [lk] <;> rfl) bi_leq) (fun _ => rfl) (by first | rfl | assumption | ((simp only [bl, hp, w1, w2]) <;> first | done | assumption | omega) | (simp [hp, w1, w2]; done) | (simp [hp, w1, w2]; omega)) <|
        SqW.aopF rfl (so_pick (by simp only [lk] <;> rfl) (by simp only [lk, cond_true, cond_false] <;> rfl)) (fun _ => rfl) rfl <|
        SqW.aopF rfl (so_move (by simp only [lk] <;> rfl)) (fun _ => rfl) rfl <|
        SqW.aop (aguard_of rfl rfl (by simp only [lk] <;> rfl) rfl) (so_move (by simp only [lk] <;> rfl)) rfl <|
        SqW.aop (aguard_of rfl rfl (by simp only [lk] <;> rfl) rfl) (so_move (by simp only [lk] <;> rfl)) rfl <|
        SqW.aop (aguard_of rfl rfl (by simp only [lk] <;> rfl) rfl) (so_nilCheck (by simp only [lk] <;> rfl)) rfl <|
        SqW.aop (aguard_of rfl rfl (by simp only [lk] <;> rfl) rfl) (so_fieldAddr (by simp only [lk] <;> rfl) (fa_ok (k := 0) ty41 rfl rfl ty25 rfl rfl)) rfl <|
        SqW.aop (aguard_of rfl rfl (by simp only [lk] <;> rfl) rfl) (so_load (by simp only [lk] <;> rfl) (by simp (disch := first | assumption | omega | (simp only [nx] <;> omega) | fail) only [aLoad, ty25, rowOf, hpl, hp, w1, w2] <;> rfl)) rfl <|
        SqW.aop (aguard_of rfl rfl (by simp only [lk] <;> rfl) rfl) (so_bin (by simp only [lk] <;> rfl) (by simp only [lk] <;> rfl) (bi_w bi_sub rfl)) rfl <|
        SqW.aop (aguard_of rfl rfl (by simp only [lk] <;> rfl) rfl) (so_move (by simp only [lk] <;> rfl)) rfl <|
        SqW.aop (aguard_of rfl rfl (by simp only [lk] <;> rfl) rfl) (so_nilCheck (by simp only [lk] <;> rfl)) rfl <|
        SqW.aop (aguard_of rfl rfl (by simp only [lk] <;> rfl) rfl) (so_fieldAddr (by simp only [lk] <;> rfl) (fa_ok (k := 1) ty41 rfl rfl ty39 rfl rfl)) rfl <|
        SqW.aop (aguard_of rfl rfl (by simp only [lk] <;> rfl) rfl) (so_load (by simp only [lk] <;> rfl) (by simp (disch := first | assumption | omega | (simp only [nx] <;> omega) | fail) only [aLoad, ty39, rowOf, hpl, hp, w1, w2] <;> rfl)) rfl <|
        SqW.aop (aguard_of rfl rfl (by simp only [lk] <;> rfl) rfl) (so_len (by simp only [aopnds, lk] <;> rfl) (by simp (disch := first | assumption | omega | (simp only [nx] <;> omega) | fail) only [aLenOf, ty39, hpl, hp, w1, w2] <;> rfl)) rfl <|
        SqW.aop (aguard_of rfl rfl (by simp only [lk] <;> rfl) rfl) (so_conw (so_conv tyOK (by simp only [lk] <;> rfl) ty3 ⟨_, rfl⟩ ty25 rfl) rfl) rfl <|
        SqW.aopT (aguard_of rfl rfl (by simp only [lk] <;> rfl) rfl) (so_bin (by simp only [lk] <;> rfl) (by simp only [lk] <;> rfl) bi_gtr) (fun _ => rfl) (by first | rfl | assumption | ((simp only [bl, hp, w1, w2]) <;> first | done | assumption | omega) | (simp [hp, w1, w2]; done) | (simp [hp, w1, w2]; omega)) <|
        SqW.aopT rfl (so_pick (by simp only [lk] <;> rfl) (by simp only [lk, cond_true, cond_false] <;> rfl)) (fun _ => rfl) rfl <|
        SqW.nil <| SQ.normal ?_
    refine W.yes (by simp only [lk] <;> rfl) <| W.seq <| W.reg <| 
        OSuf.aopF tyOK rfl (so_assign (by simp only [lk] <;> rfl)) (fun _ => rfl) rfl <|
        OSuf.nil <| SQ.normal ?_
    refine CWp.ret <| SQ.ret <| FQ.ret (by simp only [aRet, Try.f10, aResults, aResult, lk] <;> rfl) ?_
    -- leaf: end
    exact ⟨rfl, hP0, Fr.refl _ _ _⟩
  obtain ⟨i, hi⟩ : ∃ i : Nat, lsn - S.base - 1 = i := ⟨(lsn - S.base - 1).toNat, by omega⟩
  have hil : i < S.ops.length := by omega
  have w3 : IntKind.u64.wrap (lsn - S.base - 1) = i := by rw [wrap_u64 (by omega) (by omega)]; exact hi
  have hc : (0 ≤ (i : Int) ∧ (i : Int) < (S.ops.length : Int)) := by omega
  obtain ⟨o, ho⟩ : ∃ o, S.ops[i]? = some o := ⟨S.ops[i], by simp [hil]⟩
  cases hs with
  | none e => rw [e] at hil; simp at hil
  | @some r off pre hpre hrn hpr hg =>
    have r0 : (pre ++ flats S.ops)[off + i * 7 + 4]? = some (.bool o.acked) := row_get ho hpre (by omega)
    by_cases ha : o.acked = true
    · have e : ackS S lsn = (false, S) := by simp [ackS, h1, h2, hi, ho, ha]
      rw [e]
      refine W.enter tyOK Try.func10 rfl rfl ?_
      simp only [entry]
      refine W.seq <| W.reg <| 
          OSuf.aopF tyOK rfl (so_assign (by simp only [lk] <;> rfl)) (fun _ => rfl) rfl <|
          OSuf.nil <| SQ.normal ?_
      refine W.seq <| W.seq <| W.regD tyOK mixed (by kernel_rfl) <| 
          SqW.aop rfl (so_move (by simp only [lk] <;> rfl)) rfl <|
          SqW.aopF rfl (so_bin (by simp only [lk] <;> rfl) (by simp only [lk] <;> rfl) (bi_nil ⟨_, _, ty23, rfl⟩)) (fun _ => rfl) rfl <|
          SqW.aopF rfl (so_move (by simp only [lk] <;> rfl)) (fun _ => rfl) rfl <|
          SqW.aop (aguard_of rfl rfl (by simp only [lk] <;> rfl) rfl) (so_move (by simp only [lk] <;> rfl)) rfl <|
          SqW.aop (aguard_of rfl rfl (by simp only [lk] <;> rfl) rfl) (so_move (by simp only [lk] <;> rfl)) rfl <|
          SqW.aop (aguard_of rfl rfl (by simp only [lk] <;> rfl) rfl) (so_nilCheck (by simp only [lk] <;> rfl)) rfl <|
          SqW.aop (aguard_of rfl rfl (by simp only [lk] <;> rfl) rfl) (so_fieldAddr (by simp only [lk] <;> rfl) (fa_ok (k := 0) ty41 rfl rfl ty25 rfl rfl)) rfl <|
          SqW.aop (aguard_of rfl rfl (by simp only [lk] <;> rfl) rfl) (so_load (by simp only [lk] <;> rfl) (by simp (disch := first | assumption | omega | (simp only [nx] <;> omega) | fail) only [aLoad, ty25, rowOf, hpl, hp, hg, r0, w1, w2, w3, hc, and_self, if_true, Int.toNat_natCast] <;> rfl)) rfl <|
          SqW.aopF (aguard_of rfl rfl (by simp only [lk] <;> rfl) rfl) (so_bin (by simp only [lk] <;> rfl) (by simp only [lk] <;> rfl) bi_leq) (fun _ => rfl) (by first | rfl | assumption | ((simp only [bl, hp, hg, r0, w1, w2, w3, hc, and_self, if_true, Int.toNat_natCast]) <;> first | done | assumption | omega) | (simp [hp, hg, r0, w1, w2, w3, hc, and_self, if_true, Int.toNat_natCast]; done) | (simp [hp, hg, r0, w1, w2, w3, hc, and_self, if_true, Int.toNat_natCast]; omega)) <|
          SqW.aopF rfl (so_pick (by simp only [lk] <;> rfl) (by simp only [lk, cond_true, cond_false] <;> rfl)) (fun _ => rfl) rfl <|
          SqW.aopF rfl (so_move (by simp only [lk] <;> rfl)) (fun _ => rfl) rfl <|
          SqW.aop (aguard_of rfl rfl (by simp only [lk] <;> rfl) rfl) (so_move (by simp only [lk] <;> rfl)) rfl <|
          SqW.aop (aguard_of rfl rfl (by simp only [lk] <;> rfl) rfl) (so_move (by simp only [lk] <;> rfl)) rfl <|
          SqW.aop (aguard_of rfl rfl (by simp only [lk] <;> rfl) rfl) (so_nilCheck (by simp only [lk] <;> rfl)) rfl <|
          SqW.aop (aguard_of rfl rfl (by simp only [lk] <;> rfl) rfl) (so_fieldAddr (by simp only [lk] <;> rfl) (fa_ok (k := 0) ty41 rfl rfl ty25 rfl rfl)) rfl <|
          SqW.aop (aguard_of rfl rfl (by simp only [lk] <;> rfl) rfl) (so_load (by simp only [lk] <;> rfl) (by simp (disch := first | assumption | omega | (simp only [nx] <;> omega) | fail) only [aLoad, ty25, rowOf, hpl, hp, hg, r0, w1, w2, w3, hc, and_self, if_true, Int.toNat_natCast] <;> rfl)) rfl <|
          SqW.aop (aguard_of rfl rfl (by simp only [lk] <;> rfl) rfl) (so_bin (by simp only [lk] <;> rfl) (by simp only [lk] <;> rfl) (bi_w bi_sub rfl)) rfl <|
          SqW.aop (aguard_of rfl rfl (by simp only [lk] <;> rfl) rfl) (so_move (by simp only [lk] <;> rfl)) rfl <|
          SqW.aop (aguard_of rfl rfl (by simp only [lk] <;> rfl) rfl) (so_nilCheck (by simp only [lk] <;> rfl)) rfl <|
          SqW.aop (aguard_of rfl rfl (by simp only [lk] <;> rfl) rfl) (so_fieldAddr (by simp only [lk] <;> rfl) (fa_ok (k := 1) ty41 rfl rfl ty39 rfl rfl)) rfl <|
          SqW.aop (aguard_of rfl rfl (by simp only [lk] <;> rfl) rfl) (so_load (by simp only [lk] <;> rfl) (by simp (disch := first | assumption | omega | (simp only [nx] <;> omega) | fail) only [aLoad, ty39, rowOf, hpl, hp, hg, r0, w1, w2, w3, hc, and_self, if_true, Int.toNat_natCast] <;> rfl)) rfl <|
          SqW.aop (aguard_of rfl rfl (by simp only [lk] <;> rfl) rfl) (so_len (by simp only [aopnds, lk] <;> rfl) (by simp (disch := first | assumption | omega | (simp only [nx] <;> omega) | fail) only [aLenOf, ty39, hpl, hp, hg, r0, w1, w2, w3, hc, and_self, if_true, Int.toNat_natCast] <;> rfl)) rfl <|
          SqW.aop (aguard_of rfl rfl (by simp only [lk] <;> rfl) rfl) (so_conw (so_conv tyOK (by simp only [lk] <;> rfl) ty3 ⟨_, rfl⟩ ty25 rfl) rfl) rfl <|
          SqW.aopF (aguard_of rfl rfl (by simp only [lk] <;> rfl) rfl) (so_bin (by simp only [lk] <;> rfl) (by simp only [lk] <;> rfl) bi_gtr) (fun _ => rfl) (by first | rfl | assumption | ((simp only [bl, hp, hg, r0, w1, w2, w3, hc, and_self, if_true, Int.toNat_natCast]) <;> first | done | assumption | omega) | (simp [hp, hg, r0, w1, w2, w3, hc, and_self, if_true, Int.toNat_natCast]; done) | (simp [hp, hg, r0, w1, w2, w3, hc, and_self, if_true, Int.toNat_natCast]; omega)) <|
          SqW.aopF rfl (so_pick (by simp only [lk] <;> rfl) (by simp only [lk, cond_true, cond_false] <;> rfl)) (fun _ => rfl) rfl <|
          SqW.nil <| SQ.normal ?_
      refine W.no (by simp only [lk] <;> rfl) <| CWp.skip <| SQ.normal ?_
      refine W.seq <| W.regD tyOK mixed (by kernel_rfl) <| 
          SqW.aop rfl (so_move (by simp only [lk] <;> rfl)) rfl <|
          SqW.aop rfl (so_nilCheck (by simp only [lk] <;> rfl)) rfl <|
          SqW.aop rfl (so_fieldAddr (by simp only [lk] <;> rfl) (fa_ok (k := 1) ty41 rfl rfl ty39 rfl rfl)) rfl <|
          SqW.aop rfl (so_load (by simp only [lk] <;> rfl) (by simp (disch := first | assumption | omega | (simp only [nx] <;> omega) | fail) only [aLoad, ty39, rowOf, hpl, hp, hg, r0, w1, w2, w3, hc, and_self, if_true, Int.toNat_natCast] <;> rfl)) rfl <|
          SqW.aop rfl (so_move (by simp only [lk] <;> rfl)) rfl <|
          SqW.aop rfl (so_move (by simp only [lk] <;> rfl)) rfl <|
          SqW.aop rfl (so_nilCheck (by simp only [lk] <;> rfl)) rfl <|
          SqW.aop rfl (so_fieldAddr (by simp only [lk] <;> rfl) (fa_ok (k := 0) ty41 rfl rfl ty25 rfl rfl)) rfl <|
          SqW.aop rfl (so_load (by simp only [lk] <;> rfl) (by simp (disch := first | assumption | omega | (simp only [nx] <;> omega) | fail) only [aLoad, ty25, rowOf, hpl, hp, hg, r0, w1, w2, w3, hc, and_self, if_true, Int.toNat_natCast] <;> rfl)) rfl <|
          SqW.aop rfl (so_bin (by simp only [lk] <;> rfl) (by simp only [lk] <;> rfl) (bi_w bi_sub rfl)) rfl <|
          SqW.aop rfl (so_bin (by simp only [lk] <;> rfl) (by simp only [lk] <;> rfl) (bi_w bi_sub rfl)) rfl <|
          SqW.aop rfl (so_indexAddr (by simp only [lk] <;> rfl) (by simp only [lk] <;> rfl) (by simp (disch := first | assumption | omega | (simp only [nx] <;> omega) | fail) only [aIndexAddr, ty39, ty43, hpl, hp, hg, r0, w1, w2, w3, hc, and_self, if_true, Int.toNat_natCast] <;> rfl)) rfl <|
          SqW.aop rfl (so_assign (by simp only [lk] <;> rfl)) rfl <|
          SqW.nil <| SQ.normal ?_
      refine W.seq <| W.seq <| W.reg <| 
          OSuf.aop tyOK rfl (so_move (by simp only [lk] <;> rfl)) rfl <|
          OSuf.aop tyOK rfl (so_nilCheck (by simp only [lk] <;> rfl)) rfl <|
          OSuf.aop tyOK rfl (so_fieldAddr (by simp only [lk] <;> rfl) (fa_ok (k := 4) ty43 rfl rfl ty4 rfl rfl)) rfl <|
          OSuf.aopT tyOK rfl (so_load (by simp only [lk] <;> rfl) (by simp (disch := first | assumption | omega | (simp only [nx] <;> omega) | fail) only [aLoad, ty4, rowOf, hpl, hp, hg, r0, w1, w2, w3, hc, and_self, if_true, Int.toNat_natCast] <;> rfl)) (fun _ => rfl) (ha) <|
          OSuf.nil <| SQ.normal ?_
      refine W.yes (by simp only [lk] <;> rfl) <| W.seq <| W.reg <| 
          OSuf.aopF tyOK rfl (so_assign (by simp only [lk] <;> rfl)) (fun _ => rfl) rfl <|
          OSuf.nil <| SQ.normal ?_
      refine CWp.ret <| SQ.ret <| FQ.ret (by simp only [aRet, Try.f10, aResults, aResult, lk] <;> rfl) ?_
      -- leaf: end
      exact ⟨rfl, hP0, Fr.refl _ _ _⟩
    · have e : ackS S lsn = (true, ⟨S.base, S.ops.set i { o with acked := true }, S.waits - 1⟩) := by simp [ackS, h1, h2, hi, ho, ha]
      have ha' : o.acked = false := by simpa using ha
      have r1 : splice (pre ++ flats S.ops) (off + i * 7 + 4) [.bool true] = pre ++ flats (S.ops.set i { o with acked := true }) := row_set ho hpre (by omega) rfl
      have r2 : Nat.ble (off + i * 7 + 4 + 1) (pre ++ flats S.ops).length = true := row_ble hpre hil (by omega)
      have w4 : IntKind.i64.wrap (S.waits - 1) = S.waits - 1 := wrap_i64 (by omega) (by omega)
      rw [e]
      refine W.enter tyOK Try.func10 rfl rfl ?_
      simp only [entry]
      refine W.seq <| W.reg <| 
          OSuf.aopF tyOK rfl (so_assign (by simp only [lk] <;> rfl)) (fun _ => rfl) rfl <|
          OSuf.nil <| SQ.normal ?_
      refine W.seq <| W.seq <| W.regD tyOK mixed (by kernel_rfl) <| 
          SqW.aop rfl (so_move (by simp only [lk] <;> rfl)) rfl <|
          SqW.aopF rfl (so_bin (by simp only [lk] <;> rfl) (by simp only [lk] <;> rfl) (bi_nil ⟨_, _, ty23, rfl⟩)) (fun _ => rfl) rfl <|
          SqW.aopF rfl (so_move (by simp only [lk] <;> rfl)) (fun _ => rfl) rfl <|
          SqW.aop (aguard_of rfl rfl (by simp only [lk] <;> rfl) rfl) (so_move (by simp only [lk] <;> rfl)) rfl <|
          SqW.aop (aguard_of rfl rfl (by simp only [lk] <;> rfl) rfl) (so_move (by simp only [lk] <;> rfl)) rfl <|
          SqW.aop (aguard_of rfl rfl (by simp only [lk] <;> rfl) rfl) (so_nilCheck (by simp only [lk] <;> rfl)) rfl <|
          SqW.aop (aguard_of rfl rfl (by simp only [lk] <;> rfl) rfl) (so_fieldAddr (by simp only [lk] <;> rfl) (fa_ok (k := 0) ty41 rfl rfl ty25 rfl rfl)) rfl <|
          SqW.aop (aguard_of rfl rfl (by simp only [lk] <;> rfl) rfl) (so_load (by simp only [lk] <;> rfl) (by simp (disch := first | assumption | omega | (simp only [nx] <;> omega) | fail) only [aLoad, ty25, rowOf, hpl, hp, hg, r0, w1, w2, w3, w4, hc, and_self, if_true, Int.toNat_natCast, Value.cells, List.length_cons, List.length_nil, Nat.zero_add, r1, r2, oneCells, List.all_cons, List.all_nil, Value.oneCell', Bool.and_self, cond_true] <;> rfl)) rfl <|
          SqW.aopF (aguard_of rfl rfl (by simp only [lk] <;> rfl) rfl) (so_bin (by simp only [lk] <;> rfl) (by simp only [lk] <;> rfl) bi_leq) (fun _ => rfl) (by first | rfl | assumption | ((simp only [bl, hp, hg, r0, w1, w2, w3, w4, hc, and_self, if_true, Int.toNat_natCast, Value.cells, List.length_cons, List.length_nil, Nat.zero_add, r1, r2, oneCells, List.all_cons, List.all_nil, Value.oneCell', Bool.and_self, cond_true]) <;> first | done | assumption | omega) | (simp [hp, hg, r0, w1, w2, w3, w4, hc, and_self, if_true, Int.toNat_natCast, Value.cells, List.length_cons, List.length_nil, Nat.zero_add, r1, r2, oneCells, List.all_cons, List.all_nil, Value.oneCell', Bool.and_self, cond_true]; done) | (simp [hp, hg, r0, w1, w2, w3, w4, hc, and_self, if_true, Int.toNat_natCast, Value.cells, List.length_cons, List.length_nil, Nat.zero_add, r1, r2, oneCells, List.all_cons, List.all_nil, Value.oneCell', Bool.and_self, cond_true]; omega)) <|
          SqW.aopF rfl (so_pick (by simp only [lk] <;> rfl) (by simp only [lk, cond_true, cond_false] <;> rfl)) (fun _ => rfl) rfl <|
          SqW.aopF rfl (so_move (by simp only [lk] <;> rfl)) (fun _ => rfl) rfl <|
          SqW.aop (aguard_of rfl rfl (by simp only [lk] <;> rfl) rfl) (so_move (by simp only [lk] <;> rfl)) rfl <|
          SqW.aop (aguard_of rfl rfl (by simp only [lk] <;> rfl) rfl) (so_move (by simp only [lk] <;> rfl)) rfl <|
          SqW.aop (aguard_of rfl rfl (by simp only [lk] <;> rfl) rfl) (so_nilCheck (by simp only [lk] <;> rfl)) rfl <|
          SqW.aop (aguard_of rfl rfl (by simp only [lk] <;> rfl) rfl) (so_fieldAddr (by simp only [lk] <;> rfl) (fa_ok (k := 0) ty41 rfl rfl ty25 rfl rfl)) rfl <|
          SqW.aop (aguard_of rfl rfl (by simp only [lk] <;> rfl) rfl) (so_load (by simp only [lk] <;> rfl) (by simp (disch := first | assumption | omega | (simp only [nx] <;> omega) | fail) only [aLoad, ty25, rowOf, hpl, hp, hg, r0, w1, w2, w3, w4, hc, and_self, if_true, Int.toNat_natCast, Value.cells, List.length_cons, List.length_nil, Nat.zero_add, r1, r2, oneCells, List.all_cons, List.all_nil, Value.oneCell', Bool.and_self, cond_true] <;> rfl)) rfl <|
          SqW.aop (aguard_of rfl rfl (by simp only [lk] <;> rfl) rfl) (so_bin (by simp only [lk] <;> rfl) (by simp only [lk] <;> rfl) (bi_w bi_sub rfl)) rfl <|
          SqW.aop (aguard_of rfl rfl (by simp only [lk] <;> rfl) rfl) (so_move (by simp only [lk] <;> rfl)) rfl <|
          SqW.aop (aguard_of rfl rfl (by simp only [lk] <;> rfl) rfl) (so_nilCheck (by simp only [lk] <;> rfl)) rfl <|
          SqW.aop (aguard_of rfl rfl (by simp only [lk] <;> rfl) rfl) (so_fieldAddr (by simp only [lk] <;> rfl) (fa_ok (k := 1) ty41 rfl rfl ty39 rfl rfl)) rfl <|
          SqW.aop (aguard_of rfl rfl (by simp only [lk] <;> rfl) rfl) (so_load (by simp only [lk] <;> rfl) (by simp (disch := first | assumption | omega | (simp only [nx] <;> omega) | fail) only [aLoad, ty39, rowOf, hpl, hp, hg, r0, w1, w2, w3, w4, hc, and_self, if_true, Int.toNat_natCast, Value.cells, List.length_cons, List.length_nil, Nat.zero_add, r1, r2, oneCells, List.all_cons, List.all_nil, Value.oneCell', Bool.and_self, cond_true] <;> rfl)) rfl <|
          SqW.aop (aguard_of rfl rfl (by simp only [lk] <;> rfl) rfl) (so_len (by simp only [aopnds, lk] <;> rfl) (by simp (disch := first | assumption | omega | (simp only [nx] <;> omega) | fail) only [aLenOf, ty39, hpl, hp, hg, r0, w1, w2, w3, w4, hc, and_self, if_true, Int.toNat_natCast, Value.cells, List.length_cons, List.length_nil, Nat.zero_add, r1, r2, oneCells, List.all_cons, List.all_nil, Value.oneCell', Bool.and_self, cond_true] <;> rfl)) rfl <|
          SqW.aop (aguard_of rfl rfl (by simp only [lk] <;> rfl) rfl) (so_conw (so_conv tyOK (by simp only [lk] <;> rfl) ty3 ⟨_, rfl⟩ ty25 rfl) rfl) rfl <|
          SqW.aopF (aguard_of rfl rfl (by simp only [lk] <;> rfl) rfl) (so_bin (by simp only [lk] <;> rfl) (by simp only [lk] <;> rfl) bi_gtr) (fun _ => rfl) (by first | rfl | assumption | ((simp only [bl, hp, hg, r0, w1, w2, w3, w4, hc, and_self, if_true, Int.toNat_natCast, Value.cells, List.length_cons, List.length_nil, Nat.zero_add, r1, r2, oneCells, List.all_cons, List.all_nil, Value.oneCell', Bool.and_self, cond_true]) <;> first | done | assumption | omega) | (simp [hp, hg, r0, w1, w2, w3, w4, hc, and_self, if_true, Int.toNat_natCast, Value.cells, List.length_cons, List.length_nil, Nat.zero_add, r1, r2, oneCells, List.all_cons, List.all_nil, Value.oneCell', Bool.and_self, cond_true]; done) | (simp [hp, hg, r0, w1, w2, w3, w4, hc, and_self, if_true, Int.toNat_natCast, Value.cells, List.length_cons, List.length_nil, Nat.zero_add, r1, r2, oneCells, List.all_cons, List.all_nil, Value.oneCell', Bool.and_self, cond_true]; omega)) <|
          SqW.aopF rfl (so_pick (by simp only [lk] <;> rfl) (by simp only [lk, cond_true, cond_false] <;> rfl)) (fun _ => rfl) rfl <|
          SqW.nil <| SQ.normal ?_
      refine W.no (by simp only [lk] <;> rfl) <| CWp.skip <| SQ.normal ?_
      refine W.seq <| W.regD tyOK mixed (by kernel_rfl) <| 
          SqW.aop rfl (so_move (by simp only [lk] <;> rfl)) rfl <|
          SqW.aop rfl (so_nilCheck (by simp only [lk] <;> rfl)) rfl <|
          SqW.aop rfl (so_fieldAddr (by simp only [lk] <;> rfl) (fa_ok (k := 1) ty41 rfl rfl ty39 rfl rfl)) rfl <|
          SqW.aop rfl (so_load (by simp only [lk] <;> rfl) (by simp (disch := first | assumption | omega | (simp only [nx] <;> omega) | fail) only [aLoad, ty39, rowOf, hpl, hp, hg, r0, w1, w2, w3, w4, hc, and_self, if_true, Int.toNat_natCast, Value.cells, List.length_cons, List.length_nil, Nat.zero_add, r1, r2, oneCells, List.all_cons, List.all_nil, Value.oneCell', Bool.and_self, cond_true] <;> rfl)) rfl <|
          SqW.aop rfl (so_move (by simp only [lk] <;> rfl)) rfl <|
          SqW.aop rfl (so_move (by simp only [lk] <;> rfl)) rfl <|
          SqW.aop rfl (so_nilCheck (by simp only [lk] <;> rfl)) rfl <|
          SqW.aop rfl (so_fieldAddr (by simp only [lk] <;> rfl) (fa_ok (k := 0) ty41 rfl rfl ty25 rfl rfl)) rfl <|
          SqW.aop rfl (so_load (by simp only [lk] <;> rfl) (by simp (disch := first | assumption | omega | (simp only [nx] <;> omega) | fail) only [aLoad, ty25, rowOf, hpl, hp, hg, r0, w1, w2, w3, w4, hc, and_self, if_true, Int.toNat_natCast, Value.cells, List.length_cons, List.length_nil, Nat.zero_add, r1, r2, oneCells, List.all_cons, List.all_nil, Value.oneCell', Bool.and_self, cond_true] <;> rfl)) rfl <|
          SqW.aop rfl (so_bin (by simp only [lk] <;> rfl) (by simp only [lk] <;> rfl) (bi_w bi_sub rfl)) rfl <|
          SqW.aop rfl (so_bin (by simp only [lk] <;> rfl) (by simp only [lk] <;> rfl) (bi_w bi_sub rfl)) rfl <|
          SqW.aop rfl (so_indexAddr (by simp only [lk] <;> rfl) (by simp only [lk] <;> rfl) (by simp (disch := first | assumption | omega | (simp only [nx] <;> omega) | fail) only [aIndexAddr, ty39, ty43, hpl, hp, hg, r0, w1, w2, w3, w4, hc, and_self, if_true, Int.toNat_natCast, Value.cells, List.length_cons, List.length_nil, Nat.zero_add, r1, r2, oneCells, List.all_cons, List.all_nil, Value.oneCell', Bool.and_self, cond_true] <;> rfl)) rfl <|
          SqW.aop rfl (so_assign (by simp only [lk] <;> rfl)) rfl <|
          SqW.nil <| SQ.normal ?_
      refine W.seq <| W.seq <| W.reg <| 
          OSuf.aop tyOK rfl (so_move (by simp only [lk] <;> rfl)) rfl <|
          OSuf.aop tyOK rfl (so_nilCheck (by simp only [lk] <;> rfl)) rfl <|
          OSuf.aop tyOK rfl (so_fieldAddr (by simp only [lk] <;> rfl) (fa_ok (k := 4) ty43 rfl rfl ty4 rfl rfl)) rfl <|
          OSuf.aopF tyOK rfl (so_load (by simp only [lk] <;> rfl) (by simp (disch := first | assumption | omega | (simp only [nx] <;> omega) | fail) only [aLoad, ty4, rowOf, hpl, hp, hg, r0, w1, w2, w3, w4, hc, and_self, if_true, Int.toNat_natCast, Value.cells, List.length_cons, List.length_nil, Nat.zero_add, r1, r2, oneCells, List.all_cons, List.all_nil, Value.oneCell', Bool.and_self, cond_true] <;> rfl)) (fun _ => rfl) (ha') <|
          OSuf.nil <| SQ.normal ?_
      refine W.no (by simp only [lk] <;> rfl) <| CWp.skip <| SQ.normal ?_
      refine W.seq <| W.reg <| 
          OSuf.aop tyOK rfl (so_move (by simp only [lk] <;> rfl)) rfl <|
          OSuf.aop tyOK rfl (so_nilCheck (by simp only [lk] <;> rfl)) rfl <|
          OSuf.aop tyOK rfl (so_fieldAddr (by simp only [lk] <;> rfl) (fa_ok (k := 4) ty43 rfl rfl ty4 rfl rfl)) rfl <|
          OSuf.aop tyOK rfl (so_store (by simp only [lk] <;> rfl) (by simp only [lk] <;> rfl) (by simp (disch := first | assumption | omega | (simp only [nx] <;> omega) | fail) only [aStore, ty4, writeRow, hpl, hp, hg, r0, w1, w2, w3, w4, hc, and_self, if_true, Int.toNat_natCast, Value.cells, List.length_cons, List.length_nil, Nat.zero_add, r1, r2, oneCells, List.all_cons, List.all_nil, Value.oneCell', Bool.and_self, cond_true] <;> rfl)) rfl <|
          OSuf.nil <| SQ.normal ?_
      refine W.seq <| W.reg <| 
          OSuf.aop tyOK rfl (so_move (by simp only [lk] <;> rfl)) rfl <|
          OSuf.aop tyOK rfl (so_nilCheck (by simp only [lk] <;> rfl)) rfl <|
          OSuf.aop tyOK rfl (so_fieldAddr (by simp only [lk] <;> rfl) (fa_ok (k := 2) ty41 rfl rfl ty3 rfl rfl)) rfl <|
          OSuf.aop tyOK rfl (so_load (by simp only [lk] <;> rfl) (by simp (disch := first | assumption | omega | (simp only [nx] <;> omega) | fail) only [aLoad, ty3, rowOf, hpl, hp, hg, r0, w1, w2, w3, w4, hc, and_self, if_true, Int.toNat_natCast, Value.cells, List.length_cons, List.length_nil, Nat.zero_add, r1, r2, oneCells, List.all_cons, List.all_nil, Value.oneCell', Bool.and_self, cond_true] <;> rfl)) rfl <|
          OSuf.aop tyOK rfl (so_bin (by simp only [lk] <;> rfl) (by simp only [lk] <;> rfl) (bi_w bi_sub rfl)) rfl <|
          OSuf.aop tyOK rfl (so_nilCheck (by simp only [lk] <;> rfl)) rfl <|
          OSuf.aop tyOK rfl (so_fieldAddr (by simp only [lk] <;> rfl) (fa_ok (k := 2) ty41 rfl rfl ty3 rfl rfl)) rfl <|
          OSuf.aop tyOK rfl (so_store (by simp only [lk] <;> rfl) (by simp only [lk] <;> rfl) (by simp (disch := first | assumption | omega | (simp only [nx] <;> omega) | fail) only [aStore, ty3, writeRow, hpl, hp, hg, r0, w1, w2, w3, w4, hc, and_self, if_true, Int.toNat_natCast, Value.cells, List.length_cons, List.length_nil, Nat.zero_add, r1, r2, oneCells, List.all_cons, List.all_nil, Value.oneCell', Bool.and_self, cond_true] <;> rfl)) rfl <|
          OSuf.nil <| SQ.normal ?_
      refine W.seq <| W.reg <| 
          OSuf.aopT tyOK rfl (so_assign (by simp only [lk] <;> rfl)) (fun _ => rfl) rfl <|
          OSuf.nil <| SQ.normal ?_
      refine CWp.ret <| FQ.ret (by simp only [aRet, Try.f10, aResults, aResult, lk] <;> rfl) ?_
      -- leaf: end
      have hpr' : ¬ r = p := fun e => hpr e.symm
      refine ⟨rfl, ⟨?_, _, by simp only [AHeap.get_set_same]; rfl, opsAt_mk (by simp) hpre ?_ hpr ?_⟩, ?_, fun q hq h3 h4 => ?_⟩
      · simp only [AHeap.next_set]; exact hpn
      · simp only [AHeap.next_set]; exact hrn
      · simp (disch := first | assumption | omega | (simp only [nx] <;> omega) | fail) only [AHeap.get_set_ne, AHeap.get_set_same]
      · simp only [AHeap.next_set]; exact Nat.le_refl _
      · have h5 : ¬ r = q := fun e => h4 (by rw [e])
        simp (disch := first | assumption | omega | (simp only [nx] <;> omega) | fail) only [AHeap.get_set_ne]

/-! Prefix. -/
def pref (base : Int) : List Op → Int
  | [] => base
  | o :: l => bif o.acked then pref o.lsn l else base
def Sub (h h' : AHeap) : Prop := h.next ≤ h'.next ∧ ∀ r o, r < h.next → h.get r = some o → h'.get r = some o

theorem ops_at {h : AHeap} {p : Nat} {l : List Op} {s : Value} {R : Option Nat} (hs : OpsAt h p l s R) : ∃ b c, s = .slice b l.length c ∧ ∀ i, i < l.length → ∃ r off pre, b = some ⟨r, off, none⟩ ∧ R = some r ∧ pre.length = off ∧ r < h.next ∧ ¬ p = r ∧ h.get r = some (.cells (pre ++ flats l) 7) := by
  cases hs with
  | none e => exact ⟨none, 0, by rw [e]; rfl, fun i hi => by rw [e] at hi; simp at hi⟩
  | some hl hn hp hg => exact ⟨_, _, rfl, fun i hi => ⟨_, _, _, rfl, rfl, hl, hn, hp, hg⟩⟩

theorem prefix_c (h : AHeap) (p : Nat) (S : PS) (R : Option Nat) (hP : PA h p S R) (hbig : S.ops.length ≤ 1000000000) : FWp Try.prog 9 [P0 p] h fun u h' => u = U64 (pref S.base S.ops) ∧ h' = h := by
  obtain ⟨hpn, s, hp, hs⟩ := hP
  obtain ⟨b, c, rfl, hat⟩ := ops_at hs
  refine FWp.gcs (.flat rfl) (W.enter tyOK Try.func9 rfl rfl ?_)
  simp only [entry]
  refine W.seq <| W.reg <| 
      OSuf.aop tyOK rfl (so_assign (by simp only [lk] <;> rfl)) rfl <|
      OSuf.nil <| SQ.normal ?_
  refine W.seq <| W.seq <| W.reg <| 
      OSuf.aop tyOK rfl (so_move (by simp only [lk] <;> rfl)) rfl <|
      OSuf.aopF tyOK rfl (so_bin (by simp only [lk] <;> rfl) (by simp only [lk] <;> rfl) (bi_nil ⟨_, _, ty23, rfl⟩)) (fun _ => rfl) rfl <|
      OSuf.nil <| SQ.normal ?_
  refine W.no (by simp only [lk] <;> rfl) <| CWp.skip <| SQ.normal ?_
  refine W.seq <| W.reg <| 
      OSuf.aop tyOK rfl (so_move (by simp only [lk] <;> rfl)) rfl <|
      OSuf.aop tyOK rfl (so_nilCheck (by simp only [lk] <;> rfl)) rfl <|
      OSuf.aop tyOK rfl (so_fieldAddr (by simp only [lk] <;> rfl) (fa_ok (k := 0) ty41 rfl rfl ty25 rfl rfl)) rfl <|
      OSuf.aop tyOK rfl (so_load (by simp only [lk] <;> rfl) (by simp (disch := first | assumption | omega | (simp only [nx] <;> omega) | fail) only [aLoad, ty25, rowOf, hpl, hp] <;> rfl)) rfl <|
      OSuf.aop tyOK rfl (so_assign (by simp only [lk] <;> rfl)) rfl <|
      OSuf.nil <| SQ.normal ?_
  refine W.seq <| W.seq <| W.reg <| 
      OSuf.aop tyOK rfl (so_move (by simp only [lk] <;> rfl)) rfl <|
      OSuf.aop tyOK rfl (so_nilCheck (by simp only [lk] <;> rfl)) rfl <|
      OSuf.aop tyOK rfl (so_fieldAddr (by simp only [lk] <;> rfl) (fa_ok (k := 1) ty41 rfl rfl ty39 rfl rfl)) rfl <|
      OSuf.aop tyOK rfl (so_load (by simp only [lk] <;> rfl) (by simp (disch := first | assumption | omega | (simp only [nx] <;> omega) | fail) only [aLoad, ty39, rowOf, hpl, hp] <;> rfl)) rfl <|
      OSuf.aop tyOK rfl (so_len (by simp only [aopnds, lk] <;> rfl) (by simp (disch := first | assumption | omega | (simp only [nx] <;> omega) | fail) only [aLenOf, ty39, hpl, hp] <;> rfl)) rfl <|
      OSuf.aop tyOK rfl (so_move (by simp only [lk] <;> rfl)) rfl <|
      OSuf.nil <| SQ.normal ?_
  -- leaf: loop
  refine W.cut (fun L h' => L = [(3, U64 (pref S.base S.ops))] ∧ Sub h h') (W.block (W.loop (fun n L h' => ∃ i m, n + i = S.ops.length ∧ L = [(3, U64 m), (15, .slice b S.ops.length c), (16, I64 S.ops.length), (17, I64 (i : Nat))] ∧ pref m (S.ops.drop i) = pref S.base S.ops ∧ Sub h h')
    ⟨0, S.base, rfl, rfl, rfl, Nat.le_refl _, fun _ _ _ h => h⟩ ?_ ?_)) ?_
  · simp [HasA, Tr.get_put]
  · rintro n L h1 ⟨i, m, hn, rfl, hpre, hsub⟩
    simp only [mkA]
    by_cases hi : (i : Int) < (S.ops.length : Int)
    · have hil : i < S.ops.length := by omega
      obtain ⟨o, ho⟩ : ∃ o, S.ops[i]? = some o := ⟨S.ops[i], by simp [hil]⟩
      obtain ⟨r, off, pre, rfl, _, hl, hrn, hpr, hg⟩ := hat i hil
      have hg1 := hsub.2 r _ hrn hg
      have hc : (0 ≤ (i : Int) ∧ (i : Int) < (S.ops.length : Int)) := by omega
      have hn1 : r < h1.next := by have := hsub.1; omega
      have ro := row_op ho hl
      have sub2 : ∀ (x y : AObj), Sub h ((h1.new x).set h1.next y) := fun x y => ⟨by rw [AHeap.next_set, AHeap.next_new]; have := hsub.1; omega, fun q o hq ho => by
        have := hsub.1
        rw [AHeap.get_set, if_neg (by omega), AHeap.get_new, if_neg (by omega)]; exact hsub.2 q o hq ho⟩
      have hd : S.ops.drop i = o :: S.ops.drop (i + 1) := by rw [List.drop_eq_getElem_cons hil]; congr 1; exact (List.getElem?_eq_some_iff.1 ho).2
      rw [hd] at hpre
      simp only [pref] at hpre
      have e1 : IntKind.i64.wrap ((i : Int) + 1) = ((i + 1 : Nat) : Int) := by rw [wrap_i64 (by omega) (by omega)]; omega
      cases ha : o.acked
      · refine W.seq <| W.reg <| 
            OSuf.aopT tyOK rfl (so_bin (by simp only [lk] <;> rfl) (by simp only [lk] <;> rfl) bi_lss) (fun _ => rfl) (by first | rfl | assumption | ((simp only [bl, hc, and_self, if_true, Int.toNat_natCast, hg1, ro]) <;> first | done | assumption | omega) | (simp [hc, and_self, if_true, Int.toNat_natCast, hg1, ro]; done) | (simp [hc, and_self, if_true, Int.toNat_natCast, hg1, ro]; omega)) <|
            OSuf.nil <| SQ.normal ?_
        refine W.seq <| W.yes (by simp only [lk] <;> rfl) <| CWp.skip <| SQ.normal ?_
        refine W.seq <| W.block <| W.seq <| W.reg <| 
            OSuf.aop tyOK rfl (so_indexAddr (by simp only [lk] <;> rfl) (by simp only [lk] <;> rfl) (by simp (disch := first | assumption | omega | (simp only [nx] <;> omega) | fail) only [aIndexAddr, ty39, ty43, hpl, hc, and_self, if_true, Int.toNat_natCast, hg1, ro] <;> rfl)) rfl <|
            OSuf.aop tyOK rfl (so_load (by simp only [lk] <;> rfl) (by simp (disch := first | assumption | omega | (simp only [nx] <;> omega) | fail) only [aLoad, ty43, rowOf, hpl, hc, and_self, if_true, Int.toNat_natCast, hg1, ro] <;> rfl)) rfl <|
            OSuf.aop tyOK rfl (so_alloc (by simp only [aAlloc, ty43] <;> rfl)) rfl <|
            OSuf.aop tyOK rfl (so_store (by simp only [lk] <;> rfl) (by simp only [lk] <;> rfl) (by simp (disch := first | assumption | omega | (simp only [nx] <;> omega) | fail) only [aStore, ty43, writeRow, hpl, hc, and_self, if_true, Int.toNat_natCast, hg1, ro] <;> rfl)) rfl <|
            OSuf.nil <| SQ.normal ?_
        refine W.seq <| W.seq <| W.reg <| 
            OSuf.aop tyOK rfl (so_fieldAddr (by simp only [lk] <;> rfl) (fa_ok (k := 4) ty43 rfl rfl ty4 rfl rfl)) rfl <|
            OSuf.aopF tyOK rfl (so_load (by simp only [lk] <;> rfl) (by simp (disch := first | assumption | omega | (simp only [nx] <;> omega) | fail) only [aLoad, ty4, rowOf, hpl, hc, and_self, if_true, Int.toNat_natCast, hg1, ro] <;> rfl)) (fun _ => rfl) (ha) <|
            OSuf.aopT tyOK rfl (so_not (by simp only [lk] <;> rfl)) (fun _ => rfl) rfl <|
            OSuf.nil <| SQ.normal ?_
        refine W.yes (by simp only [lk] <;> rfl) <| CWp.exit <| SQ.exit <| BQ.out rfl <| SQ.exit <| LQ.exit <| BQ.exit <| ?_
        -- leaf: cut
        refine NQ.normal (L := [(3, U64 m)]) ?_ ⟨?_, sub2 _ _⟩
        · simp only [HasA, Tr.get_put, Nat.reduceEqDiff, reduceIte, and_self]
        · rw [← hpre, ha]; rfl
      · refine W.seq <| W.reg <| 
            OSuf.aopT tyOK rfl (so_bin (by simp only [lk] <;> rfl) (by simp only [lk] <;> rfl) bi_lss) (fun _ => rfl) (by first | rfl | assumption | ((simp only [bl, hc, and_self, if_true, Int.toNat_natCast, hg1, ro]) <;> first | done | assumption | omega) | (simp [hc, and_self, if_true, Int.toNat_natCast, hg1, ro]; done) | (simp [hc, and_self, if_true, Int.toNat_natCast, hg1, ro]; omega)) <|
            OSuf.nil <| SQ.normal ?_
        refine W.seq <| W.yes (by simp only [lk] <;> rfl) <| CWp.skip <| SQ.normal ?_
        refine W.seq <| W.block <| W.seq <| W.reg <| 
            OSuf.aop tyOK rfl (so_indexAddr (by simp only [lk] <;> rfl) (by simp only [lk] <;> rfl) (by simp (disch := first | assumption | omega | (simp only [nx] <;> omega) | fail) only [aIndexAddr, ty39, ty43, hpl, hc, and_self, if_true, Int.toNat_natCast, hg1, ro] <;> rfl)) rfl <|
            OSuf.aop tyOK rfl (so_load (by simp only [lk] <;> rfl) (by simp (disch := first | assumption | omega | (simp only [nx] <;> omega) | fail) only [aLoad, ty43, rowOf, hpl, hc, and_self, if_true, Int.toNat_natCast, hg1, ro] <;> rfl)) rfl <|
            OSuf.aop tyOK rfl (so_alloc (by simp only [aAlloc, ty43] <;> rfl)) rfl <|
            OSuf.aop tyOK rfl (so_store (by simp only [lk] <;> rfl) (by simp only [lk] <;> rfl) (by simp (disch := first | assumption | omega | (simp only [nx] <;> omega) | fail) only [aStore, ty43, writeRow, hpl, hc, and_self, if_true, Int.toNat_natCast, hg1, ro] <;> rfl)) rfl <|
            OSuf.nil <| SQ.normal ?_
        refine W.seq <| W.seq <| W.reg <| 
            OSuf.aop tyOK rfl (so_fieldAddr (by simp only [lk] <;> rfl) (fa_ok (k := 4) ty43 rfl rfl ty4 rfl rfl)) rfl <|
            OSuf.aopT tyOK rfl (so_load (by simp only [lk] <;> rfl) (by simp (disch := first | assumption | omega | (simp only [nx] <;> omega) | fail) only [aLoad, ty4, rowOf, hpl, hc, and_self, if_true, Int.toNat_natCast, hg1, ro] <;> rfl)) (fun _ => rfl) (ha) <|
            OSuf.aopF tyOK rfl (so_not (by simp only [lk] <;> rfl)) (fun _ => rfl) rfl <|
            OSuf.nil <| SQ.normal ?_
        refine W.no (by simp only [lk] <;> rfl) <| CWp.skip <| SQ.normal ?_
        refine W.reg <| 
            OSuf.aop tyOK rfl (so_fieldAddr (by simp only [lk] <;> rfl) (fa_ok (k := 0) ty43 rfl rfl ty29 rfl rfl)) rfl <|
            OSuf.aop tyOK rfl (so_fieldAddr (by simp only [lk] <;> rfl) (fa_ok (k := 1) ty29 rfl rfl ty25 rfl rfl)) rfl <|
            OSuf.aop tyOK rfl (so_load (by simp only [lk] <;> rfl) (by simp (disch := first | assumption | omega | (simp only [nx] <;> omega) | fail) only [aLoad, ty25, rowOf, hpl, hc, and_self, if_true, Int.toNat_natCast, hg1, ro] <;> rfl)) rfl <|
            OSuf.aop tyOK rfl (so_assign (by simp only [lk] <;> rfl)) rfl <|
            OSuf.nil <| BQ.normal <| SQ.normal ?_
        refine W.reg <| 
            OSuf.aop tyOK rfl (so_bin (by simp only [lk] <;> rfl) (by simp only [lk] <;> rfl) (bi_w bi_add rfl)) rfl <|
            OSuf.aop tyOK rfl (so_move (by simp only [lk] <;> rfl)) rfl <|
            OSuf.nil <| ?_
        -- leaf: round
        refine LQ.normal (m := n - 1) (L := [(3, U64 o.lsn), (15, .slice (some ⟨r, off, none⟩) S.ops.length c), (16, I64 S.ops.length), (17, I64 ((i + 1 : Nat) : Int))]) (by omega) ?_ ⟨i + 1, o.lsn, by omega, rfl, ?_, sub2 _ _⟩
        · simp only [HasA, Tr.get_put, Nat.reduceEqDiff, reduceIte, e1, and_self]
        · rw [← hpre, ha]; rfl
    · refine W.seq <| W.reg <| 
          OSuf.aopF tyOK rfl (so_bin (by simp only [lk] <;> rfl) (by simp only [lk] <;> rfl) bi_lss) (fun _ => rfl) (by first | rfl | assumption | ((simp only [bl]) <;> first | done | assumption | omega) | (simp []; done) | (simp []; omega)) <|
          OSuf.nil <| SQ.normal ?_
      refine W.seq <| W.no (by simp only [lk] <;> rfl) <| CWp.exit <| SQ.exit <| LQ.exit <| BQ.exit <| ?_
      -- leaf: cut
      refine NQ.normal (L := [(3, U64 m)]) ?_ ⟨?_, hsub⟩
      · simp only [HasA, Tr.get_put, Nat.reduceEqDiff, reduceIte, and_self]
      · rw [← hpre, List.drop_of_length_le (by omega)]; rfl
  · rintro L a' h' ha ⟨rfl, hsub⟩
    refine SQ.normal <| CWp.known ha ?_
    simp only [mkA]
    refine W.seq <| W.reg <| 
        OSuf.aop tyOK rfl (so_move (by simp only [lk] <;> rfl)) rfl <|
        OSuf.aop tyOK rfl (so_assign (by simp only [lk] <;> rfl)) rfl <|
        OSuf.nil <| SQ.normal ?_
    refine CWp.ret <| FQ.ret (by simp only [aRet, Try.f9, aResults, aResult, lk] <;> rfl) ?_
    -- leaf: end
    exact ⟨rfl, hsub.2⟩
end Go.Proofs.Ythjeoohlknajpaa
