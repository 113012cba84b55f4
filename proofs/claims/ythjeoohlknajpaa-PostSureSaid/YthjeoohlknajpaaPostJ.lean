/-
  Contracts of the package post: Again.
-/
import Derived.Test.YthjeoohlknajpaaPostL
import Derived.Test.YthjeoohlknajpaaAb34
namespace Go.Proofs.Ythjeoohlknajpaa
open Go.Ab
set_option linter.unusedSimpArgs false
set_option linter.unusedVariables false
set_option maxRecDepth 10000
set_option maxHeartbeats 4000000

theorem opsAt_np {h : AHeap} {p : Nat} {l : List Op} {s : Value} {R : Option Nat} (hs : OpsAt h p l s R) : ¬ R = some p := fun e => by
  cases hs with
  | none => cases e
  | some hl hn hp hg => cases e; exact hp rfl
theorem opsAt_frame {h h' : AHeap} {p : Nat} {l : List Op} {s : Value} {R : Option Nat} (hs : OpsAt h p l s R) (hn : h.next ≤ h'.next) (hk : ∀ r, R = some r → h'.get r = h.get r) : OpsAt h' p l s R := by
  cases hs with
  | none e => exact .none e
  | some hl hx hp hg => exact .some hl (by omega) hp (by rw [hk _ rfl]; exact hg)
theorem opsAt_cap {h : AHeap} {p : Nat} {l : List Op} {s : Value} {R : Option Nat} (hs : OpsAt h p l s R) : ∀ b n c, s = .slice b n c → c = 0 := by
  intro b n c e
  cases hs with
  | none => cases e; rfl
  | some hl hn hp hg => cases e; rfl
def anew (o : Op) : Op := { o with acked := false, sent := false }
theorem again_c (h : AHeap) (p : Nat) (S : PS) (R : Option Nat) (hP : PA h p S R) (hlen : S.ops.length ≤ 1000000) :
    FWp Try.prog 11 [P0 p] h fun u h' => PA h' p ⟨S.base, S.ops.map anew, S.ops.length⟩ R ∧ Fr h h' p R := by
  obtain ⟨hpn, s, hp, hs⟩ := hP
  have hRp := opsAt_np hs
  obtain ⟨b, c, rfl, hat⟩ := ops_at hs
  obtain rfl := opsAt_cap hs _ _ _ rfl
  refine W.enter tyOK Try.func11 rfl rfl ?_
  simp only [entry]
  refine W.seq <| W.seq <| W.reg <| 
      OSuf.aop tyOK rfl (so_move (by simp only [lk] <;> rfl)) rfl <|
      OSuf.aopF tyOK rfl (so_bin (by simp only [lk] <;> rfl) (by simp only [lk] <;> rfl) (bi_nil ⟨_, _, ty23, rfl⟩)) (fun _ => rfl) rfl <|
      OSuf.nil <| SQ.normal ?_
  refine W.no (by simp only [lk] <;> rfl) <| CWp.skip <| SQ.normal ?_
  refine W.seq <| W.seq <| W.reg <| 
      OSuf.aop tyOK rfl (so_move (by simp only [lk] <;> rfl)) rfl <|
      OSuf.aop tyOK rfl (so_nilCheck (by simp only [lk] <;> rfl)) rfl <|
      OSuf.aop tyOK rfl (so_fieldAddr (by simp only [lk] <;> rfl) (fa_ok (k := 1) ty41 rfl rfl ty39 rfl rfl)) rfl <|
      OSuf.aop tyOK rfl (so_load (by simp only [lk] <;> rfl) (by simp (disch := first | assumption | omega | (simp only [nx] <;> omega) | fail) only [aLoad, ty39, rowOf, hpl, hp] <;> rfl)) rfl <|
      OSuf.aop tyOK rfl (so_len (by simp only [aopnds, lk] <;> rfl) (by simp (disch := first | assumption | omega | (simp only [nx] <;> omega) | fail) only [aLenOf, ty39, hpl, hp] <;> rfl)) rfl <|
      OSuf.aop tyOK rfl (so_move (by simp only [lk] <;> rfl)) rfl <|
      OSuf.nil <| SQ.normal ?_
  -- leaf: loop
  refine W.cut (fun L h' => PA h' p ⟨S.base, S.ops.map anew, S.waits⟩ R ∧ Fr h h' p R ∧ h'.get p = h.get p ∧ L = [(0, P0 p)]) (W.block (W.loop (fun n L h' => ∃ i, n + i = S.ops.length ∧ h'.next = h.next ∧ (∀ q, ¬ R = some q → h'.get q = h.get q) ∧ OpsAt h' p ((S.ops.take i).map anew ++ S.ops.drop i) (.slice b S.ops.length 0) R ∧
      L = [(0, P0 p), (9, I64 S.ops.length), (10, I64 (i : Nat))]) (n := S.ops.length) ⟨0, rfl, rfl, fun _ _ => rfl, by simpa using hs, rfl⟩ ?_ ?_)) ?_
  · simp [HasA, Tr.get_put]
  · rintro n L h1 ⟨i, hn, hnx, hfr, hO, rfl⟩
    simp only [mkA]
    have hp1 : h1.get p = some (.cells [U64 S.base, .slice b S.ops.length 0, I64 S.waits] 1) := by rw [hfr p hRp]; exact hp
    by_cases hi : (i : Int) < (S.ops.length : Int)
    · have hil : i < S.ops.length := by omega
      obtain ⟨o, ho⟩ : ∃ o, S.ops[i]? = some o := ⟨S.ops[i], by simp [hil]⟩
      have hd : S.ops.drop i = o :: S.ops.drop (i + 1) := by rw [List.drop_eq_getElem_cons hil]; congr 1; exact (List.getElem?_eq_some_iff.1 ho).2
      have ht : S.ops.take (i + 1) = S.ops.take i ++ [o] := by rw [List.take_add_one, ho]; rfl
      have hc : (0 ≤ (i : Int) ∧ (i : Int) < (S.ops.length : Int)) := by omega
      have hcl : ((S.ops.take i).map anew ++ S.ops.drop i).length = S.ops.length := by simp; omega
      have htl : ((S.ops.take i).map anew).length = i := by simp; omega
      have hco : ((S.ops.take i).map anew ++ S.ops.drop i)[i]? = some o := by rw [List.getElem?_append_right (by omega), hd, htl]; simp
      generalize hcur : (S.ops.take i).map anew ++ S.ops.drop i = cur at *
      obtain ⟨b', c', hbc, hat1⟩ := ops_at hO
      simp only [Value.slice.injEq] at hbc
      obtain ⟨rfl, hlc, hc0⟩ := hbc
      obtain ⟨r, off, pre, rfl, rfl, hl, hrn, hpr, hg⟩ := hat1 i (by omega)
      have hpr' : ¬ r = p := fun e => hpr e.symm
      have s1 : splice (pre ++ flats cur) (off + i * 7 + 4) [.bool false] = pre ++ flats (cur.set i { o with acked := false }) := row_set hco hl (by omega) rfl
      have b1 : Nat.ble (off + i * 7 + 4 + 1) (pre ++ flats cur).length = true := row_ble hl (by omega) (by omega)
      have ho1 : (cur.set i { o with acked := false })[i]? = some { o with acked := false } := by rw [List.getElem?_set_self]; omega
      have s2 : splice (pre ++ flats (cur.set i { o with acked := false })) (off + i * 7 + 5) [.bool false] = pre ++ flats (cur.set i (anew o)) := by
        rw [row_set (o' := anew o) ho1 hl (by omega) rfl, List.set_set]
      have b2 : Nat.ble (off + i * 7 + 5 + 1) (pre ++ flats (cur.set i { o with acked := false })).length = true := row_ble hl (by simp; omega) (by omega)
      have e1 : IntKind.i64.wrap ((i : Int) + 1) = ((i + 1 : Nat) : Int) := by rw [wrap_i64 (by omega) (by omega)]; omega
      refine W.seq <| W.reg <| 
          OSuf.aopT tyOK rfl (so_bin (by simp only [lk] <;> rfl) (by simp only [lk] <;> rfl) bi_lss) (fun _ => rfl) (by first | rfl | assumption | ((simp only [bl, hc, and_self, if_true, Int.toNat_natCast, hp1, hg, s1, b1, s2, b2, Value.cells, List.length_cons, List.length_nil, Nat.zero_add, oneCells, List.all_cons, List.all_nil, Value.oneCell', Bool.and_self, cond_true]) <;> first | done | assumption | omega) | (simp [hc, and_self, if_true, Int.toNat_natCast, hp1, hg, s1, b1, s2, b2, Value.cells, List.length_cons, List.length_nil, Nat.zero_add, oneCells, List.all_cons, List.all_nil, Value.oneCell', Bool.and_self, cond_true]; done) | (simp [hc, and_self, if_true, Int.toNat_natCast, hp1, hg, s1, b1, s2, b2, Value.cells, List.length_cons, List.length_nil, Nat.zero_add, oneCells, List.all_cons, List.all_nil, Value.oneCell', Bool.and_self, cond_true]; omega)) <|
          OSuf.nil <| SQ.normal ?_
      refine W.seq <| W.yes (by simp only [lk] <;> rfl) <| CWp.skip <| SQ.normal ?_
      refine W.seq <| W.block <| W.seq <| W.reg <| 
          OSuf.aop tyOK rfl (so_move (by simp only [lk] <;> rfl)) rfl <|
          OSuf.aop tyOK rfl (so_assign (by simp only [lk] <;> rfl)) rfl <|
          OSuf.nil <| SQ.normal ?_
      refine W.regD tyOK mixed (by kernel_rfl) <| 
          SqW.aop rfl (so_move (by simp only [lk] <;> rfl)) rfl <|
          SqW.aop rfl (so_nilCheck (by simp only [lk] <;> rfl)) rfl <|
          SqW.aop rfl (so_fieldAddr (by simp only [lk] <;> rfl) (fa_ok (k := 1) ty41 rfl rfl ty39 rfl rfl)) rfl <|
          SqW.aop rfl (so_load (by simp only [lk] <;> rfl) (by simp (disch := first | assumption | omega | (simp only [nx] <;> omega) | fail) only [aLoad, ty39, rowOf, hpl, hc, and_self, if_true, Int.toNat_natCast, hp1, hg, s1, b1, s2, b2, Value.cells, List.length_cons, List.length_nil, Nat.zero_add, oneCells, List.all_cons, List.all_nil, Value.oneCell', Bool.and_self, cond_true] <;> rfl)) rfl <|
          SqW.aop rfl (so_move (by simp only [lk] <;> rfl)) rfl <|
          SqW.aop rfl (so_move (by simp only [lk] <;> rfl)) rfl <|
          SqW.aop rfl (so_nilCheck (by simp only [lk] <;> rfl)) rfl <|
          SqW.aop rfl (so_fieldAddr (by simp only [lk] <;> rfl) (fa_ok (k := 1) ty41 rfl rfl ty39 rfl rfl)) rfl <|
          SqW.aop rfl (so_load (by simp only [lk] <;> rfl) (by simp (disch := first | assumption | omega | (simp only [nx] <;> omega) | fail) only [aLoad, ty39, rowOf, hpl, hc, and_self, if_true, Int.toNat_natCast, hp1, hg, s1, b1, s2, b2, Value.cells, List.length_cons, List.length_nil, Nat.zero_add, oneCells, List.all_cons, List.all_nil, Value.oneCell', Bool.and_self, cond_true] <;> rfl)) rfl <|
          SqW.aop rfl (so_move (by simp only [lk] <;> rfl)) rfl <|
          SqW.aop rfl (so_indexAddr (by simp only [lk] <;> rfl) (by simp only [lk] <;> rfl) (by simp (disch := first | assumption | omega | (simp only [nx] <;> omega) | fail) only [aIndexAddr, ty39, ty43, hpl, hc, and_self, if_true, Int.toNat_natCast, hp1, hg, s1, b1, s2, b2, Value.cells, List.length_cons, List.length_nil, Nat.zero_add, oneCells, List.all_cons, List.all_nil, Value.oneCell', Bool.and_self, cond_true] <;> rfl)) rfl <|
          SqW.aop rfl (so_fieldAddr (by simp only [lk] <;> rfl) (fa_ok (k := 4) ty43 rfl rfl ty4 rfl rfl)) rfl <|
          SqW.aop rfl (so_store (by simp only [lk] <;> rfl) (by simp only [lk] <;> rfl) (by simp (disch := first | assumption | omega | (simp only [nx] <;> omega) | fail) only [aStore, ty4, writeRow, hpl, hc, and_self, if_true, Int.toNat_natCast, hp1, hg, s1, b1, s2, b2, Value.cells, List.length_cons, List.length_nil, Nat.zero_add, oneCells, List.all_cons, List.all_nil, Value.oneCell', Bool.and_self, cond_true] <;> rfl)) rfl <|
          SqW.aop rfl (so_indexAddr (by simp only [lk] <;> rfl) (by simp only [lk] <;> rfl) (by simp (disch := first | assumption | omega | (simp only [nx] <;> omega) | fail) only [aIndexAddr, ty39, ty43, hpl, hc, and_self, if_true, Int.toNat_natCast, hp1, hg, s1, b1, s2, b2, Value.cells, List.length_cons, List.length_nil, Nat.zero_add, oneCells, List.all_cons, List.all_nil, Value.oneCell', Bool.and_self, cond_true] <;> rfl)) rfl <|
          SqW.aop rfl (so_fieldAddr (by simp only [lk] <;> rfl) (fa_ok (k := 5) ty43 rfl rfl ty4 rfl rfl)) rfl <|
          SqW.aop rfl (so_store (by simp only [lk] <;> rfl) (by simp only [lk] <;> rfl) (by simp (disch := first | assumption | omega | (simp only [nx] <;> omega) | fail) only [aStore, ty4, writeRow, hpl, hc, and_self, if_true, Int.toNat_natCast, hp1, hg, s1, b1, s2, b2, Value.cells, List.length_cons, List.length_nil, Nat.zero_add, oneCells, List.all_cons, List.all_nil, Value.oneCell', Bool.and_self, cond_true] <;> rfl)) rfl <|
          SqW.nil <| BQ.normal <| SQ.normal ?_
      refine W.reg <| 
          OSuf.aop tyOK rfl (so_bin (by simp only [lk] <;> rfl) (by simp only [lk] <;> rfl) (bi_w bi_add (by first | (simp only [e1] <;> rfl) | rfl))) rfl <|
          OSuf.aop tyOK rfl (so_move (by simp only [lk] <;> rfl)) rfl <|
          OSuf.nil <| ?_
      -- leaf: round
      refine LQ.normal (m := n - 1) (L := [(0, P0 p), (9, I64 S.ops.length), (10, I64 ((i + 1 : Nat) : Int))]) (by omega) ?_ ⟨i + 1, by omega, ?_, fun q hq => ?_, ?_, rfl⟩
      · simp only [HasA, Tr.get_put, Nat.reduceEqDiff, reduceIte, e1, and_self]
      · simp only [nx]; exact hnx
      · have : ¬ r = q := fun e => hq (by rw [e])
        simp (disch := first | assumption | omega | (simp only [nx] <;> omega) | fail) only [hpl]; exact hfr q hq
      · have e2 : (S.ops.take (i + 1)).map anew ++ S.ops.drop (i + 1) = cur.set i (anew o) := by
          rw [← hcur, hd, List.set_append_right _ _ (by omega), htl, ht]; simp
        rw [e2]
        exact opsAt_mk (by simp [hlc]) hl (by simp only [nx]; exact hrn) hpr (by simp (disch := first | assumption | omega | (simp only [nx] <;> omega) | fail) only [hpl])
    · refine W.seq <| W.reg <| 
          OSuf.aopF tyOK rfl (so_bin (by simp only [lk] <;> rfl) (by simp only [lk] <;> rfl) bi_lss) (fun _ => rfl) (by first | rfl | assumption | ((simp only [bl]) <;> first | done | assumption | omega) | (simp []; done) | (simp []; omega)) <|
          OSuf.nil <| SQ.normal ?_
      refine W.seq <| W.no (by simp only [lk] <;> rfl) <| CWp.exit <| SQ.exit <| LQ.exit <| BQ.exit <| ?_
      -- leaf: cut
      have : (S.ops.take i).map anew ++ S.ops.drop i = S.ops.map anew := by
        rw [List.drop_of_length_le (by omega), List.take_of_length_le (by omega), List.append_nil]
      rw [this] at hO
      refine NQ.normal (L := [(0, P0 p)]) ?_ ⟨⟨by omega, _, hp1, hO⟩, ⟨by omega, fun q _ _ h9 => hfr q h9⟩, by rw [hp1, hp], rfl⟩
      simp only [HasA, Tr.get_put, Nat.reduceEqDiff, reduceIte, and_self]
  · rintro L a' h' ha ⟨hP1, hF1, hgp, rfl⟩
    rw [hp] at hgp
    obtain ⟨hpn1, s1, hp1, hs1⟩ := hP1
    have : s1 = .slice b S.ops.length 0 := by rw [hgp] at hp1; simp at hp1; exact hp1.symm
    subst this
    refine SQ.normal <| CWp.known ha ?_
    simp only [mkA]
    refine W.reg <| 
        OSuf.aop tyOK rfl (so_move (by simp only [lk] <;> rfl)) rfl <|
        OSuf.aop tyOK rfl (so_move (by simp only [lk] <;> rfl)) rfl <|
        OSuf.aop tyOK rfl (so_nilCheck (by simp only [lk] <;> rfl)) rfl <|
        OSuf.aop tyOK rfl (so_fieldAddr (by simp only [lk] <;> rfl) (fa_ok (k := 1) ty41 rfl rfl ty39 rfl rfl)) rfl <|
        OSuf.aop tyOK rfl (so_load (by simp only [lk] <;> rfl) (by simp (disch := first | assumption | omega | (simp only [nx] <;> omega) | fail) only [aLoad, ty39, rowOf, hpl, hgp, Value.cells] <;> rfl)) rfl <|
        OSuf.aop tyOK rfl (so_len (by simp only [aopnds, lk] <;> rfl) (by simp (disch := first | assumption | omega | (simp only [nx] <;> omega) | fail) only [aLenOf, ty39, hpl, hgp, Value.cells] <;> rfl)) rfl <|
        OSuf.aop tyOK rfl (so_nilCheck (by simp only [lk] <;> rfl)) rfl <|
        OSuf.aop tyOK rfl (so_fieldAddr (by simp only [lk] <;> rfl) (fa_ok (k := 2) ty41 rfl rfl ty3 rfl rfl)) rfl <|
        OSuf.aop tyOK rfl (so_store (by simp only [lk] <;> rfl) (by simp only [lk] <;> rfl) (by simp (disch := first | assumption | omega | (simp only [nx] <;> omega) | fail) only [aStore, ty3, writeRow, hpl, hgp, Value.cells] <;> rfl)) rfl <|
        OSuf.nil <| FQ.normal (by simp only [aRet, Try.f11, aResults, aResult, lk, Nat.reduceEqDiff, reduceIte] <;> rfl) ?_
    -- leaf: end
    refine ⟨⟨by simp only [nx]; exact hpn1, _, by simp (disch := first | assumption | omega | (simp only [nx] <;> omega) | fail) only [hpl]; rfl, ?_⟩, ⟨by simp only [nx]; exact hF1.1, fun q hq h1 h2 => ?_⟩⟩
    · refine opsAt_frame hs1 (by simp only [nx]; exact Nat.le_refl _) fun r hr => ?_
      have : ¬ p = r := fun e => hRp (by rw [hr, e])
      simp (disch := first | assumption | omega | (simp only [nx] <;> omega) | fail) only [hpl]
    · simp (disch := first | assumption | omega | (simp only [nx] <;> omega) | fail) only [hpl]; exact hF1.2 q hq h1 h2
end Go.Proofs.Ythjeoohlknajpaa
