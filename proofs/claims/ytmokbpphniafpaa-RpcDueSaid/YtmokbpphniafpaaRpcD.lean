/-
  Contracts of the package rpc: Due.
-/
import Derived.Test.YtmokbpphniafpaaRpcC
namespace Go.Proofs.Ytmokbpphniafpaa
open Go.Ab
set_option linter.unusedSimpArgs false
set_option linter.unusedVariables false
set_option maxRecDepth 10000
set_option maxHeartbeats 4000000

def dueq (now : Int) (q : Qn) : Bool := !(q.asked && (decide (now < q.at_) || decide (now - q.at_ < 8)))
def stampq (now : Int) (q : Qn) : Qn := bif dueq now q then { q with asked := true, at_ := now } else q
def dueL (now : Int) (qs : List Qn) : List Msg := (qs.filter (dueq now)).map Qn.msg
def flatsM : List Msg → List Value
  | [] => []
  | m :: l => m.cs ++ flatsM l
theorem flatsM_length : ∀ l : List Msg, (flatsM l).length = l.length * 13
  | [] => rfl
  | o :: l => by simp only [flatsM, List.length_append, flatsM_length l, List.length_cons, Msg.cs, List.length_nil]; omega
theorem flatsM_append : ∀ l m : List Msg, flatsM (l ++ m) = flatsM l ++ flatsM m
  | [], m => rfl
  | o :: l, m => by simp only [flatsM, List.cons_append, flatsM_append l m, List.append_assoc]
inductive MsgsAt (h : AHeap) (lo : Nat) (rs : List Msg) : Value → Prop
  | none (e : rs = []) : MsgsAt h lo rs (.slice none 0 0)
  | some {x n : Nat} (hne : rs ≠ []) (e : n = rs.length) (hlo : lo ≤ x) (hx : x < h.next) (hg : h.get x = .some (.cells (flatsM rs) 13)) : MsgsAt h lo rs (.slice (.some ⟨x, 0, .none⟩) n 0)

/-- One question, when it is its turn: c holds now, o what is due so far. -/
theorem due1_c (h : AHeap) (q : Qn) (c o lo : Nat) (now : Int) (rs : List Msg) (ov : Value) (hq : q.row < lo) (hc : c < lo) (ho : o < lo) (hlo : lo ≤ h.next) (hco : ¬ c = o) (hcq : ¬ c = q.row) (hoq : ¬ o = q.row)
    (hg : h.get q.row = some (.cells q.cs 1)) (hgc : h.get c = some (.cells [U64 now] 1)) (hgo : h.get o = some (.cells [ov] 1)) (hms : MsgsAt h lo rs ov) (hrl : rs.length ≤ 1000000)
    (hn0 : 0 ≤ now) (hn1 : now < 18446744073709551616) (ha0 : 0 ≤ q.at_) (ha1 : q.at_ < 18446744073709551616) :
    FWp Try.prog 26 [P0 q.row, P0 c, P0 o] h fun u h' => h'.get q.row = some (.cells (stampq now q).cs 1) ∧ (∃ ov', h'.get o = some (.cells [ov'] 1) ∧ MsgsAt h' lo (rs ++ bif dueq now q then [q.msg] else []) ov') ∧ h.next ≤ h'.next ∧ ∀ z, z < lo → ¬ z = o → ¬ z = q.row → h'.get z = h.get z := by
  have g4 : h.get q.row = some (.cells [I64 q.msg.kind, U64 q.msg.te, U64 q.msg.di, U64 q.msg.id, U64 q.msg.lsn, U64 q.msg.low, .string q.msg.key, .string q.msg.hi, .bool q.msg.del, .bool q.msg.found, .string q.msg.val, .slice none 0 0, I64 q.msg.err, .bool q.asked, U64 q.at_] 1) := hg
  have hqn : q.row < h.next := by omega
  have hcn : c < h.next := by omega
  have hon : o < h.next := by omega
  have hqc : ¬ q.row = c := fun e => hcq e.symm
  have hqo : ¬ q.row = o := fun e => hoq e.symm
  have hoc : ¬ o = c := fun e => hco e.symm
  refine W.enter tyOK Try.func26 rfl rfl ?_
  simp only [entry]
  have keep : dueq now q = false → (h.get q.row = some (.cells (stampq now q).cs 1) ∧ (∃ ov', h.get o = some (.cells [ov'] 1) ∧ MsgsAt h lo (rs ++ bif dueq now q then [q.msg] else []) ov') ∧ h.next ≤ h.next ∧ ∀ z, z < lo → ¬ z = o → ¬ z = q.row → h.get z = h.get z) := fun e => by
    refine ⟨by simp [stampq, e, hg], ⟨ov, hgo, by simpa [e] using hms⟩, Nat.le_refl _, fun _ _ _ _ => rfl⟩
  cases hs : q.asked
  · have w1 : True := trivial
    have hdq : dueq now q = true := by simp [dueq, hs]
    have st : stampq now q = { q with asked := true, at_ := now } := by simp [stampq, hdq]
    rw [st, hdq, cond_true]
    cases hms with
    | none e =>
      refine W.seq <| W.seq <| W.regD tyOK mixed (by kernel_rfl) <| 
          SqW.aop rfl (so_move (by simp only [lk] <;> rfl)) rfl <|
          SqW.aop rfl (so_nilCheck (by simp only [lk] <;> rfl)) rfl <|
          SqW.aop rfl (so_fieldAddr (by simp only [lk] <;> rfl) (fa_ok (k := 13) ty62 rfl rfl ty4 rfl rfl)) rfl <|
          SqW.aopF rfl (so_load (by simp only [lk] <;> rfl) (by simp (disch := first | assumption | omega | (simp only [nx] <;> omega) | fail) only [aLoad, ty4, rowOf, hpl, g4, hgc, hgo, Value.cells] <;> rfl)) (fun _ => rfl) (hs) <|
          SqW.aopF rfl (so_move (by simp only [lk] <;> rfl)) (fun _ => rfl) rfl <|
          SqW.pass (aguard_of rfl rfl (by simp only [lk] <;> rfl) rfl) rfl <|
          SqW.pass (aguard_of rfl rfl (by simp only [lk] <;> rfl) rfl) rfl <|
          SqW.pass (aguard_of rfl rfl (by simp only [lk] <;> rfl) rfl) rfl <|
          SqW.pass (aguard_of rfl rfl (by simp only [lk] <;> rfl) rfl) rfl <|
          SqW.pass (aguard_of rfl rfl (by simp only [lk] <;> rfl) rfl) rfl <|
          SqW.pass (aguard_of rfl rfl (by simp only [lk] <;> rfl) rfl) rfl <|
          SqW.pass (aguard_of rfl rfl (by simp only [lk] <;> rfl) rfl) rfl <|
          SqW.pass (aguard_un rfl rfl (by simp only [lk] <;> rfl)) rfl <|
          SqW.pass (aguard_un rfl rfl (by simp only [lk] <;> rfl)) rfl <|
          SqW.pass (aguard_un rfl rfl (by simp only [lk] <;> rfl)) rfl <|
          SqW.pass (aguard_un rfl rfl (by simp only [lk] <;> rfl)) rfl <|
          SqW.pass (aguard_un rfl rfl (by simp only [lk] <;> rfl)) rfl <|
          SqW.pass (aguard_un rfl rfl (by simp only [lk] <;> rfl)) rfl <|
          SqW.pass (aguard_un rfl rfl (by simp only [lk] <;> rfl)) rfl <|
          SqW.pass (aguard_of rfl rfl (by simp only [lk] <;> rfl) rfl) rfl <|
          SqW.aopF rfl (so_pick (by simp only [lk] <;> rfl) (by simp only [lk, cond_true, cond_false] <;> rfl)) (fun _ => rfl) rfl <|
          SqW.nil <| SQ.normal ?_
      refine W.no (by simp only [lk] <;> rfl) <| CWp.skip <| SQ.normal ?_
      refine W.seq <| CWp.sqd tyOK mixed (ms := [0, 0, 0, 1, 9, 25, 63, 127, 255]) (by kernel_rfl) (
          .free rfl rfl (so_move (by simp only [lk] <;> rfl)) rfl <|
          .free rfl rfl (so_move (by simp only [lk] <;> rfl)) rfl <|
          .read rfl rfl (so_load (by simp only [lk] <;> rfl) (by simp (disch := first | assumption | omega | (simp only [nx] <;> omega) | fail) only [aLoad, ty27, rowOf, hpl, g4, hgc, hgo, Value.cells] <;> rfl)) (by first | rfl | (simp [veq, veq1, veqs]; done) | (simp [veq, veq1, veqs, splice]; done)) trivial rfl <|
          .free rfl rfl (so_nilCheck (by simp only [lk] <;> rfl)) rfl <|
          .free rfl rfl (so_fieldAddr (by simp only [lk] <;> rfl) (fa_ok (k := 13) ty62 rfl rfl ty4 rfl rfl)) rfl <|
          .change rfl rfl (so_store (by simp only [lk] <;> rfl) (by simp only [lk] <;> rfl) (by simp (disch := first | assumption | omega | (simp only [nx] <;> omega) | fail) only [aStore, ty4, writeRow, hpl, g4, hgc, hgo, Value.cells] <;> rfl)) rfl ⟨.inr (so_load (by simp only [lk] <;> rfl) (by simp (disch := first | assumption | omega | (simp only [nx] <;> omega) | fail) only [aLoad, ty27, rowOf, hpl, g4, hgc, hgo, Value.cells] <;> rfl)), trivial⟩ rfl <|
          .free rfl rfl (so_nilCheck (by simp only [lk] <;> rfl)) rfl <|
          .free rfl rfl (so_fieldAddr (by simp only [lk] <;> rfl) (fa_ok (k := 14) ty62 rfl rfl ty27 rfl rfl)) rfl <|
          .change rfl rfl (so_store (by simp only [lk] <;> rfl) (by simp only [lk] <;> rfl) (by simp (disch := first | assumption | omega | (simp only [nx] <;> omega) | fail) only [aStore, ty27, writeRow, hpl, g4, hgc, hgo, Value.cells] <;> rfl)) rfl ⟨.inl rfl, trivial⟩ rfl <|
          .nil) <| SQ.normal ?_
      refine CWp.sqd tyOK mixed (ms := [0, 0, 2, 6, 14, 30, 63, 127]) (by kernel_rfl) (
          .read rfl rfl (so_load (by simp only [lk] <;> rfl) (by simp (disch := first | assumption | omega | (simp only [nx] <;> omega) | fail) only [aLoad, ty41, rowOf, hpl, g4, hgc, hgo, Value.cells] <;> rfl)) (by first | rfl | (simp [veq, veq1, veqs]; done) | (simp [veq, veq1, veqs, splice]; done)) trivial rfl <|
          .free rfl rfl (so_move (by simp only [lk] <;> rfl)) rfl <|
          .free rfl rfl (so_nilCheck (by simp only [lk] <;> rfl)) rfl <|
          .free rfl rfl (so_fieldAddr (by simp only [lk] <;> rfl) (fa_ok (k := 0) ty62 rfl rfl ty33 rfl rfl)) rfl <|
          .read rfl rfl (so_load (by simp only [lk] <;> rfl) (by simp (disch := first | assumption | omega | (simp only [nx] <;> omega) | fail) only [aLoad, ty33, rowOf, hpl, g4, hgc, hgo, Value.cells] <;> rfl)) (by first | rfl | (simp [veq, veq1, veqs]; done) | (simp [veq, veq1, veqs, splice]; done)) trivial rfl <|
          .change rfl rfl (so_buildSlice (by simp only [aparts, lk] <;> rfl) (by simp (disch := first | assumption | omega | (simp only [nx] <;> omega) | fail) only [aBuildSlice, ty41, ty33, hpl, g4, hgc, hgo, Value.cells] <;> rfl)) rfl ⟨.inl rfl, .inr (so_load (by simp only [lk] <;> rfl) (by simp (disch := first | assumption | omega | (simp only [nx] <;> omega) | fail) only [aLoad, ty41, rowOf, hpl, g4, hgc, hgo, Value.cells] <;> rfl)), trivial⟩ rfl <|
          .change rfl rfl (so_append (by simp only [aopnds, lk] <;> rfl) (ap_0 (by simp only [appT, ty41, ty33] <;> rfl) rfl (by simp (disch := first | assumption | omega | (simp only [nx] <;> omega) | fail) only [aCells, rowOf, hpl, g4, hgc, hgo, Value.cells] <;> rfl) (by decide) rfl)) rfl ⟨.inl rfl, .inl rfl, trivial⟩ rfl <|
          .change rfl rfl (so_store (by simp only [lk] <;> rfl) (by simp only [lk] <;> rfl) (by simp (disch := first | assumption | omega | (simp only [nx] <;> omega) | fail) only [aStore, ty41, writeRow, hpl, g4, hgc, hgo, Value.cells] <;> rfl)) rfl ⟨.inl rfl, .inl rfl, trivial⟩ rfl <|
          .nil) <| FQ.normal (by simp only [aRet, Try.f26, aResults, aResult, lk, Nat.reduceEqDiff, reduceIte] <;> rfl) ?_
      -- leaf: end
      refine ⟨?_, ⟨.slice (some ⟨h.next + 1, 0, none⟩) 1 0, ?_, .some (x := h.next + 1) (by simp) ?_ ?_ ?_ ?_⟩, ?_, fun z hz a b => ?_⟩
      · simp (disch := first | assumption | omega | (simp only [nx] <;> omega) | fail) only [hpl]; rfl
      · simp (disch := first | assumption | omega | (simp only [nx] <;> omega) | fail) only [hpl]; rfl
      · simp [e]
      · omega
      · simp only [nx]; omega
      · simp (disch := first | assumption | omega | (simp only [nx] <;> omega) | fail) only [hpl]; simp [e, flatsM]; rfl
      · simp only [nx]; omega
      · have a' : ¬ o = z := fun e => a e.symm
        have b' : ¬ q.row = z := fun e => b e.symm
        simp (disch := first | assumption | omega | (simp only [nx] <;> omega) | fail) only [hpl]
    | @some x1 n1 ne e e1 e2 e3 =>
      have hcl : cellsOf (flatsM rs) 0 (n1 * 13) = some (flatsM rs) := cellsOf_all (by rw [e, flatsM_length])
      have hn1 : n1 ≤ 1000000 := by omega
      refine W.seq <| W.seq <| W.regD tyOK mixed (by kernel_rfl) <| 
          SqW.aop rfl (so_move (by simp only [lk] <;> rfl)) rfl <|
          SqW.aop rfl (so_nilCheck (by simp only [lk] <;> rfl)) rfl <|
          SqW.aop rfl (so_fieldAddr (by simp only [lk] <;> rfl) (fa_ok (k := 13) ty62 rfl rfl ty4 rfl rfl)) rfl <|
          SqW.aopF rfl (so_load (by simp only [lk] <;> rfl) (by simp (disch := first | assumption | omega | (simp only [nx] <;> omega) | fail) only [aLoad, ty4, rowOf, hpl, g4, hgc, hgo, e3, Value.cells] <;> rfl)) (fun _ => rfl) (hs) <|
          SqW.aopF rfl (so_move (by simp only [lk] <;> rfl)) (fun _ => rfl) rfl <|
          SqW.pass (aguard_of rfl rfl (by simp only [lk] <;> rfl) rfl) rfl <|
          SqW.pass (aguard_of rfl rfl (by simp only [lk] <;> rfl) rfl) rfl <|
          SqW.pass (aguard_of rfl rfl (by simp only [lk] <;> rfl) rfl) rfl <|
          SqW.pass (aguard_of rfl rfl (by simp only [lk] <;> rfl) rfl) rfl <|
          SqW.pass (aguard_of rfl rfl (by simp only [lk] <;> rfl) rfl) rfl <|
          SqW.pass (aguard_of rfl rfl (by simp only [lk] <;> rfl) rfl) rfl <|
          SqW.pass (aguard_of rfl rfl (by simp only [lk] <;> rfl) rfl) rfl <|
          SqW.pass (aguard_un rfl rfl (by simp only [lk] <;> rfl)) rfl <|
          SqW.pass (aguard_un rfl rfl (by simp only [lk] <;> rfl)) rfl <|
          SqW.pass (aguard_un rfl rfl (by simp only [lk] <;> rfl)) rfl <|
          SqW.pass (aguard_un rfl rfl (by simp only [lk] <;> rfl)) rfl <|
          SqW.pass (aguard_un rfl rfl (by simp only [lk] <;> rfl)) rfl <|
          SqW.pass (aguard_un rfl rfl (by simp only [lk] <;> rfl)) rfl <|
          SqW.pass (aguard_un rfl rfl (by simp only [lk] <;> rfl)) rfl <|
          SqW.pass (aguard_of rfl rfl (by simp only [lk] <;> rfl) rfl) rfl <|
          SqW.aopF rfl (so_pick (by simp only [lk] <;> rfl) (by simp only [lk, cond_true, cond_false] <;> rfl)) (fun _ => rfl) rfl <|
          SqW.nil <| SQ.normal ?_
      refine W.no (by simp only [lk] <;> rfl) <| CWp.skip <| SQ.normal ?_
      refine W.seq <| CWp.sqd tyOK mixed (ms := [0, 0, 0, 1, 9, 25, 63, 127, 255]) (by kernel_rfl) (
          .free rfl rfl (so_move (by simp only [lk] <;> rfl)) rfl <|
          .free rfl rfl (so_move (by simp only [lk] <;> rfl)) rfl <|
          .read rfl rfl (so_load (by simp only [lk] <;> rfl) (by simp (disch := first | assumption | omega | (simp only [nx] <;> omega) | fail) only [aLoad, ty27, rowOf, hpl, g4, hgc, hgo, e3, Value.cells] <;> rfl)) (by first | rfl | (simp [veq, veq1, veqs]; done) | (simp [veq, veq1, veqs, splice]; done)) trivial rfl <|
          .free rfl rfl (so_nilCheck (by simp only [lk] <;> rfl)) rfl <|
          .free rfl rfl (so_fieldAddr (by simp only [lk] <;> rfl) (fa_ok (k := 13) ty62 rfl rfl ty4 rfl rfl)) rfl <|
          .change rfl rfl (so_store (by simp only [lk] <;> rfl) (by simp only [lk] <;> rfl) (by simp (disch := first | assumption | omega | (simp only [nx] <;> omega) | fail) only [aStore, ty4, writeRow, hpl, g4, hgc, hgo, e3, Value.cells] <;> rfl)) rfl ⟨.inr (so_load (by simp only [lk] <;> rfl) (by simp (disch := first | assumption | omega | (simp only [nx] <;> omega) | fail) only [aLoad, ty27, rowOf, hpl, g4, hgc, hgo, e3, Value.cells] <;> rfl)), trivial⟩ rfl <|
          .free rfl rfl (so_nilCheck (by simp only [lk] <;> rfl)) rfl <|
          .free rfl rfl (so_fieldAddr (by simp only [lk] <;> rfl) (fa_ok (k := 14) ty62 rfl rfl ty27 rfl rfl)) rfl <|
          .change rfl rfl (so_store (by simp only [lk] <;> rfl) (by simp only [lk] <;> rfl) (by simp (disch := first | assumption | omega | (simp only [nx] <;> omega) | fail) only [aStore, ty27, writeRow, hpl, g4, hgc, hgo, e3, Value.cells] <;> rfl)) rfl ⟨.inl rfl, trivial⟩ rfl <|
          .nil) <| SQ.normal ?_
      refine CWp.sqd tyOK mixed (ms := [0, 0, 2, 6, 14, 30, 63, 127]) (by kernel_rfl) (
          .read rfl rfl (so_load (by simp only [lk] <;> rfl) (by simp (disch := first | assumption | omega | (simp only [nx] <;> omega) | fail) only [aLoad, ty41, rowOf, hpl, g4, hgc, hgo, e3, Value.cells] <;> rfl)) (by first | rfl | (simp [veq, veq1, veqs]; done) | (simp [veq, veq1, veqs, splice]; done)) trivial rfl <|
          .free rfl rfl (so_move (by simp only [lk] <;> rfl)) rfl <|
          .free rfl rfl (so_nilCheck (by simp only [lk] <;> rfl)) rfl <|
          .free rfl rfl (so_fieldAddr (by simp only [lk] <;> rfl) (fa_ok (k := 0) ty62 rfl rfl ty33 rfl rfl)) rfl <|
          .read rfl rfl (so_load (by simp only [lk] <;> rfl) (by simp (disch := first | assumption | omega | (simp only [nx] <;> omega) | fail) only [aLoad, ty33, rowOf, hpl, g4, hgc, hgo, e3, Value.cells] <;> rfl)) (by first | rfl | (simp [veq, veq1, veqs]; done) | (simp [veq, veq1, veqs, splice]; done)) trivial rfl <|
          .change rfl rfl (so_buildSlice (by simp only [aparts, lk] <;> rfl) (by simp (disch := first | assumption | omega | (simp only [nx] <;> omega) | fail) only [aBuildSlice, ty41, ty33, hpl, g4, hgc, hgo, e3, Value.cells] <;> rfl)) rfl ⟨.inl rfl, .inr (so_load (by simp only [lk] <;> rfl) (by simp (disch := first | assumption | omega | (simp only [nx] <;> omega) | fail) only [aLoad, ty41, rowOf, hpl, g4, hgc, hgo, e3, Value.cells] <;> rfl)), trivial⟩ rfl <|
          .change rfl rfl (so_append (by simp only [aopnds, lk] <;> rfl) (ap_u (by simp only [appT, ty41, ty33] <;> rfl) rfl (by simp (disch := first | assumption | omega | (simp only [nx] <;> omega) | fail) only [aCells, rowOf, hpl, g4, hgc, hgo, e3, Value.cells] <;> rfl) (by show (2 * (n1 + 1) + 256) * 136 ≤ _; omega) rfl (by simp (disch := first | assumption | omega | (simp only [nx] <;> omega) | fail) only [aCells, rowOf, hpl, g4, hgc, hgo, e3, Value.cells] <;> rfl) rfl hcl)) rfl ⟨.inl rfl, .inl rfl, trivial⟩ rfl <|
          .change rfl rfl (so_store (by simp only [lk] <;> rfl) (by simp only [lk] <;> rfl) (by simp (disch := first | assumption | omega | (simp only [nx] <;> omega) | fail) only [aStore, ty41, writeRow, hpl, g4, hgc, hgo, e3, Value.cells] <;> rfl)) rfl ⟨.inl rfl, .inl rfl, trivial⟩ rfl <|
          .nil) <| FQ.normal (by simp only [aRet, Try.f26, aResults, aResult, lk, Nat.reduceEqDiff, reduceIte] <;> rfl) ?_
      -- leaf: end
      refine ⟨?_, ⟨.slice (some ⟨h.next + 1, 0, none⟩) (n1 + 1) 0, ?_, .some (x := h.next + 1) (by simp) ?_ ?_ ?_ ?_⟩, ?_, fun z hz a b => ?_⟩
      · simp (disch := first | assumption | omega | (simp only [nx] <;> omega) | fail) only [hpl]; rfl
      · simp (disch := first | assumption | omega | (simp only [nx] <;> omega) | fail) only [hpl]; rfl
      · simp [e]
      · omega
      · simp only [nx]; omega
      · simp (disch := first | assumption | omega | (simp only [nx] <;> omega) | fail) only [hpl]; simp [flatsM_append, flatsM]; rfl
      · simp only [nx]; omega
      · have a' : ¬ o = z := fun e => a e.symm
        have b' : ¬ q.row = z := fun e => b e.symm
        simp (disch := first | assumption | omega | (simp only [nx] <;> omega) | fail) only [hpl]
  · by_cases h1 : now < q.at_
    · refine W.seq <| W.seq <| W.regD tyOK mixed (by kernel_rfl) <| 
          SqW.aop rfl (so_move (by simp only [lk] <;> rfl)) rfl <|
          SqW.aop rfl (so_nilCheck (by simp only [lk] <;> rfl)) rfl <|
          SqW.aop rfl (so_fieldAddr (by simp only [lk] <;> rfl) (fa_ok (k := 13) ty62 rfl rfl ty4 rfl rfl)) rfl <|
          SqW.aopT rfl (so_load (by simp only [lk] <;> rfl) (by simp (disch := first | assumption | omega | (simp only [nx] <;> omega) | fail) only [aLoad, ty4, rowOf, hpl, g4, hgc, Value.cells] <;> rfl)) (fun _ => rfl) (hs) <|
          SqW.aopT rfl (so_move (by simp only [lk] <;> rfl)) (fun _ => rfl) rfl <|
          SqW.aop (aguard_of rfl rfl (by simp only [lk] <;> rfl) rfl) (so_load (by simp only [lk] <;> rfl) (by simp (disch := first | assumption | omega | (simp only [nx] <;> omega) | fail) only [aLoad, ty27, rowOf, hpl, g4, hgc, Value.cells] <;> rfl)) rfl <|
          SqW.aop (aguard_of rfl rfl (by simp only [lk] <;> rfl) rfl) (so_move (by simp only [lk] <;> rfl)) rfl <|
          SqW.aop (aguard_of rfl rfl (by simp only [lk] <;> rfl) rfl) (so_nilCheck (by simp only [lk] <;> rfl)) rfl <|
          SqW.aop (aguard_of rfl rfl (by simp only [lk] <;> rfl) rfl) (so_fieldAddr (by simp only [lk] <;> rfl) (fa_ok (k := 14) ty62 rfl rfl ty27 rfl rfl)) rfl <|
          SqW.aop (aguard_of rfl rfl (by simp only [lk] <;> rfl) rfl) (so_load (by simp only [lk] <;> rfl) (by simp (disch := first | assumption | omega | (simp only [nx] <;> omega) | fail) only [aLoad, ty27, rowOf, hpl, g4, hgc, Value.cells] <;> rfl)) rfl <|
          SqW.aopT (aguard_of rfl rfl (by simp only [lk] <;> rfl) rfl) (so_bin (by simp only [lk] <;> rfl) (by simp only [lk] <;> rfl) bi_lss) (fun _ => rfl) (by first | rfl | assumption | ((simp only [bl, g4, hgc, Value.cells]) <;> first | done | assumption | omega) | (simp [g4, hgc, Value.cells]; done) | (simp [g4, hgc, Value.cells]; omega)) <|
          SqW.aopT (aguard_of rfl rfl (by simp only [lk] <;> rfl) rfl) (so_move (by simp only [lk] <;> rfl)) (fun _ => rfl) rfl <|
          SqW.pass (aguard_of rfl rfl (by simp only [lk] <;> rfl) rfl) rfl <|
          SqW.pass (aguard_of rfl rfl (by simp only [lk] <;> rfl) rfl) rfl <|
          SqW.pass (aguard_of rfl rfl (by simp only [lk] <;> rfl) rfl) rfl <|
          SqW.pass (aguard_of rfl rfl (by simp only [lk] <;> rfl) rfl) rfl <|
          SqW.pass (aguard_of rfl rfl (by simp only [lk] <;> rfl) rfl) rfl <|
          SqW.pass (aguard_of rfl rfl (by simp only [lk] <;> rfl) rfl) rfl <|
          SqW.pass (aguard_of rfl rfl (by simp only [lk] <;> rfl) rfl) rfl <|
          SqW.aopT (aguard_of rfl rfl (by simp only [lk] <;> rfl) rfl) (so_pick (by simp only [lk] <;> rfl) (by simp only [lk, cond_true, cond_false] <;> rfl)) (fun _ => rfl) rfl <|
          SqW.aopT rfl (so_pick (by simp only [lk] <;> rfl) (by simp only [lk, cond_true, cond_false] <;> rfl)) (fun _ => rfl) rfl <|
          SqW.nil <| SQ.normal ?_
      refine W.yes (by simp only [lk] <;> rfl) <| CWp.ret <| SQ.ret <| FQ.ret (by simp only [aRet, Try.f26, aResults, aResult, lk, Nat.reduceEqDiff, reduceIte] <;> rfl) ?_
      -- leaf: end
      exact keep (by simp [dueq, hs, h1])
    · have w1 : IntKind.u64.wrap (now - q.at_) = now - q.at_ := wrap_u64 (by omega) (by omega)
      by_cases h2 : now - q.at_ < 8
      · refine W.seq <| W.seq <| W.regD tyOK mixed (by kernel_rfl) <| 
            SqW.aop rfl (so_move (by simp only [lk] <;> rfl)) rfl <|
            SqW.aop rfl (so_nilCheck (by simp only [lk] <;> rfl)) rfl <|
            SqW.aop rfl (so_fieldAddr (by simp only [lk] <;> rfl) (fa_ok (k := 13) ty62 rfl rfl ty4 rfl rfl)) rfl <|
            SqW.aopT rfl (so_load (by simp only [lk] <;> rfl) (by simp (disch := first | assumption | omega | (simp only [nx] <;> omega) | fail) only [aLoad, ty4, rowOf, hpl, g4, hgc, Value.cells] <;> rfl)) (fun _ => rfl) (hs) <|
            SqW.aopT rfl (so_move (by simp only [lk] <;> rfl)) (fun _ => rfl) rfl <|
            SqW.aop (aguard_of rfl rfl (by simp only [lk] <;> rfl) rfl) (so_load (by simp only [lk] <;> rfl) (by simp (disch := first | assumption | omega | (simp only [nx] <;> omega) | fail) only [aLoad, ty27, rowOf, hpl, g4, hgc, Value.cells] <;> rfl)) rfl <|
            SqW.aop (aguard_of rfl rfl (by simp only [lk] <;> rfl) rfl) (so_move (by simp only [lk] <;> rfl)) rfl <|
            SqW.aop (aguard_of rfl rfl (by simp only [lk] <;> rfl) rfl) (so_nilCheck (by simp only [lk] <;> rfl)) rfl <|
            SqW.aop (aguard_of rfl rfl (by simp only [lk] <;> rfl) rfl) (so_fieldAddr (by simp only [lk] <;> rfl) (fa_ok (k := 14) ty62 rfl rfl ty27 rfl rfl)) rfl <|
            SqW.aop (aguard_of rfl rfl (by simp only [lk] <;> rfl) rfl) (so_load (by simp only [lk] <;> rfl) (by simp (disch := first | assumption | omega | (simp only [nx] <;> omega) | fail) only [aLoad, ty27, rowOf, hpl, g4, hgc, Value.cells] <;> rfl)) rfl <|
            SqW.aopF (aguard_of rfl rfl (by simp only [lk] <;> rfl) rfl) (so_bin (by simp only [lk] <;> rfl) (by simp only [lk] <;> rfl) bi_lss) (fun _ => rfl) (by first | rfl | assumption | ((simp only [bl, g4, hgc, Value.cells]) <;> first | done | assumption | omega) | (simp [g4, hgc, Value.cells]; done) | (simp [g4, hgc, Value.cells]; omega)) <|
            SqW.aopF (aguard_of rfl rfl (by simp only [lk] <;> rfl) rfl) (so_move (by simp only [lk] <;> rfl)) (fun _ => rfl) rfl <|
            SqW.aop (aguard_of rfl rfl (by simp only [lk] <;> rfl) rfl) (so_load (by simp only [lk] <;> rfl) (by simp (disch := first | assumption | omega | (simp only [nx] <;> omega) | fail) only [aLoad, ty27, rowOf, hpl, g4, hgc, Value.cells] <;> rfl)) rfl <|
            SqW.aop (aguard_of rfl rfl (by simp only [lk] <;> rfl) rfl) (so_move (by simp only [lk] <;> rfl)) rfl <|
            SqW.aop (aguard_of rfl rfl (by simp only [lk] <;> rfl) rfl) (so_nilCheck (by simp only [lk] <;> rfl)) rfl <|
            SqW.aop (aguard_of rfl rfl (by simp only [lk] <;> rfl) rfl) (so_fieldAddr (by simp only [lk] <;> rfl) (fa_ok (k := 14) ty62 rfl rfl ty27 rfl rfl)) rfl <|
            SqW.aop (aguard_of rfl rfl (by simp only [lk] <;> rfl) rfl) (so_load (by simp only [lk] <;> rfl) (by simp (disch := first | assumption | omega | (simp only [nx] <;> omega) | fail) only [aLoad, ty27, rowOf, hpl, g4, hgc, Value.cells] <;> rfl)) rfl <|
            SqW.aop (aguard_of rfl rfl (by simp only [lk] <;> rfl) rfl) (so_bin (by simp only [lk] <;> rfl) (by simp only [lk] <;> rfl) (bi_w bi_sub (by first | (simp only [w1] <;> rfl) | rfl))) rfl <|
            SqW.aopT (aguard_of rfl rfl (by simp only [lk] <;> rfl) rfl) (so_bin (by simp only [lk] <;> rfl) (by simp only [lk] <;> rfl) bi_lss) (fun _ => rfl) (by first | rfl | assumption | ((simp only [bl, g4, hgc, Value.cells]) <;> first | done | assumption | omega) | (simp [g4, hgc, Value.cells]; done) | (simp [g4, hgc, Value.cells]; omega)) <|
            SqW.aopT (aguard_of rfl rfl (by simp only [lk] <;> rfl) rfl) (so_pick (by simp only [lk] <;> rfl) (by simp only [lk, cond_true, cond_false] <;> rfl)) (fun _ => rfl) rfl <|
            SqW.aopT rfl (so_pick (by simp only [lk] <;> rfl) (by simp only [lk, cond_true, cond_false] <;> rfl)) (fun _ => rfl) rfl <|
            SqW.nil <| SQ.normal ?_
        refine W.yes (by simp only [lk] <;> rfl) <| CWp.ret <| SQ.ret <| FQ.ret (by simp only [aRet, Try.f26, aResults, aResult, lk, Nat.reduceEqDiff, reduceIte] <;> rfl) ?_
        -- leaf: end
        exact keep (by simp [dueq, hs, h2])
      · skip
        have hdq : dueq now q = true := by simp [dueq, hs, h1, h2]
        have st : stampq now q = { q with asked := true, at_ := now } := by simp [stampq, hdq]
        rw [st, hdq, cond_true]
        cases hms with
        | none e =>
          refine W.seq <| W.seq <| W.regD tyOK mixed (by kernel_rfl) <| 
              SqW.aop rfl (so_move (by simp only [lk] <;> rfl)) rfl <|
              SqW.aop rfl (so_nilCheck (by simp only [lk] <;> rfl)) rfl <|
              SqW.aop rfl (so_fieldAddr (by simp only [lk] <;> rfl) (fa_ok (k := 13) ty62 rfl rfl ty4 rfl rfl)) rfl <|
              SqW.aopT rfl (so_load (by simp only [lk] <;> rfl) (by simp (disch := first | assumption | omega | (simp only [nx] <;> omega) | fail) only [aLoad, ty4, rowOf, hpl, g4, hgc, hgo, Value.cells] <;> rfl)) (fun _ => rfl) (hs) <|
              SqW.aopT rfl (so_move (by simp only [lk] <;> rfl)) (fun _ => rfl) rfl <|
              SqW.aop (aguard_of rfl rfl (by simp only [lk] <;> rfl) rfl) (so_load (by simp only [lk] <;> rfl) (by simp (disch := first | assumption | omega | (simp only [nx] <;> omega) | fail) only [aLoad, ty27, rowOf, hpl, g4, hgc, hgo, Value.cells] <;> rfl)) rfl <|
              SqW.aop (aguard_of rfl rfl (by simp only [lk] <;> rfl) rfl) (so_move (by simp only [lk] <;> rfl)) rfl <|
              SqW.aop (aguard_of rfl rfl (by simp only [lk] <;> rfl) rfl) (so_nilCheck (by simp only [lk] <;> rfl)) rfl <|
              SqW.aop (aguard_of rfl rfl (by simp only [lk] <;> rfl) rfl) (so_fieldAddr (by simp only [lk] <;> rfl) (fa_ok (k := 14) ty62 rfl rfl ty27 rfl rfl)) rfl <|
              SqW.aop (aguard_of rfl rfl (by simp only [lk] <;> rfl) rfl) (so_load (by simp only [lk] <;> rfl) (by simp (disch := first | assumption | omega | (simp only [nx] <;> omega) | fail) only [aLoad, ty27, rowOf, hpl, g4, hgc, hgo, Value.cells] <;> rfl)) rfl <|
              SqW.aopF (aguard_of rfl rfl (by simp only [lk] <;> rfl) rfl) (so_bin (by simp only [lk] <;> rfl) (by simp only [lk] <;> rfl) bi_lss) (fun _ => rfl) (by first | rfl | assumption | ((simp only [bl, g4, hgc, hgo, Value.cells]) <;> first | done | assumption | omega) | (simp [g4, hgc, hgo, Value.cells]; done) | (simp [g4, hgc, hgo, Value.cells]; omega)) <|
              SqW.aopF (aguard_of rfl rfl (by simp only [lk] <;> rfl) rfl) (so_move (by simp only [lk] <;> rfl)) (fun _ => rfl) rfl <|
              SqW.aop (aguard_of rfl rfl (by simp only [lk] <;> rfl) rfl) (so_load (by simp only [lk] <;> rfl) (by simp (disch := first | assumption | omega | (simp only [nx] <;> omega) | fail) only [aLoad, ty27, rowOf, hpl, g4, hgc, hgo, Value.cells] <;> rfl)) rfl <|
              SqW.aop (aguard_of rfl rfl (by simp only [lk] <;> rfl) rfl) (so_move (by simp only [lk] <;> rfl)) rfl <|
              SqW.aop (aguard_of rfl rfl (by simp only [lk] <;> rfl) rfl) (so_nilCheck (by simp only [lk] <;> rfl)) rfl <|
              SqW.aop (aguard_of rfl rfl (by simp only [lk] <;> rfl) rfl) (so_fieldAddr (by simp only [lk] <;> rfl) (fa_ok (k := 14) ty62 rfl rfl ty27 rfl rfl)) rfl <|
              SqW.aop (aguard_of rfl rfl (by simp only [lk] <;> rfl) rfl) (so_load (by simp only [lk] <;> rfl) (by simp (disch := first | assumption | omega | (simp only [nx] <;> omega) | fail) only [aLoad, ty27, rowOf, hpl, g4, hgc, hgo, Value.cells] <;> rfl)) rfl <|
              SqW.aop (aguard_of rfl rfl (by simp only [lk] <;> rfl) rfl) (so_bin (by simp only [lk] <;> rfl) (by simp only [lk] <;> rfl) (bi_w bi_sub (by first | (simp only [w1] <;> rfl) | rfl))) rfl <|
              SqW.aopF (aguard_of rfl rfl (by simp only [lk] <;> rfl) rfl) (so_bin (by simp only [lk] <;> rfl) (by simp only [lk] <;> rfl) bi_lss) (fun _ => rfl) (by first | rfl | assumption | ((simp only [bl, g4, hgc, hgo, Value.cells]) <;> first | done | assumption | omega) | (simp [g4, hgc, hgo, Value.cells]; done) | (simp [g4, hgc, hgo, Value.cells]; omega)) <|
              SqW.aopF (aguard_of rfl rfl (by simp only [lk] <;> rfl) rfl) (so_pick (by simp only [lk] <;> rfl) (by simp only [lk, cond_true, cond_false] <;> rfl)) (fun _ => rfl) rfl <|
              SqW.aopF rfl (so_pick (by simp only [lk] <;> rfl) (by simp only [lk, cond_true, cond_false] <;> rfl)) (fun _ => rfl) rfl <|
              SqW.nil <| SQ.normal ?_
          refine W.no (by simp only [lk] <;> rfl) <| CWp.skip <| SQ.normal ?_
          refine W.seq <| CWp.sqd tyOK mixed (ms := [0, 0, 0, 1, 9, 25, 63, 127, 255]) (by kernel_rfl) (
              .free rfl rfl (so_move (by simp only [lk] <;> rfl)) rfl <|
              .free rfl rfl (so_move (by simp only [lk] <;> rfl)) rfl <|
              .read rfl rfl (so_load (by simp only [lk] <;> rfl) (by simp (disch := first | assumption | omega | (simp only [nx] <;> omega) | fail) only [aLoad, ty27, rowOf, hpl, g4, hgc, hgo, Value.cells] <;> rfl)) (by first | rfl | (simp [veq, veq1, veqs]; done) | (simp [veq, veq1, veqs, splice]; done)) trivial rfl <|
              .free rfl rfl (so_nilCheck (by simp only [lk] <;> rfl)) rfl <|
              .free rfl rfl (so_fieldAddr (by simp only [lk] <;> rfl) (fa_ok (k := 13) ty62 rfl rfl ty4 rfl rfl)) rfl <|
              .change rfl rfl (so_store (by simp only [lk] <;> rfl) (by simp only [lk] <;> rfl) (by simp (disch := first | assumption | omega | (simp only [nx] <;> omega) | fail) only [aStore, ty4, writeRow, hpl, g4, hgc, hgo, Value.cells] <;> rfl)) rfl ⟨.inr (so_load (by simp only [lk] <;> rfl) (by simp (disch := first | assumption | omega | (simp only [nx] <;> omega) | fail) only [aLoad, ty27, rowOf, hpl, g4, hgc, hgo, Value.cells] <;> rfl)), trivial⟩ rfl <|
              .free rfl rfl (so_nilCheck (by simp only [lk] <;> rfl)) rfl <|
              .free rfl rfl (so_fieldAddr (by simp only [lk] <;> rfl) (fa_ok (k := 14) ty62 rfl rfl ty27 rfl rfl)) rfl <|
              .change rfl rfl (so_store (by simp only [lk] <;> rfl) (by simp only [lk] <;> rfl) (by simp (disch := first | assumption | omega | (simp only [nx] <;> omega) | fail) only [aStore, ty27, writeRow, hpl, g4, hgc, hgo, Value.cells] <;> rfl)) rfl ⟨.inl rfl, trivial⟩ rfl <|
              .nil) <| SQ.normal ?_
          refine CWp.sqd tyOK mixed (ms := [0, 0, 2, 6, 14, 30, 63, 127]) (by kernel_rfl) (
              .read rfl rfl (so_load (by simp only [lk] <;> rfl) (by simp (disch := first | assumption | omega | (simp only [nx] <;> omega) | fail) only [aLoad, ty41, rowOf, hpl, g4, hgc, hgo, Value.cells] <;> rfl)) (by first | rfl | (simp [veq, veq1, veqs]; done) | (simp [veq, veq1, veqs, splice]; done)) trivial rfl <|
              .free rfl rfl (so_move (by simp only [lk] <;> rfl)) rfl <|
              .free rfl rfl (so_nilCheck (by simp only [lk] <;> rfl)) rfl <|
              .free rfl rfl (so_fieldAddr (by simp only [lk] <;> rfl) (fa_ok (k := 0) ty62 rfl rfl ty33 rfl rfl)) rfl <|
              .read rfl rfl (so_load (by simp only [lk] <;> rfl) (by simp (disch := first | assumption | omega | (simp only [nx] <;> omega) | fail) only [aLoad, ty33, rowOf, hpl, g4, hgc, hgo, Value.cells] <;> rfl)) (by first | rfl | (simp [veq, veq1, veqs]; done) | (simp [veq, veq1, veqs, splice]; done)) trivial rfl <|
              .change rfl rfl (so_buildSlice (by simp only [aparts, lk] <;> rfl) (by simp (disch := first | assumption | omega | (simp only [nx] <;> omega) | fail) only [aBuildSlice, ty41, ty33, hpl, g4, hgc, hgo, Value.cells] <;> rfl)) rfl ⟨.inl rfl, .inr (so_load (by simp only [lk] <;> rfl) (by simp (disch := first | assumption | omega | (simp only [nx] <;> omega) | fail) only [aLoad, ty41, rowOf, hpl, g4, hgc, hgo, Value.cells] <;> rfl)), trivial⟩ rfl <|
              .change rfl rfl (so_append (by simp only [aopnds, lk] <;> rfl) (ap_0 (by simp only [appT, ty41, ty33] <;> rfl) rfl (by simp (disch := first | assumption | omega | (simp only [nx] <;> omega) | fail) only [aCells, rowOf, hpl, g4, hgc, hgo, Value.cells] <;> rfl) (by decide) rfl)) rfl ⟨.inl rfl, .inl rfl, trivial⟩ rfl <|
              .change rfl rfl (so_store (by simp only [lk] <;> rfl) (by simp only [lk] <;> rfl) (by simp (disch := first | assumption | omega | (simp only [nx] <;> omega) | fail) only [aStore, ty41, writeRow, hpl, g4, hgc, hgo, Value.cells] <;> rfl)) rfl ⟨.inl rfl, .inl rfl, trivial⟩ rfl <|
              .nil) <| FQ.normal (by simp only [aRet, Try.f26, aResults, aResult, lk, Nat.reduceEqDiff, reduceIte] <;> rfl) ?_
          -- leaf: end
          refine ⟨?_, ⟨.slice (some ⟨h.next + 1, 0, none⟩) 1 0, ?_, .some (x := h.next + 1) (by simp) ?_ ?_ ?_ ?_⟩, ?_, fun z hz a b => ?_⟩
          · simp (disch := first | assumption | omega | (simp only [nx] <;> omega) | fail) only [hpl]; rfl
          · simp (disch := first | assumption | omega | (simp only [nx] <;> omega) | fail) only [hpl]; rfl
          · simp [e]
          · omega
          · simp only [nx]; omega
          · simp (disch := first | assumption | omega | (simp only [nx] <;> omega) | fail) only [hpl]; simp [e, flatsM]; rfl
          · simp only [nx]; omega
          · have a' : ¬ o = z := fun e => a e.symm
            have b' : ¬ q.row = z := fun e => b e.symm
            simp (disch := first | assumption | omega | (simp only [nx] <;> omega) | fail) only [hpl]
        | @some x1 n1 ne e e1 e2 e3 =>
          have hcl : cellsOf (flatsM rs) 0 (n1 * 13) = some (flatsM rs) := cellsOf_all (by rw [e, flatsM_length])
          have hn1 : n1 ≤ 1000000 := by omega
          refine W.seq <| W.seq <| W.regD tyOK mixed (by kernel_rfl) <| 
              SqW.aop rfl (so_move (by simp only [lk] <;> rfl)) rfl <|
              SqW.aop rfl (so_nilCheck (by simp only [lk] <;> rfl)) rfl <|
              SqW.aop rfl (so_fieldAddr (by simp only [lk] <;> rfl) (fa_ok (k := 13) ty62 rfl rfl ty4 rfl rfl)) rfl <|
              SqW.aopT rfl (so_load (by simp only [lk] <;> rfl) (by simp (disch := first | assumption | omega | (simp only [nx] <;> omega) | fail) only [aLoad, ty4, rowOf, hpl, g4, hgc, hgo, e3, Value.cells] <;> rfl)) (fun _ => rfl) (hs) <|
              SqW.aopT rfl (so_move (by simp only [lk] <;> rfl)) (fun _ => rfl) rfl <|
              SqW.aop (aguard_of rfl rfl (by simp only [lk] <;> rfl) rfl) (so_load (by simp only [lk] <;> rfl) (by simp (disch := first | assumption | omega | (simp only [nx] <;> omega) | fail) only [aLoad, ty27, rowOf, hpl, g4, hgc, hgo, e3, Value.cells] <;> rfl)) rfl <|
              SqW.aop (aguard_of rfl rfl (by simp only [lk] <;> rfl) rfl) (so_move (by simp only [lk] <;> rfl)) rfl <|
              SqW.aop (aguard_of rfl rfl (by simp only [lk] <;> rfl) rfl) (so_nilCheck (by simp only [lk] <;> rfl)) rfl <|
              SqW.aop (aguard_of rfl rfl (by simp only [lk] <;> rfl) rfl) (so_fieldAddr (by simp only [lk] <;> rfl) (fa_ok (k := 14) ty62 rfl rfl ty27 rfl rfl)) rfl <|
              SqW.aop (aguard_of rfl rfl (by simp only [lk] <;> rfl) rfl) (so_load (by simp only [lk] <;> rfl) (by simp (disch := first | assumption | omega | (simp only [nx] <;> omega) | fail) only [aLoad, ty27, rowOf, hpl, g4, hgc, hgo, e3, Value.cells] <;> rfl)) rfl <|
              SqW.aopF (aguard_of rfl rfl (by simp only [lk] <;> rfl) rfl) (so_bin (by simp only [lk] <;> rfl) (by simp only [lk] <;> rfl) bi_lss) (fun _ => rfl) (by first | rfl | assumption | ((simp only [bl, g4, hgc, hgo, e3, Value.cells]) <;> first | done | assumption | omega) | (simp [g4, hgc, hgo, e3, Value.cells]; done) | (simp [g4, hgc, hgo, e3, Value.cells]; omega)) <|
              SqW.aopF (aguard_of rfl rfl (by simp only [lk] <;> rfl) rfl) (so_move (by simp only [lk] <;> rfl)) (fun _ => rfl) rfl <|
              SqW.aop (aguard_of rfl rfl (by simp only [lk] <;> rfl) rfl) (so_load (by simp only [lk] <;> rfl) (by simp (disch := first | assumption | omega | (simp only [nx] <;> omega) | fail) only [aLoad, ty27, rowOf, hpl, g4, hgc, hgo, e3, Value.cells] <;> rfl)) rfl <|
              SqW.aop (aguard_of rfl rfl (by simp only [lk] <;> rfl) rfl) (so_move (by simp only [lk] <;> rfl)) rfl <|
              SqW.aop (aguard_of rfl rfl (by simp only [lk] <;> rfl) rfl) (so_nilCheck (by simp only [lk] <;> rfl)) rfl <|
              SqW.aop (aguard_of rfl rfl (by simp only [lk] <;> rfl) rfl) (so_fieldAddr (by simp only [lk] <;> rfl) (fa_ok (k := 14) ty62 rfl rfl ty27 rfl rfl)) rfl <|
              SqW.aop (aguard_of rfl rfl (by simp only [lk] <;> rfl) rfl) (so_load (by simp only [lk] <;> rfl) (by simp (disch := first | assumption | omega | (simp only [nx] <;> omega) | fail) only [aLoad, ty27, rowOf, hpl, g4, hgc, hgo, e3, Value.cells] <;> rfl)) rfl <|
              SqW.aop (aguard_of rfl rfl (by simp only [lk] <;> rfl) rfl) (so_bin (by simp only [lk] <;> rfl) (by simp only [lk] <;> rfl) (bi_w bi_sub (by first | (simp only [w1] <;> rfl) | rfl))) rfl <|
              SqW.aopF (aguard_of rfl rfl (by simp only [lk] <;> rfl) rfl) (so_bin (by simp only [lk] <;> rfl) (by simp only [lk] <;> rfl) bi_lss) (fun _ => rfl) (by first | rfl | assumption | ((simp only [bl, g4, hgc, hgo, e3, Value.cells]) <;> first | done | assumption | omega) | (simp [g4, hgc, hgo, e3, Value.cells]; done) | (simp [g4, hgc, hgo, e3, Value.cells]; omega)) <|
              SqW.aopF (aguard_of rfl rfl (by simp only [lk] <;> rfl) rfl) (so_pick (by simp only [lk] <;> rfl) (by simp only [lk, cond_true, cond_false] <;> rfl)) (fun _ => rfl) rfl <|
              SqW.aopF rfl (so_pick (by simp only [lk] <;> rfl) (by simp only [lk, cond_true, cond_false] <;> rfl)) (fun _ => rfl) rfl <|
              SqW.nil <| SQ.normal ?_
          refine W.no (by simp only [lk] <;> rfl) <| CWp.skip <| SQ.normal ?_
          refine W.seq <| CWp.sqd tyOK mixed (ms := [0, 0, 0, 1, 9, 25, 63, 127, 255]) (by kernel_rfl) (
              .free rfl rfl (so_move (by simp only [lk] <;> rfl)) rfl <|
              .free rfl rfl (so_move (by simp only [lk] <;> rfl)) rfl <|
              .read rfl rfl (so_load (by simp only [lk] <;> rfl) (by simp (disch := first | assumption | omega | (simp only [nx] <;> omega) | fail) only [aLoad, ty27, rowOf, hpl, g4, hgc, hgo, e3, Value.cells] <;> rfl)) (by first | rfl | (simp [veq, veq1, veqs]; done) | (simp [veq, veq1, veqs, splice]; done)) trivial rfl <|
              .free rfl rfl (so_nilCheck (by simp only [lk] <;> rfl)) rfl <|
              .free rfl rfl (so_fieldAddr (by simp only [lk] <;> rfl) (fa_ok (k := 13) ty62 rfl rfl ty4 rfl rfl)) rfl <|
              .change rfl rfl (so_store (by simp only [lk] <;> rfl) (by simp only [lk] <;> rfl) (by simp (disch := first | assumption | omega | (simp only [nx] <;> omega) | fail) only [aStore, ty4, writeRow, hpl, g4, hgc, hgo, e3, Value.cells] <;> rfl)) rfl ⟨.inr (so_load (by simp only [lk] <;> rfl) (by simp (disch := first | assumption | omega | (simp only [nx] <;> omega) | fail) only [aLoad, ty27, rowOf, hpl, g4, hgc, hgo, e3, Value.cells] <;> rfl)), trivial⟩ rfl <|
              .free rfl rfl (so_nilCheck (by simp only [lk] <;> rfl)) rfl <|
              .free rfl rfl (so_fieldAddr (by simp only [lk] <;> rfl) (fa_ok (k := 14) ty62 rfl rfl ty27 rfl rfl)) rfl <|
              .change rfl rfl (so_store (by simp only [lk] <;> rfl) (by simp only [lk] <;> rfl) (by simp (disch := first | assumption | omega | (simp only [nx] <;> omega) | fail) only [aStore, ty27, writeRow, hpl, g4, hgc, hgo, e3, Value.cells] <;> rfl)) rfl ⟨.inl rfl, trivial⟩ rfl <|
              .nil) <| SQ.normal ?_
          refine CWp.sqd tyOK mixed (ms := [0, 0, 2, 6, 14, 30, 63, 127]) (by kernel_rfl) (
              .read rfl rfl (so_load (by simp only [lk] <;> rfl) (by simp (disch := first | assumption | omega | (simp only [nx] <;> omega) | fail) only [aLoad, ty41, rowOf, hpl, g4, hgc, hgo, e3, Value.cells] <;> rfl)) (by first | rfl | (simp [veq, veq1, veqs]; done) | (simp [veq, veq1, veqs, splice]; done)) trivial rfl <|
              .free rfl rfl (so_move (by simp only [lk] <;> rfl)) rfl <|
              .free rfl rfl (so_nilCheck (by simp only [lk] <;> rfl)) rfl <|
              .free rfl rfl (so_fieldAddr (by simp only [lk] <;> rfl) (fa_ok (k := 0) ty62 rfl rfl ty33 rfl rfl)) rfl <|
              .read rfl rfl (so_load (by simp only [lk] <;> rfl) (by simp (disch := first | assumption | omega | (simp only [nx] <;> omega) | fail) only [aLoad, ty33, rowOf, hpl, g4, hgc, hgo, e3, Value.cells] <;> rfl)) (by first | rfl | (simp [veq, veq1, veqs]; done) | (simp [veq, veq1, veqs, splice]; done)) trivial rfl <|
              .change rfl rfl (so_buildSlice (by simp only [aparts, lk] <;> rfl) (by simp (disch := first | assumption | omega | (simp only [nx] <;> omega) | fail) only [aBuildSlice, ty41, ty33, hpl, g4, hgc, hgo, e3, Value.cells] <;> rfl)) rfl ⟨.inl rfl, .inr (so_load (by simp only [lk] <;> rfl) (by simp (disch := first | assumption | omega | (simp only [nx] <;> omega) | fail) only [aLoad, ty41, rowOf, hpl, g4, hgc, hgo, e3, Value.cells] <;> rfl)), trivial⟩ rfl <|
              .change rfl rfl (so_append (by simp only [aopnds, lk] <;> rfl) (ap_u (by simp only [appT, ty41, ty33] <;> rfl) rfl (by simp (disch := first | assumption | omega | (simp only [nx] <;> omega) | fail) only [aCells, rowOf, hpl, g4, hgc, hgo, e3, Value.cells] <;> rfl) (by show (2 * (n1 + 1) + 256) * 136 ≤ _; omega) rfl (by simp (disch := first | assumption | omega | (simp only [nx] <;> omega) | fail) only [aCells, rowOf, hpl, g4, hgc, hgo, e3, Value.cells] <;> rfl) rfl hcl)) rfl ⟨.inl rfl, .inl rfl, trivial⟩ rfl <|
              .change rfl rfl (so_store (by simp only [lk] <;> rfl) (by simp only [lk] <;> rfl) (by simp (disch := first | assumption | omega | (simp only [nx] <;> omega) | fail) only [aStore, ty41, writeRow, hpl, g4, hgc, hgo, e3, Value.cells] <;> rfl)) rfl ⟨.inl rfl, .inl rfl, trivial⟩ rfl <|
              .nil) <| FQ.normal (by simp only [aRet, Try.f26, aResults, aResult, lk, Nat.reduceEqDiff, reduceIte] <;> rfl) ?_
          -- leaf: end
          refine ⟨?_, ⟨.slice (some ⟨h.next + 1, 0, none⟩) (n1 + 1) 0, ?_, .some (x := h.next + 1) (by simp) ?_ ?_ ?_ ?_⟩, ?_, fun z hz a b => ?_⟩
          · simp (disch := first | assumption | omega | (simp only [nx] <;> omega) | fail) only [hpl]; rfl
          · simp (disch := first | assumption | omega | (simp only [nx] <;> omega) | fail) only [hpl]; rfl
          · simp [e]
          · omega
          · simp only [nx]; omega
          · simp (disch := first | assumption | omega | (simp only [nx] <;> omega) | fail) only [hpl]; simp [flatsM_append, flatsM]; rfl
          · simp only [nx]; omega
          · have a' : ¬ o = z := fun e => a e.symm
            have b' : ¬ q.row = z := fun e => b e.symm
            simp (disch := first | assumption | omega | (simp only [nx] <;> omega) | fail) only [hpl]

theorem MsgsAt_lo {h : AHeap} {lo lo' : Nat} {rs : List Msg} {u : Value} (hm : MsgsAt h lo rs u) (hl : lo' ≤ lo) : MsgsAt h lo' rs u := by
  cases hm with
  | none e => exact .none e
  | some ne e h1 h2 h3 => exact .some ne e (by omega) h2 h3
theorem stampq_ent (now : Int) (q : Qn) : (stampq now q).ent = q.ent ∧ (stampq now q).msg = q.msg ∧ (stampq now q).id = q.id ∧ (stampq now q).row = q.row ∧ (stampq now q).born = q.born := by
  unfold stampq; cases dueq now q <;> simp [Qn.ent]
theorem dueL_take (now : Int) {qs : List Qn} {i : Nat} {q : Qn} (hq : qs[i]? = some q) : dueL now (qs.take (i + 1)) = dueL now (qs.take i) ++ bif dueq now q then [q.msg] else [] := by
  rw [List.take_add_one, hq]
  simp only [dueL, Option.toList_some, List.filter_append, List.map_append]
  cases hd : dueq now q <;> simp [hd]
theorem due_c (h : AHeap) (r : Nat) (S : RS) (hA : RA h r S) (now : Int) (hbig : S.qs.length ≤ 1000000) (hn0 : 0 ≤ now) (hn1 : now < 18446744073709551616) (hat : ∀ q ∈ S.qs, 0 ≤ q.at_ ∧ q.at_ < 18446744073709551616) :
    FWp Try.prog 14 [P0 r, U64 now] h fun u h' => RA h' r { S with qs := S.qs.map (stampq now) } ∧ FrR h h' r S ∧ MsgsAt h' h.next (dueL now S.qs) u := by
  have hlt := hA.lt
  have hml := hA.mlt
  obtain ⟨h1, hh1⟩ : ∃ h1, h1 = (h.new (.cells [U64 now] 1)).new (.cells [.slice none 0 0] 1) := ⟨_, rfl⟩
  have hnx1 : h1.next = h.next + 2 := by rw [hh1]; simp only [nx]
  have hA1 : RA h1 r S := hA.mono (by rw [hnx1]; omega) fun z hz => by rw [hh1]; simp (disch := first | assumption | omega | (simp only [nx] <;> omega) | fail) only [hpl]
  have hc1 : h1.get h.next = some (.cells [U64 now] 1) := by rw [hh1]; simp (disch := first | assumption | omega | (simp only [nx] <;> omega) | fail) only [hpl]
  have ho1 : h1.get (h.next + 1) = some (.cells [.slice none 0 0] 1) := by rw [hh1]; simp (disch := first | assumption | omega | (simp only [nx] <;> omega) | fail) only [hpl]
  have hk1 : ∀ z, z < h.next → h1.get z = h.get z := fun z hz => by rw [hh1]; simp (disch := first | assumption | omega | (simp only [nx] <;> omega) | fail) only [hpl]
  have hrow := hA1.row
  have hmap := hA1.map
  have step0 : ∀ g : AHeap, h1.next ≤ g.next → (∀ z, z < h1.next → g.get z = h1.get z) → RA g r { S with qs := (S.qs.take 0).map (stampq now) ++ S.qs.drop 0 } := fun g h1 h2 => by simpa using hA1.mono h1 h2
  have hin := inorder_c h1 r S hA1 (.func (.func 26) #[] #[P0 h.next, P0 (h.next + 1)]) hbig
    (fun i h' => RA h' r { S with qs := (S.qs.take i).map (stampq now) ++ S.qs.drop i } ∧ h1.next ≤ h'.next ∧ (∀ z, z < h.next → (∀ q ∈ S.qs, ¬ q.row = z) → h'.get z = h1.get z) ∧ h'.get h.next = some (.cells [U64 now] 1) ∧
      (∃ ov, h'.get (h.next + 1) = some (.cells [ov] 1) ∧ MsgsAt h' (h1.next + 2) (dueL now (S.qs.take i)) ov) ∧ (S.qs ≠ [] → h1.next + 1 < h'.next ∧ h'.get (h1.next + 1) = some (.cells ((idsOf S).map (Value.int .u64)) 1)))
    ⟨step0 _ (by simp only [nx]; omega) (fun z hz => by simp (disch := first | assumption | omega | (simp only [nx] <;> omega) | fail) only [hpl]), by simp only [nx]; omega, fun z hz _ => by simp (disch := first | assumption | omega | (simp only [nx] <;> omega) | fail) only [hpl], by simp (disch := first | assumption | omega | (simp only [nx] <;> omega) | fail) only [hpl]; exact hc1, ⟨_, by simp (disch := first | assumption | omega | (simp only [nx] <;> omega) | fail) only [hpl]; exact ho1, .none rfl⟩, fun _ => ⟨by simp only [nx]; omega, by simp (disch := first | assumption | omega | (simp only [nx] <;> omega) | fail) only [hpl]⟩⟩
    (fun e => ⟨step0 _ (by simp only [nx]; omega) (fun z hz => by simp (disch := first | assumption | omega | (simp only [nx] <;> omega) | fail) only [hpl]), by simp only [nx]; omega, fun z hz _ => by simp (disch := first | assumption | omega | (simp only [nx] <;> omega) | fail) only [hpl], by simp (disch := first | assumption | omega | (simp only [nx] <;> omega) | fail) only [hpl]; exact hc1, ⟨_, by simp (disch := first | assumption | omega | (simp only [nx] <;> omega) | fail) only [hpl]; exact ho1, .none rfl⟩, fun hne => (hne e).elim⟩)
    (fun i h' hK => ⟨hK.1.mlt, by have := hK.1.map; simp only [take_ent (f := stampq now) (fun q => (stampq_ent now q).1)] at this; exact this⟩)
    (fun i h' hK hne => (hK.2.2.2.2.2 hne).2)
    (fun i q h' hq hK => by
      obtain ⟨k1, k2, k3, k4, ⟨ov, k5, k6⟩, k7⟩ := hK
      obtain ⟨t1, t2⟩ := take_set (f := stampq now) hq
      have hqm : q ∈ ((S.qs.take i).map (stampq now) ++ S.qs.drop i) := List.mem_of_getElem? t2
      have hqr := k1.rows q hqm
      have hqS := hA.rows q (List.mem_of_getElem? hq)
      have hqa := hat q (List.mem_of_getElem? hq)
      have hne : S.qs ≠ [] := fun e => by rw [e] at hq; simp at hq
      obtain ⟨k8, k9⟩ := k7 hne
      have hil : i < S.qs.length := (List.getElem?_eq_some_iff.1 hq).1
      have hdl : (dueL now (S.qs.take i)).length ≤ 1000000 := by
        have := List.length_filter_le (dueq now) (S.qs.take i)
        simp only [dueL, List.length_map]
        simp at this; omega
      refine VWp.func en26 (FWp.mono (due1_c h' q h.next (h.next + 1) (h1.next + 2) now _ ov (by omega) (by omega) (by omega) (by omega) (by omega) (by omega) (by omega) hqr.2.2.2 k4 k5 k6 hdl hn0 hn1 hqa.1 hqa.2) ?_)
      rintro _ h'' ⟨g1, ⟨ov', g2, g3⟩, g4, g5⟩
      obtain ⟨_, s2, s3, s4, s5⟩ := stampq_ent now q
      refine ⟨?_, by omega, fun z hz hzq => ?_, ?_, ⟨ov', g2, ?_⟩, fun _ => ⟨by omega, ?_⟩⟩
      · have := k1.upd (h' := h'') (q' := stampq now q) t2 s3 s4 s5 s2 g4 g1 (g5 r (by omega) (by omega) (fun e => hqr.2.1 e.symm)) (g5 S.m (by omega) (by omega) (fun e => hqr.2.2.1 e.symm)) (fun x hx hne => by
          have hxl : x.row < h.next := by
            rcases List.mem_append.1 hx with h9 | h9
            · obtain ⟨y, hy, rfl⟩ := List.mem_map.1 h9
              rw [(stampq_ent now y).2.2.2.1]
              exact (hA.rows y (List.mem_of_mem_take hy)).1
            · exact (hA.rows x (List.mem_of_mem_drop h9)).1
          exact g5 x.row (by omega) (by omega) hne)
        simp only [t1] at this
        exact this
      · rw [g5 z (by omega) (by omega) (fun e => hzq q (List.mem_of_getElem? hq) e.symm)]; exact k3 z hz hzq
      · rw [g5 h.next (by omega) (by omega) (by omega)]; exact k4
      · rw [dueL_take now hq]; exact g3
      · rw [g5 (h1.next + 1) (by omega) (by omega) (by omega)]; exact k9)
  refine W.enter tyOK Try.func14 rfl rfl ?_
  simp only [entry]
  refine W.seq <| W.reg <| 
      OSuf.aop tyOK rfl (so_box (by simp only [lk] <;> rfl)) rfl <|
      OSuf.aop tyOK rfl (so_assign (by simp only [lk] <;> rfl)) rfl <|
      OSuf.nil <| SQ.normal ?_
  refine W.seq <| W.seq <| W.reg <| 
      OSuf.aop tyOK rfl (so_move (by simp only [lk] <;> rfl)) rfl <|
      OSuf.callD rfl (by simp only [aopnds, lk] <;> rfl) en23 (none_c _ r S (hA.mono (by simp only [nx]; omega) (fun z hz => by simp (disch := first | assumption | omega | (simp only [nx] <;> omega) | fail) only [hpl]))) rfl <|
      OSuf.nil <| SQ.normal ?_
  refine W.no (by simp only [lk] <;> rfl) <| CWp.skip <| SQ.normal ?_
  refine W.seq <| W.reg <| 
      OSuf.aop tyOK rfl (so_alloc (by simp only [aAlloc, ty41] <;> rfl)) rfl <|
      OSuf.nil <| SQ.normal ?_
  refine W.seq <| W.reg <| 
      OSuf.aop tyOK rfl (so_move (by simp only [lk] <;> rfl)) rfl <|
      OSuf.aop tyOK rfl (so_nilCheck (by simp only [lk] <;> rfl)) rfl <|
      OSuf.aop tyOK rfl (so_fieldAddr (by simp only [lk] <;> rfl) (fa_ok (k := 1) ty59 rfl rfl ty57 rfl rfl)) rfl <|
      OSuf.aop tyOK rfl (so_load (by simp only [lk] <;> rfl) (by simp (disch := first | assumption | omega | (simp only [nx] <;> omega) | fail) only [aLoad, ty57, rowOf, hpl, hA.row, hA.map, Value.cells, places, ty41, ty57, ty59] <;> rfl)) rfl <|
      OSuf.aop tyOK rfl (so_makeFunc rfl (by simp only [aopnds, lk] <;> rfl) (by simp only [aopnds, lk] <;> rfl)) rfl <|
      OSuf.call rfl (by simp only [aopnds, lk] <;> rfl) en25 ((by subst hh1; exact hin)) ?_
  rintro _ h2 ⟨g1, g2, g3, g4, ⟨ov, q2, q3⟩, g6⟩
  simp only [← hh1] at g2 g3 q3
  refine ⟨_, rfl, ?_⟩
  refine 
      OSuf.nil <| SQ.normal ?_
  refine W.seq <| W.reg <| 
      OSuf.aop tyOK rfl (so_load (by simp only [lk] <;> rfl) (by simp (disch := first | assumption | omega | (simp only [nx] <;> omega) | fail) only [aLoad, ty41, rowOf, hpl, hA.row, hA.map, Value.cells, places, ty41, ty57, ty59, q2] <;> rfl)) rfl <|
      OSuf.aop tyOK rfl (so_assign (by simp only [lk] <;> rfl)) rfl <|
      OSuf.nil <| SQ.normal ?_
  refine CWp.ret <| FQ.ret (by simp only [aRet, Try.f14, aResults, aResult, lk, Nat.reduceEqDiff, reduceIte] <;> rfl) ?_
  -- leaf: end
  refine ⟨?_, ⟨by omega, fun z hz a b c => ?_⟩, ?_⟩
  · simpa using g1
  · rw [g3 z hz c]; exact hk1 z hz
  · simp only [List.take_length] at q3; exact MsgsAt_lo q3 (by omega)
end Go.Proofs.Ytmokbpphniafpaa
