/-
  Contracts of the package post: Due.
-/
import Derived.Test.YthjeoohlknajpaaPostL
import Derived.Test.YthjeoohlknajpaaAb34
namespace Go.Proofs.Ythjeoohlknajpaa
open Go.Ab
set_option linter.unusedSimpArgs false
set_option linter.unusedVariables false
set_option maxRecDepth 10000
set_option maxHeartbeats 4000000

def dueb (now : Int) (o : Op) : Bool := !o.sent || decide (8 ≤ now - o.at_)
def stamp (now : Int) (o : Op) : Op := bif dueb now o then { o with sent := true, at_ := now } else o
def sn (now : Int) : Nat → List Op → List Op
  | _, [] => []
  | 0, o :: l => o :: l
  | w + 1, o :: l => bif o.acked then o :: sn now (w + 1) l else stamp now o :: sn now w l
def dl (now : Int) : Nat → List Op → List Op
  | _, [] => []
  | 0, _ :: _ => []
  | w + 1, o :: l => bif o.acked then dl now (w + 1) l else (bif dueb now o then [o] else []) ++ dl now w l
theorem sn_zero (now : Int) (l : List Op) : sn now 0 l = l := by cases l <;> rfl
theorem dl_zero (now : Int) (l : List Op) : dl now 0 l = [] := by cases l <;> rfl

def Op.rcs (o : Op) : List Value := [.string o.key, U64 o.lsn, .bool o.del, .string o.val]
def flatsR : List Op → List Value
  | [] => []
  | o :: l => o.rcs ++ flatsR l
theorem flatsR_length : ∀ l : List Op, (flatsR l).length = l.length * 4
  | [] => rfl
  | o :: l => by simp only [flatsR, List.length_append, flatsR_length l, List.length_cons, Op.rcs, List.length_nil]; omega
theorem flatsR_append : ∀ l m : List Op, flatsR (l ++ m) = flatsR l ++ flatsR m
  | [], m => rfl
  | o :: l, m => by simp only [flatsR, List.cons_append, flatsR_append l m, List.append_assoc]
inductive RecsAt (h : AHeap) (lo : Nat) (rs : List Op) : Value → Prop
  | none (e : rs = []) : RecsAt h lo rs (.slice none 0 0)
  | some {x n : Nat} (hne : rs ≠ []) (e : n = rs.length) (hlo : lo ≤ x) (hx : x < h.next) (hg : h.get x = .some (.cells (flatsR rs) 4)) : RecsAt h lo rs (.slice (.some ⟨x, 0, .none⟩) n 0)

theorem row_rec {pre : List Value} {l : List Op} {i : Nat} {o : Op} (h : l[i]? = some o) {off : Nat} (hl : pre.length = off) : cellsOf (pre ++ flats l) (off + i * 7) 4 = some o.rcs := by
  have hi : i < l.length := (List.getElem?_eq_some_iff.1 h).1
  rw [cellsOf_mk (by rw [List.length_append, flats_length]; omega)]
  congr 1
  apply List.ext_getElem?
  intro k
  by_cases hk : k < 4
  · rw [List.getElem?_take_of_lt hk, List.getElem?_drop, row_get h hl (by omega)]
    match k, hk with
    | 0, _ => rfl
    | 1, _ => rfl
    | 2, _ => rfl
    | 3, _ => rfl
  · rw [List.getElem?_eq_none (by simp; omega), List.getElem?_eq_none (by simp [Op.rcs]; omega)]
theorem first_c (h : AHeap) (p : Nat) : FWp Try.prog 15 [P0 p] h fun u h' => u = .func (.func 16) #[] #[P0 h.next] ∧ h' = h.new (.cells [P0 p] 1) := by
  refine W.enter tyOK Try.func15 rfl rfl ?_
  simp only [entry]
  refine W.seq <| W.reg <| 
      OSuf.aop tyOK rfl (so_box (by simp only [lk] <;> rfl)) rfl <|
      OSuf.aop tyOK rfl (so_assign (by simp only [lk] <;> rfl)) rfl <|
      OSuf.nil <| SQ.normal ?_
  refine W.seq <| W.reg <| 
      OSuf.aop tyOK rfl (so_makeFunc rfl (by simp only [aopnds, lk] <;> rfl) (by simp only [aopnds, lk] <;> rfl)) rfl <|
      OSuf.aop tyOK rfl (so_assign (by simp only [lk] <;> rfl)) rfl <|
      OSuf.nil <| SQ.normal ?_
  refine CWp.ret <| FQ.ret (by simp only [aRet, Try.f15, aResults, aResult, lk, Nat.reduceEqDiff, reduceIte] <;> rfl) ?_
  -- leaf: end
  exact ⟨rfl, rfl⟩

structure DSt (h0 : AHeap) (p : Nat) (base waits : Int) (sl : Value) (r : Nat) (pre : List Value) (now : Int) (LP : ALoop) (cur rs : List Op) (g : AHeap) : Prop where
  next : h0.next + 4 ≤ g.next
  now : g.get h0.next = some (.cells [U64 now] 1)
  out : ∃ o, g.get (h0.next + 1) = some (.cells [o] 1) ∧ RecsAt g (h0.next + 4) rs o
  cap : g.get (h0.next + 2) = some (.cells [P0 p] 1)
  loop : g.get (h0.next + 3) = some (.loop LP)
  prow : g.get p = some (.cells [U64 base, sl, I64 waits] 1)
  ops : g.get r = some (.cells (pre ++ flats cur) 7)
  old : ∀ z, z < h0.next → ¬ z = r → g.get z = h0.get z

theorem first1_c (h h1 : AHeap) (p r off : Nat) (pre : List Value) (S : PS) (now : Int) (LP : ALoop) (hpre : pre.length = off) (hlen : S.ops.length ≤ 1000000) (hat : ∀ o ∈ S.ops, 0 ≤ o.at_ ∧ o.at_ ≤ now)
    (hK0 : DSt h p S.base S.waits (.slice (some ⟨r, off, none⟩) S.ops.length 0) r pre now LP S.ops [] h1)
    (yield : ∀ (g : AHeap) (cur rs : List Op) (i : Nat) (o : Op), DSt h p S.base S.waits (.slice (some ⟨r, off, none⟩) S.ops.length 0) r pre now LP cur rs g → cur.length ≤ 1000000 → rs.length ≤ 1000000 → cur[i]? = some o → 0 ≤ o.at_ ∧ o.at_ ≤ now →
      VWp Try.prog (.func (.yield (h.next + 3)) #[] #[]) [.pointer (some ⟨r, off + i * 7, none⟩)] g fun u g' => u = .bool true ∧ DSt h p S.base S.waits (.slice (some ⟨r, off, none⟩) S.ops.length 0) r pre now LP (cur.set i (stamp now o)) (rs ++ bif dueb now o then [o] else []) g') :
    FWp Try.prog 16 [.func (.yield (h.next + 3)) #[] #[], P0 (h.next + 2)] h1 fun _ h2 => DSt h p S.base S.waits (.slice (some ⟨r, off, none⟩) S.ops.length 0) r pre now LP (sn now 8 S.ops) (dl now 8 S.ops) h2 := by
  refine W.enter tyOK Try.func16 rfl rfl ?_
  simp only [entry]
  have k4 := hK0.cap
  have k6 := hK0.prow
  refine W.seq <| W.reg <| 
      OSuf.aop tyOK rfl (so_assign (by simp only [lk] <;> rfl)) rfl <|
      OSuf.nil <| SQ.normal ?_
  refine W.seq <| W.reg <| 
      OSuf.aop tyOK rfl (so_load (by simp only [lk] <;> rfl) (by simp (disch := first | assumption | omega | (simp only [nx] <;> omega) | fail) only [aLoad, ty23, rowOf, hpl, k4, k6, Value.cells] <;> rfl)) rfl <|
      OSuf.aop tyOK rfl (so_nilCheck (by simp only [lk] <;> rfl)) rfl <|
      OSuf.aop tyOK rfl (so_fieldAddr (by simp only [lk] <;> rfl) (fa_ok (k := 1) ty41 rfl rfl ty39 rfl rfl)) rfl <|
      OSuf.aop tyOK rfl (so_load (by simp only [lk] <;> rfl) (by simp (disch := first | assumption | omega | (simp only [nx] <;> omega) | fail) only [aLoad, ty39, rowOf, hpl, k4, k6, Value.cells] <;> rfl)) rfl <|
      OSuf.aop tyOK rfl (so_len (by simp only [aopnds, lk] <;> rfl) (by simp (disch := first | assumption | omega | (simp only [nx] <;> omega) | fail) only [aLenOf, ty39, hpl, k4, k6, Value.cells] <;> rfl)) rfl <|
      OSuf.aop tyOK rfl (so_move (by simp only [lk] <;> rfl)) rfl <|
      OSuf.nil <| SQ.normal ?_
  -- leaf: loop
  refine W.cut (fun L h2 => DSt h p S.base S.waits (.slice (some ⟨r, off, none⟩) S.ops.length 0) r pre now LP (sn now 8 S.ops) (dl now 8 S.ops) h2) (W.block (W.loop (fun n L h2 => ∃ (i w : Nat) (done rs : List Op), n + i = S.ops.length ∧ w ≤ 8 ∧ done.length = i ∧ rs.length ≤ i ∧ done ++ sn now w (S.ops.drop i) = sn now 8 S.ops ∧ rs ++ dl now w (S.ops.drop i) = dl now 8 S.ops ∧
      DSt h p S.base S.waits (.slice (some ⟨r, off, none⟩) S.ops.length 0) r pre now LP (done ++ S.ops.drop i) rs h2 ∧ 
      L = [(0, .func (.yield (h.next + 3)) #[] #[]), (1, P0 (h.next + 2)), (3, I64 ((8 - w : Nat) : Int)), (10, I64 S.ops.length), (11, I64 (i : Nat))]) (n := S.ops.length)
      ⟨0, 8, [], [], by omega, Nat.le_refl _, rfl, Nat.zero_le _, rfl, rfl, hK0, rfl⟩ ?_ ?_)) ?_
  · simp [HasA, Tr.get_put]
  · rintro n L h2 ⟨i, w, done, rs, hn, hw, hdl, hrl, he1, he2, hK, rfl⟩
    simp only [mkA]
    by_cases hi : (i : Int) < (S.ops.length : Int)
    · have hil : i < S.ops.length := by omega
      obtain ⟨o, ho⟩ : ∃ o, S.ops[i]? = some o := ⟨S.ops[i], by simp [hil]⟩
      have hd : S.ops.drop i = o :: S.ops.drop (i + 1) := by rw [List.drop_eq_getElem_cons hil]; congr 1; exact (List.getElem?_eq_some_iff.1 ho).2
      have hc : (0 ≤ (i : Int) ∧ (i : Int) < (S.ops.length : Int)) := by omega
      have hco : (done ++ S.ops.drop i)[i]? = some o := by rw [List.getElem?_append_right (by omega), hd, hdl]; simp
      have r4 : (pre ++ flats (done ++ S.ops.drop i))[off + i * 7 + 4]? = some (.bool o.acked) := row_get hco hpre (by omega)
      have k4 := hK.cap
      have k6 := hK.prow
      have k7 := hK.ops
      have e1 : IntKind.i64.wrap ((i : Int) + 1) = ((i + 1 : Nat) : Int) := by rw [wrap_i64 (by omega) (by omega)]; omega
      cases ha : o.acked
      · cases w with
        | zero =>
          have e2 : IntKind.i64.wrap (((8 - 0 : Nat) : Int) + 1) = 9 := by decide
          rw [sn_zero] at he1
          rw [dl_zero, List.append_nil] at he2
          rw [he1, he2] at hK
          refine W.seq <| W.reg <| 
              OSuf.aopT tyOK rfl (so_bin (by simp only [lk] <;> rfl) (by simp only [lk] <;> rfl) bi_lss) (fun _ => rfl) (by first | rfl | assumption | ((simp only [bl, hc, and_self, if_true, Int.toNat_natCast, k4, k6, k7, r4]) <;> first | done | assumption | omega) | (simp [hc, and_self, if_true, Int.toNat_natCast, k4, k6, k7, r4]; done) | (simp [hc, and_self, if_true, Int.toNat_natCast, k4, k6, k7, r4]; omega)) <|
              OSuf.nil <| SQ.normal ?_
          refine W.seq <| W.yes (by simp only [lk] <;> rfl) <| CWp.skip <| SQ.normal ?_
          refine W.seq <| W.block <| W.seq <| W.reg <| 
              OSuf.aop tyOK rfl (so_move (by simp only [lk] <;> rfl)) rfl <|
              OSuf.aop tyOK rfl (so_assign (by simp only [lk] <;> rfl)) rfl <|
              OSuf.nil <| SQ.normal ?_
          refine W.seq <| W.reg <| 
              OSuf.aop tyOK rfl (so_load (by simp only [lk] <;> rfl) (by simp (disch := first | assumption | omega | (simp only [nx] <;> omega) | fail) only [aLoad, ty23, rowOf, hpl, hc, and_self, if_true, Int.toNat_natCast, k4, k6, k7, r4] <;> rfl)) rfl <|
              OSuf.aop tyOK rfl (so_nilCheck (by simp only [lk] <;> rfl)) rfl <|
              OSuf.aop tyOK rfl (so_fieldAddr (by simp only [lk] <;> rfl) (fa_ok (k := 1) ty41 rfl rfl ty39 rfl rfl)) rfl <|
              OSuf.aop tyOK rfl (so_load (by simp only [lk] <;> rfl) (by simp (disch := first | assumption | omega | (simp only [nx] <;> omega) | fail) only [aLoad, ty39, rowOf, hpl, hc, and_self, if_true, Int.toNat_natCast, k4, k6, k7, r4] <;> rfl)) rfl <|
              OSuf.aop tyOK rfl (so_move (by simp only [lk] <;> rfl)) rfl <|
              OSuf.aop tyOK rfl (so_indexAddr (by simp only [lk] <;> rfl) (by simp only [lk] <;> rfl) (by simp (disch := first | assumption | omega | (simp only [nx] <;> omega) | fail) only [aIndexAddr, ty39, ty43, hpl, hc, and_self, if_true, Int.toNat_natCast, k4, k6, k7, r4] <;> rfl)) rfl <|
              OSuf.aop tyOK rfl (so_assign (by simp only [lk] <;> rfl)) rfl <|
              OSuf.nil <| SQ.normal ?_
          refine W.seq <| W.seq <| W.reg <| 
              OSuf.aop tyOK rfl (so_move (by simp only [lk] <;> rfl)) rfl <|
              OSuf.aop tyOK rfl (so_nilCheck (by simp only [lk] <;> rfl)) rfl <|
              OSuf.aop tyOK rfl (so_fieldAddr (by simp only [lk] <;> rfl) (fa_ok (k := 4) ty43 rfl rfl ty4 rfl rfl)) rfl <|
              OSuf.aopF tyOK rfl (so_load (by simp only [lk] <;> rfl) (by simp (disch := first | assumption | omega | (simp only [nx] <;> omega) | fail) only [aLoad, ty4, rowOf, hpl, hc, and_self, if_true, Int.toNat_natCast, k4, k6, k7, r4] <;> rfl)) (fun _ => rfl) (ha) <|
              OSuf.nil <| SQ.normal ?_
          refine W.no (by simp only [lk] <;> rfl) <| CWp.skip <| SQ.normal ?_
          refine W.seq <| W.reg <| 
              OSuf.aop tyOK rfl (so_move (by simp only [lk] <;> rfl)) rfl <|
              OSuf.aop tyOK rfl (so_bin (by simp only [lk] <;> rfl) (by simp only [lk] <;> rfl) (bi_w bi_add (by first | (simp only [e1, e2] <;> rfl) | rfl))) rfl <|
              OSuf.aop tyOK rfl (so_assign (by simp only [lk] <;> rfl)) rfl <|
              OSuf.nil <| SQ.normal ?_
          refine W.seq <| W.reg <| 
              OSuf.aop tyOK rfl (so_move (by simp only [lk] <;> rfl)) rfl <|
              OSuf.aopT tyOK rfl (so_bin (by simp only [lk] <;> rfl) (by simp only [lk] <;> rfl) bi_gtr) (fun _ => rfl) (by first | rfl | assumption | ((simp only [bl, hc, and_self, if_true, Int.toNat_natCast, k4, k6, k7, r4]) <;> first | done | assumption | omega) | (simp [hc, and_self, if_true, Int.toNat_natCast, k4, k6, k7, r4]; done) | (simp [hc, and_self, if_true, Int.toNat_natCast, k4, k6, k7, r4]; omega)) <|
              OSuf.aopT tyOK rfl (so_move (by simp only [lk] <;> rfl)) (fun _ => rfl) rfl <|
              OSuf.pass (aguard_of rfl rfl (by simp only [lk] <;> rfl) rfl) rfl <|
              OSuf.pass (aguard_of rfl rfl (by simp only [lk] <;> rfl) rfl) rfl <|
              OSuf.pass (aguard_of rfl rfl (by simp only [lk] <;> rfl) rfl) rfl <|
              OSuf.pass (aguard_of rfl rfl (by simp only [lk] <;> rfl) rfl) rfl <|
              OSuf.aopT tyOK rfl (so_pick (by simp only [lk] <;> rfl) (by simp only [lk, cond_true, cond_false] <;> rfl)) (fun _ => rfl) rfl <|
              OSuf.nil <| SQ.normal ?_
          refine W.yes (by simp only [lk] <;> rfl) <| CWp.ret <| BQ.ret <| SQ.ret <| LQ.ret <| BQ.ret <| NQ.ret <| FQ.ret (by simp only [aRet, Try.f16, aResults, aResult, lk, Nat.reduceEqDiff, reduceIte] <;> rfl) ?_
          -- leaf: end
          exact hK
        | succ w =>
          have e2 : IntKind.i64.wrap (((8 - (w + 1) : Nat) : Int) + 1) = ((8 - w : Nat) : Int) := by rw [wrap_i64 (by omega) (by omega)]; omega
          have hoat := hat o (List.mem_of_getElem? ho)
          have hy := yield h2 (done ++ S.ops.drop i) rs i o hK (by simp; omega) (by omega) hco hoat
          have hset : (done ++ S.ops.drop i).set i (stamp now o) = (done ++ [stamp now o]) ++ S.ops.drop (i + 1) := by
            rw [hd, List.set_append_right _ _ (by omega), hdl]; simp
          refine W.seq <| W.reg <| 
              OSuf.aopT tyOK rfl (so_bin (by simp only [lk] <;> rfl) (by simp only [lk] <;> rfl) bi_lss) (fun _ => rfl) (by first | rfl | assumption | ((simp only [bl, hc, and_self, if_true, Int.toNat_natCast, k4, k6, k7, r4]) <;> first | done | assumption | omega) | (simp [hc, and_self, if_true, Int.toNat_natCast, k4, k6, k7, r4]; done) | (simp [hc, and_self, if_true, Int.toNat_natCast, k4, k6, k7, r4]; omega)) <|
              OSuf.nil <| SQ.normal ?_
          refine W.seq <| W.yes (by simp only [lk] <;> rfl) <| CWp.skip <| SQ.normal ?_
          refine W.seq <| W.block <| W.seq <| W.reg <| 
              OSuf.aop tyOK rfl (so_move (by simp only [lk] <;> rfl)) rfl <|
              OSuf.aop tyOK rfl (so_assign (by simp only [lk] <;> rfl)) rfl <|
              OSuf.nil <| SQ.normal ?_
          refine W.seq <| W.reg <| 
              OSuf.aop tyOK rfl (so_load (by simp only [lk] <;> rfl) (by simp (disch := first | assumption | omega | (simp only [nx] <;> omega) | fail) only [aLoad, ty23, rowOf, hpl, hc, and_self, if_true, Int.toNat_natCast, k4, k6, k7, r4] <;> rfl)) rfl <|
              OSuf.aop tyOK rfl (so_nilCheck (by simp only [lk] <;> rfl)) rfl <|
              OSuf.aop tyOK rfl (so_fieldAddr (by simp only [lk] <;> rfl) (fa_ok (k := 1) ty41 rfl rfl ty39 rfl rfl)) rfl <|
              OSuf.aop tyOK rfl (so_load (by simp only [lk] <;> rfl) (by simp (disch := first | assumption | omega | (simp only [nx] <;> omega) | fail) only [aLoad, ty39, rowOf, hpl, hc, and_self, if_true, Int.toNat_natCast, k4, k6, k7, r4] <;> rfl)) rfl <|
              OSuf.aop tyOK rfl (so_move (by simp only [lk] <;> rfl)) rfl <|
              OSuf.aop tyOK rfl (so_indexAddr (by simp only [lk] <;> rfl) (by simp only [lk] <;> rfl) (by simp (disch := first | assumption | omega | (simp only [nx] <;> omega) | fail) only [aIndexAddr, ty39, ty43, hpl, hc, and_self, if_true, Int.toNat_natCast, k4, k6, k7, r4] <;> rfl)) rfl <|
              OSuf.aop tyOK rfl (so_assign (by simp only [lk] <;> rfl)) rfl <|
              OSuf.nil <| SQ.normal ?_
          refine W.seq <| W.seq <| W.reg <| 
              OSuf.aop tyOK rfl (so_move (by simp only [lk] <;> rfl)) rfl <|
              OSuf.aop tyOK rfl (so_nilCheck (by simp only [lk] <;> rfl)) rfl <|
              OSuf.aop tyOK rfl (so_fieldAddr (by simp only [lk] <;> rfl) (fa_ok (k := 4) ty43 rfl rfl ty4 rfl rfl)) rfl <|
              OSuf.aopF tyOK rfl (so_load (by simp only [lk] <;> rfl) (by simp (disch := first | assumption | omega | (simp only [nx] <;> omega) | fail) only [aLoad, ty4, rowOf, hpl, hc, and_self, if_true, Int.toNat_natCast, k4, k6, k7, r4] <;> rfl)) (fun _ => rfl) (ha) <|
              OSuf.nil <| SQ.normal ?_
          refine W.no (by simp only [lk] <;> rfl) <| CWp.skip <| SQ.normal ?_
          refine W.seq <| W.reg <| 
              OSuf.aop tyOK rfl (so_move (by simp only [lk] <;> rfl)) rfl <|
              OSuf.aop tyOK rfl (so_bin (by simp only [lk] <;> rfl) (by simp only [lk] <;> rfl) (bi_w bi_add (by first | (simp only [e1, e2] <;> rfl) | rfl))) rfl <|
              OSuf.aop tyOK rfl (so_assign (by simp only [lk] <;> rfl)) rfl <|
              OSuf.nil <| SQ.normal ?_
          refine W.seq <| W.reg <| 
              OSuf.aop tyOK rfl (so_move (by simp only [lk] <;> rfl)) rfl <|
              OSuf.aopF tyOK rfl (so_bin (by simp only [lk] <;> rfl) (by simp only [lk] <;> rfl) bi_gtr) (fun _ => rfl) (by first | rfl | assumption | ((simp only [bl, hc, and_self, if_true, Int.toNat_natCast, k4, k6, k7, r4]) <;> first | done | assumption | omega) | (simp [hc, and_self, if_true, Int.toNat_natCast, k4, k6, k7, r4]; done) | (simp [hc, and_self, if_true, Int.toNat_natCast, k4, k6, k7, r4]; omega)) <|
              OSuf.aopF tyOK rfl (so_move (by simp only [lk] <;> rfl)) (fun _ => rfl) rfl <|
              OSuf.aop tyOK (aguard_of rfl rfl (by simp only [lk] <;> rfl) rfl) (so_move (by simp only [lk] <;> rfl)) rfl <|
              OSuf.aop tyOK (aguard_of rfl rfl (by simp only [lk] <;> rfl) rfl) (so_move (by simp only [lk] <;> rfl)) rfl <|
              OSuf.vcall (aguard_of rfl rfl (by simp only [lk] <;> rfl) rfl) (by simp only [lk] <;> rfl) (by simp only [aopnds, lk] <;> rfl) (hy) ?_
          rintro _ h3 ⟨rfl, hK3⟩
          refine ⟨_, rfl, ?_⟩
          refine 
              OSuf.aopF tyOK (aguard_of rfl rfl (by simp only [lk] <;> rfl) rfl) (so_not (by simp only [lk] <;> rfl)) (fun _ => rfl) rfl <|
              OSuf.aopF tyOK rfl (so_pick (by simp only [lk] <;> rfl) (by simp only [lk, cond_true, cond_false] <;> rfl)) (fun _ => rfl) rfl <|
              OSuf.nil <| SQ.normal ?_
          refine W.no (by simp only [lk] <;> rfl) <| CWp.skip <| BQ.normal <| SQ.normal ?_
          refine W.reg <| 
              OSuf.aop tyOK rfl (so_bin (by simp only [lk] <;> rfl) (by simp only [lk] <;> rfl) (bi_w bi_add (by first | (simp only [e1, e2] <;> rfl) | rfl))) rfl <|
              OSuf.aop tyOK rfl (so_move (by simp only [lk] <;> rfl)) rfl <|
              OSuf.nil <| ?_
          -- leaf: round
          rw [hset] at hK3
          refine LQ.normal (m := n - 1) (L := [(0, .func (.yield (h.next + 3)) #[] #[]), (1, P0 (h.next + 2)), (3, I64 ((8 - w : Nat) : Int)), (10, I64 S.ops.length), (11, I64 ((i + 1 : Nat) : Int))]) (by omega) ?_ ⟨i + 1, w, done ++ [stamp now o], _, by omega, by omega, by simp [hdl], ?_, ?_, ?_, hK3, rfl⟩
          · simp only [HasA, Tr.get_put, Nat.reduceEqDiff, reduceIte, e1, e2, and_self]
          · cases dueb now o <;> simp <;> omega
          · rw [← he1, hd]; simp [sn, ha]
          · rw [← he2, hd]; simp [dl, ha]
      · refine W.seq <| W.reg <| 
            OSuf.aopT tyOK rfl (so_bin (by simp only [lk] <;> rfl) (by simp only [lk] <;> rfl) bi_lss) (fun _ => rfl) (by first | rfl | assumption | ((simp only [bl, hc, and_self, if_true, Int.toNat_natCast, k4, k6, k7, r4]) <;> first | done | assumption | omega) | (simp [hc, and_self, if_true, Int.toNat_natCast, k4, k6, k7, r4]; done) | (simp [hc, and_self, if_true, Int.toNat_natCast, k4, k6, k7, r4]; omega)) <|
            OSuf.nil <| SQ.normal ?_
        refine W.seq <| W.yes (by simp only [lk] <;> rfl) <| CWp.skip <| SQ.normal ?_
        refine W.seq <| W.block <| W.seq <| W.reg <| 
            OSuf.aop tyOK rfl (so_move (by simp only [lk] <;> rfl)) rfl <|
            OSuf.aop tyOK rfl (so_assign (by simp only [lk] <;> rfl)) rfl <|
            OSuf.nil <| SQ.normal ?_
        refine W.seq <| W.reg <| 
            OSuf.aop tyOK rfl (so_load (by simp only [lk] <;> rfl) (by simp (disch := first | assumption | omega | (simp only [nx] <;> omega) | fail) only [aLoad, ty23, rowOf, hpl, hc, and_self, if_true, Int.toNat_natCast, k4, k6, k7, r4] <;> rfl)) rfl <|
            OSuf.aop tyOK rfl (so_nilCheck (by simp only [lk] <;> rfl)) rfl <|
            OSuf.aop tyOK rfl (so_fieldAddr (by simp only [lk] <;> rfl) (fa_ok (k := 1) ty41 rfl rfl ty39 rfl rfl)) rfl <|
            OSuf.aop tyOK rfl (so_load (by simp only [lk] <;> rfl) (by simp (disch := first | assumption | omega | (simp only [nx] <;> omega) | fail) only [aLoad, ty39, rowOf, hpl, hc, and_self, if_true, Int.toNat_natCast, k4, k6, k7, r4] <;> rfl)) rfl <|
            OSuf.aop tyOK rfl (so_move (by simp only [lk] <;> rfl)) rfl <|
            OSuf.aop tyOK rfl (so_indexAddr (by simp only [lk] <;> rfl) (by simp only [lk] <;> rfl) (by simp (disch := first | assumption | omega | (simp only [nx] <;> omega) | fail) only [aIndexAddr, ty39, ty43, hpl, hc, and_self, if_true, Int.toNat_natCast, k4, k6, k7, r4] <;> rfl)) rfl <|
            OSuf.aop tyOK rfl (so_assign (by simp only [lk] <;> rfl)) rfl <|
            OSuf.nil <| SQ.normal ?_
        refine W.seq <| W.seq <| W.reg <| 
            OSuf.aop tyOK rfl (so_move (by simp only [lk] <;> rfl)) rfl <|
            OSuf.aop tyOK rfl (so_nilCheck (by simp only [lk] <;> rfl)) rfl <|
            OSuf.aop tyOK rfl (so_fieldAddr (by simp only [lk] <;> rfl) (fa_ok (k := 4) ty43 rfl rfl ty4 rfl rfl)) rfl <|
            OSuf.aopT tyOK rfl (so_load (by simp only [lk] <;> rfl) (by simp (disch := first | assumption | omega | (simp only [nx] <;> omega) | fail) only [aLoad, ty4, rowOf, hpl, hc, and_self, if_true, Int.toNat_natCast, k4, k6, k7, r4] <;> rfl)) (fun _ => rfl) (ha) <|
            OSuf.nil <| SQ.normal ?_
        refine W.yes (by simp only [lk] <;> rfl) <| CWp.exit <| SQ.exit <| BQ.exit <| SQ.normal ?_
        refine W.reg <| 
            OSuf.aop tyOK rfl (so_bin (by simp only [lk] <;> rfl) (by simp only [lk] <;> rfl) (bi_w bi_add (by first | (simp only [e1] <;> rfl) | rfl))) rfl <|
            OSuf.aop tyOK rfl (so_move (by simp only [lk] <;> rfl)) rfl <|
            OSuf.nil <| ?_
        -- leaf: round
        refine LQ.normal (m := n - 1) (L := [(0, .func (.yield (h.next + 3)) #[] #[]), (1, P0 (h.next + 2)), (3, I64 ((8 - w : Nat) : Int)), (10, I64 S.ops.length), (11, I64 ((i + 1 : Nat) : Int))]) (by omega) ?_ ⟨i + 1, w, done ++ [o], rs, by omega, by omega, by simp [hdl], by omega, ?_, ?_, ?_, rfl⟩
        · simp only [HasA, Tr.get_put, Nat.reduceEqDiff, reduceIte, e1, and_self]
        · rw [← he1, hd]; cases w <;> simp [sn, sn_zero, ha]
        · rw [← he2, hd]; cases w <;> simp [dl, dl_zero, ha]
        · rw [hd] at hK; simpa using hK
    · have hz : S.ops.drop i = [] := List.drop_of_length_le (by omega)
      have e3 : ∀ w, sn now w [] = [] := fun w => by cases w <;> rfl
      have e4 : ∀ w, dl now w [] = [] := fun w => by cases w <;> rfl
      rw [hz] at he1 he2 hK
      rw [e3, List.append_nil] at he1
      rw [e4, List.append_nil] at he2
      rw [List.append_nil, he1, he2] at hK
      refine W.seq <| W.reg <| 
          OSuf.aopF tyOK rfl (so_bin (by simp only [lk] <;> rfl) (by simp only [lk] <;> rfl) bi_lss) (fun _ => rfl) (by first | rfl | assumption | ((simp only [bl]) <;> first | done | assumption | omega) | (simp []; done) | (simp []; omega)) <|
          OSuf.nil <| SQ.normal ?_
      refine W.seq <| W.no (by simp only [lk] <;> rfl) <| CWp.exit <| SQ.exit <| LQ.exit <| BQ.exit <| ?_
      -- leaf: cut
      exact NQ.normal (L := []) trivial hK
  rintro L a' h2 ha hK
  exact FQ.normal (by simp only [aRet, Try.f16, aResults] <;> rfl) hK
end Go.Proofs.Ythjeoohlknajpaa
