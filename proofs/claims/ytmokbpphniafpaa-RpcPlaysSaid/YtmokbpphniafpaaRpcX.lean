/-
  The document's own rpc (coupletref22): its memory; Ask, Again, Answer, Due. The comparison of messages.
-/
import Derived.Test.YtmokbpphniafpaaRpcD
namespace Go.Proofs.Ytmokbpphniafpaa
open Go.Ab
set_option linter.unusedSimpArgs false
set_option linter.unusedVariables false
set_option maxRecDepth 10000
set_option maxHeartbeats 4000000

/-- A slice: its elements' cells. -/
theorem RdV.recs {P : Program} {h : AHeap} {n : Nat} {t e : TypeId} {v : Value} (ht : P.underlying t = some (.slice e)) (hr : RdV P h (n + 1) t v) :
    ∃ (b : Option Addr) (vss : List (List Value)), v = .slice b vss.length 0 ∧ vss.length ≤ maxLen ∧ (∀ x ∈ vss, x.length = P.cellsOf e ∧ Rd P h n e x) ∧ (vss ≠ [] → ∃ r, b = some ⟨r, 0, none⟩ ∧ r < h.next ∧ h.get r = some (.ro vss.flatten)) := by
  unfold RdV at hr
  rw [ht] at hr
  simp only at hr
  unfold Rd at hr
  rw [ht] at hr
  simp only at hr
  rcases hr with h1 | ⟨r, vss, h1, h2, h3, h4, h5⟩
  · exact ⟨none, [], by simpa using h1, Nat.zero_le _, by simp, fun h => (h rfl).elim⟩
  · exact ⟨some ⟨r, 0, none⟩, vss, by simpa using h1, h2, h5, fun hn => ⟨r, rfl, h3, h4 hn⟩⟩
/-- A struct: its fields' cells. -/
theorem Rd.fields {P : Program} {h : AHeap} {n : Nat} {t : TypeId} {fs : Array Field} {vs : List Value} (ht : P.underlying t = some (.struct fs)) (hr : Rd P h (n + 1) t vs) :
    ∃ vss : List (List Value), vs = vss.flatten ∧ vss.length = fs.size ∧ ∀ (i : Nat) (f : Field) (v : List Value), fs[i]? = some f → vss[i]? = some v → v.length = P.cellsOf f.type ∧ Rd P h n f.type v := by
  unfold Rd at hr
  rw [ht] at hr
  exact hr
theorem Rd.int {P : Program} {h : AHeap} {n : Nat} {t : TypeId} {k : IntKind} {vs : List Value} (ht : P.underlying t = some (.int k)) (hr : Rd P h (n + 1) t vs) : ∃ i, vs = [.int k i] ∧ (Lit.int k i).wf = true := by
  unfold Rd at hr
  rw [ht] at hr
  exact hr
theorem Rd.bool {P : Program} {h : AHeap} {n : Nat} {t : TypeId} {vs : List Value} (ht : P.underlying t = some .bool) (hr : Rd P h (n + 1) t vs) : ∃ b, vs = [.bool b] := by
  unfold Rd at hr
  rw [ht] at hr
  exact hr
theorem Rd.string {P : Program} {h : AHeap} {n : Nat} {t : TypeId} {vs : List Value} (ht : P.underlying t = some .string) (hr : Rd P h (n + 1) t vs) : ∃ s : ByteArray, vs = [.string s] ∧ s.size ≤ maxLen := by
  unfold Rd at hr
  rw [ht] at hr
  exact hr
theorem sb : (∀ p : Prop, (p ∧ p) = p) ∧ (∀ {α : Type} {d : Decidable True} (a b : α), @ite α True d a b = a) ∧ (∀ n : Nat, (n : Int).toNat = n) ∧ (∀ n : Nat, 0 + n = n) ∧ (∀ n : Nat, n + 0 = n) := ⟨fun p => and_self p, fun {α d} a b => by simp, fun n => Int.toNat_natCast n, Nat.zero_add, Nat.add_zero⟩
def flatsQ : List Qn → List Value
  | [] => []
  | q :: l => q.cs ++ flatsQ l
theorem flatsQ_length : ∀ l : List Qn, (flatsQ l).length = l.length * 15
  | [] => rfl
  | o :: l => by simp only [flatsQ, List.length_append, flatsQ_length l, List.length_cons, Qn.cs, List.length_nil]; omega
theorem flatsQ_append : ∀ l m : List Qn, flatsQ (l ++ m) = flatsQ l ++ flatsQ m
  | [], m => rfl
  | o :: l, m => by simp only [flatsQ, List.cons_append, flatsQ_append l m, List.append_assoc]
theorem flatsQ_take : ∀ (l : List Qn) (i : Nat), (flatsQ l).take (i * 15) = flatsQ (l.take i)
  | [], i => by simp [flatsQ]
  | q :: l, 0 => by simp [flatsQ]
  | q :: l, i + 1 => by
    have e : (i + 1) * 15 = i * 15 + 15 := by omega
    rw [e]
    show List.take (i * 15 + 15) (q.cs ++ flatsQ l) = q.cs ++ flatsQ (l.take i)
    rw [← flatsQ_take l i]; rfl
theorem flatsQ_drop : ∀ (l : List Qn) (i : Nat), (flatsQ l).drop (i * 15) = flatsQ (l.drop i)
  | [], i => by simp [flatsQ]
  | q :: l, 0 => by simp [flatsQ]
  | q :: l, i + 1 => by
    have e : (i + 1) * 15 = i * 15 + 15 := by omega
    rw [e]
    show List.drop (i * 15 + 15) (q.cs ++ flatsQ l) = flatsQ (l.drop i)
    rw [← flatsQ_drop l i]; rfl
theorem flatsQ_cell {l : List Qn} {i : Nat} {q : Qn} (hq : l[i]? = some q) : cellsOf (flatsQ l) (i * 15) 15 = some q.cs := by
  have hil := (List.getElem?_eq_some_iff.1 hq).1
  rw [cellsOf_mk (by rw [flatsQ_length]; omega), flatsQ_drop, List.drop_eq_getElem_cons hil]
  have : l[i] = q := (List.getElem?_eq_some_iff.1 hq).2
  rw [this]; rfl
theorem flatsQ_msg {l : List Qn} {i : Nat} {q : Qn} (hq : l[i]? = some q) : cellsOf (flatsQ l) (i * 15) 13 = some q.msg.cs := by
  have hil := (List.getElem?_eq_some_iff.1 hq).1
  rw [cellsOf_mk (by rw [flatsQ_length]; omega), flatsQ_drop, List.drop_eq_getElem_cons hil]
  have : l[i] = q := (List.getElem?_eq_some_iff.1 hq).2
  rw [this]; rfl
theorem flatsQ_get {q : Qn} (j : Nat) : ∀ {l : List Qn} {i : Nat}, l[i]? = some q → j < 15 → (flatsQ l)[i * 15 + j]? = q.cs[j]?
  | [], i, h, _ => by simp at h
  | x :: l, 0, h, hj => by
    simp at h; subst h
    simp only [flatsQ]
    rw [List.getElem?_append_left (by simp [Qn.cs]; omega)]; simp
  | x :: l, i + 1, h, hj => by
    simp only [List.getElem?_cons_succ] at h
    have e : (i + 1) * 15 + j = i * 15 + j + 15 := by omega
    rw [e, ← flatsQ_get j h hj]; rfl
theorem flatsQ_splice {q q' : Qn} {j : Nat} {v : Value} (hs : ∀ r, splice (q.cs ++ r) j [v] = q'.cs ++ r) : ∀ {l : List Qn} {i : Nat}, l[i]? = some q → splice (flatsQ l) (i * 15 + j) [v] = flatsQ (l.set i q')
  | [], i, h => by simp at h
  | x :: l, 0, h => by
    simp at h; subst h
    rw [Nat.zero_mul, Nat.zero_add]; exact hs _
  | x :: l, i + 1, h => by
    simp only [List.getElem?_cons_succ] at h
    have e : (i + 1) * 15 + j = i * 15 + j + 15 := by omega
    rw [e]
    show x.cs ++ splice (flatsQ l) (i * 15 + j) [v] = x.cs ++ flatsQ (l.set i q')
    rw [flatsQ_splice hs h]
theorem flatsQ_ble {l : List Qn} {i j : Nat} {v : Value} (hi : i < l.length) (hj : j < 15) : (i * 15 + j + [v].length).ble (flatsQ l).length = true :=
  Nat.ble_eq_true_of_le (by rw [flatsQ_length]; simp; omega)

/-- The document's list: where it lies, if anywhere. -/
inductive QsAt (h : AHeap) (x : Option Nat) (qs : List Qn) : Value → Prop
  | none (e : qs = []) (hx : x = .none) : QsAt h x qs (.slice none 0 0)
  | some {y n : Nat} (hn : n = qs.length) (hx : x = .some y) (hlt : y < h.next) (hg : h.get y = .some (.cells (flatsQ qs) 15)) : QsAt h x qs (.slice (.some ⟨y, 0, .none⟩) n 0)
structure RB (h : AHeap) (s : Nat) (x : Option Nat) (last : Int) (qs : List Qn) : Prop where
  lt : s < h.next
  ov : ∃ v, h.get s = some (.cells [v, U64 last] 1) ∧ QsAt h x qs v
  sx : ∀ y, x = some y → ¬ y = s ∧ y < h.next
def FrB (h h' : AHeap) (s : Nat) (x : Option Nat) : Prop := h.next ≤ h'.next ∧ ∀ z, z < h.next → ¬ s = z → (∀ y, x = some y → ¬ y = z) → h'.get z = h.get z
theorem RB.mono {h h' : AHeap} {s : Nat} {x : Option Nat} {last : Int} {qs : List Qn} (hB : RB h s x last qs) (hn : h.next ≤ h'.next) (hs : h'.get s = h.get s) (hk : ∀ y, x = some y → h'.get y = h.get y) : RB h' s x last qs := by
  obtain ⟨h1, ⟨v, h2, h3⟩, h4⟩ := hB
  refine ⟨by omega, ⟨v, by rw [hs]; exact h2, ?_⟩, fun y hy => ⟨(h4 y hy).1, by have := (h4 y hy).2; omega⟩⟩
  cases h3 with
  | none e hx => exact .none e hx
  | some e hx hlt hg => exact .some e hx (by omega) (by rw [hk _ hx]; exact hg)
theorem FrB.ro {h h' : AHeap} {s : Nat} {x : Option Nat} {last : Int} {qs : List Qn} (hB : RB h s x last qs) (f : FrB h h' s x) {z : Nat} {vs : List Value} (hz : z < h.next) (hg : h.get z = some (.ro vs)) : h'.get z = some (.ro vs) := by
  obtain ⟨h1, ⟨v, h2, h3⟩, h4⟩ := hB
  rw [f.2 z hz (fun e => by subst e; rw [h2] at hg; cases hg) (fun y hy e => by subst e; cases h3 with
    | none _ hx => rw [hx] at hy; cases hy
    | some e hx hlt hgy => rw [hx] at hy; cases hy; rw [hgy] at hg; cases hg)]
  exact hg

/-! Messages that are alike. -/
theorem recs_c (h : AHeap) : FWp Try.prog 24 [.slice none 0 0, .slice none 0 0] h fun u h' => u = .bool true ∧ h' = h := by
  refine W.enter tyOK Try.func24 rfl rfl ?_
  simp only [entry]
  refine W.seq <| W.reg <| OSuf.aopF tyOK rfl (so_assign (by simp only [lk] <;> rfl)) (fun _ => rfl) rfl <| OSuf.nil <| SQ.normal ?_
  refine W.seq <| W.seq <| W.reg <| OSuf.aop tyOK rfl (so_move (by simp only [lk] <;> rfl)) rfl <| OSuf.aop tyOK rfl (so_len (by simp only [aopnds, lk] <;> rfl) (by simp (disch := first | assumption | omega | (simp only [nx] <;> omega) | fail) only [aLenOf, ty30, hpl] <;> rfl)) rfl <| OSuf.aop tyOK rfl (so_move (by simp only [lk] <;> rfl)) rfl <| OSuf.aop tyOK rfl (so_len (by simp only [aopnds, lk] <;> rfl) (by simp (disch := first | assumption | omega | (simp only [nx] <;> omega) | fail) only [aLenOf, ty30, hpl] <;> rfl)) rfl <| OSuf.aopF tyOK rfl (so_bin (by simp only [lk] <;> rfl) (by simp only [lk] <;> rfl) bi_neq) (fun _ => rfl) (by first | rfl | assumption | ((simp only [bl]) <;> first | done | assumption | omega) | (simp []; done) | (simp []; omega)) <| OSuf.nil <| SQ.normal ?_
  refine W.no (by simp only [lk] <;> rfl) <| CWp.skip <| SQ.normal ?_
  refine W.seq <| W.seq <| W.reg <| OSuf.aop tyOK rfl (so_assign (by simp only [lk] <;> rfl)) rfl <| OSuf.nil <| SQ.normal ?_
  -- leaf: loop
  refine W.cut (fun L h' => h' = h ∧ L = []) (W.block (W.loop (fun n L h' => h' = h ∧ L = [(0, .slice none 0 0), (1, .slice none 0 0), (5, I64 0)]) (n := 0) ⟨rfl, rfl⟩ ?_ ?_)) ?_
  · simp [HasA, Tr.get_put]
  · rintro n L h' ⟨rfl, rfl⟩
    simp only [mkA]
    refine W.seq <| W.seq <| W.reg <| OSuf.aop tyOK rfl (so_move (by simp only [lk] <;> rfl)) rfl <| OSuf.aop tyOK rfl (so_move (by simp only [lk] <;> rfl)) rfl <| OSuf.aop tyOK rfl (so_len (by simp only [aopnds, lk] <;> rfl) (by simp (disch := first | assumption | omega | (simp only [nx] <;> omega) | fail) only [aLenOf, ty30, hpl] <;> rfl)) rfl <| OSuf.aopF tyOK rfl (so_bin (by simp only [lk] <;> rfl) (by simp only [lk] <;> rfl) bi_lss) (fun _ => rfl) (by first | rfl | assumption | ((simp only [bl]) <;> first | done | assumption | omega) | (simp []; done) | (simp []; omega)) <| OSuf.nil <| SQ.normal ?_
    refine W.no (by simp only [lk] <;> rfl) <| CWp.exit <| SQ.exit <| LQ.exit <| BQ.exit <| ?_
    -- leaf: cut
    exact NQ.normal (L := []) trivial ⟨rfl, rfl⟩
  rintro L a' h' ha ⟨rfl, rfl⟩
  refine SQ.normal <| CWp.known ha ?_
  simp only [mkA]
  refine W.seq <| W.reg <| OSuf.aopT tyOK rfl (so_assign (by simp only [lk] <;> rfl)) (fun _ => rfl) rfl <| OSuf.nil <| SQ.normal ?_
  refine CWp.ret <| FQ.ret (by simp only [aRet, Try.f24, aResults, aResult, lk, Nat.reduceEqDiff, reduceIte] <;> rfl) ?_
  -- leaf: end
  exact ⟨rfl, rfl⟩
theorem same_c (h : AHeap) (m : Msg) : FWp Try.prog 11 [m.v, m.v] h fun u h' => u = .bool true ∧ h' = h := by
  refine FWp.gcs (BV.flat rfl) (W.enter tyOK Try.func11 rfl rfl ?_)
  simp only [entry, Msg.v]
  refine W.seq <| W.reg <| OSuf.aop tyOK rfl (so_box (by simp only [lk] <;> rfl)) rfl <| OSuf.aop tyOK rfl (so_box (by simp only [lk] <;> rfl)) rfl <| OSuf.aopF tyOK rfl (so_assign (by simp only [lk] <;> rfl)) (fun _ => rfl) rfl <| OSuf.nil <| SQ.normal ?_
  refine W.seq <| W.reg <| OSuf.aop tyOK rfl (so_fieldAddr (by simp only [lk] <;> rfl) (fa_ok (k := 0) ty33 rfl rfl ty3 rfl rfl)) rfl <| OSuf.aop tyOK rfl (so_load (by simp only [lk] <;> rfl) (by simp (disch := first | assumption | omega | (simp only [nx] <;> omega) | fail) only [aLoad, ty3, rowOf, hpl, Value.cells] <;> rfl)) rfl <| OSuf.aop tyOK rfl (so_fieldAddr (by simp only [lk] <;> rfl) (fa_ok (k := 0) ty33 rfl rfl ty3 rfl rfl)) rfl <| OSuf.aop tyOK rfl (so_load (by simp only [lk] <;> rfl) (by simp (disch := first | assumption | omega | (simp only [nx] <;> omega) | fail) only [aLoad, ty3, rowOf, hpl, Value.cells] <;> rfl)) rfl <| OSuf.aopT tyOK rfl (so_bin (by simp only [lk] <;> rfl) (by simp only [lk] <;> rfl) bi_eql) (fun _ => rfl) (by first | rfl | assumption | ((simp only [bl, Value.cells]) <;> first | done | assumption | omega) | (simp [Value.cells]; done) | (simp [Value.cells]; omega)) <| OSuf.aopT tyOK rfl (so_move (by simp only [lk] <;> rfl)) (fun _ => rfl) rfl <| OSuf.aop tyOK (aguard_of rfl rfl (by simp only [lk] <;> rfl) rfl) (so_fieldAddr (by simp only [lk] <;> rfl) (fa_ok (k := 1) ty33 rfl rfl ty27 rfl rfl)) rfl <| OSuf.aop tyOK (aguard_of rfl rfl (by simp only [lk] <;> rfl) rfl) (so_load (by simp only [lk] <;> rfl) (by simp (disch := first | assumption | omega | (simp only [nx] <;> omega) | fail) only [aLoad, ty27, rowOf, hpl, Value.cells] <;> rfl)) rfl <| OSuf.aop tyOK (aguard_of rfl rfl (by simp only [lk] <;> rfl) rfl) (so_fieldAddr (by simp only [lk] <;> rfl) (fa_ok (k := 1) ty33 rfl rfl ty27 rfl rfl)) rfl <| OSuf.aop tyOK (aguard_of rfl rfl (by simp only [lk] <;> rfl) rfl) (so_load (by simp only [lk] <;> rfl) (by simp (disch := first | assumption | omega | (simp only [nx] <;> omega) | fail) only [aLoad, ty27, rowOf, hpl, Value.cells] <;> rfl)) rfl <| OSuf.aopT tyOK (aguard_of rfl rfl (by simp only [lk] <;> rfl) rfl) (so_bin (by simp only [lk] <;> rfl) (by simp only [lk] <;> rfl) bi_eql) (fun _ => rfl) (by first | rfl | assumption | ((simp only [bl, Value.cells]) <;> first | done | assumption | omega) | (simp [Value.cells]; done) | (simp [Value.cells]; omega)) <| OSuf.aopT tyOK rfl (so_pick (by simp only [lk] <;> rfl) (by simp only [lk, cond_true, cond_false] <;> rfl)) (fun _ => rfl) rfl <| OSuf.aopT tyOK rfl (so_move (by simp only [lk] <;> rfl)) (fun _ => rfl) rfl <| OSuf.aop tyOK (aguard_of rfl rfl (by simp only [lk] <;> rfl) rfl) (so_fieldAddr (by simp only [lk] <;> rfl) (fa_ok (k := 2) ty33 rfl rfl ty27 rfl rfl)) rfl <| OSuf.aop tyOK (aguard_of rfl rfl (by simp only [lk] <;> rfl) rfl) (so_load (by simp only [lk] <;> rfl) (by simp (disch := first | assumption | omega | (simp only [nx] <;> omega) | fail) only [aLoad, ty27, rowOf, hpl, Value.cells] <;> rfl)) rfl <| OSuf.aop tyOK (aguard_of rfl rfl (by simp only [lk] <;> rfl) rfl) (so_fieldAddr (by simp only [lk] <;> rfl) (fa_ok (k := 2) ty33 rfl rfl ty27 rfl rfl)) rfl <| OSuf.aop tyOK (aguard_of rfl rfl (by simp only [lk] <;> rfl) rfl) (so_load (by simp only [lk] <;> rfl) (by simp (disch := first | assumption | omega | (simp only [nx] <;> omega) | fail) only [aLoad, ty27, rowOf, hpl, Value.cells] <;> rfl)) rfl <| OSuf.aopT tyOK (aguard_of rfl rfl (by simp only [lk] <;> rfl) rfl) (so_bin (by simp only [lk] <;> rfl) (by simp only [lk] <;> rfl) bi_eql) (fun _ => rfl) (by first | rfl | assumption | ((simp only [bl, Value.cells]) <;> first | done | assumption | omega) | (simp [Value.cells]; done) | (simp [Value.cells]; omega)) <| OSuf.aopT tyOK rfl (so_pick (by simp only [lk] <;> rfl) (by simp only [lk, cond_true, cond_false] <;> rfl)) (fun _ => rfl) rfl <| OSuf.aopT tyOK rfl (so_move (by simp only [lk] <;> rfl)) (fun _ => rfl) rfl <| OSuf.aop tyOK (aguard_of rfl rfl (by simp only [lk] <;> rfl) rfl) (so_fieldAddr (by simp only [lk] <;> rfl) (fa_ok (k := 3) ty33 rfl rfl ty27 rfl rfl)) rfl <| OSuf.aop tyOK (aguard_of rfl rfl (by simp only [lk] <;> rfl) rfl) (so_load (by simp only [lk] <;> rfl) (by simp (disch := first | assumption | omega | (simp only [nx] <;> omega) | fail) only [aLoad, ty27, rowOf, hpl, Value.cells] <;> rfl)) rfl <| OSuf.aop tyOK (aguard_of rfl rfl (by simp only [lk] <;> rfl) rfl) (so_fieldAddr (by simp only [lk] <;> rfl) (fa_ok (k := 3) ty33 rfl rfl ty27 rfl rfl)) rfl <| OSuf.aop tyOK (aguard_of rfl rfl (by simp only [lk] <;> rfl) rfl) (so_load (by simp only [lk] <;> rfl) (by simp (disch := first | assumption | omega | (simp only [nx] <;> omega) | fail) only [aLoad, ty27, rowOf, hpl, Value.cells] <;> rfl)) rfl <| OSuf.aopT tyOK (aguard_of rfl rfl (by simp only [lk] <;> rfl) rfl) (so_bin (by simp only [lk] <;> rfl) (by simp only [lk] <;> rfl) bi_eql) (fun _ => rfl) (by first | rfl | assumption | ((simp only [bl, Value.cells]) <;> first | done | assumption | omega) | (simp [Value.cells]; done) | (simp [Value.cells]; omega)) <| OSuf.aopT tyOK rfl (so_pick (by simp only [lk] <;> rfl) (by simp only [lk, cond_true, cond_false] <;> rfl)) (fun _ => rfl) rfl <| OSuf.aopT tyOK rfl (so_move (by simp only [lk] <;> rfl)) (fun _ => rfl) rfl <| OSuf.aop tyOK (aguard_of rfl rfl (by simp only [lk] <;> rfl) rfl) (so_fieldAddr (by simp only [lk] <;> rfl) (fa_ok (k := 4) ty33 rfl rfl ty27 rfl rfl)) rfl <| OSuf.aop tyOK (aguard_of rfl rfl (by simp only [lk] <;> rfl) rfl) (so_load (by simp only [lk] <;> rfl) (by simp (disch := first | assumption | omega | (simp only [nx] <;> omega) | fail) only [aLoad, ty27, rowOf, hpl, Value.cells] <;> rfl)) rfl <| OSuf.aop tyOK (aguard_of rfl rfl (by simp only [lk] <;> rfl) rfl) (so_fieldAddr (by simp only [lk] <;> rfl) (fa_ok (k := 4) ty33 rfl rfl ty27 rfl rfl)) rfl <| OSuf.aop tyOK (aguard_of rfl rfl (by simp only [lk] <;> rfl) rfl) (so_load (by simp only [lk] <;> rfl) (by simp (disch := first | assumption | omega | (simp only [nx] <;> omega) | fail) only [aLoad, ty27, rowOf, hpl, Value.cells] <;> rfl)) rfl <| OSuf.aopT tyOK (aguard_of rfl rfl (by simp only [lk] <;> rfl) rfl) (so_bin (by simp only [lk] <;> rfl) (by simp only [lk] <;> rfl) bi_eql) (fun _ => rfl) (by first | rfl | assumption | ((simp only [bl, Value.cells]) <;> first | done | assumption | omega) | (simp [Value.cells]; done) | (simp [Value.cells]; omega)) <| OSuf.aopT tyOK rfl (so_pick (by simp only [lk] <;> rfl) (by simp only [lk, cond_true, cond_false] <;> rfl)) (fun _ => rfl) rfl <| OSuf.aopT tyOK rfl (so_move (by simp only [lk] <;> rfl)) (fun _ => rfl) rfl <| OSuf.aop tyOK (aguard_of rfl rfl (by simp only [lk] <;> rfl) rfl) (so_fieldAddr (by simp only [lk] <;> rfl) (fa_ok (k := 5) ty33 rfl rfl ty27 rfl rfl)) rfl <| OSuf.aop tyOK (aguard_of rfl rfl (by simp only [lk] <;> rfl) rfl) (so_load (by simp only [lk] <;> rfl) (by simp (disch := first | assumption | omega | (simp only [nx] <;> omega) | fail) only [aLoad, ty27, rowOf, hpl, Value.cells] <;> rfl)) rfl <| OSuf.aop tyOK (aguard_of rfl rfl (by simp only [lk] <;> rfl) rfl) (so_fieldAddr (by simp only [lk] <;> rfl) (fa_ok (k := 5) ty33 rfl rfl ty27 rfl rfl)) rfl <| OSuf.aop tyOK (aguard_of rfl rfl (by simp only [lk] <;> rfl) rfl) (so_load (by simp only [lk] <;> rfl) (by simp (disch := first | assumption | omega | (simp only [nx] <;> omega) | fail) only [aLoad, ty27, rowOf, hpl, Value.cells] <;> rfl)) rfl <| OSuf.aopT tyOK (aguard_of rfl rfl (by simp only [lk] <;> rfl) rfl) (so_bin (by simp only [lk] <;> rfl) (by simp only [lk] <;> rfl) bi_eql) (fun _ => rfl) (by first | rfl | assumption | ((simp only [bl, Value.cells]) <;> first | done | assumption | omega) | (simp [Value.cells]; done) | (simp [Value.cells]; omega)) <| OSuf.aopT tyOK rfl (so_pick (by simp only [lk] <;> rfl) (by simp only [lk, cond_true, cond_false] <;> rfl)) (fun _ => rfl) rfl <| OSuf.aopT tyOK rfl (so_move (by simp only [lk] <;> rfl)) (fun _ => rfl) rfl <| OSuf.aop tyOK (aguard_of rfl rfl (by simp only [lk] <;> rfl) rfl) (so_fieldAddr (by simp only [lk] <;> rfl) (fa_ok (k := 6) ty33 rfl rfl ty9 rfl rfl)) rfl <| OSuf.aop tyOK (aguard_of rfl rfl (by simp only [lk] <;> rfl) rfl) (so_load (by simp only [lk] <;> rfl) (by simp (disch := first | assumption | omega | (simp only [nx] <;> omega) | fail) only [aLoad, ty9, rowOf, hpl, Value.cells] <;> rfl)) rfl <| OSuf.aop tyOK (aguard_of rfl rfl (by simp only [lk] <;> rfl) rfl) (so_fieldAddr (by simp only [lk] <;> rfl) (fa_ok (k := 6) ty33 rfl rfl ty9 rfl rfl)) rfl <| OSuf.aop tyOK (aguard_of rfl rfl (by simp only [lk] <;> rfl) rfl) (so_load (by simp only [lk] <;> rfl) (by simp (disch := first | assumption | omega | (simp only [nx] <;> omega) | fail) only [aLoad, ty9, rowOf, hpl, Value.cells] <;> rfl)) rfl <| OSuf.aopT tyOK (aguard_of rfl rfl (by simp only [lk] <;> rfl) rfl) (so_bin (by simp only [lk] <;> rfl) (by simp only [lk] <;> rfl) bs_eql) (fun _ => rfl) (by first | rfl | assumption | ((simp only [bl, Value.cells]) <;> first | done | assumption | omega) | (simp [Value.cells]; done) | (simp [Value.cells]; omega)) <| OSuf.aopT tyOK rfl (so_pick (by simp only [lk] <;> rfl) (by simp only [lk, cond_true, cond_false] <;> rfl)) (fun _ => rfl) rfl <| OSuf.aopT tyOK rfl (so_move (by simp only [lk] <;> rfl)) (fun _ => rfl) rfl <| OSuf.aop tyOK (aguard_of rfl rfl (by simp only [lk] <;> rfl) rfl) (so_fieldAddr (by simp only [lk] <;> rfl) (fa_ok (k := 7) ty33 rfl rfl ty9 rfl rfl)) rfl <| OSuf.aop tyOK (aguard_of rfl rfl (by simp only [lk] <;> rfl) rfl) (so_load (by simp only [lk] <;> rfl) (by simp (disch := first | assumption | omega | (simp only [nx] <;> omega) | fail) only [aLoad, ty9, rowOf, hpl, Value.cells] <;> rfl)) rfl <| OSuf.aop tyOK (aguard_of rfl rfl (by simp only [lk] <;> rfl) rfl) (so_fieldAddr (by simp only [lk] <;> rfl) (fa_ok (k := 7) ty33 rfl rfl ty9 rfl rfl)) rfl <| OSuf.aop tyOK (aguard_of rfl rfl (by simp only [lk] <;> rfl) rfl) (so_load (by simp only [lk] <;> rfl) (by simp (disch := first | assumption | omega | (simp only [nx] <;> omega) | fail) only [aLoad, ty9, rowOf, hpl, Value.cells] <;> rfl)) rfl <| OSuf.aopT tyOK (aguard_of rfl rfl (by simp only [lk] <;> rfl) rfl) (so_bin (by simp only [lk] <;> rfl) (by simp only [lk] <;> rfl) bs_eql) (fun _ => rfl) (by first | rfl | assumption | ((simp only [bl, Value.cells]) <;> first | done | assumption | omega) | (simp [Value.cells]; done) | (simp [Value.cells]; omega)) <| OSuf.aopT tyOK rfl (so_pick (by simp only [lk] <;> rfl) (by simp only [lk, cond_true, cond_false] <;> rfl)) (fun _ => rfl) rfl <| OSuf.aopT tyOK rfl (so_move (by simp only [lk] <;> rfl)) (fun _ => rfl) rfl <| OSuf.aop tyOK (aguard_of rfl rfl (by simp only [lk] <;> rfl) rfl) (so_fieldAddr (by simp only [lk] <;> rfl) (fa_ok (k := 8) ty33 rfl rfl ty4 rfl rfl)) rfl <| OSuf.aop tyOK (aguard_of rfl rfl (by simp only [lk] <;> rfl) rfl) (so_load (by simp only [lk] <;> rfl) (by simp (disch := first | assumption | omega | (simp only [nx] <;> omega) | fail) only [aLoad, ty4, rowOf, hpl, Value.cells] <;> rfl)) rfl <| OSuf.aop tyOK (aguard_of rfl rfl (by simp only [lk] <;> rfl) rfl) (so_fieldAddr (by simp only [lk] <;> rfl) (fa_ok (k := 8) ty33 rfl rfl ty4 rfl rfl)) rfl <| OSuf.aop tyOK (aguard_of rfl rfl (by simp only [lk] <;> rfl) rfl) (so_load (by simp only [lk] <;> rfl) (by simp (disch := first | assumption | omega | (simp only [nx] <;> omega) | fail) only [aLoad, ty4, rowOf, hpl, Value.cells] <;> rfl)) rfl <| OSuf.aopT tyOK (aguard_of rfl rfl (by simp only [lk] <;> rfl) rfl) (so_bin (by simp only [lk] <;> rfl) (by simp only [lk] <;> rfl) (bb_eql tyOK ty4 rfl)) (fun _ => rfl) (by first | rfl | assumption | ((simp only [bl, Value.cells]) <;> first | done | assumption | omega) | (simp [Value.cells]; done) | (simp [Value.cells]; omega)) <| OSuf.aopT tyOK rfl (so_pick (by simp only [lk] <;> rfl) (by simp only [lk, cond_true, cond_false] <;> rfl)) (fun _ => rfl) rfl <| OSuf.aopT tyOK rfl (so_move (by simp only [lk] <;> rfl)) (fun _ => rfl) rfl <| OSuf.aop tyOK (aguard_of rfl rfl (by simp only [lk] <;> rfl) rfl) (so_fieldAddr (by simp only [lk] <;> rfl) (fa_ok (k := 9) ty33 rfl rfl ty4 rfl rfl)) rfl <| OSuf.aop tyOK (aguard_of rfl rfl (by simp only [lk] <;> rfl) rfl) (so_load (by simp only [lk] <;> rfl) (by simp (disch := first | assumption | omega | (simp only [nx] <;> omega) | fail) only [aLoad, ty4, rowOf, hpl, Value.cells] <;> rfl)) rfl <| OSuf.aop tyOK (aguard_of rfl rfl (by simp only [lk] <;> rfl) rfl) (so_fieldAddr (by simp only [lk] <;> rfl) (fa_ok (k := 9) ty33 rfl rfl ty4 rfl rfl)) rfl <| OSuf.aop tyOK (aguard_of rfl rfl (by simp only [lk] <;> rfl) rfl) (so_load (by simp only [lk] <;> rfl) (by simp (disch := first | assumption | omega | (simp only [nx] <;> omega) | fail) only [aLoad, ty4, rowOf, hpl, Value.cells] <;> rfl)) rfl <| OSuf.aopT tyOK (aguard_of rfl rfl (by simp only [lk] <;> rfl) rfl) (so_bin (by simp only [lk] <;> rfl) (by simp only [lk] <;> rfl) (bb_eql tyOK ty4 rfl)) (fun _ => rfl) (by first | rfl | assumption | ((simp only [bl, Value.cells]) <;> first | done | assumption | omega) | (simp [Value.cells]; done) | (simp [Value.cells]; omega)) <| OSuf.aopT tyOK rfl (so_pick (by simp only [lk] <;> rfl) (by simp only [lk, cond_true, cond_false] <;> rfl)) (fun _ => rfl) rfl <| OSuf.aopT tyOK rfl (so_move (by simp only [lk] <;> rfl)) (fun _ => rfl) rfl <| OSuf.aop tyOK (aguard_of rfl rfl (by simp only [lk] <;> rfl) rfl) (so_fieldAddr (by simp only [lk] <;> rfl) (fa_ok (k := 10) ty33 rfl rfl ty9 rfl rfl)) rfl <| OSuf.aop tyOK (aguard_of rfl rfl (by simp only [lk] <;> rfl) rfl) (so_load (by simp only [lk] <;> rfl) (by simp (disch := first | assumption | omega | (simp only [nx] <;> omega) | fail) only [aLoad, ty9, rowOf, hpl, Value.cells] <;> rfl)) rfl <| OSuf.aop tyOK (aguard_of rfl rfl (by simp only [lk] <;> rfl) rfl) (so_fieldAddr (by simp only [lk] <;> rfl) (fa_ok (k := 10) ty33 rfl rfl ty9 rfl rfl)) rfl <| OSuf.aop tyOK (aguard_of rfl rfl (by simp only [lk] <;> rfl) rfl) (so_load (by simp only [lk] <;> rfl) (by simp (disch := first | assumption | omega | (simp only [nx] <;> omega) | fail) only [aLoad, ty9, rowOf, hpl, Value.cells] <;> rfl)) rfl <| OSuf.aopT tyOK (aguard_of rfl rfl (by simp only [lk] <;> rfl) rfl) (so_bin (by simp only [lk] <;> rfl) (by simp only [lk] <;> rfl) bs_eql) (fun _ => rfl) (by first | rfl | assumption | ((simp only [bl, Value.cells]) <;> first | done | assumption | omega) | (simp [Value.cells]; done) | (simp [Value.cells]; omega)) <| OSuf.aopT tyOK rfl (so_pick (by simp only [lk] <;> rfl) (by simp only [lk, cond_true, cond_false] <;> rfl)) (fun _ => rfl) rfl <| OSuf.aopT tyOK rfl (so_move (by simp only [lk] <;> rfl)) (fun _ => rfl) rfl <| OSuf.aop tyOK (aguard_of rfl rfl (by simp only [lk] <;> rfl) rfl) (so_fieldAddr (by simp only [lk] <;> rfl) (fa_ok (k := 12) ty33 rfl rfl ty31 rfl rfl)) rfl <| OSuf.aop tyOK (aguard_of rfl rfl (by simp only [lk] <;> rfl) rfl) (so_load (by simp only [lk] <;> rfl) (by simp (disch := first | assumption | omega | (simp only [nx] <;> omega) | fail) only [aLoad, ty31, rowOf, hpl, Value.cells] <;> rfl)) rfl <| OSuf.aop tyOK (aguard_of rfl rfl (by simp only [lk] <;> rfl) rfl) (so_fieldAddr (by simp only [lk] <;> rfl) (fa_ok (k := 12) ty33 rfl rfl ty31 rfl rfl)) rfl <| OSuf.aop tyOK (aguard_of rfl rfl (by simp only [lk] <;> rfl) rfl) (so_load (by simp only [lk] <;> rfl) (by simp (disch := first | assumption | omega | (simp only [nx] <;> omega) | fail) only [aLoad, ty31, rowOf, hpl, Value.cells] <;> rfl)) rfl <| OSuf.aopT tyOK (aguard_of rfl rfl (by simp only [lk] <;> rfl) rfl) (so_bin (by simp only [lk] <;> rfl) (by simp only [lk] <;> rfl) bi_eql) (fun _ => rfl) (by first | rfl | assumption | ((simp only [bl, Value.cells]) <;> first | done | assumption | omega) | (simp [Value.cells]; done) | (simp [Value.cells]; omega)) <| OSuf.aopT tyOK rfl (so_pick (by simp only [lk] <;> rfl) (by simp only [lk, cond_true, cond_false] <;> rfl)) (fun _ => rfl) rfl <| OSuf.aopT tyOK rfl (so_move (by simp only [lk] <;> rfl)) (fun _ => rfl) rfl <| OSuf.aop tyOK (aguard_of rfl rfl (by simp only [lk] <;> rfl) rfl) (so_fieldAddr (by simp only [lk] <;> rfl) (fa_ok (k := 11) ty33 rfl rfl ty30 rfl rfl)) rfl <| OSuf.aop tyOK (aguard_of rfl rfl (by simp only [lk] <;> rfl) rfl) (so_load (by simp only [lk] <;> rfl) (by simp (disch := first | assumption | omega | (simp only [nx] <;> omega) | fail) only [aLoad, ty30, rowOf, hpl, Value.cells] <;> rfl)) rfl <| OSuf.aop tyOK (aguard_of rfl rfl (by simp only [lk] <;> rfl) rfl) (so_fieldAddr (by simp only [lk] <;> rfl) (fa_ok (k := 11) ty33 rfl rfl ty30 rfl rfl)) rfl <| OSuf.aop tyOK (aguard_of rfl rfl (by simp only [lk] <;> rfl) rfl) (so_load (by simp only [lk] <;> rfl) (by simp (disch := first | assumption | omega | (simp only [nx] <;> omega) | fail) only [aLoad, ty30, rowOf, hpl, Value.cells] <;> rfl)) rfl <| OSuf.callD (aguard_of rfl rfl (by simp only [lk] <;> rfl) rfl) (by simp only [aopnds, lk] <;> rfl) en24 (recs_c _) rfl <| OSuf.aopT tyOK rfl (so_pick (by simp only [lk] <;> rfl) (by simp only [lk, cond_true, cond_false] <;> rfl)) (fun _ => rfl) rfl <| OSuf.aopT tyOK rfl (so_assign (by simp only [lk] <;> rfl)) (fun _ => rfl) rfl <| OSuf.nil <| SQ.normal ?_
  refine CWp.ret <| FQ.ret (by simp only [aRet, Try.f11, aResults, aResult, lk, Nat.reduceEqDiff, reduceIte] <;> rfl) ?_
  -- leaf: end
  exact ⟨rfl, fun r o hr ho => by simp (disch := first | assumption | omega | (simp only [nx] <;> omega) | fail) only [hpl]; exact ho⟩
theorem flatsM_take : ∀ (l : List Msg) (i : Nat), (flatsM l).drop (i * 13) = flatsM (l.drop i)
  | [], i => by simp [flatsM]
  | q :: l, 0 => by simp [flatsM]
  | q :: l, i + 1 => by
    have e : (i + 1) * 13 = i * 13 + 13 := by omega
    rw [e]
    show List.drop (i * 13 + 13) (q.cs ++ flatsM l) = flatsM (l.drop i)
    rw [← flatsM_take l i]; rfl
theorem flatsM_cell {l : List Msg} {i : Nat} {q : Msg} (hq : l[i]? = some q) : cellsOf (flatsM l) (i * 13) 13 = some q.cs := by
  have hil := (List.getElem?_eq_some_iff.1 hq).1
  rw [cellsOf_mk (by rw [flatsM_length]; omega), flatsM_take, List.drop_eq_getElem_cons hil]
  have : l[i] = q := (List.getElem?_eq_some_iff.1 hq).2
  rw [this]; rfl
/-- A list of messages, read. -/
structure MsgsB (h : AHeap) (rs : List Msg) (b : Option Addr) : Prop where
  at_ : ∀ i, i < rs.length → ∃ y, b = some ⟨y, 0, none⟩ ∧ y < h.next ∧ h.get y = some (.cells (flatsM rs) 13)
theorem lists_c (h : AHeap) (rs : List Msg) (b b' : Option Addr) (hb : MsgsB h rs b) (hb' : MsgsB h rs b') (hl : rs.length ≤ 1000000) : FWp Try.prog 13 [.slice b rs.length 0, .slice b' rs.length 0] h fun u h' => u = .bool true ∧ h' = h := by
  refine W.enter tyOK Try.func13 rfl rfl ?_
  simp only [entry]
  refine W.seq <| W.reg <| OSuf.aopF tyOK rfl (so_assign (by simp only [lk] <;> rfl)) (fun _ => rfl) rfl <| OSuf.nil <| SQ.normal ?_
  refine W.seq <| W.seq <| W.reg <| OSuf.aop tyOK rfl (so_move (by simp only [lk] <;> rfl)) rfl <| OSuf.aop tyOK rfl (so_len (by simp only [aopnds, lk] <;> rfl) (by simp (disch := first | assumption | omega | (simp only [nx] <;> omega) | fail) only [aLenOf, ty41, hpl] <;> rfl)) rfl <| OSuf.aop tyOK rfl (so_move (by simp only [lk] <;> rfl)) rfl <| OSuf.aop tyOK rfl (so_len (by simp only [aopnds, lk] <;> rfl) (by simp (disch := first | assumption | omega | (simp only [nx] <;> omega) | fail) only [aLenOf, ty41, hpl] <;> rfl)) rfl <| OSuf.aopF tyOK rfl (so_bin (by simp only [lk] <;> rfl) (by simp only [lk] <;> rfl) bi_neq) (fun _ => rfl) (by simp) <| OSuf.nil <| SQ.normal ?_
  refine W.no (by simp only [lk] <;> rfl) <| CWp.skip <| SQ.normal ?_
  refine W.seq <| W.seq <| W.reg <| OSuf.aop tyOK rfl (so_assign (by simp only [lk] <;> rfl)) rfl <| OSuf.nil <| SQ.normal ?_
  -- leaf: loop
  refine W.cut (fun L h' => h' = h ∧ L = []) (W.block (W.loop (fun n L h' => ∃ i : Nat, n + i = rs.length ∧ h' = h ∧ L = [(0, .slice b rs.length 0), (1, .slice b' rs.length 0), (5, I64 i)]) (n := rs.length) ⟨0, by omega, rfl, rfl⟩ ?_ ?_)) ?_
  · simp [HasA, Tr.get_put]
  · rintro n L h' ⟨i, hn, rfl, rfl⟩
    simp only [mkA]
    have w2 : IntKind.i64.wrap ((i : Int) + 1) = ((i + 1 : Nat) : Int) := by rw [wrap_i64 (by omega) (by omega)]; omega
    by_cases hi : (i : Int) < (rs.length : Int)
    · obtain ⟨m, hm⟩ : ∃ m, rs[i]? = some m := ⟨rs[i]'(by omega), by simp⟩
      obtain ⟨y, rfl, y1, y2⟩ := hb.at_ i (by omega)
      obtain ⟨y', rfl, y1', y2'⟩ := hb'.at_ i (by omega)
      have hc : (0 ≤ (i : Int) ∧ (i : Int) < (rs.length : Int)) := by omega
      have hcl := flatsM_cell hm
      simp only [Msg.cs] at hcl
      refine W.seq <| W.seq <| W.reg <| OSuf.aop tyOK rfl (so_move (by simp only [lk] <;> rfl)) rfl <| OSuf.aop tyOK rfl (so_move (by simp only [lk] <;> rfl)) rfl <| OSuf.aop tyOK rfl (so_len (by simp only [aopnds, lk] <;> rfl) (by simp (disch := first | assumption | omega | (simp only [nx] <;> omega) | fail) only [aLenOf, ty41, hpl, hc, and_self, if_true, Int.toNat_natCast, y2, y2', Nat.zero_add, hcl] <;> rfl)) rfl <| OSuf.aopT tyOK rfl (so_bin (by simp only [lk] <;> rfl) (by simp only [lk] <;> rfl) bi_lss) (fun _ => rfl) (by first | rfl | assumption | ((simp only [bl, hc, and_self, if_true, Int.toNat_natCast, y2, y2', Nat.zero_add, hcl]) <;> first | done | assumption | omega) | (simp [hc, and_self, if_true, Int.toNat_natCast, y2, y2', Nat.zero_add, hcl]; done) | (simp [hc, and_self, if_true, Int.toNat_natCast, y2, y2', Nat.zero_add, hcl]; omega)) <| OSuf.nil <| SQ.normal ?_
      refine W.yes (by simp only [lk] <;> rfl) <| CWp.skip <| SQ.normal ?_
      refine W.seq <| W.block <| W.seq <| W.regD tyOK mixed (by kernel_rfl) <| SqW.aop rfl (so_move (by simp only [lk] <;> rfl)) rfl <| SqW.aop rfl (so_move (by simp only [lk] <;> rfl)) rfl <| SqW.aop rfl (so_indexAddr (by simp only [lk] <;> rfl) (by simp only [lk] <;> rfl) (by simp (disch := first | assumption | omega | (simp only [nx] <;> omega) | fail) only [aIndexAddr, ty41, ty33, hpl, hc, and_self, if_true, Int.toNat_natCast, y2, y2', Nat.zero_add, hcl] <;> rfl)) rfl <| SqW.aop rfl (so_load (by simp only [lk] <;> rfl) (by simp (disch := first | assumption | omega | (simp only [nx] <;> omega) | fail) only [aLoad, ty33, rowOf, hpl, hc, and_self, if_true, Int.toNat_natCast, y2, y2', Nat.zero_add, hcl] <;> rfl)) rfl <| SqW.aop rfl (so_move (by simp only [lk] <;> rfl)) rfl <| SqW.aop rfl (so_move (by simp only [lk] <;> rfl)) rfl <| SqW.aop rfl (so_indexAddr (by simp only [lk] <;> rfl) (by simp only [lk] <;> rfl) (by simp (disch := first | assumption | omega | (simp only [nx] <;> omega) | fail) only [aIndexAddr, ty41, ty33, hpl, hc, and_self, if_true, Int.toNat_natCast, y2, y2', Nat.zero_add, hcl] <;> rfl)) rfl <| SqW.aop rfl (so_load (by simp only [lk] <;> rfl) (by simp (disch := first | assumption | omega | (simp only [nx] <;> omega) | fail) only [aLoad, ty33, rowOf, hpl, hc, and_self, if_true, Int.toNat_natCast, y2, y2', Nat.zero_add, hcl] <;> rfl)) rfl <| SqW.callD rfl (by simp only [aopnds, lk] <;> rfl) en11 (same_c _ m) rfl <| SqW.aopF rfl (so_not (by simp only [lk] <;> rfl)) (fun _ => rfl) rfl <| SqW.nil <| SQ.normal ?_
      refine W.no (by simp only [lk] <;> rfl) <| CWp.skip <| BQ.normal <| SQ.normal ?_
      refine W.reg <| OSuf.aop tyOK rfl (so_move (by simp only [lk] <;> rfl)) rfl <| OSuf.aop tyOK rfl (so_bin (by simp only [lk] <;> rfl) (by simp only [lk] <;> rfl) (bi_w bi_add (by first | (simp only [w2] <;> rfl) | rfl))) rfl <| OSuf.aop tyOK rfl (so_assign (by simp only [lk] <;> rfl)) rfl <| OSuf.nil <| ?_
      -- leaf: round
      refine LQ.normal (m := n - 1) (L := [(0, .slice (some ⟨y, 0, none⟩) rs.length 0), (1, .slice (some ⟨y', 0, none⟩) rs.length 0), (5, I64 ((i + 1 : Nat) : Int))]) (by omega) ?_ ⟨i + 1, by omega, rfl, rfl⟩
      simp only [HasA, Tr.get_put, Nat.reduceEqDiff, reduceIte, w2, and_self]
    · refine W.seq <| W.seq <| W.reg <| OSuf.aop tyOK rfl (so_move (by simp only [lk] <;> rfl)) rfl <| OSuf.aop tyOK rfl (so_move (by simp only [lk] <;> rfl)) rfl <| OSuf.aop tyOK rfl (so_len (by simp only [aopnds, lk] <;> rfl) (by simp (disch := first | assumption | omega | (simp only [nx] <;> omega) | fail) only [aLenOf, ty41, hpl] <;> rfl)) rfl <| OSuf.aopF tyOK rfl (so_bin (by simp only [lk] <;> rfl) (by simp only [lk] <;> rfl) bi_lss) (fun _ => rfl) (by first | rfl | assumption | ((simp only [bl]) <;> first | done | assumption | omega) | (simp []; done) | (simp []; omega)) <| OSuf.nil <| SQ.normal ?_
      refine W.no (by simp only [lk] <;> rfl) <| CWp.exit <| SQ.exit <| LQ.exit <| BQ.exit <| ?_
      -- leaf: cut
      exact NQ.normal (L := []) trivial ⟨rfl, rfl⟩
  rintro L a' h' ha ⟨rfl, rfl⟩
  refine SQ.normal <| CWp.known ha ?_
  simp only [mkA]
  refine W.seq <| W.reg <| OSuf.aopT tyOK rfl (so_assign (by simp only [lk] <;> rfl)) (fun _ => rfl) rfl <| OSuf.nil <| SQ.normal ?_
  refine CWp.ret <| FQ.ret (by simp only [aRet, Try.f13, aResults, aResult, lk, Nat.reduceEqDiff, reduceIte] <;> rfl) ?_
  -- leaf: end
  exact ⟨rfl, rfl⟩
end Go.Proofs.Ytmokbpphniafpaa
