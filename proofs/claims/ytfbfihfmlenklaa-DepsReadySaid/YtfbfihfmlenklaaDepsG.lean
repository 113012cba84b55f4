/-
  The links of a law; linked.
-/
import Derived.Test.YtfbfihfmlenklaaDepsF
import Derived.Test.YtfbfihfmlenklaaAb36
namespace Go.Proofs.Ytfbfihfmlenklaa
open Go.Ab
set_option linter.unusedSimpArgs false
set_option linter.unusedVariables false
set_option maxRecDepth 10000
set_option maxHeartbeats 4000000

structure Lk where
  ts : Int
  back : Int
  over : Bool
def Lk.cs (x : Lk) : List Value := [.int .u8 x.ts, .int .u8 x.back, .bool x.over]
def flatL (l : List Lk) : List Value := (l.map Lk.cs).flatten
def Lk.ok (x : Lk) : Prop := 0 ≤ x.ts ∧ x.ts < 256 ∧ 0 ≤ x.back ∧ x.back < 256
def lts (x : Lk) : Int := x.ts % 40 + 1
def lon (x : Lk) : Int := x.back % lts x
def lkey (x : Lk) : Int × Int := (lts x, lon x)
theorem lk_range {x : Lk} (h : x.ok) : 1 ≤ lts x ∧ lts x ≤ 40 ∧ 0 ≤ lon x ∧ lon x < lts x := by
  have h1 : 1 ≤ lts x ∧ lts x ≤ 40 := by unfold lts; omega
  have h2 := Int.emod_nonneg x.back (b := lts x) (by omega)
  have h3 := Int.emod_lt_of_pos x.back (b := lts x) (by omega)
  exact ⟨h1.1, h1.2, h2, h3⟩
/-- What an argument that is a list of links reads as. -/
structure LinksAt (h : AHeap) (b : Option Addr) (l : List Lk) : Prop where
  len : l.length ≤ maxLen
  ok : ∀ x ∈ l, x.ok
  at_ : l ≠ [] → ∃ r, b = some ⟨r, 0, none⟩ ∧ r < h.next ∧ h.get r = some (.ro (flatL l))
theorem flatL_get {l : List Lk} {i j : Nat} {x : Lk} (hx : l[i]? = some x) (hj : j < 3) : (flatL l)[i * 3 + j]? = x.cs[j]? :=
  flatten_get (fun y hy => by obtain ⟨z, _, rfl⟩ := List.mem_map.1 hy; rfl) (by simp [hx]) hj
theorem RdV.links {h : AHeap} {v : Value} (hr : RdV Try.prog h 4 42 v) : ∃ (b : Option Addr) (l : List Lk), v = .slice b l.length 0 ∧ LinksAt h b l := by
  obtain ⟨b, vss, rfl, h1, h2, h3⟩ := RdV.recs Try.underlying42 hr
  have key : ∃ l : List Lk, vss = l.map Lk.cs ∧ ∀ x ∈ l, x.ok := by
    clear h1 h3 hr
    induction vss with
    | nil => exact ⟨[], rfl, by simp⟩
    | cons v vss ih =>
      obtain ⟨l, e1, e2⟩ := ih fun x hx => h2 x (List.mem_cons_of_mem _ hx)
      obtain ⟨_, g⟩ := h2 v List.mem_cons_self
      obtain ⟨fss, g1, g2, g3⟩ := Rd.fields Try.underlying48 g
      match fss, g2 with
      | [a, b, c], _ =>
        obtain ⟨_, x1⟩ := g3 0 _ a rfl rfl
        obtain ⟨_, x2⟩ := g3 1 _ b rfl rfl
        obtain ⟨_, x3⟩ := g3 2 _ c rfl rfl
        obtain ⟨i, rfl, w1⟩ := Rd.int Try.underlying5 x1
        obtain ⟨j, rfl, w2⟩ := Rd.int Try.underlying5 x2
        obtain ⟨o, rfl⟩ := Rd.bool Try.underlying4 x3
        have r1 := lit_u8 w1
        have r2 := lit_u8 w2
        refine ⟨⟨i, j, o⟩ :: l, by rw [g1, e1]; rfl, fun x hx => ?_⟩
        cases hx with
        | head => exact ⟨r1.1, r1.2, r2.1, r2.2⟩
        | tail _ hx => exact e2 x hx
  obtain ⟨l, rfl, h4⟩ := key
  refine ⟨b, l, by simp, by simpa using h1, h4, fun hn => h3 (by simpa using hn)⟩
/-- A list of bools. -/
structure BoolsAt (h : AHeap) (b : Option Addr) (l : List Bool) : Prop where
  len : l.length ≤ maxLen
  at_ : l ≠ [] → ∃ r, b = some ⟨r, 0, none⟩ ∧ r < h.next ∧ h.get r = some (.ro (l.map Value.bool))
theorem RdV.bools {h : AHeap} {v : Value} (hr : RdV Try.prog h 4 43 v) : ∃ (b : Option Addr) (l : List Bool), v = .slice b l.length 0 ∧ BoolsAt h b l := by
  obtain ⟨b, vss, rfl, h1, h2, h3⟩ := RdV.recs Try.underlying43 hr
  have key : ∃ l : List Bool, vss = l.map fun x => [Value.bool x] := by
    clear h1 h3 hr
    induction vss with
    | nil => exact ⟨[], rfl⟩
    | cons v vss ih =>
      obtain ⟨l, e1⟩ := ih fun x hx => h2 x (List.mem_cons_of_mem _ hx)
      obtain ⟨_, g⟩ := h2 v List.mem_cons_self
      obtain ⟨o, rfl⟩ := Rd.bool Try.underlying4 g
      exact ⟨o :: l, by rw [e1]; rfl⟩
  obtain ⟨l, rfl⟩ := key
  have fl : ∀ l : List Bool, (l.map fun x => [Value.bool x]).flatten = l.map Value.bool := by
    intro l; induction l with
    | nil => rfl
    | cons x l ih => simp [ih]
  rw [fl] at h3
  exact ⟨b, l, by simp, by simpa using h1, fun hn => h3 (by simpa using hn)⟩
theorem out_slice {h : AHeap} {lo : Nat} {G : List Int} {u : Value} (ho : SortU.OutAt h lo G u) : ∃ b, u = .slice b G.length 0 ∧ ∀ i, i < G.length → ∃ y, b = some ⟨y, 0, none⟩ ∧ lo ≤ y ∧ y < h.next ∧ h.get y = some (.cells (G.map (Value.int .u64)) 1) := by
  cases ho with
  | none e => subst e; exact ⟨none, rfl, fun i hi => absurd hi (Nat.not_lt_zero _)⟩
  | some ne e a b c => subst e; exact ⟨_, rfl, fun i _ => ⟨_, rfl, a, b, c⟩⟩
/-- What is told of links. -/
structure LinkP (l : List Lk) (ps : List Pr) : Prop where
  mem : ∀ k, (∃ p ∈ ps, p.key = k) ↔ ∃ x ∈ l, lkey x = k
  hang : ∀ p ∈ ps, p.hangs = true ↔ ∃ x ∈ l, lkey x = p.key ∧ x.over = false
  len : ps.length ≤ l.length
theorem LinkP.put {l : List Lk} {S : DS} {x : Lk} (i : LinkP l S.ps) : LinkP (l ++ [x]) (putP (lkey x) (!x.over) S).ps := by
  have ex : ∀ P : Lk → Prop, (∃ y ∈ l ++ [x], P y) ↔ (∃ y ∈ l, P y) ∨ P x := fun P => by
    constructor
    · rintro ⟨y, hy, hp⟩
      rcases List.mem_append.1 hy with h | h
      · exact .inl ⟨y, h, hp⟩
      · simp at h; subst h; exact .inr hp
    · rintro (⟨y, hy, hp⟩ | hp)
      · exact ⟨y, List.mem_append.2 (.inl hy), hp⟩
      · exact ⟨x, by simp, hp⟩
  cases hh : hasP (lkey x) S.ps
  · have e : (putP (lkey x) (!x.over) S).ps = S.ps ++ [⟨lkey x, !x.over, S.clock⟩] := by rw [putP, hh]; rfl
    have hno : ∀ p ∈ S.ps, ¬ p.key = lkey x := fun p hp => by simpa using List.any_eq_false.1 hh p hp
    rw [e]
    refine ⟨fun k => ?_, fun p hp => ?_, by simp; exact i.len⟩
    · rw [ex, ← i.mem k]
      constructor
      · rintro ⟨p, hp, hk⟩
        rcases List.mem_append.1 hp with h | h
        · exact .inl ⟨p, h, hk⟩
        · simp at h; subst h; exact .inr hk
      · rintro (⟨p, hp, hk⟩ | hk)
        · exact ⟨p, List.mem_append.2 (.inl hp), hk⟩
        · exact ⟨_, List.mem_append.2 (.inr (List.mem_singleton.2 rfl)), hk⟩
    · rw [ex]
      rcases List.mem_append.1 hp with h | h
      · rw [i.hang p h]
        exact ⟨.inl, fun h9 => h9.elim id fun h9 => (hno p h h9.1.symm).elim⟩
      · simp at h; subst h
        simp only
        constructor
        · intro h; exact .inr ⟨by simp, by simpa using h⟩
        · rintro (⟨y, hy, hk, _⟩ | ⟨_, h⟩)
          · obtain ⟨p, hp, hk2⟩ := (i.mem _).2 ⟨y, hy, hk⟩
            exact (hno p hp hk2).elim
          · simp [h]
  · have e : (putP (lkey x) (!x.over) S).ps = S.ps.map fun p => if p.key = lkey x then { p with hangs := p.hangs || !x.over } else p := by rw [putP, hh]; rfl
    have hk0 : ∀ p : Pr, (if p.key = lkey x then { p with hangs := p.hangs || !x.over } else p).key = p.key := fun p => by split <;> rfl
    rw [e]
    refine ⟨fun k => ?_, fun p hp => ?_, by simp; have := i.len; omega⟩
    · rw [ex, ← i.mem k]
      constructor
      · rintro ⟨p, hp, hk⟩
        obtain ⟨q, hq, rfl⟩ := List.mem_map.1 hp
        exact .inl ⟨q, hq, by rw [← hk, hk0]⟩
      · rintro (⟨p, hp, hk⟩ | hk)
        · exact ⟨_, List.mem_map.2 ⟨p, hp, rfl⟩, by rw [hk0]; exact hk⟩
        · obtain ⟨p, hp, h9⟩ := List.any_eq_true.1 hh
          exact ⟨_, List.mem_map.2 ⟨p, hp, rfl⟩, by rw [hk0, ← hk]; simpa using h9⟩
    · obtain ⟨q, hq, rfl⟩ := List.mem_map.1 hp
      rw [ex, hk0]
      have hi := i.hang q hq
      by_cases hk : q.key = lkey x
      · rw [if_pos hk]
        simp only [Bool.or_eq_true, Bool.not_eq_true']
        rw [hi]
        exact ⟨fun h => h.elim .inl fun h => .inr ⟨hk.symm, h⟩, fun h => h.elim .inl fun h => .inr h.2⟩
      · rw [if_neg hk, hi]
        exact ⟨.inl, fun h => h.elim id fun h => (hk h.1.symm).elim⟩

theorem linked_c (h0 : AHeap) (b : Option Addr) (l : List Lk) (hl : LinksAt h0 b l) :
    FWp Try.prog 23 [.slice b l.length 0] h0 fun u h' => u = P0 (h0.next + 1) ∧ ∃ S, DA h' (h0.next + 1) S ∧ S.m = h0.next ∧ LinkP (l.take 100) S.ps ∧ h0.next + 1 < h'.next ∧ ∀ z, z < h0.next → h'.get z = h0.get z := by
  have hml : maxLen = 9223372036854775807 := rfl
  have hlen := hl.len
  refine W.enter tyOK Try.func23 rfl rfl ?_
  simp only [entry]
  refine W.seq <| W.reg <| 
      OSuf.aop tyOK rfl (so_assign (by simp only [lk] <;> rfl)) rfl <|
      OSuf.nil <| SQ.normal ?_
  refine W.seq <| W.reg <| 
      OSuf.callD rfl (by simp only [aopnds, lk] <;> rfl) en8 (new_c _) rfl <|
      OSuf.aop tyOK rfl (so_assign (by simp only [lk] <;> rfl)) rfl <|
      OSuf.nil <| SQ.normal ?_
  refine W.seq <| W.seq <| W.reg <| 
      OSuf.aop tyOK rfl (so_assign (by simp only [lk] <;> rfl)) rfl <|
      OSuf.nil <| SQ.normal ?_
  -- leaf: loop
  refine W.cut (fun L h' => (∃ S, DA h' (h0.next + 1) S ∧ S.m = h0.next ∧ LinkP (l.take 100) S.ps ∧ h0.next + 1 < h'.next ∧ ∀ z, z < h0.next → h'.get z = h0.get z) ∧ L = [(3, P0 (h0.next + 1))]) (W.block (W.loop (fun n L h' => ∃ (k : Nat) (S : DS), n + k = l.length ∧ k ≤ 100 ∧ DA h' (h0.next + 1) S ∧ S.m = h0.next ∧ LinkP (l.take k) S.ps ∧ h0.next + 1 < h'.next ∧ (∀ z, z < h0.next → h'.get z = h0.get z) ∧ L = [(0, .slice b l.length 0), (3, P0 (h0.next + 1)), (4, I64 k)]) (n := l.length)
    ⟨0, _, by omega, by omega, new_da h0, rfl, ⟨by simp, by simp, by simp⟩, by simp only [nx]; omega, fun z hz => by simp (disch := first | assumption | omega | (simp only [nx] <;> omega) | fail) only [hpl], rfl⟩ ?_ ?_)) ?_
  · simp [HasA, Tr.get_put]
  · rintro n L h ⟨k, S, hn, hk, hA, hm, hP, hnx, hold, rfl⟩
    simp only [mkA]
    have w2 : IntKind.i64.wrap ((k : Int) + 1) = ((k + 1 : Nat) : Int) := by rw [wrap_i64 (by omega) (by omega)]; omega
    by_cases h1 : (k : Int) < (l.length : Int)
    · by_cases h2 : (k : Int) < 100
      · obtain ⟨x, hx⟩ : ∃ x, l[k]? = some x := ⟨l[k]'(by omega), by simp⟩
        have hxl : x ∈ l := List.mem_of_getElem? hx
        obtain ⟨r, rfl, hrn, hg⟩ := hl.at_ (fun e => by rw [e] at hx; simp at hx)
        have hg1 : h.get r = some (.ro (flatL l)) := by rw [hold r hrn]; exact hg
        have hok := hl.ok x hxl
        have hrg := lk_range hok
        obtain ⟨o1, o2, o3, o4⟩ := hok
        have c0 : (flatL l)[k * 3]? = some (.int .u8 x.ts) := flatL_get (j := 0) hx (by omega)
        have c0' : (flatL l)[k * 3 + 0]? = some (.int .u8 x.ts) := flatL_get (j := 0) hx (by omega)
        have c1 : (flatL l)[k * 3 + 1]? = some (.int .u8 x.back) := flatL_get (j := 1) hx (by omega)
        have c2 : (flatL l)[k * 3 + 2]? = some (.bool x.over) := flatL_get (j := 2) hx (by omega)
        have hc : (0 ≤ (k : Int) ∧ (k : Int) < (l.length : Int)) := by omega
        have e1 : x.ts.tmod 40 = x.ts % 40 := Int.tmod_eq_emod_of_nonneg o1
        have e2 : x.back.tmod (lts x) = lon x := Int.tmod_eq_emod_of_nonneg o3
        have w3 : IntKind.u64.wrap (x.ts % 40) = x.ts % 40 := wrap_u64 (by omega) (by omega)
        have w4 : IntKind.u64.wrap (x.ts % 40 + 1) = lts x := by rw [wrap_u64 (by omega) (by omega)]; rfl
        have w5 : IntKind.u64.wrap x.back = x.back := wrap_u64 (by omega) (by omega)
        have hnz : lts x ≠ 0 := by omega
        have htk : l.take (k + 1) = l.take k ++ [x] := by rw [List.take_add_one, hx]; rfl
        have hP2 := hP.put (x := x)
        rw [← htk] at hP2
        cases hov : x.over
        · rw [hov] at hP2
          refine W.seq <| W.seq <| W.reg <| 
              OSuf.aop tyOK rfl (so_move (by simp only [lk] <;> rfl)) rfl <|
              OSuf.aop tyOK rfl (so_move (by simp only [lk] <;> rfl)) rfl <|
              OSuf.aop tyOK rfl (so_len (by simp only [aopnds, lk] <;> rfl) (by simp (disch := first | assumption | omega | (simp only [nx] <;> omega) | fail) only [aLenOf, ty42, hpl, hc, and_self, if_true, Int.toNat_natCast, hg1, Nat.mul_one, Nat.zero_add, Nat.add_zero, c0, c0', c1, c2] <;> rfl)) rfl <|
              OSuf.aopT tyOK rfl (so_bin (by simp only [lk] <;> rfl) (by simp only [lk] <;> rfl) bi_lss) (fun _ => rfl) (by first | rfl | assumption | ((simp only [bl, hc, and_self, if_true, Int.toNat_natCast, hg1, Nat.mul_one, Nat.zero_add, Nat.add_zero, c0, c0', c1, c2]) <;> first | done | assumption | omega) | (simp [hc, and_self, if_true, Int.toNat_natCast, hg1, Nat.mul_one, Nat.zero_add, Nat.add_zero, c0, c0', c1, c2]; done) | (simp [hc, and_self, if_true, Int.toNat_natCast, hg1, Nat.mul_one, Nat.zero_add, Nat.add_zero, c0, c0', c1, c2]; omega)) <|
              OSuf.aopT tyOK rfl (so_move (by simp only [lk] <;> rfl)) (fun _ => rfl) rfl <|
              OSuf.aop tyOK (aguard_of rfl rfl (by simp only [lk] <;> rfl) rfl) (so_move (by simp only [lk] <;> rfl)) rfl <|
              OSuf.aopT tyOK (aguard_of rfl rfl (by simp only [lk] <;> rfl) rfl) (so_bin (by simp only [lk] <;> rfl) (by simp only [lk] <;> rfl) bi_lss) (fun _ => rfl) (by first | rfl | assumption | ((simp only [bl, hc, and_self, if_true, Int.toNat_natCast, hg1, Nat.mul_one, Nat.zero_add, Nat.add_zero, c0, c0', c1, c2]) <;> first | done | assumption | omega) | (simp [hc, and_self, if_true, Int.toNat_natCast, hg1, Nat.mul_one, Nat.zero_add, Nat.add_zero, c0, c0', c1, c2]; done) | (simp [hc, and_self, if_true, Int.toNat_natCast, hg1, Nat.mul_one, Nat.zero_add, Nat.add_zero, c0, c0', c1, c2]; omega)) <|
              OSuf.aopT tyOK rfl (so_pick (by simp only [lk] <;> rfl) (by simp only [lk, cond_true, cond_false] <;> rfl)) (fun _ => rfl) rfl <|
              OSuf.nil <| SQ.normal ?_
          refine W.yes (by simp only [lk] <;> rfl) <| CWp.skip <| SQ.normal ?_
          refine W.seq <| W.block <| W.seq <| W.reg <| 
              OSuf.aop tyOK rfl (so_move (by simp only [lk] <;> rfl)) rfl <|
              OSuf.aop tyOK rfl (so_move (by simp only [lk] <;> rfl)) rfl <|
              OSuf.aop tyOK rfl (so_indexAddr (by simp only [lk] <;> rfl) (by simp only [lk] <;> rfl) (by simp (disch := first | assumption | omega | (simp only [nx] <;> omega) | fail) only [aIndexAddr, ty42, ty48, hpl, hc, and_self, if_true, Int.toNat_natCast, hg1, Nat.mul_one, Nat.zero_add, Nat.add_zero, c0, c0', c1, c2] <;> rfl)) rfl <|
              OSuf.aop tyOK rfl (so_fieldAddr (by simp only [lk] <;> rfl) (fa_ok (k := 0) ty48 rfl rfl ty5 rfl rfl)) rfl <|
              OSuf.aop tyOK rfl (so_load (by simp only [lk] <;> rfl) (by simp (disch := first | assumption | omega | (simp only [nx] <;> omega) | fail) only [aLoad, ty5, rowOf, hpl, hc, and_self, if_true, Int.toNat_natCast, hg1, Nat.mul_one, Nat.zero_add, Nat.add_zero, c0, c0', c1, c2] <;> rfl)) rfl <|
              OSuf.aop tyOK rfl (so_bin (by simp only [lk] <;> rfl) (by simp only [lk] <;> rfl) (bi_w (bi_rem (by decide)) (by first | (simp only [e1, w3, w4, w5, e2, w2] <;> rfl) | rfl))) rfl <|
              OSuf.aop tyOK rfl (so_conw (so_conv tyOK (by simp only [lk] <;> rfl) ty5 ⟨_, rfl⟩ ty29 rfl) (by first | (simp only [e1, w3, w4, w5, e2, w2] <;> rfl) | rfl)) rfl <|
              OSuf.aop tyOK rfl (so_bin (by simp only [lk] <;> rfl) (by simp only [lk] <;> rfl) (bi_w bi_add (by first | (simp only [e1, w3, w4, w5, e2, w2] <;> rfl) | rfl))) rfl <|
              OSuf.aop tyOK rfl (so_assign (by simp only [lk] <;> rfl)) rfl <|
              OSuf.nil <| SQ.normal ?_
          refine W.seq <| W.reg <| 
              OSuf.aop tyOK rfl (so_move (by simp only [lk] <;> rfl)) rfl <|
              OSuf.aop tyOK rfl (so_move (by simp only [lk] <;> rfl)) rfl <|
              OSuf.aop tyOK rfl (so_indexAddr (by simp only [lk] <;> rfl) (by simp only [lk] <;> rfl) (by simp (disch := first | assumption | omega | (simp only [nx] <;> omega) | fail) only [aIndexAddr, ty42, ty48, hpl, hc, and_self, if_true, Int.toNat_natCast, hg1, Nat.mul_one, Nat.zero_add, Nat.add_zero, c0, c0', c1, c2] <;> rfl)) rfl <|
              OSuf.aop tyOK rfl (so_fieldAddr (by simp only [lk] <;> rfl) (fa_ok (k := 1) ty48 rfl rfl ty5 rfl rfl)) rfl <|
              OSuf.aop tyOK rfl (so_load (by simp only [lk] <;> rfl) (by simp (disch := first | assumption | omega | (simp only [nx] <;> omega) | fail) only [aLoad, ty5, rowOf, hpl, hc, and_self, if_true, Int.toNat_natCast, hg1, Nat.mul_one, Nat.zero_add, Nat.add_zero, c0, c0', c1, c2] <;> rfl)) rfl <|
              OSuf.aop tyOK rfl (so_conw (so_conv tyOK (by simp only [lk] <;> rfl) ty5 ⟨_, rfl⟩ ty29 rfl) (by first | (simp only [e1, w3, w4, w5, e2, w2] <;> rfl) | rfl)) rfl <|
              OSuf.aop tyOK rfl (so_move (by simp only [lk] <;> rfl)) rfl <|
              OSuf.aop tyOK rfl (so_bin (by simp only [lk] <;> rfl) (by simp only [lk] <;> rfl) (bi_w (bi_rem hnz) (by first | (simp only [e1, w3, w4, w5, e2, w2] <;> rfl) | rfl))) rfl <|
              OSuf.aop tyOK rfl (so_assign (by simp only [lk] <;> rfl)) rfl <|
              OSuf.nil <| SQ.normal ?_
          refine W.seq <| W.reg <| 
              OSuf.aop tyOK rfl (so_move (by simp only [lk] <;> rfl)) rfl <|
              OSuf.aop tyOK rfl (so_move (by simp only [lk] <;> rfl)) rfl <|
              OSuf.aop tyOK rfl (so_indexAddr (by simp only [lk] <;> rfl) (by simp only [lk] <;> rfl) (by simp (disch := first | assumption | omega | (simp only [nx] <;> omega) | fail) only [aIndexAddr, ty42, ty48, hpl, hc, and_self, if_true, Int.toNat_natCast, hg1, Nat.mul_one, Nat.zero_add, Nat.add_zero, c0, c0', c1, c2] <;> rfl)) rfl <|
              OSuf.aop tyOK rfl (so_fieldAddr (by simp only [lk] <;> rfl) (fa_ok (k := 2) ty48 rfl rfl ty4 rfl rfl)) rfl <|
              OSuf.aopF tyOK rfl (so_load (by simp only [lk] <;> rfl) (by simp (disch := first | assumption | omega | (simp only [nx] <;> omega) | fail) only [aLoad, ty4, rowOf, hpl, hc, and_self, if_true, Int.toNat_natCast, hg1, Nat.mul_one, Nat.zero_add, Nat.add_zero, c0, c0', c1, c2] <;> rfl)) (fun _ => rfl) (hov) <|
              OSuf.nil <| SQ.normal ?_
          refine W.no (by simp only [lk] <;> rfl) <| W.reg <| 
              OSuf.aop tyOK rfl (so_move (by simp only [lk] <;> rfl)) rfl <|
              OSuf.aop tyOK rfl (so_move (by simp only [lk] <;> rfl)) rfl <|
              OSuf.aop tyOK rfl (so_move (by simp only [lk] <;> rfl)) rfl <|
              OSuf.call rfl (by simp only [aopnds, lk] <;> rfl) en9 (hang_c _ (h0.next + 1) S hA (lts x) (lon x) (by omega)) ?_
          rintro _ h2 ⟨rfl, hA2, hF2⟩
          refine ⟨_, rfl, ?_⟩
          refine 
              OSuf.nil <| BQ.normal <| SQ.normal ?_
          refine W.reg <| 
              OSuf.aop tyOK rfl (so_move (by simp only [lk] <;> rfl)) rfl <|
              OSuf.aop tyOK rfl (so_bin (by simp only [lk] <;> rfl) (by simp only [lk] <;> rfl) (bi_w bi_add (by first | (simp only [e1, w3, w4, w5, e2, w2] <;> rfl) | rfl))) rfl <|
              OSuf.aop tyOK rfl (so_assign (by simp only [lk] <;> rfl)) rfl <|
              OSuf.nil <| ?_
          -- leaf: round
          refine LQ.normal (m := n - 1) (L := [(0, .slice (some ⟨r, 0, none⟩) l.length 0), (3, P0 (h0.next + 1)), (4, I64 (k + 1 : Nat))]) (by omega) ?_ ⟨k + 1, _, by omega, by omega, hA2, by unfold putP; cases hasP (lts x, lon x) S.ps <;> exact hm, hP2, Nat.lt_of_lt_of_le hnx hF2.1, fun z hz => by rw [hF2.2 z (by omega) (by omega)]; exact hold z hz, rfl⟩
          simp only [HasA, Tr.get_put, Nat.reduceEqDiff, reduceIte, w2, and_self]
        · rw [hov] at hP2
          refine W.seq <| W.seq <| W.reg <| 
              OSuf.aop tyOK rfl (so_move (by simp only [lk] <;> rfl)) rfl <|
              OSuf.aop tyOK rfl (so_move (by simp only [lk] <;> rfl)) rfl <|
              OSuf.aop tyOK rfl (so_len (by simp only [aopnds, lk] <;> rfl) (by simp (disch := first | assumption | omega | (simp only [nx] <;> omega) | fail) only [aLenOf, ty42, hpl, hc, and_self, if_true, Int.toNat_natCast, hg1, Nat.mul_one, Nat.zero_add, Nat.add_zero, c0, c0', c1, c2] <;> rfl)) rfl <|
              OSuf.aopT tyOK rfl (so_bin (by simp only [lk] <;> rfl) (by simp only [lk] <;> rfl) bi_lss) (fun _ => rfl) (by first | rfl | assumption | ((simp only [bl, hc, and_self, if_true, Int.toNat_natCast, hg1, Nat.mul_one, Nat.zero_add, Nat.add_zero, c0, c0', c1, c2]) <;> first | done | assumption | omega) | (simp [hc, and_self, if_true, Int.toNat_natCast, hg1, Nat.mul_one, Nat.zero_add, Nat.add_zero, c0, c0', c1, c2]; done) | (simp [hc, and_self, if_true, Int.toNat_natCast, hg1, Nat.mul_one, Nat.zero_add, Nat.add_zero, c0, c0', c1, c2]; omega)) <|
              OSuf.aopT tyOK rfl (so_move (by simp only [lk] <;> rfl)) (fun _ => rfl) rfl <|
              OSuf.aop tyOK (aguard_of rfl rfl (by simp only [lk] <;> rfl) rfl) (so_move (by simp only [lk] <;> rfl)) rfl <|
              OSuf.aopT tyOK (aguard_of rfl rfl (by simp only [lk] <;> rfl) rfl) (so_bin (by simp only [lk] <;> rfl) (by simp only [lk] <;> rfl) bi_lss) (fun _ => rfl) (by first | rfl | assumption | ((simp only [bl, hc, and_self, if_true, Int.toNat_natCast, hg1, Nat.mul_one, Nat.zero_add, Nat.add_zero, c0, c0', c1, c2]) <;> first | done | assumption | omega) | (simp [hc, and_self, if_true, Int.toNat_natCast, hg1, Nat.mul_one, Nat.zero_add, Nat.add_zero, c0, c0', c1, c2]; done) | (simp [hc, and_self, if_true, Int.toNat_natCast, hg1, Nat.mul_one, Nat.zero_add, Nat.add_zero, c0, c0', c1, c2]; omega)) <|
              OSuf.aopT tyOK rfl (so_pick (by simp only [lk] <;> rfl) (by simp only [lk, cond_true, cond_false] <;> rfl)) (fun _ => rfl) rfl <|
              OSuf.nil <| SQ.normal ?_
          refine W.yes (by simp only [lk] <;> rfl) <| CWp.skip <| SQ.normal ?_
          refine W.seq <| W.block <| W.seq <| W.reg <| 
              OSuf.aop tyOK rfl (so_move (by simp only [lk] <;> rfl)) rfl <|
              OSuf.aop tyOK rfl (so_move (by simp only [lk] <;> rfl)) rfl <|
              OSuf.aop tyOK rfl (so_indexAddr (by simp only [lk] <;> rfl) (by simp only [lk] <;> rfl) (by simp (disch := first | assumption | omega | (simp only [nx] <;> omega) | fail) only [aIndexAddr, ty42, ty48, hpl, hc, and_self, if_true, Int.toNat_natCast, hg1, Nat.mul_one, Nat.zero_add, Nat.add_zero, c0, c0', c1, c2] <;> rfl)) rfl <|
              OSuf.aop tyOK rfl (so_fieldAddr (by simp only [lk] <;> rfl) (fa_ok (k := 0) ty48 rfl rfl ty5 rfl rfl)) rfl <|
              OSuf.aop tyOK rfl (so_load (by simp only [lk] <;> rfl) (by simp (disch := first | assumption | omega | (simp only [nx] <;> omega) | fail) only [aLoad, ty5, rowOf, hpl, hc, and_self, if_true, Int.toNat_natCast, hg1, Nat.mul_one, Nat.zero_add, Nat.add_zero, c0, c0', c1, c2] <;> rfl)) rfl <|
              OSuf.aop tyOK rfl (so_bin (by simp only [lk] <;> rfl) (by simp only [lk] <;> rfl) (bi_w (bi_rem (by decide)) (by first | (simp only [e1, w3, w4, w5, e2, w2] <;> rfl) | rfl))) rfl <|
              OSuf.aop tyOK rfl (so_conw (so_conv tyOK (by simp only [lk] <;> rfl) ty5 ⟨_, rfl⟩ ty29 rfl) (by first | (simp only [e1, w3, w4, w5, e2, w2] <;> rfl) | rfl)) rfl <|
              OSuf.aop tyOK rfl (so_bin (by simp only [lk] <;> rfl) (by simp only [lk] <;> rfl) (bi_w bi_add (by first | (simp only [e1, w3, w4, w5, e2, w2] <;> rfl) | rfl))) rfl <|
              OSuf.aop tyOK rfl (so_assign (by simp only [lk] <;> rfl)) rfl <|
              OSuf.nil <| SQ.normal ?_
          refine W.seq <| W.reg <| 
              OSuf.aop tyOK rfl (so_move (by simp only [lk] <;> rfl)) rfl <|
              OSuf.aop tyOK rfl (so_move (by simp only [lk] <;> rfl)) rfl <|
              OSuf.aop tyOK rfl (so_indexAddr (by simp only [lk] <;> rfl) (by simp only [lk] <;> rfl) (by simp (disch := first | assumption | omega | (simp only [nx] <;> omega) | fail) only [aIndexAddr, ty42, ty48, hpl, hc, and_self, if_true, Int.toNat_natCast, hg1, Nat.mul_one, Nat.zero_add, Nat.add_zero, c0, c0', c1, c2] <;> rfl)) rfl <|
              OSuf.aop tyOK rfl (so_fieldAddr (by simp only [lk] <;> rfl) (fa_ok (k := 1) ty48 rfl rfl ty5 rfl rfl)) rfl <|
              OSuf.aop tyOK rfl (so_load (by simp only [lk] <;> rfl) (by simp (disch := first | assumption | omega | (simp only [nx] <;> omega) | fail) only [aLoad, ty5, rowOf, hpl, hc, and_self, if_true, Int.toNat_natCast, hg1, Nat.mul_one, Nat.zero_add, Nat.add_zero, c0, c0', c1, c2] <;> rfl)) rfl <|
              OSuf.aop tyOK rfl (so_conw (so_conv tyOK (by simp only [lk] <;> rfl) ty5 ⟨_, rfl⟩ ty29 rfl) (by first | (simp only [e1, w3, w4, w5, e2, w2] <;> rfl) | rfl)) rfl <|
              OSuf.aop tyOK rfl (so_move (by simp only [lk] <;> rfl)) rfl <|
              OSuf.aop tyOK rfl (so_bin (by simp only [lk] <;> rfl) (by simp only [lk] <;> rfl) (bi_w (bi_rem hnz) (by first | (simp only [e1, w3, w4, w5, e2, w2] <;> rfl) | rfl))) rfl <|
              OSuf.aop tyOK rfl (so_assign (by simp only [lk] <;> rfl)) rfl <|
              OSuf.nil <| SQ.normal ?_
          refine W.seq <| W.reg <| 
              OSuf.aop tyOK rfl (so_move (by simp only [lk] <;> rfl)) rfl <|
              OSuf.aop tyOK rfl (so_move (by simp only [lk] <;> rfl)) rfl <|
              OSuf.aop tyOK rfl (so_indexAddr (by simp only [lk] <;> rfl) (by simp only [lk] <;> rfl) (by simp (disch := first | assumption | omega | (simp only [nx] <;> omega) | fail) only [aIndexAddr, ty42, ty48, hpl, hc, and_self, if_true, Int.toNat_natCast, hg1, Nat.mul_one, Nat.zero_add, Nat.add_zero, c0, c0', c1, c2] <;> rfl)) rfl <|
              OSuf.aop tyOK rfl (so_fieldAddr (by simp only [lk] <;> rfl) (fa_ok (k := 2) ty48 rfl rfl ty4 rfl rfl)) rfl <|
              OSuf.aopT tyOK rfl (so_load (by simp only [lk] <;> rfl) (by simp (disch := first | assumption | omega | (simp only [nx] <;> omega) | fail) only [aLoad, ty4, rowOf, hpl, hc, and_self, if_true, Int.toNat_natCast, hg1, Nat.mul_one, Nat.zero_add, Nat.add_zero, c0, c0', c1, c2] <;> rfl)) (fun _ => rfl) (hov) <|
              OSuf.nil <| SQ.normal ?_
          refine W.yes (by simp only [lk] <;> rfl) <| W.reg <| 
              OSuf.aop tyOK rfl (so_move (by simp only [lk] <;> rfl)) rfl <|
              OSuf.aop tyOK rfl (so_move (by simp only [lk] <;> rfl)) rfl <|
              OSuf.aop tyOK rfl (so_move (by simp only [lk] <;> rfl)) rfl <|
              OSuf.call rfl (by simp only [aopnds, lk] <;> rfl) en11 (over_c _ (h0.next + 1) S hA (lts x) (lon x) (by omega)) ?_
          rintro _ h2 ⟨rfl, hA2, hF2⟩
          refine ⟨_, rfl, ?_⟩
          refine 
              OSuf.nil <| BQ.normal <| SQ.normal ?_
          refine W.reg <| 
              OSuf.aop tyOK rfl (so_move (by simp only [lk] <;> rfl)) rfl <|
              OSuf.aop tyOK rfl (so_bin (by simp only [lk] <;> rfl) (by simp only [lk] <;> rfl) (bi_w bi_add (by first | (simp only [e1, w3, w4, w5, e2, w2] <;> rfl) | rfl))) rfl <|
              OSuf.aop tyOK rfl (so_assign (by simp only [lk] <;> rfl)) rfl <|
              OSuf.nil <| ?_
          -- leaf: round
          refine LQ.normal (m := n - 1) (L := [(0, .slice (some ⟨r, 0, none⟩) l.length 0), (3, P0 (h0.next + 1)), (4, I64 (k + 1 : Nat))]) (by omega) ?_ ⟨k + 1, _, by omega, by omega, hA2, by unfold putP; cases hasP (lts x, lon x) S.ps <;> exact hm, hP2, Nat.lt_of_lt_of_le hnx hF2.1, fun z hz => by rw [hF2.2 z (by omega) (by omega)]; exact hold z hz, rfl⟩
          simp only [HasA, Tr.get_put, Nat.reduceEqDiff, reduceIte, w2, and_self]
      · have : k = 100 := by omega
        subst this
        refine W.seq <| W.seq <| W.reg <| 
            OSuf.aop tyOK rfl (so_move (by simp only [lk] <;> rfl)) rfl <|
            OSuf.aop tyOK rfl (so_move (by simp only [lk] <;> rfl)) rfl <|
            OSuf.aop tyOK rfl (so_len (by simp only [aopnds, lk] <;> rfl) (by simp (disch := first | assumption | omega | (simp only [nx] <;> omega) | fail) only [aLenOf, ty42, hpl] <;> rfl)) rfl <|
            OSuf.aopT tyOK rfl (so_bin (by simp only [lk] <;> rfl) (by simp only [lk] <;> rfl) bi_lss) (fun _ => rfl) (by first | rfl | assumption | ((simp only [bl]) <;> first | done | assumption | omega) | (simp []; done) | (simp []; omega)) <|
            OSuf.aopT tyOK rfl (so_move (by simp only [lk] <;> rfl)) (fun _ => rfl) rfl <|
            OSuf.aop tyOK (aguard_of rfl rfl (by simp only [lk] <;> rfl) rfl) (so_move (by simp only [lk] <;> rfl)) rfl <|
            OSuf.aopF tyOK (aguard_of rfl rfl (by simp only [lk] <;> rfl) rfl) (so_bin (by simp only [lk] <;> rfl) (by simp only [lk] <;> rfl) bi_lss) (fun _ => rfl) (by first | rfl | assumption | ((simp only [bl]) <;> first | done | assumption | omega) | (simp []; done) | (simp []; omega)) <|
            OSuf.aopF tyOK rfl (so_pick (by simp only [lk] <;> rfl) (by simp only [lk, cond_true, cond_false] <;> rfl)) (fun _ => rfl) rfl <|
            OSuf.nil <| SQ.normal ?_
        refine W.no (by simp only [lk] <;> rfl) <| CWp.exit <| SQ.exit <| LQ.exit <| BQ.exit <| ?_
        -- leaf: cut
        refine NQ.normal (L := [(3, P0 (h0.next + 1))]) ?_ ⟨⟨S, hA, hm, hP, hnx, hold⟩, rfl⟩
        simp only [HasA, Tr.get_put, Nat.reduceEqDiff, reduceIte, and_self]
    · refine W.seq <| W.seq <| W.reg <| 
          OSuf.aop tyOK rfl (so_move (by simp only [lk] <;> rfl)) rfl <|
          OSuf.aop tyOK rfl (so_move (by simp only [lk] <;> rfl)) rfl <|
          OSuf.aop tyOK rfl (so_len (by simp only [aopnds, lk] <;> rfl) (by simp (disch := first | assumption | omega | (simp only [nx] <;> omega) | fail) only [aLenOf, ty42, hpl] <;> rfl)) rfl <|
          OSuf.aopF tyOK rfl (so_bin (by simp only [lk] <;> rfl) (by simp only [lk] <;> rfl) bi_lss) (fun _ => rfl) (by first | rfl | assumption | ((simp only [bl]) <;> first | done | assumption | omega) | (simp []; done) | (simp []; omega)) <|
          OSuf.aopF tyOK rfl (so_move (by simp only [lk] <;> rfl)) (fun _ => rfl) rfl <|
          OSuf.pass (aguard_of rfl rfl (by simp only [lk] <;> rfl) rfl) rfl <|
          OSuf.pass (aguard_of rfl rfl (by simp only [lk] <;> rfl) rfl) rfl <|
          OSuf.aopF tyOK rfl (so_pick (by simp only [lk] <;> rfl) (by simp only [lk, cond_true, cond_false] <;> rfl)) (fun _ => rfl) rfl <|
          OSuf.nil <| SQ.normal ?_
      refine W.no (by simp only [lk] <;> rfl) <| CWp.exit <| SQ.exit <| LQ.exit <| BQ.exit <| ?_
      -- leaf: cut
      have e : l.take k = l.take 100 := by rw [List.take_of_length_le (by omega), List.take_of_length_le (by omega)]
      rw [e] at hP
      refine NQ.normal (L := [(3, P0 (h0.next + 1))]) ?_ ⟨⟨S, hA, hm, hP, hnx, hold⟩, rfl⟩
      simp only [HasA, Tr.get_put, Nat.reduceEqDiff, reduceIte, and_self]
  rintro L a' h ha ⟨hq, rfl⟩
  refine SQ.normal <| CWp.known ha ?_
  simp only [mkA]
  refine W.seq <| W.reg <| 
      OSuf.aop tyOK rfl (so_move (by simp only [lk] <;> rfl)) rfl <|
      OSuf.aop tyOK rfl (so_assign (by simp only [lk] <;> rfl)) rfl <|
      OSuf.nil <| SQ.normal ?_
  refine CWp.ret <| FQ.ret (by simp only [aRet, Try.f23, aResults, aResult, lk, Nat.reduceEqDiff, reduceIte] <;> rfl) ?_
  -- leaf: end
  exact ⟨rfl, hq⟩
/-- All wait for one from k on. -/
def From (k : Int) (ps : List Pr) : Prop := ∀ p ∈ ps, k ≤ p.key.2 ∧ p.key.2 < p.key.1 ∧ p.key.1 ≤ 40
theorem From.reach {k : Int} {ps : List Pr} (f : From k ps) {y : Int} (hr : Reach ps k y) : k ≤ y := by
  induction hr with
  | refl => omega
  | step _ hp _ ho ih => have := f _ hp; omega
theorem ready_t {h : AHeap} {r : Nat} {S : DS} (hA : DA h r S) {ts : Int} (hn : ∀ p ∈ S.ps, ¬ p.key.1 = ts) : FWp Try.prog 20 [P0 r, U64 ts] h fun u h' => u = .bool true ∧ h' = h := by
  have := ready_c h r S hA ts
  rw [List.any_eq_false.2 fun p hp => by simpa using hn p hp] at this
  exact this
theorem LinkP.from_ {l : List Lk} {ps : List Pr} (hl : ∀ x ∈ l, x.ok) (i : LinkP l ps) : From 0 ps := fun p hp => by
  obtain ⟨x, hx, hk⟩ := (i.mem p.key).1 ⟨p, hp, rfl⟩
  have := lk_range (hl x hx)
  rw [← hk]; simp only [lkey]; omega

theorem bools_set {bs : List Bool} {j : Nat} {n : Nat} (x : Bool) (hl : bs.length = n) (hj : j < n) : (j + [Value.bool x].length).ble (bs.map Value.bool).length = true ∧ splice (bs.map Value.bool) j [Value.bool x] = (bs.set j x).map Value.bool := by
  refine ⟨Nat.ble_eq_true_of_le (by simp [hl]; omega), ?_⟩
  have := arr_set Value.bool (d := bs.toArray) (i := j) x (by simp [hl]; omega)
  simpa using this
end Go.Proofs.Ytfbfihfmlenklaa
