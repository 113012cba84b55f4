/-
  Contracts of the package table: Row, Evict.
-/
import Derived.Test.YtldhcjfhlfgleaaTableV
namespace Go.Proofs.Ytldhcjfhlfgleaa
open Go.Ab
set_option linter.unusedSimpArgs false
set_option linter.unusedVariables false
set_option maxRecDepth 10000
set_option maxHeartbeats 4000000

/-- What may change. -/
structure FrT (h h' : AHeap) (r : Nat) (M M' : TM) : Prop where
  next : h.next ≤ h'.next
  old : ∀ z, z < h.next → ¬ z = r → z ∉ M.rows → h'.get z = h.get z
  rows : ∀ z ∈ M'.rows, z ∈ M.rows ∨ h.next ≤ z
theorem FrT.refl (h : AHeap) (r : Nat) (M : TM) : FrT h h r M M := ⟨Nat.le_refl _, fun _ _ _ _ => rfl, fun z hz => .inl hz⟩
theorem TA.mono {h h' : AHeap} {r : Nat} {fl : Int} {M : TM} (hA : TA h r fl M) (hn : h.next ≤ h'.next) (hk : ∀ z, z < h.next → h'.get z = h.get z) : TA h' r fl M := by
  have hlt : ∀ c ∈ M.ch, ∀ l ∈ c, l.row < h.next := fun c hc l hl => (hA.chn c hc).lt l hl
  exact ⟨Nat.lt_of_lt_of_le hA.lt hn, Nat.lt_of_lt_of_le hA.slt hn, hA.pos, hA.small, hA.len, by rw [hk _ hA.lt]; exact hA.row, by rw [hk _ hA.slt]; exact hA.srow,
    fun c hc => (hA.chn c hc).mono hn fun l hl => hk _ (hlt c hc l hl), hA.rs, hA.nd, fun l hl => avo_mono (hA.av l hl) hn fun y w hy _ => hk y hy, hA.hash, hA.keys⟩
/-- Nothing of it changes. -/
theorem TA.keep {h h' : AHeap} {r : Nat} {fl : Int} {M : TM} (hA : TA h r fl M) (hn : h.next ≤ h'.next) (hr : h'.get r = h.get r) (hk : ∀ z ∈ M.rows, h'.get z = h.get z) (hv : ∀ y w, y < h.next → h.get y = some (.cells w 5) → h'.get y = h.get y) : TA h' r fl M := by
  have hrow : ∀ c ∈ M.ch, ∀ l ∈ c, l.row ∈ M.rows := fun c hc l hl => List.mem_cons_of_mem _ (List.mem_map.2 ⟨l, chn_sub hA hc l hl, rfl⟩)
  exact ⟨Nat.lt_of_lt_of_le hA.lt hn, Nat.lt_of_lt_of_le hA.slt hn, hA.pos, hA.small, hA.len, by rw [hr]; exact hA.row, by rw [hk _ List.mem_cons_self]; exact hA.srow,
    fun c hc => (hA.chn c hc).mono hn fun l hl => hk _ (hrow c hc l hl), hA.rs, hA.nd, fun l hl => avo_mono (hA.av l hl) hn hv, hA.hash, hA.keys⟩
theorem TB.mono {h h' : AHeap} {r : Nat} {fl : Int} {M : TM} {A : List Rec} (t : TB h r fl M A) (hn : h.next ≤ h'.next) (hk : ∀ z, z < h.next → h'.get z = h.get z) : TB h' r fl M A := ⟨t.ta.mono hn hk, t.perm⟩
theorem chn_full {h : AHeap} {l : Lk} {post : List Lk} : ∀ {pre : List Lk}, Chn h (pre ++ l :: post) → h.get l.row = some (.cells [encS l.key, U64 l.rts, .bool l.here, l.vers, headV post] 1)
  | [], ⟨_, h2, _⟩ => h2
  | x :: pre, ⟨_, _, h3⟩ => chn_full h3
theorem head_app (p : List Lk) (x y : Lk) (a b : List Lk) (e : x.row = y.row) : headV (p ++ x :: a) = headV (p ++ y :: b) := by
  cases p with
  | nil => simp only [List.nil_append, headV, e]
  | cons z p => rfl
theorem chn_del {h H : AHeap} {x l : Lk} {post : List Lk} : ∀ {pre : List Lk}, Chn h (pre ++ x :: l :: post) → h.next ≤ H.next → (∀ y ∈ pre ++ post, H.get y.row = h.get y.row) → H.get x.row = some (.cells (x.cs post) 1) → Chn H (pre ++ x :: post)
  | [], ⟨h1, h2, h3, h4, h5⟩, hn, hk, hx => ⟨by omega, hx, h5.mono hn fun y hy => hk y (by simpa using hy)⟩
  | y :: pre, ⟨h1, h2, h3⟩, hn, hk, hx => by
    refine ⟨by omega, ?_, chn_del h3 hn (fun z hz => hk z (List.mem_cons_of_mem _ hz)) hx⟩
    rw [hk y List.mem_cons_self, h2, Lk.cs, Lk.cs]
    show some (AObj.cells [_, _, _, _, headV (pre ++ x :: l :: post)] 1) = some (AObj.cells [_, _, _, _, headV (pre ++ x :: post)] 1)
    rw [head_app pre x x (l :: post) post rfl]
theorem chn_upd {h H : AHeap} {l l' : Lk} {post : List Lk} (hr : l'.row = l.row) : ∀ {pre : List Lk}, Chn h (pre ++ l :: post) → h.next ≤ H.next → (∀ y ∈ pre ++ post, H.get y.row = h.get y.row) → H.get l.row = some (.cells (l'.cs post) 1) → Chn H (pre ++ l' :: post)
  | [], ⟨h1, h2, h3⟩, hn, hk, hx => ⟨by omega, by rw [hr]; exact hx, h3.mono hn fun y hy => hk y (by simpa using hy)⟩
  | y :: pre, ⟨h1, h2, h3⟩, hn, hk, hx => by
    refine ⟨by omega, ?_, chn_upd hr h3 hn (fun z hz => hk z (List.mem_cons_of_mem _ hz)) hx⟩
    rw [hk y List.mem_cons_self, h2, Lk.cs, Lk.cs]
    show some (AObj.cells [_, _, _, _, headV (pre ++ l :: post)] 1) = some (AObj.cells [_, _, _, _, headV (pre ++ l' :: post)] 1)
    rw [head_app pre l l' post post hr.symm]
theorem TA.chain_nd {h : AHeap} {r : Nat} {fl : Int} {M : TM} (hA : TA h r fl M) {i : Nat} {c : List Lk} (hc : M.ch[i]? = some c) : (c.map Lk.row).Nodup ∧ (c.map Lk.key).Nodup ∧ (∀ l ∈ c, ¬ l.row = r ∧ ¬ l.row = M.s ∧ l.row < h.next ∧ l.row ∈ M.rows) := by
  obtain ⟨P, Q, e1, e2, e3, e4⟩ := all_split hc
  have nd := hA.nd
  have kd := hA.keys
  simp only [TM.rows, e1, List.map_append, List.nodup_cons, List.nodup_append, List.mem_cons, List.mem_append, not_or] at nd
  simp only [e1, List.map_append, List.nodup_append, List.mem_append] at kd
  have hcm := List.mem_of_getElem? hc
  refine ⟨nd.2.2.2.1.1, kd.2.1.1, fun l hl => ⟨fun e => nd.1.2.2.1 (by rw [← e]; exact List.mem_map.2 ⟨l, hl, rfl⟩), fun e => nd.2.1.2.1 (by rw [← e]; exact List.mem_map.2 ⟨l, hl, rfl⟩), (hA.chn c hcm).lt l hl, ?_⟩⟩
  exact List.mem_cons_of_mem _ (List.mem_map.2 ⟨l, chn_sub hA hcm l hl, rfl⟩)
theorem splice_one {vs : List Value} {i : Nat} {x : Value} (h : i < vs.length) : splice vs i [x] = vs.set i x := by
  induction vs generalizing i with
  | nil => simp at h
  | cons v vs ih =>
    cases i with
    | zero => cases vs <;> simp [splice]
    | succ i =>
      simp only [splice, List.set_cons_succ]
      rw [ih (by simpa using h)]
theorem nd_mid {p q : List Lk} {l : Lk} (h : ((p ++ l :: q).map Lk.row).Nodup) : ∀ y ∈ p ++ q, ¬ y.row = l.row := fun y hy e => by
  simp only [List.map_append, List.map_cons, List.nodup_append, List.nodup_cons, List.mem_cons, List.mem_map] at h
  rcases List.mem_append.1 hy with h9 | h9
  · exact h.2.2 y.row ⟨y, h9, rfl⟩ l.row (.inl rfl) e
  · exact h.2.1.1 ⟨y, h9, e⟩

theorem avo_form {h : AHeap} {V : List Vr} {v : Value} (a : AVo h V v) : ∃ b c, v = .slice b V.length c := by cases a <;> exact ⟨_, _, rfl⟩
/-! Row. -/
def rowV (x : Rec) (v : Value) : Value := .agg #[encS x.key, U64 x.rts, .bool x.here, v]
theorem row_none (h : AHeap) (r : Nat) (fl : Int) (M : TM) (A : List Rec) (hB : TB h r fl M A) (k : List UInt8) (hk : k.length < 9223372036854775807) (hg : getR k A = none) :
    FWp Try.prog 20 [P0 r, encS k] h fun u h' => u = .tuple #[.agg #[encS [], U64 0, .bool false, .slice none 0 0], .bool false] ∧ h' = h := by
  have hn : ∀ l ∈ M.all, ¬ l.key = k := by
    rcases site hB.ta k with h1 | ⟨c, pre, l, post, hs⟩
    · exact h1
    · rw [getR_some hB hs] at hg; cases hg
  have hB1 : ∀ o, TB (h.new o) r fl M A := fun o => hB.mono (by simp) fun z hz => AHeap.get_new_ne (by omega)
  refine FWp.gcs ⟨fun _ => none, _, .tuple (.cons (.agg (.cons (.string _) (.cons (.int _ _) (.cons (.bool _) (.cons .slice0 .nil))))) (.cons (.bool _) .nil))⟩ (W.enter tyOK Try.func20 rfl rfl ?_)
  simp only [entry]
  refine W.seq <| W.reg <| OSuf.aop tyOK rfl (so_alloc (by simp only [aAlloc, ty39] <;> rfl)) rfl <| OSuf.aopF tyOK rfl (so_assign (by simp only [lk] <;> rfl)) (fun _ => rfl) rfl <| OSuf.nil <| SQ.normal ?_
  refine W.seq <| W.seq <| W.reg <| OSuf.aop tyOK rfl sm rfl <| OSuf.aopF tyOK rfl (so_bin (by simp only [lk] <;> rfl) (by simp only [lk] <;> rfl) (bi_nil ⟨_, _, ty23, rfl⟩)) (fun _ => rfl) rfl <| OSuf.nil <| SQ.normal ?_
  refine W.no (by simp only [lk] <;> rfl) <| CWp.skip <| SQ.normal ?_
  refine W.seq <| W.reg <| OSuf.aop tyOK rfl sm rfl <| OSuf.aop tyOK rfl sm rfl <| OSuf.callD rfl (by simp only [aopnds, lk] <;> rfl) en24 (find_none _ r fl M (hB1 _).ta k hk hn) rfl <| OSuf.aop tyOK rfl (so_assign (by simp only [lk] <;> rfl)) rfl <| OSuf.nil <| SQ.normal ?_
  refine W.seq <| W.seq <| W.reg <| OSuf.aop tyOK rfl sm rfl <| OSuf.aopT tyOK rfl (so_bin (by simp only [lk] <;> rfl) (by simp only [lk] <;> rfl) (bi_nil0 tyOK ⟨_, _, ty68, rfl⟩)) (fun _ => rfl) rfl <| OSuf.nil <| SQ.normal ?_
  refine W.yes (by simp only [lk] <;> rfl) <| W.seq <| W.reg <| OSuf.aop tyOK rfl (so_build (by simp only [aparts, lk] <;> rfl) (by simp (disch := first | assumption | omega | (simp only [nx] <;> omega) | fail) only [aBuild, ty39, hpl, Value.cells, places, ty23, ty31, ty39, ty68, ty70, ty72] <;> rfl)) rfl <| OSuf.aop tyOK rfl (so_store (by simp only [lk] <;> rfl) (by simp only [lk] <;> rfl) (by simp (disch := first | assumption | omega | (simp only [nx] <;> omega) | fail) only [aStore, ty39, writeRow, hpl, Value.cells, places, ty23, ty31, ty39, ty68, ty70, ty72] <;> rfl)) rfl <| OSuf.aopF tyOK rfl (so_assign (by simp only [lk] <;> rfl)) (fun _ => rfl) rfl <| OSuf.nil <| SQ.normal ?_
  refine CWp.ret <| SQ.ret <| FQ.ret (by simp (disch := first | assumption | omega | (simp only [nx] <;> omega) | fail) only [aRet, Try.f20, aResults, aResult, lk, Nat.reduceEqDiff, reduceIte, aLoad, rowOf, hpl, Value.cells, places, ty23, ty31, ty39, ty68, ty70, ty72] <;> rfl) ?_
  -- leaf: end
  refine ⟨rfl, fun z o hz ho => ?_⟩
  simp (disch := first | assumption | omega | (simp only [nx] <;> omega) | fail) only [hpl]; exact ho
theorem row_some (h : AHeap) (r : Nat) (fl : Int) (M : TM) (A : List Rec) (hB : TB h r fl M A) (k : List UInt8) (hk : k.length < 9223372036854775807) (x : Rec) (hg : getR k A = some x) (hl : x.V.length ≤ 1000000) :
    ∃ v H, FWp Try.prog 20 [P0 r, encS k] h (fun u h' => u = .tuple #[rowV x v, .bool true] ∧ h' = H) ∧ AVo H x.V v ∧ h.next ≤ H.next ∧ ∀ z, z < h.next → H.get z = h.get z := by
  obtain ⟨c, pre, l, post, hs⟩ : ∃ c pre l post, Site M k c pre l post := by
    rcases site hB.ta k with h1 | h1
    · rw [getR_none hB h1] at hg; cases hg
    · exact h1
  obtain rfl : l.rc = x := by rw [getR_some hB hs] at hg; cases hg; rfl
  have hA := hB.ta
  have hcm := List.mem_of_getElem? hs.at_
  obtain ⟨nd1, nd2, nd3⟩ := hA.chain_nd hs.at_
  have hlm : l ∈ c := by rw [hs.split]; simp
  have hllt := (nd3 l hlm).2.2.1
  have hlg : h.get l.row = some (.cells [encS l.key, U64 l.rts, .bool l.here, l.vers, headV post] 1) := chn_full (by rw [← hs.split]; exact hA.chn c hcm)
  have at0 : At h (PA M.s (ix k M.n)) (headV c) := ⟨_, _, _, rfl, hA.slt, hA.srow, by simp [hs.at_]⟩
  obtain ⟨q, o, vs, q1, q2, q3, q4⟩ := at_plc (pre := pre) (post := l :: post) (by rw [← hs.split]; exact at0) (by rw [← hs.split]; exact hA.chn c hcm)
  have q4' : vs[o]? = some (P0 l.row) := q4
  have hB1 : ∀ o, TB (h.new o) r fl M A := fun o => hB.mono (by simp) fun z hz => AHeap.get_new_ne (by omega)
  have hf := fun o => find_some (h.new o) r fl M (hB1 o).ta k hk c pre post l hs.at_ hs.split hs.pre hs.key
  rw [q1] at hf
  have hav : AVo (((h.new (.cells [encS [], U64 0, .bool false, .slice none 0 0] 1)).new (.cells [encS [], U64 0, .bool false, .slice none 0 0] 1)).set (h.next + 1) (.cells [encS l.key, U64 l.rts, .bool l.here, l.vers] 1)) l.V l.vers := avo_mono (hA.av l (chn_sub hA hcm l hlm)) (by simp; omega) fun y w hy _ => by simp (disch := first | assumption | omega | (simp only [nx] <;> omega) | fail) only [hpl]
  obtain ⟨a1, c1, hvv⟩ := avo_form hav
  rw [hvv] at hav hlg
  obtain ⟨v, H, hcl, hcv, hcn, hck, _⟩ := clone_c _ l.V _ (avo_avs hav) hl
  obtain ⟨a2, c2, rfl⟩ := avo_form hcv
  have e4 : cellsOf [encS l.key, U64 l.rts, .bool l.here, .slice a1 l.V.length c1, headV post] (0 + 0) 4 = some [encS l.key, U64 l.rts, .bool l.here, .slice a1 l.V.length c1] := rfl
  have e5 : cellsOf [encS l.key, U64 l.rts, .bool l.here, .slice a2 l.V.length c2] 0 4 = some [encS l.key, U64 l.rts, .bool l.here, .slice a2 l.V.length c2] := rfl
  have hcn' : h.next + 2 ≤ H.next := by simpa using hcn
  have z1 : H.get h.next = some (.cells [encS [], U64 0, .bool false, .slice none 0 0] 1) := by rw [hck _ (by simp; omega)]; simp (disch := first | assumption | omega | (simp only [nx] <;> omega) | fail) only [hpl]
  have z2 : H.get (h.next + 1) = some (.cells [encS l.key, U64 l.rts, .bool l.here, .slice a1 l.V.length c1] 1) := by rw [hck _ (by simp)]; simp (disch := first | assumption | omega | (simp only [nx] <;> omega) | fail) only [hpl]
  refine ⟨.slice a2 l.V.length c2, (H.set (h.next + 1) (.cells [encS l.key, U64 l.rts, .bool l.here, .slice a2 l.V.length c2] 1)).set h.next (.cells [encS l.key, U64 l.rts, .bool l.here, .slice a2 l.V.length c2] 1), ?_, ?_, ?_, ?_⟩
  · refine W.enter tyOK Try.func20 rfl rfl ?_
    simp only [entry]
    refine W.seq <| W.reg <| OSuf.aop tyOK rfl (so_alloc (by simp only [aAlloc, ty39] <;> rfl)) rfl <| OSuf.aopF tyOK rfl (so_assign (by simp only [lk] <;> rfl)) (fun _ => rfl) rfl <| OSuf.nil <| SQ.normal ?_
    refine W.seq <| W.seq <| W.reg <| OSuf.aop tyOK rfl sm rfl <| OSuf.aopF tyOK rfl (so_bin (by simp only [lk] <;> rfl) (by simp only [lk] <;> rfl) (bi_nil ⟨_, _, ty23, rfl⟩)) (fun _ => rfl) rfl <| OSuf.nil <| SQ.normal ?_
    refine W.no (by simp only [lk] <;> rfl) <| CWp.skip <| SQ.normal ?_
    refine W.seq <| W.reg <| OSuf.aop tyOK rfl sm rfl <| OSuf.aop tyOK rfl sm rfl <| OSuf.callD rfl (by simp only [aopnds, lk] <;> rfl) en24 (hf _) rfl <| OSuf.aop tyOK rfl (so_assign (by simp only [lk] <;> rfl)) rfl <| OSuf.nil <| SQ.normal ?_
    refine W.seq <| W.seq <| W.reg <| OSuf.aop tyOK rfl sm rfl <| OSuf.aopF tyOK rfl (so_bin (by simp only [lk] <;> rfl) (by simp only [lk] <;> rfl) (bi_nil ⟨_, _, ty68, rfl⟩)) (fun _ => rfl) rfl <| OSuf.nil <| SQ.normal ?_
    refine W.no (by simp only [lk] <;> rfl) <| CWp.skip <| SQ.normal ?_
    refine W.seq <| W.reg <| OSuf.aop tyOK rfl sm rfl <| OSuf.aop tyOK rfl (so_nilCheck (by simp only [lk] <;> rfl)) rfl <| OSuf.aop tyOK rfl (so_load (by simp only [lk] <;> rfl) (by simp (disch := first | assumption | omega | (simp only [nx] <;> omega) | fail) only [aLoad, ty70, rowOf, hpl, Value.cells, places, ty23, ty31, ty39, ty68, ty70, ty72, q3, q4', hlg, z1, z2, e4, e5, Option.map_some, cond_true] <;> rfl)) rfl <| OSuf.aop tyOK rfl (so_nilCheck (by simp only [lk] <;> rfl)) rfl <| OSuf.aop tyOK rfl (so_fieldAddr (by simp only [lk] <;> rfl) (fa_ok (k := 0) ty72 rfl rfl ty39 rfl rfl)) rfl <| OSuf.aop tyOK rfl (so_load (by simp only [lk] <;> rfl) (by simp (disch := first | assumption | omega | (simp only [nx] <;> omega) | fail) only [aLoad, ty39, rowOf, hpl, Value.cells, places, ty23, ty31, ty39, ty68, ty70, ty72, q3, q4', hlg, z1, z2, e4, e5, Option.map_some, cond_true] <;> rfl)) rfl <| OSuf.aop tyOK rfl (so_alloc (by simp only [aAlloc, ty39] <;> rfl)) rfl <| OSuf.aop tyOK rfl (so_store (by simp only [lk] <;> rfl) (by simp only [lk] <;> rfl) (by simp (disch := first | assumption | omega | (simp only [nx] <;> omega) | fail) only [aStore, ty39, writeRow, hpl, Value.cells, places, ty23, ty31, ty39, ty68, ty70, ty72, q3, q4', hlg, z1, z2, e4, e5, Option.map_some, cond_true] <;> rfl)) rfl <| OSuf.nil <| SQ.normal ?_
    refine W.seq <| W.reg <| OSuf.aop tyOK rfl (so_fieldAddr (by simp only [lk] <;> rfl) (fa_ok (k := 3) ty39 rfl rfl ty31 rfl rfl)) rfl <| OSuf.aop tyOK rfl (so_load (by simp only [lk] <;> rfl) (by simp (disch := first | assumption | omega | (simp only [nx] <;> omega) | fail) only [aLoad, ty31, rowOf, hpl, Value.cells, places, ty23, ty31, ty39, ty68, ty70, ty72, q3, q4', hlg, z1, z2, e4, e5, Option.map_some, cond_true] <;> rfl)) rfl <| OSuf.callD rfl (by simp only [aopnds, lk] <;> rfl) en29 (hcl) rfl <| OSuf.aop tyOK rfl (so_fieldAddr (by simp only [lk] <;> rfl) (fa_ok (k := 3) ty39 rfl rfl ty31 rfl rfl)) rfl <| OSuf.aop tyOK rfl (so_store (by simp only [lk] <;> rfl) (by simp only [lk] <;> rfl) (by simp (disch := first | assumption | omega | (simp only [nx] <;> omega) | fail) only [aStore, ty31, writeRow, hpl, Value.cells, places, ty23, ty31, ty39, ty68, ty70, ty72, q3, q4', hlg, z1, z2, e4, e5, Option.map_some, cond_true] <;> rfl)) rfl <| OSuf.nil <| SQ.normal ?_
    refine W.seq <| W.reg <| OSuf.aop tyOK rfl (so_load (by simp only [lk] <;> rfl) (by simp (disch := first | assumption | omega | (simp only [nx] <;> omega) | fail) only [aLoad, ty39, rowOf, hpl, Value.cells, places, ty23, ty31, ty39, ty68, ty70, ty72, q3, q4', hlg, z1, z2, e4, e5, Option.map_some, cond_true] <;> rfl)) rfl <| OSuf.aop tyOK rfl (so_store (by simp only [lk] <;> rfl) (by simp only [lk] <;> rfl) (by simp (disch := first | assumption | omega | (simp only [nx] <;> omega) | fail) only [aStore, ty39, writeRow, hpl, Value.cells, places, ty23, ty31, ty39, ty68, ty70, ty72, q3, q4', hlg, z1, z2, e4, e5, Option.map_some, cond_true] <;> rfl)) rfl <| OSuf.aopT tyOK rfl (so_assign (by simp only [lk] <;> rfl)) (fun _ => rfl) rfl <| OSuf.nil <| SQ.normal ?_
    refine CWp.ret <| FQ.ret (by simp (disch := first | assumption | omega | (simp only [nx] <;> omega) | fail) only [aRet, Try.f20, aResults, aResult, lk, Nat.reduceEqDiff, reduceIte, aLoad, rowOf, hpl, Value.cells, places, ty23, ty31, ty39, ty68, ty70, ty72, q3, q4', hlg, z1, z2, e4, e5, Option.map_some, cond_true] <;> rfl) ?_
    -- leaf: end
    exact ⟨rfl, rfl⟩
  · refine avo_mono hcv (by simp) fun y w hy hg => ?_
    have e1 : ¬ h.next + 1 = y := fun e => by rw [← e, z2] at hg; cases hg
    have e2 : ¬ h.next = y := fun e => by rw [← e, z1] at hg; cases hg
    simp (disch := first | assumption | omega | (simp only [nx] <;> omega) | fail) only [hpl]
  · simp only [nx]; omega
  · intro z hz
    simp (disch := first | assumption | omega | (simp only [nx] <;> omega) | fail) only [hpl]
    rw [hck z (by simp; omega)]
    simp (disch := first | assumption | omega | (simp only [nx] <;> omega) | fail) only [hpl]
end Go.Proofs.Ytldhcjfhlfgleaa
