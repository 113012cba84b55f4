/-
  Merged: PgK, RgN, RgO, RiS, RgP.
-/
import Derived.Test.YtebheelmgcggmaaMb
import Derived.Test.YtebheelmgcggmaaMa
set_option linter.unusedSimpArgs false
set_option linter.unusedVariables false
set_option maxRecDepth 10000
set_option maxHeartbeats 8000000
namespace Go.Proofs.Ytebheelmgcggmaa
open Go.Ab Go.Sort
theorem Rw.change {h g g' : AHeap} {os : List AObj} (r : Rw h g os) (i : Nat) (o : AObj) (hi : i < os.length) (hn : g.next ≤ g'.next) (hk : ∀ z, z < g.next → ¬ z = h.next + i → g'.get z = g.get z) (ho : g'.get (h.next + i) = some o) : Rw h g' (os.set i o) := by
  have := r.next
  refine ⟨by simp; omega, fun j x hx => ?_, fun z hz => by rw [hk z (by omega) (by omega)]; exact r.old z hz⟩
  by_cases e : j = i
  · subst e
    rw [List.getElem?_set_self hi] at hx
    cases hx; exact ho
  · rw [List.getElem?_set_ne (by omega)] at hx
    have := (List.getElem?_eq_some_iff.1 hx).1
    rw [hk _ (by omega) (by omega)]; exact r.at_ j x hx
theorem del_os (h : AHeap) (lo : Nat) (l : List Rec) (v fv : Value) (P : Rec → Bool) (J : List Rec → AHeap → Prop) (s : OS h lo l v) (hl : l.length ≤ 1000000) (j0 : J [] h)
    (jset : ∀ r n c, v = .slice (some ⟨r, 0, none⟩) n c → ∀ pre g o, J pre g → J pre (g.set r o)) (jnew : ∀ pre g o, J pre g → J pre (g.new o)) (jn : ∀ pre g, J pre g → h.next ≤ g.next)
    (ask : ∀ pre x post, pre ++ x :: post = l → ∀ g, J pre g → VWp Try.prog fv [x.V] g fun u g' => u = .bool (P x) ∧ J (pre ++ [x]) g' ∧ ∀ z, lo ≤ z → z < g.next → g'.get z = g.get z) :
    FWp Try.prog 27 [v, fv] h fun u g => J l g ∧ ∃ x, FS g lo (l.filter fun x => !P x) (nilV v) u x ∧ ∀ r, x = some r → ∃ n c, v = .slice (some ⟨r, 0, none⟩) n c := by
  by_cases hne : l = []
  · subst hne
    obtain ⟨x, hx, hx2⟩ := s.fs
    have hix := ixf_c h [] v fv P (fun pre g => pre = [] ∧ g = h) ⟨rfl, rfl⟩ (fun pre g hg => by rw [hg.2]; exact s.rs) hl (fun pre x post hp => by simp at hp)
    refine W.enter tyOK Try.func27 rfl rfl ?_
    simp only [entry]
    refine Wr <| Oa rfl za rfl <| On ?_
    refine Wr <| Oa rfl sm rfl <| Oa rfl sm rfl <| OSuf.call rfl (by simp only [aopnds, lk] <;> rfl) en51 (hix) ?_
    rintro u g hu
    obtain ⟨rfl, rfl⟩ : u = I64 (-1) ∧ g = h := by (rcases hu with ⟨a, b, _⟩ | ⟨pre, x, post, e, _⟩; exact ⟨a, b.2⟩; simp at e)
    refine ⟨_, rfl, ?_⟩
    refine Oa rfl za rfl <| On ?_
    refine W.seq <| ?_
    skip
    refine Wr <| Oa rfl sm rfl <| Otb rfl (zb (hv := bi_eql)) rfl <| On ?_
    refine Wy <| Wr <| Oa rfl sm rfl <| Oa rfl za rfl <| On ?_
    refine CWp.ret <| SQ.ret <| FQ.ret (by simp only [aRet, Try.f27, aResults, aResult, lk, Nat.reduceEqDiff, reduceIte] <;> rfl) ?_
    exact ⟨j0, x, hx, hx2⟩
  · cases s with
    | nil e => exact (hne e).elim
    | emp e _ _ _ => exact (hne e).elim
    | @some r n e hn h1 h2 h3 =>
      subst hn
      have hd := del_c h r l fv P (fun pre g => J pre g) hne hl h2 h3 j0 (jset r _ _ rfl) jnew jn (fun pre x post hp g hj => (ask pre x post hp g hj).mono fun u g' hu => ⟨hu.1, hu.2.1, hu.2.2 r h1 (by have := jn _ _ hj; omega), fun z hz1 hz2 => hu.2.2 z (by omega) hz2⟩)
      refine hd.mono ?_
      rintro u g ⟨rfl, hj, rest, hr⟩
      have := jn _ _ hj
      exact ⟨hj, some r, .some rfl h1 (by omega) hr (.inl rfl), fun q hq => by cases hq; exact ⟨_, _, rfl⟩⟩
theorem fits_of {p : Lf} (hc : chk p = true) : (∀ x ∈ p.all, fit p.low p.high x = true) ∧ (p.base.Pairwise fun a b => ltK a b = true) ∧ (p.deltas.Pairwise fun a b => ltL a b = true) ∧ p.base.length ≤ 64 ∧ p.deltas.length ≤ 64 := by
  simp only [chk, Bool.and_eq_true, decide_eq_true_eq, List.all_eq_true] at hc
  exact ⟨hc.2.1, risB_pw ltK_trans hc.2.2.1, risB_pw ltL_trans hc.2.2.2, hc.1.2.2.2.2.1, hc.1.2.2.2.2.2⟩
theorem fit_pos {lo hi : List UInt8} {x : Rec} (h : fit lo hi x = true) : 1 ≤ x.lsn := by
  simp only [fit, Bool.and_eq_true, decide_eq_true_eq] at h
  exact h.1.2.1
theorem FS.mono {h h' : AHeap} {lo lo' : Nat} {l : List Rec} {b : Bool} {v : Value} {x : Option Nat} (s : FS h lo l b v x) (hl : lo' ≤ lo) (hn : h.next ≤ h'.next) (hk : ∀ z, lo ≤ z → z < h.next → h'.get z = h.get z) : FS h' lo' l b v x := by
  cases s with
  | nil e => exact .nil e
  | some h1 h2 h3 h4 h5 => exact .some h1 (by omega) (by omega) (by rw [hk _ h2 h3]; exact h4) h5
theorem FS.keep {h h' : AHeap} {lo lo' : Nat} {l : List Rec} {b : Bool} {v : Value} {x : Option Nat} (s : FS h lo l b v x) (hl : lo' ≤ lo) (hn : h.next ≤ h'.next) (hk : ∀ r, x = Option.some r → r < h.next → h'.get r = h.get r) : FS h' lo' l b v x := by
  cases s with
  | nil e => exact .nil e
  | some h1 h2 h3 h4 h5 => exact .some h1 (by omega) (by omega) (by rw [hk _ rfl h3]; exact h4) h5
theorem FS.lo {h : AHeap} {lo : Nat} {l : List Rec} {b : Bool} {v : Value} {x : Option Nat} (s : FS h lo l b v x) {r : Nat} (hr : x = Option.some r) : lo ≤ r ∧ r < h.next := by
  cases s with
  | nil e => cases hr
  | some h1 h2 h3 h4 h5 => cases hr; exact ⟨h2, h3⟩
theorem FS.empty {h : AHeap} {lo : Nat} {l : List Rec} {b : Bool} {v : Value} {x : Option Nat} (s : FS h lo l b v x) : b = true → l = [] := by
  cases s with
  | nil e => exact fun _ => e
  | some => intro h; cases h
theorem FS.form {h : AHeap} {lo : Nat} {l : List Rec} {b : Bool} {v : Value} {x : Option Nat} (s : FS h lo l b v x) : ∃ b c, v = .slice b l.length c := by
  cases s with
  | nil e => subst e; exact ⟨_, _, rfl⟩
  | some h1 => subst h1; exact ⟨_, _, rfl⟩
theorem own_k (h : AHeap) (p : Lf) (bv dv : Value) (hb : RS h p.base bv) (hd : RS h p.deltas dv) (hlb : p.base.length ≤ 1000000) (hld : p.deltas.length ≤ 1000000) :
    ∃ b1 c1 b2 c2 H nb nd x y, FWp Try.prog 26 [LV p bv dv] h (fun u g => u = LV p (.slice b1 p.base.length c1) (.slice b2 p.deltas.length c2) ∧ g = H) ∧ FS H h.next p.base nb (.slice b1 p.base.length c1) x ∧ FS H h.next p.deltas nd (.slice b2 p.deltas.length c2) y ∧ (∀ r, x = some r → y ≠ some r) ∧ h.next ≤ H.next ∧ (∀ z, z < h.next → H.get z = h.get z) ∧ nb = nilV bv ∧ nd = nilV dv := by
  obtain ⟨bv', dv', H1, m, w, ob, od, hsep, hnil, hm1, hm2, hk⟩ := own_c h p _ _ hb hd hlb hld
  obtain ⟨x, fx, gx⟩ := ob.fs
  obtain ⟨y, fy, gy⟩ := od.fs
  have e1 := hnil.1
  have e2 := hnil.2
  obtain ⟨x1, y1, rfl⟩ := ob.form
  obtain ⟨x2, y2, rfl⟩ := od.form
  refine ⟨x1, y1, x2, y2, H1, _, _, x, y, w, fx, fy.mono hm1 (Nat.le_refl _) (fun _ _ _ => rfl), fun r hr hr2 => ?_, by omega, hk, e1, e2⟩
  obtain ⟨n, c, g1⟩ := gx r hr
  obtain ⟨n', c', g2⟩ := gy r hr2
  have := hsep r c n g1
  rw [g2] at od
  have := od.row
  omega
def intoAll (e : Int) (ds b : List Rec) : List Rec := (ds.filter fun r => decide (r.lsn ≤ e)).foldl (fun b r => into r b) b
theorem intoAll_snoc (e : Int) (ds b : List Rec) (x : Rec) : intoAll e (ds ++ [x]) b = if x.lsn ≤ e then into x (intoAll e ds b) else intoAll e ds b := by
  by_cases c : x.lsn ≤ e
  · simp [intoAll, List.filter_append, c]
  · simp [intoAll, List.filter_append, c]
abbrev zlf : List Value := [.string ⟨#[]⟩, .string ⟨#[]⟩, U64 0, .slice none 0 0, .slice none 0 0]
abbrev LR (p : Lf) (bv dv : Value) : AObj := .cells (lcs p bv dv) 1
structure FJ (h g : AHeap) (p : Lf) (bv dv : Value) (e : Int) (R : List Rec) : Prop where
  ex : ∃ o, Rw h g [LR p bv dv, .cells [U64 e] 1, .cells zlf 1, o, .cells [.map (some (h.next + 3))] 1] ∧ SM o (FR R)
theorem FJ.new {h g : AHeap} {p : Lf} {bv dv : Value} {e : Int} {R : List Rec} (f : FJ h g p bv dv e R) (o : AObj) : FJ h (g.new o) p bv dv e R := let ⟨o', r, s⟩ := f.ex; ⟨o', r.new o, s⟩
theorem FJ.far {h g : AHeap} {p : Lf} {bv dv : Value} {e : Int} {R : List Rec} (f : FJ h g p bv dv e R) {z : Nat} (hz : h.next + 5 ≤ z) (o : AObj) : FJ h (g.set z o) p bv dv e R := let ⟨o', r, s⟩ := f.ex; ⟨o', r.far hz o, s⟩
theorem FJ.keep {h g g' : AHeap} {p : Lf} {bv dv : Value} {e : Int} {R : List Rec} (f : FJ h g p bv dv e R) (hn : g.next ≤ g'.next) (hk : ∀ z, z < g.next → g'.get z = g.get z) : FJ h g' p bv dv e R := let ⟨o', r, s⟩ := f.ex; ⟨o', r.keep hn hk, s⟩
theorem FJ.next {h g : AHeap} {p : Lf} {bv dv : Value} {e : Int} {R : List Rec} (f : FJ h g p bv dv e R) : h.next + 5 ≤ g.next := let ⟨_, r, _⟩ := f.ex; r.next
theorem FJ.old {h g : AHeap} {p : Lf} {bv dv : Value} {e : Int} {R : List Rec} (f : FJ h g p bv dv e R) : ∀ z, z < h.next → g.get z = h.get z := let ⟨_, r, _⟩ := f.ex; r.old
theorem FR_mem {x : Rec} : ∀ {R : List Rec}, (R.Pairwise fun a b => ltK a b = true) → x ∈ R → FR R x.key = some x.V
  | a :: R, h, hx => by
    obtain ⟨h1, h2⟩ := List.pairwise_cons.1 h
    simp only [FR, List.find?_cons]
    cases hx with
    | head => simp
    | tail _ hx =>
      have hne : ¬ a.key = x.key := fun e => by
        have := h1 x hx
        rw [ltK, e, swo_ltStr.irrefl] at this; cases this
      simp only [decide_eq_false hne]
      exact FR_mem h2 hx
theorem FR_keys {R : List Rec} {k : List UInt8} : k ∈ R.map Rec.key ↔ ∃ v, FR R k = some v := by
  constructor
  · intro h
    obtain ⟨x, hx, rfl⟩ := List.mem_map.1 h
    cases hf : R.find? fun y => decide (y.key = x.key) with
    | none => have := List.find?_eq_none.1 hf x hx; simp at this
    | some a => exact ⟨a.V, by rw [FR, hf]; rfl⟩
  · rintro ⟨v, hv⟩
    cases hf : R.find? fun y => decide (y.key = k) with
    | none => rw [FR, hf] at hv; cases hv
    | some a =>
      have := List.find?_some hf
      exact List.mem_map.2 ⟨a, List.mem_of_find?_eq_some hf, by simpa using this⟩
theorem cl_v2 {h : AHeap} {f q q' : Nat} {fn : Func} {K : Value → AHeap → Prop} {x : Value} (he : Entered Try.prog f fn) (hf : FWp Try.prog f [x, P0 q, P0 q'] h K) : VWp Try.prog (.func (.func f) #[] #[P0 q, P0 q']) [x] h K := VWp.func he hf
structure F2 (N g : AHeap) (p : Lf) (z8 : Nat) (dv : Value) (R : List Rec) : Prop where
  next : N.next ≤ g.next
  old : ∀ z, z < N.next → ¬ z = z8 → g.get z = N.get z
  ex : ∃ b c, g.get z8 = some (LR p (.slice b R.length c) dv) ∧ OS g N.next R (.slice b R.length c) ∧ (R = [] → b = none)
theorem fold_w (h : AHeap) (p : Lf) (b1 b2 : Option Addr) (c1 c2 : Nat) (e : Int) (hb : RS h p.base (.slice b1 p.base.length c1)) (hd : RS h p.deltas (.slice b2 p.deltas.length c2)) (f1 : chk p = true) (K : Value → AHeap → Prop)
    (hK : (foldB e p).length ≤ 64 → (foldB e p).length ≤ 1000000)
    (big : ¬ (foldB e p).length ≤ 64 → ∀ x1 y1 x2 y2 x y lo g, h.next ≤ lo → FS g lo p.base (nilV (.slice b1 p.base.length c1)) (.slice x1 p.base.length y1) x → FS g lo p.deltas (nilV (.slice b2 p.deltas.length c2)) (.slice x2 p.deltas.length y2) y → (∀ r, x = some r → y ≠ some r) → (∀ z, z < h.next → g.get z = h.get z) → K (LV p (.slice x1 p.base.length y1) (.slice x2 p.deltas.length y2)) g)
    (small : (foldB e p).length ≤ 64 → ∀ bv dv x y g, FS g h.next (foldB e p) (decide (foldB e p = [])) bv x → FS g h.next (p.deltas.filter fun r => decide (e < r.lsn)) (nilV (.slice b2 p.deltas.length c2)) dv y → (∀ r, x = some r → y ≠ some r) → (∀ z, z < h.next → g.get z = h.get z) → K (LV (foldM p e) bv dv) g) :
    FWp Try.prog 8 [LV p (.slice b1 p.base.length c1) (.slice b2 p.deltas.length c2), U64 e] h K := by
  have tb8 := And.intro ty26 (And.intro ty28 (And.intro ty29 (And.intro ty33 (And.intro ty39 (ty9)))))
  obtain ⟨a1, a2, a3, a4, a5⟩ := fits_of f1
  have hmay := fun H : AHeap => fun (hn : h.next ≤ H.next) (hk : ∀ z, z < h.next → H.get z = h.get z) => may'_c H p _ _ (hb.mono hn hk) (hd.mono hn hk) (by omega) (by omega)
  rw [f1] at hmay
  refine W.enter tyOK Try.func8 rfl rfl ?_
  simp only [entry]
  refine Wr <| Oa rfl Zx rfl <| Oa rfl Zx rfl <| Oa rfl (so_alloc (by simp only [aAlloc, ty28] <;> rfl)) rfl <| On ?_
  refine W.seq <| Wr <| Oa rfl (zl (hv := by simp (disch := first | omega | simp only [nx]; omega) only [aLoad, ty28, rowOf, hpl, rcl, Value.cells] <;> rfl)) rfl <| OSuf.callD rfl (by simp only [aopnds, lk] <;> rfl) en25 (hmay _ (by simp only [nx]; omega) (fun z hz => by simp (disch := first | omega | simp only [nx]; omega) only [hpl])) rfl <| Of rfl Zt rfl rfl <| On ?_
  refine Wn <| CWp.skip <| SQ.normal ?_
  refine Wr <| Oa rfl (so_makeMap) rfl <| Oa rfl (so_alloc (by simp only [aAlloc, ty29] <;> rfl)) rfl <| Oa rfl (zs (hv := by simp (disch := first | omega | simp only [nx]; omega) only [aStore, ty29, writeRow, hpl, rcl, Value.cells] <;> rfl)) rfl <| On ?_
  refine W.seq <| Wr <| Oa rfl (zf (hv := fa_ok (k := 3) ty28 rfl rfl ty26 rfl rfl)) rfl <| Oa rfl (zl (hv := by simp (disch := first | omega | simp only [nx]; omega) only [aLoad, ty26, rowOf, hpl, rcl, Value.cells] <;> rfl)) rfl <| Oa rfl (Zn (hv := by simp (disch := first | omega | simp only [nx]; omega) only [aLenOf, ty26, hpl, rcl, Value.cells, places, tb8] <;> rfl)) rfl <| Oa rfl sm rfl <| On ?_
  refine W.cut (fun L g => FJ h g p (.slice b1 p.base.length c1) (.slice b2 p.deltas.length c2) e p.base ∧ L = [(2, P0 h.next), (3, P0 (h.next + 1)), (4, P0 (h.next + 2)), (5, P0 (h.next + 4))]) (W.block (W.loop (fun m L g => ∃ k : Nat, m + k = p.base.length ∧ FJ h g p (.slice b1 p.base.length c1) (.slice b2 p.deltas.length c2) e (p.base.take k) ∧ L = [(2, P0 h.next), (3, P0 (h.next + 1)), (4, P0 (h.next + 2)), (5, P0 (h.next + 4)), (18, .slice b1 p.base.length c1), (19, I64 p.base.length), (20, I64 k)]) (n := p.base.length) ⟨0, rfl, ?_, rfl⟩ ?_ ?_)) ?_
  · refine ⟨.map [] 0, ?_, SM.empty⟩
    exact Rw.eq ((((((Rw.nil h).push (LR p (.slice b1 p.base.length c1) (.slice b2 p.deltas.length c2)) rfl).push (.cells [U64 e] 1) rfl).push (.cells zlf 1) rfl).push (.map [] 0) rfl |>.push (.cells [.map none] 1) rfl).set 4 _) rfl
  · simp [HasA, Tr.get_put]
  · rintro m L g ⟨k, hm, hF, rfl⟩
    simp only [mkA]
    have w2 : IntKind.i64.wrap ((k : Int) + 1) = ((k + 1 : Nat) : Int) := by rw [wrap_i64 (by omega) (by omega)]; omega
    by_cases hk : (k : Int) < (p.base.length : Int)
    · obtain ⟨x, hx⟩ : ∃ x, p.base[k]? = some x := ⟨p.base[k]'(by omega), by simp⟩
      have hgn := hF.next
      obtain ⟨_, r, off, rfl, hr1, hr2⟩ := RS.at_ (hb.mono (by omega) hF.old) hx
      have hc1 : (0 ≤ (k : Int) ∧ (k : Int) < (p.base.length : Int)) := by omega
      have htk : p.base.take (k + 1) = p.base.take k ++ [x] := by rw [List.take_add_one, hx]; rfl
      obtain ⟨o, hR, hS⟩ := hF.ex
      have q3 : g.get (h.next + 3) = some o := hR.at_ 3 _ rfl
      have q4 : g.get (h.next + 4) = some (.cells [.map (some (h.next + 3))] 1) := hR.at_ 4 _ rfl
      obtain ⟨o', s', hp⟩ := hS.put x.key x.V
      rw [← FR_snoc (fun y hy e => by
        obtain ⟨j, hj⟩ := List.getElem?_of_mem hy
        have hj2 : j < k := by have := (List.getElem?_eq_some_iff.1 hj).1; simp at this; omega
        rw [List.getElem?_take_of_lt hj2] at hj
        have := List.pairwise_iff_getElem.1 a2 j k (by omega) (by omega) hj2
        rw [(List.getElem?_eq_some_iff.1 hj).2, (List.getElem?_eq_some_iff.1 hx).2, ltK, e, swo_ltStr.irrefl] at this
        cases this), ← htk] at s'
      refine Wr <| Ot rfl (zb (hv := bi_lss)) rfl (by first | rfl | assumption | ((simp only [bl, q4, hc1, sb, rcl, Rec.cs, Value.cells, places, tb8]) <;> first | done | assumption | omega) | (simp; done) | (simp; omega)) <| On ?_
      refine W.seq <| Wy <| CWp.skip <| SQ.normal ?_
      refine W.seq <| W.block <| Wr <| Oa rfl (zi (hv := by simp (disch := first | omega | simp only [nx]; omega) only [aIndexAddr, ty26, ty33, hpl, q4, hc1, sb, rcl, Rec.cs, Value.cells, places, tb8] <;> rfl)) rfl <| Oa rfl (zl (hv := (hr2 _ rfl).1 _ _ ty33 rfl rfl)) rfl <| Oa rfl (so_alloc (by simp only [aAlloc, ty33] <;> rfl)) rfl <| Oa rfl (zs (hv := by simp (disch := first | omega | simp only [nx]; omega) only [aStore, ty33, writeRow, hpl, q4, hc1, sb, rcl, Rec.cs, Value.cells] <;> rfl)) rfl <| On ?_
      refine W.reg <| Oa rfl (zl (hv := by simp (disch := first | omega | simp only [nx]; omega) only [aLoad, ty29, rowOf, hpl, q4, hc1, sb, rcl, Rec.cs, Value.cells] <;> rfl)) rfl <| Oa rfl (zf (hv := fa_ok (k := 0) ty33 rfl rfl ty9 rfl rfl)) rfl <| Oa rfl (zl (hv := by simp (disch := first | omega | simp only [nx]; omega) only [aLoad, ty9, rowOf, hpl, q4, hc1, sb, rcl, Rec.cs, Value.cells] <;> rfl)) rfl <| Oa rfl (zl (hv := by simp (disch := first | omega | simp only [nx]; omega) only [aLoad, ty33, rowOf, hpl, q4, hc1, sb, rcl, Rec.cs, Value.cells] <;> rfl)) rfl <| Oa rfl (so_mapUpdate (by simp only [lk] <;> rfl) (by simp only [lk] <;> rfl) (by simp only [lk] <;> rfl) (hp (by simp (disch := first | omega | simp only [nx]; omega) only [aCells, rowOf, hpl, q4, hc1, sb, rcl, Rec.cs, Value.cells, places, tb8] <;> first | rfl | exact q3) ty29 rfl ty9 rfl)) rfl <| OSuf.nil <| BQ.normal <| SQ.normal ?_
      refine W.reg <| Oa rfl (zb (hv := bi_w bi_add (by first | (simp only [w2] <;> rfl) | rfl))) rfl <| Oa rfl sm rfl <| OSuf.nil <| ?_
      refine LQ.normal (m := m - 1) (L := [(2, P0 h.next), (3, P0 (h.next + 1)), (4, P0 (h.next + 2)), (5, P0 (h.next + 4)), (18, .slice (some ⟨r, off, none⟩) p.base.length c1), (19, I64 p.base.length), (20, I64 ((k + 1 : Nat) : Int))]) (by omega) ?_ ⟨k + 1, by omega, ⟨o', (hR.new _).set 3 o', s'⟩, rfl⟩
      simp only [HasA, Tr.get_put, Nat.reduceEqDiff, reduceIte, w2, and_self]
    · refine Wr <| Ofb rfl (zb (hv := bi_lss)) rfl <| On ?_
      refine W.seq <| Wn <| CWp.exit <| SQ.exit <| LQ.exit <| BQ.exit <| ?_
      refine NQ.normal (L := [(2, P0 h.next), (3, P0 (h.next + 1)), (4, P0 (h.next + 2)), (5, P0 (h.next + 4))]) ?_ ⟨by rw [List.take_of_length_le (by omega)] at hF; exact hF, rfl⟩
      simp only [HasA, Tr.get_put, Nat.reduceEqDiff, reduceIte, and_self]
  rintro L a' g ha ⟨hF, rfl⟩
  obtain ⟨bv', dv', H1, m, w, ob, od, hsep, hnil, hm1, hm2, hk⟩ := own_c g p _ _ (hb.mono (by have := hF.next; omega) hF.old) (hd.mono (by have := hF.next; omega) hF.old) (by omega) (by omega)
  have hgn := hF.next
  have hF1 : FJ h H1 p (.slice b1 p.base.length c1) (.slice b2 p.deltas.length c2) e p.base := hF.keep (by omega) hk
  obtain ⟨x1, y1, rfl⟩ := ob.form
  obtain ⟨x2, y2, rfl⟩ := od.form
  obtain ⟨H2, hH2⟩ : ∃ H2, H2 = H1.new (LR p (.slice x1 p.base.length y1) (.slice x2 p.deltas.length y2)) := ⟨_, rfl⟩
  have nH2 : H2.next = H1.next + 1 := by rw [hH2]; rfl
  have hdel := del_os H2 m p.deltas (.slice x2 p.deltas.length y2) (.func (.func 28) #[] #[P0 (h.next + 1), P0 (h.next + 4)]) (fun x => decide (x.lsn ≤ e))
    (fun pre G => FJ h G p (.slice b1 p.base.length c1) (.slice b2 p.deltas.length c2) e (intoAll e pre p.base) ∧ H2.next ≤ G.next ∧ G.get H1.next = H2.get H1.next) (od.mono (by omega) fun z _ hz => by rw [hH2]; exact zN (by omega)) (by omega)
    ⟨by rw [hH2]; exact hF1.new _, Nat.le_refl _, rfl⟩
    (fun r n c er pre G o hJ => by
      rw [er] at od
      have := od.row
      exact ⟨hJ.1.far (by omega) o, hJ.2.1, by rw [zS (by omega)]; exact hJ.2.2⟩)
    (fun pre G o hJ => ⟨hJ.1.new o, by have := hJ.2.1; simp; omega, by have := hJ.2.1; rw [zN (by omega)]; exact hJ.2.2⟩)
    (fun pre G hJ => hJ.2.1)
    (fun pre x post hp G hJ => by
      obtain ⟨⟨o, hR, hS⟩, hJ2, hJ3⟩ := hJ
      have hgn2 := hR.next
      have hx : x ∈ p.all := by rw [Lf.all, ← hp]; simp
      have hR2 := (PInv.into_all (pre.filter fun r => decide (r.lsn ≤ e)) p.base a2).1
      refine VWp.mono (cl_v2 en28 (fold1_c G (h.next + 1) (h.next + 4) (h.next + 3) e x o _ (hR.at_ 1 _ rfl) (hR.at_ 4 _ rfl) (by simp at hgn2; omega) (by simp at hgn2; omega) (by simp at hgn2; omega) (hR.at_ 3 _ rfl) hS hR2 (fit_pos (a1 x hx)))) ?_
      rintro u G' ⟨rfl, ⟨o', s', hm'⟩, hn', hk'⟩
      refine ⟨rfl, ⟨⟨o', hR.change 3 o' (by simp) hn' hk' hm', ?_⟩, by omega, by rw [hk' _ (by omega) (by omega)]; exact hJ3⟩, fun z hz1 hz2 => hk' z hz2 (by omega)⟩
      rw [intoAll_snoc]; exact s')
  have hkeep : (fun x : Rec => !decide (x.lsn ≤ e)) = fun r => decide (e < r.lsn) := by funext x; by_cases c : x.lsn ≤ e <;> simp [c] <;> omega
  rw [hkeep] at hdel
  obtain ⟨R, hR⟩ : ∃ R, R = foldB e p := ⟨_, rfl⟩
  obtain ⟨KD, hKD⟩ : ∃ KD, KD = p.deltas.filter fun r => decide (e < r.lsn) := ⟨_, rfl⟩
  have hRs := (PInv.into_all (p.deltas.filter fun r => decide (r.lsn ≤ e)) p.base a2).1
  have hRe : intoAll e p.deltas p.base = R := by rw [hR]; rfl
  have hRs : R.Pairwise fun a b => ltK a b = true := by rw [hR]; exact hRs
  rw [← hKD] at hdel small
  rw [← hR] at hK big small
  rw [hRe] at hdel
  have q0 : g.get h.next = some (.cells (lcs p (.slice b1 p.base.length c1) (.slice b2 p.deltas.length c2)) 1) := let ⟨o, r, s⟩ := hF.ex; r.at_ 0 _ rfl
  rw [hH2] at hdel
  -- the deltas that are left; how many there are in the map
  apply W.join (fun L G => ∃ u x, FJ h G p (.slice b1 p.base.length c1) (.slice b2 p.deltas.length c2) e R ∧ H2.next ≤ G.next ∧ G.get H1.next = some (LR p (.slice x1 p.base.length y1) u) ∧ FS G m KD (nilV (.slice x2 p.deltas.length y2)) u x ∧ (∀ r, x = some r → r < H1.next) ∧ L = [(2, P0 h.next), (3, P0 (h.next + 1)), (4, P0 (h.next + 2)), (5, P0 (h.next + 4)), (8, P0 H1.next)])
  · intro rest
    refine SQ.normal <| CWp.known ha ?_
    simp only [mkA]
    refine Wr <| Oa rfl (zl (hv := by simp (disch := first | omega | simp only [nx]; omega) only [aLoad, ty28, rowOf, hpl, q0, rcl, Value.cells] <;> rfl)) rfl <| OSuf.callD rfl (by simp only [aopnds, lk] <;> rfl) en26 (w) rfl <| Oa rfl (so_alloc (by simp only [aAlloc, ty28] <;> rfl)) rfl <| Oa rfl (zs (hv := by simp (disch := first | omega | simp only [nx]; omega) only [aStore, ty28, writeRow, hpl, q0, rcl, Value.cells] <;> rfl)) rfl <| On ?_
    refine Wr <| Oa rfl (zf (hv := fa_ok (k := 4) ty28 rfl rfl ty26 rfl rfl)) rfl <| Oa rfl (zl (hv := by simp (disch := first | omega | simp only [nx]; omega) only [aLoad, ty26, rowOf, hpl, q0, rcl, Value.cells] <;> rfl)) rfl <| Oa rfl (so_makeFunc rfl (by simp only [aopnds, lk] <;> rfl) (by simp only [aopnds, lk] <;> rfl)) rfl <| OSuf.call rfl (by simp only [aopnds, lk] <;> rfl) en27 (hdel) ?_
    rintro u G ⟨⟨hF3, hn3, h83⟩, x, fx, gx⟩
    obtain ⟨ub, uc, rfl⟩ := fx.form
    have g8 : G.get H1.next = some (LR p (.slice x1 p.base.length y1) (.slice x2 p.deltas.length y2)) := (by rw [h83]; exact zQ)
    refine ⟨_, rfl, ?_⟩
    refine Oa rfl (zf (hv := fa_ok (k := 4) ty28 rfl rfl ty26 rfl rfl)) rfl <| Oa rfl (zs (hv := by simp (disch := first | omega | simp only [nx]; omega) only [aStore, ty26, writeRow, hpl, q0, rcl, Value.cells, g8, Value.cells] <;> rfl)) rfl <| On ?_
    refine W.seq <| ?_
    have hx : ∀ r, x = some r → r < H1.next := fun r hr => by
      obtain ⟨n, c, er⟩ := gx r hr
      rw [er] at od
      exact od.row.2
    refine rest _ _ _ ?_ ⟨.slice ub KD.length uc, x, hF3.far (by omega) _, by simp only [nx] at hn3 ⊢; omega, by simp (disch := first | omega | simp only [nx]; omega) only [hpl]; rfl, fx.keep (Nat.le_refl _) (by simp) (fun r hr hr2 => zS (by have := hx r hr; omega)), hx, rfl⟩
    simp [HasA, Tr.get_put]
  · rintro L G ⟨u, x, ⟨o, hRw, hS⟩, hGn, g8, fx, hx, rfl⟩
    simp only [mkA]
    obtain ⟨B, clk, rfl, B1, B2, B3, B4⟩ := hS.keys (ks := R.map Rec.key) (List.Pairwise.map _ (fun a b h => h) hRs) (fun k => FR_keys)
    have hlB : (mkK encS B).length = R.length := by
      have := B4.length_eq
      simp [mkK] at this ⊢; omega
    have q0 : G.get h.next = some (.cells (lcs p (.slice b1 p.base.length c1) (.slice b2 p.deltas.length c2)) 1) := hRw.at_ 0 _ rfl
    have q2 : G.get (h.next + 2) = some (.cells zlf 1) := hRw.at_ 2 _ rfl
    have q3 := hRw.at_ 3 _ rfl
    have q4 : G.get (h.next + 4) = some (.cells [.map (some (h.next + 3))] 1) := hRw.at_ 4 _ rfl
    obtain ⟨ub, uc, rfl⟩ := fx.form
    by_cases c64 : (R.length : Int) > 64
    · obtain ⟨v1, w1, v2, w2, G2, nb, nd, y1', y2', wo, fo1, fo2, hxy, hno, hko, e1, e2⟩ := own_k G p _ _ (hb.mono (by omega) hRw.old) (hd.mono (by omega) hRw.old) (by omega) (by omega)
      subst e1 e2
      have q2' : G2.get (h.next + 2) = some (.cells zlf 1) := by rw [hko _ (by omega)]; exact q2
      refine Wr <| Oa rfl (zl (hv := by simp (disch := first | omega | simp only [nx]; omega) only [aLoad, ty29, rowOf, hpl, q0, q2', q3, q4, hlB, rcl, Value.cells] <;> rfl)) rfl <| Oa rfl (Zn (hv := by simp (disch := first | omega | simp only [nx]; omega) only [aLenOf, ty29, hpl, q0, q2', q3, q4, hlB, rcl, Value.cells, places, tb8] <;> rfl)) rfl <| Ot rfl (zb (hv := bi_gtr)) rfl (by first | rfl | assumption | ((simp only [bl, q0, q2', q3, q4, hlB, rcl, Value.cells, places, tb8]) <;> first | done | assumption | omega) | (simp; done) | (simp; omega)) <| On ?_
      refine Wy <| Wr <| Oa rfl (zl (hv := by simp (disch := first | omega | simp only [nx]; omega) only [aLoad, ty28, rowOf, hpl, q0, q2', q3, q4, hlB, rcl, Value.cells] <;> rfl)) rfl <| OSuf.callD rfl (by simp only [aopnds, lk] <;> rfl) en26 (wo) rfl <| Oa rfl (zs (hv := by simp (disch := first | omega | simp only [nx]; omega) only [aStore, ty28, writeRow, hpl, q0, q2', q3, q4, hlB, rcl, Value.cells] <;> rfl)) rfl <| On ?_
      refine CWp.ret <| SQ.ret <| FQ.ret (by simp (disch := first | omega | simp only [nx]; omega) only [aRet, Try.f8, aResults, aResult, lk, Nat.reduceEqDiff, reduceIte, aLoad, rowOf, hpl, q0, q2', q3, q4, hlB, rcl, Value.cells, places, tb8] <;> rfl) ?_
      exact big (by omega) _ _ _ _ _ _ G.next _ (by omega) (fo1.mono (Nat.le_refl _) (by simp) (fun z hz _ => zS (by omega))) (fo2.mono (Nat.le_refl _) (by simp) (fun z hz _ => zS (by omega))) hxy (fun z hz => by rw [zS (by omega), hko z (by omega)]; exact hRw.old z hz)
    · have hsm : R.length ≤ 64 := by omega
      have eM : foldM p e = { p with base := R, deltas := KD } := by rw [foldM, if_pos ⟨f1, by rw [← hR]; exact hsm⟩, ← hR, ← hKD]
      obtain ⟨G6, hG6⟩ : ∃ G6, G6 = (G.set H1.next (LR p (.slice none 0 0) (.slice ub KD.length uc))).new (.cells [.map (some (h.next + 3))] 1) := ⟨_, rfl⟩
      have n6 : G6.next = G.next + 1 := by rw [hG6]; rfl
      have hso := SortS.KR.sorted_c G6 G.next (h.next + 3) clk B (R.map Rec.key) ⟨B1, B2, B3⟩ (by omega) (by omega) (by rw [hG6]; exact zQ) (by rw [hG6]; simp (disch := first | omega | simp only [nx]; omega) only [hpl]; exact q3) (by have := hK hsm; have := B4.length_eq; simp at this; omega) B4 (List.Pairwise.map _ (fun a b hab => swo_ltStr.asymmA hab) hRs)
      have hso2 := hso.mono (K' := fun u N => RG N 1 R.length ((R.map Rec.key).map encS) u ∧ (∀ a n c, u = .slice (some a) n c → G6.next ≤ a.block) ∧ G6.next ≤ N.next ∧ ∀ z, z < G6.next → N.get z = G6.get z) (fun u N hu => by
        rcases hu with ⟨e1, rfl, rfl⟩ | ⟨e1, rfl, rfl⟩
        · have e2 : R = [] := by simpa using e1
          exact ⟨⟨none, 0, by rw [e2]; rfl, .inl ⟨rfl, by rw [e2]; rfl, rfl⟩⟩, fun a n c e9 => (by cases e9), Nat.le_refl _, fun _ _ => rfl⟩
        · exact ⟨⟨_, 0, by rw [List.length_map], .inr ⟨_, _, rfl, fun _ => ⟨by simp, _, by simp only [rowOf, AHeap.get_new_same], cellsOf_all (by simp)⟩⟩⟩, fun a n c e9 => (by cases e9; exact Nat.le_refl _), by simp, fun z hz => zN (by omega)⟩)
      rw [hG6] at hso2
      refine Wr <| Oa rfl (zl (hv := by simp (disch := first | omega | simp only [nx]; omega) only [aLoad, ty29, rowOf, hpl, q0, q3, q4, g8, hlB, rcl, Value.cells] <;> rfl)) rfl <| Oa rfl (Zn (hv := by simp (disch := first | omega | simp only [nx]; omega) only [aLenOf, ty29, hpl, q0, q3, q4, g8, hlB, rcl, Value.cells, places, tb8] <;> rfl)) rfl <| Of rfl (zb (hv := bi_gtr)) rfl (by first | rfl | assumption | ((simp only [bl, q0, q3, q4, g8, hlB, rcl, Value.cells, places, tb8]) <;> first | done | assumption | omega) | (simp; done) | (simp; omega)) <| On ?_
      refine Wn <| CWp.skip <| SQ.normal ?_
      refine Wr <| Oa rfl (zf (hv := fa_ok (k := 3) ty28 rfl rfl ty26 rfl rfl)) rfl <| Oa rfl (zs (hv := by simp (disch := first | omega | simp only [nx]; omega) only [aStore, ty26, writeRow, hpl, q0, q3, q4, g8, hlB, rcl, Value.cells] <;> rfl)) rfl <| On ?_
      refine W.seq <| Wr <| Oa rfl (zl (hv := by simp (disch := first | omega | simp only [nx]; omega) only [aLoad, ty29, rowOf, hpl, q0, q3, q4, g8, hlB, rcl, Value.cells] <;> rfl)) rfl <| OSuf.callD rfl (by simp only [aopnds, lk] <;> rfl) en30 (SortS.KR.keys_c _ (h.next + 3)) rfl <| OSuf.call rfl (by simp only [aopnds, lk] <;> rfl) en29 (hso2) ?_
      rintro u6 N ⟨su, sr, sn, sk⟩
      obtain ⟨sb, sc, rfl⟩ := su.form
      refine ⟨_, rfl, ?_⟩
      refine Oa rfl (Zn (hv := by simp (disch := first | omega | simp only [nx]; omega) only [aLenOf, ty39, hpl, q0, q3, q4, g8, hlB, rcl, Value.cells, places, tb8] <;> rfl)) rfl <| Oa rfl sm rfl <| On ?_
      rw [← hG6] at sn sk sr
      refine W.cut (fun L g => F2 N g p H1.next (.slice ub KD.length uc) R ∧ L = [(4, P0 (h.next + 2)), (8, P0 H1.next)]) (W.block (W.loop (fun m L g => ∃ k : Nat, m + k = R.length ∧ F2 N g p H1.next (.slice ub KD.length uc) (R.take k) ∧ L = [(4, P0 (h.next + 2)), (5, P0 (h.next + 4)), (8, P0 H1.next), (44, .slice sb R.length sc), (45, I64 R.length), (46, I64 k)]) (n := R.length) ⟨0, rfl, ⟨Nat.le_refl _, fun _ _ _ => rfl, none, 0, ?_, .nil rfl, fun _ => rfl⟩, rfl⟩ ?_ ?_)) ?_
      · rw [sk _ (by omega), hG6]; simp (disch := first | omega | simp only [nx]; omega) only [hpl]; rfl
      · simp [HasA, Tr.get_put]
      · rintro m3 L g2 ⟨k, hm3, hF2, rfl⟩
        simp only [mkA]
        obtain ⟨gn, go, b, c, g1, gO, g3⟩ := hF2
        have w2 : IntKind.i64.wrap ((k : Int) + 1) = ((k + 1 : Nat) : Int) := by rw [wrap_i64 (by omega) (by omega)]; omega
        by_cases hk3 : (k : Int) < (R.length : Int)
        · obtain ⟨x', hx'⟩ : ∃ x', R[k]? = some x' := ⟨R[k]'(by omega), by simp⟩
          have hc1 : (0 ≤ (k : Int) ∧ (k : Int) < (R.length : Int)) := by omega
          obtain ⟨_, r, off, rfl, hr1, hr2⟩ := RG.at_ su (i := k) (by omega)
          have hld : ∀ G : AHeap, G.get r = N.get r → ∀ t ti, T.get t = some ti → ti.agg = false → aLoad T t (PA r (off + k)) G = some (encS x'.key) := fun G hG t ti ht ha => by
            have := (hr2 G hG).2 0 t ti (encS x'.key) ht ha (by simp [hx'])
            simpa using this
          have hlk : (R.take k).length = k := by rw [List.length_take, Nat.min_eq_left (by omega)]
          rw [hlk] at g1 gO
          have htk : R.take (k + 1) = R.take k ++ [x'] := by rw [List.take_add_one, hx']; rfl
          have hlk1 : (R.take (k + 1)).length = k + 1 := by rw [List.length_take, Nat.min_eq_left (by omega)]
          have p3 : g2.get (h.next + 3) = some (.map (mkK encS B) clk) := by rw [go _ (by omega) (by omega), sk _ (by omega), hG6]; simp (disch := first | omega | simp only [nx]; omega) only [hpl]; exact q3
          have p4 : g2.get (h.next + 4) = some (.cells [.map (some (h.next + 3))] 1) := by rw [go _ (by omega) (by omega), sk _ (by omega), hG6]; simp (disch := first | omega | simp only [nx]; omega) only [hpl]; exact q4
          have hrne : ¬ H1.next = r := fun e9 => by
            have : G6.next ≤ r := sr _ _ _ rfl
            omega
          obtain ⟨A, ap, nA, gA, kA⟩ := os_app (g := g2.new (.cells x'.cs 4)) (lo := N.next) (l := R.take k) (v := .slice b k c) (gO.mono (by simp) fun z _ hz => zN (by omega)) x' (q := g2.next) (zQ) (by omega)
          rw [hlk] at ap
          simp only [nx] at ap nA gA kA
          have kA' : ∀ z, z < N.next → A.get z = g2.get z := fun z hz => by
            rw [kA z (by omega) fun n c e9 => by
              rw [e9] at gO
              have := gO.row
              omega]
            exact zN (by omega)
          have a8 : A.get H1.next = some (LR p (.slice b k c) (.slice ub KD.length uc)) := by rw [kA' _ (by omega)]; exact g1
          refine Wr <| Ot rfl (zb (hv := bi_lss)) rfl (by first | rfl | assumption | ((simp only [bl, hc1, sb, p4, g1, a8, rcl, Value.cells, places, tb8]) <;> first | done | assumption | omega) | (simp; done) | (simp; omega)) <| On ?_
          refine W.seq <| Wy <| CWp.skip <| SQ.normal ?_
          refine W.seq <| W.block <| Wr <| Oa rfl (zi (hv := by simp (disch := first | omega | simp only [nx]; omega) only [aIndexAddr, ty39, ty9, hpl, hc1, sb, p4, g1, a8, rcl, Value.cells, places, tb8] <;> rfl)) rfl <| Oa rfl (zl (hv := hld _ (go _ hr1 (fun e9 => hrne e9.symm)) _ _ ty9 rfl)) rfl <| Oa rfl za rfl <| On ?_
          refine W.reg <| Oa rfl (zf (hv := fa_ok (k := 3) ty28 rfl rfl ty26 rfl rfl)) rfl <| Oa rfl (zl (hv := by simp (disch := first | omega | simp only [nx]; omega) only [aLoad, ty26, rowOf, hpl, hc1, sb, p4, g1, a8, rcl, Value.cells] <;> rfl)) rfl <| Oa rfl (zl (hv := by simp (disch := first | omega | simp only [nx]; omega) only [aLoad, ty29, rowOf, hpl, hc1, sb, p4, g1, a8, rcl, Value.cells] <;> rfl)) rfl <| Oa rfl sm rfl <| Oa rfl (so_lookup (by simp only [lk] <;> rfl) (by simp only [lk] <;> rfl) (hS.get_some (FR_mem hRs (List.mem_of_getElem? hx')) (by first | exact p3 | (simp (disch := first | omega | simp only [nx]; omega) only [aCells, rowOf, hpl, hc1, sb, p4, g1, a8, rcl, Value.cells, places, tb8] <;> first | rfl | exact p3)) ty29 rfl ty9 rfl)) rfl <| Oa rfl (so_buildSlice (by simp only [aparts, lk] <;> rfl) (by simp only [aBuildSlice, ty26, ty33, hc1, sb, p4, g1, a8, rcl, Value.cells, places, tb8] <;> rfl)) rfl <| Oa rfl (so_append (by simp only [aopnds, lk] <;> rfl) (ap _ _ (by simp only [appT, ty26, ty33] <;> rfl) rfl (by decide))) rfl <| Oa rfl (zf (hv := fa_ok (k := 3) ty28 rfl rfl ty26 rfl rfl)) rfl <| Oa rfl (zs (hv := by simp (disch := first | omega | simp only [nx]; omega) only [aStore, ty26, writeRow, hpl, hc1, sb, p4, g1, a8, rcl, Value.cells] <;> rfl)) rfl <| OSuf.nil <| BQ.normal <| SQ.normal ?_
          refine W.reg <| Oa rfl (zb (hv := bi_w bi_add (by first | (simp only [w2] <;> rfl) | rfl))) rfl <| Oa rfl sm rfl <| OSuf.nil <| ?_
          refine LQ.normal (m := m3 - 1) (L := [(4, P0 (h.next + 2)), (5, P0 (h.next + 4)), (8, P0 H1.next), (44, .slice (some ⟨r, off, none⟩) R.length sc), (45, I64 R.length), (46, I64 ((k + 1 : Nat) : Int))]) (by omega) ?_ ⟨k + 1, by omega, ⟨by simp only [nx]; omega, fun z hz hz8 => ?_, some ⟨g2.next + 1, 0, none⟩, 0, ?_, ?_, ?_⟩, rfl⟩
          · simp only [HasA, Tr.get_put, Nat.reduceEqDiff, reduceIte, w2, and_self]
          · have h8 : ¬ H1.next = z := fun e9 => hz8 e9.symm
            simp (disch := first | omega | simp only [nx]; omega) only [hpl]; rw [kA' z hz]; exact go z hz hz8
          · rw [hlk1, AHeap.get_set_same]; rfl
          · have h8 : ¬ H1.next = g2.next + 1 := by omega
            rw [hlk1]
            exact .some (by rw [htk]; simp) hlk1.symm (by omega) (by simp only [nx]; omega) (by simp (disch := first | omega | simp only [nx]; omega) only [hpl]; rw [htk]; exact gA)
          · rw [htk]; simp
        · refine Wr <| Ofb rfl (zb (hv := bi_lss)) rfl <| On ?_
          refine W.seq <| Wn <| CWp.exit <| SQ.exit <| LQ.exit <| BQ.exit <| ?_
          have hk4 : R.take k = R := List.take_of_length_le (by omega)
          refine NQ.normal (L := [(4, P0 (h.next + 2)), (8, P0 H1.next)]) ?_ ⟨⟨gn, go, b, c, ?_, ?_, ?_⟩, rfl⟩
          · simp only [HasA, Tr.get_put, Nat.reduceEqDiff, reduceIte, and_self]
          · rw [hk4] at g1; exact g1
          · rw [hk4] at gO; exact gO
          · rw [hk4] at g3; exact g3
      rintro L a' g2 ha ⟨⟨gn, go, b, c, g1, gO, g3⟩, rfl⟩
      have p2 : g2.get (h.next + 2) = some (.cells zlf 1) := by rw [go _ (by omega) (by omega), sk _ (by omega), hG6]; simp (disch := first | omega | simp only [nx]; omega) only [hpl]; exact q2
      refine SQ.normal <| CWp.known ha ?_
      simp only [mkA]
      refine Wr <| Oa rfl (zl (hv := by simp (disch := first | omega | simp only [nx]; omega) only [aLoad, ty28, rowOf, hpl, p2, g1, rcl, Value.cells] <;> rfl)) rfl <| Oa rfl (zs (hv := by simp (disch := first | omega | simp only [nx]; omega) only [aStore, ty28, writeRow, hpl, p2, g1, rcl, Value.cells] <;> rfl)) rfl <| On ?_
      refine CWp.ret <| FQ.ret (by simp (disch := first | omega | simp only [nx]; omega) only [aRet, Try.f8, aResults, aResult, lk, Nat.reduceEqDiff, reduceIte, aLoad, rowOf, hpl, p2, g1, rcl, Value.cells, places, tb8] <;> rfl) ?_
      have eL : ∀ v w, LV (foldM p e) v w = LV p v w := fun v w => by rw [eM]
      obtain ⟨x0, fb, fx0⟩ : ∃ x0, FS g2 N.next R (decide (R = [])) (.slice b R.length c) x0 ∧ ∀ r, x0 = some r → N.next ≤ r := by
        generalize hv : Value.slice b R.length c = v at gO ⊢
        cases gO with
        | nil e9 => exact ⟨none, by rw [decide_eq_true e9]; exact .nil e9, fun r h9 => by cases h9⟩
        | emp e9 _ _ _ => have := g3 e9; subst this; cases hv
        | @some r n e9 hn h1 h2 h3 => exact ⟨some r, by rw [decide_eq_false e9]; exact .some (rest := []) hn h1 h2 (by rw [List.append_nil]; exact h3) (.inl rfl), fun q h9 => by cases h9; exact h1⟩
      show K (LV p (.slice b R.length c) (.slice ub KD.length uc)) _
      rw [← eL]
      refine small hsm _ _ x0 x _ (fb.mono (by omega) (by simp) (fun z hz _ => zS (by omega))) (FS.keep (h := G) (by rw [← hnil.2]; exact fx) (by omega) (by simp only [nx]; omega) fun r hr hr2 => ?_) (fun r hr hr2 => by have := fx0 r hr; have := hx r hr2; omega) (fun z hz => by rw [zS (by omega), go z (by omega) (by omega), sk z (by omega), hG6]; simp (disch := first | omega | simp only [nx]; omega) only [hpl]; exact hRw.old z hz)
      have h1 := hx r hr
      have h2 := (fx.lo hr).1
      have h3 : ¬ H1.next = r := by omega
      rw [zS (by omega), go r (by omega) (by omega), sk r (by omega), hG6]
      simp (disch := first | omega | simp only [nx]; omega) only [hpl]
theorem fold_c (h : AHeap) (p : Lf) (bv dv : Value) (e : Int) (hb : RS h p.base bv) (hd : RS h p.deltas dv) (hlb : p.base.length ≤ 1000000) (hld : p.deltas.length ≤ 1000000) (hK : (foldB e p).length ≤ 64 → (foldB e p).length ≤ 1000000) :
    ∃ nb nd, (nb = true → (foldM p e).base = []) ∧ (nd = true → (foldM p e).deltas = []) ∧ FWp Try.prog 8 [LV p bv dv, U64 e] h fun u g => u = LV (foldM p e) (cval nb h.next (foldM p e).base) (cval nd (h.next + 1) (foldM p e).deltas) ∧ g = hand h (foldM p e) nb nd := by
  have tb8 := And.intro ty26 (And.intro ty28 (And.intro ty29 (And.intro ty33 (And.intro ty39 (ty9)))))
  obtain ⟨b1, c1, rfl⟩ := hb.form
  obtain ⟨b2, c2, rfl⟩ := hd.form
  have hmay := fun H : AHeap => fun (hn : h.next ≤ H.next) (hk : ∀ z, z < h.next → H.get z = h.get z) => may'_c H p _ _ (hb.mono hn hk) (hd.mono hn hk) hlb hld
  cases f1 : chk p with
  | false =>
    rw [f1] at hmay
    have eM : foldM p e = p := by simp [foldM, f1]
    rw [eM]
    obtain ⟨h3, hh3⟩ : ∃ h3, h3 = ((h.new (LR p (.slice b1 p.base.length c1) (.slice b2 p.deltas.length c2))).new (.cells [U64 e] 1)).new (.cells zlf 1) := ⟨_, rfl⟩
    have e3 : h3.next = h.next + 3 := by rw [hh3]; rfl
    have k3 : ∀ z, z < h.next → h3.get z = h.get z := fun z hz => by rw [hh3]; simp (disch := first | omega | simp only [nx]; omega) only [hpl]
    obtain ⟨x1, y1, x2, y2, H1, nb, nd, x, y, w, fx, fy, hxy, hn, hk, _, _⟩ := own_k h3 p _ _ (hb.mono (by omega) k3) (hd.mono (by omega) k3) hlb hld
    have q2 : H1.get (h.next + 2) = some (.cells zlf 1) := by rw [hk _ (by omega), hh3]; simp (disch := first | omega | simp only [nx]; omega) only [hpl]
    refine ⟨nb, nd, fx.empty, fy.empty, gcL (K0 := fun u g => u = LV p (.slice x1 p.base.length y1) (.slice x2 p.deltas.length y2) ∧ g = H1.set (h.next + 2) (LR p (.slice x1 p.base.length y1) (.slice x2 p.deltas.length y2))) ?_ ?_⟩
    · refine W.enter tyOK Try.func8 rfl rfl ?_
      simp only [entry]
      refine Wr <| Oa rfl Zx rfl <| Oa rfl Zx rfl <| Oa rfl (so_alloc (by simp only [aAlloc, ty28] <;> rfl)) rfl <| On ?_
      refine W.seq <| Wr <| Oa rfl (zl (hv := by simp (disch := first | omega | simp only [nx]; omega) only [aLoad, ty28, rowOf, hpl, q2, rcl, Value.cells] <;> rfl)) rfl <| OSuf.callD rfl (by simp only [aopnds, lk] <;> rfl) en25 (hmay _ (by simp only [nx]; omega) (fun z hz => by simp (disch := first | omega | simp only [nx]; omega) only [hpl])) rfl <| Ot rfl Zt rfl rfl <| On ?_
      refine Wy <| Wr <| Oa rfl (zl (hv := by simp (disch := first | omega | simp only [nx]; omega) only [aLoad, ty28, rowOf, hpl, q2, rcl, Value.cells] <;> rfl)) rfl <| OSuf.callD rfl (by simp only [aopnds, lk] <;> rfl) en26 ((by rw [hh3] at w; exact w)) rfl <| Oa rfl (zs (hv := by simp (disch := first | omega | simp only [nx]; omega) only [aStore, ty28, writeRow, hpl, q2, rcl, Value.cells] <;> rfl)) rfl <| On ?_
      refine CWp.ret <| SQ.ret <| FQ.ret (by simp (disch := first | omega | simp only [nx]; omega) only [aRet, Try.f8, aResults, aResult, lk, Nat.reduceEqDiff, reduceIte, aLoad, rowOf, hpl, q2, rcl, Value.cells, places, tb8] <;> rfl) ?_
      exact ⟨rfl, rfl⟩
    · rintro u g ⟨rfl, rfl⟩
      exact ⟨_, _, x, y, rfl, fx.mono (by omega) (Nat.le_refl _) (fun z hz _ => zS (by omega)), fy.mono (by omega) (Nat.le_refl _) (fun z hz _ => zS (by omega)), hxy, fun z hz => by rw [zS (by omega), hk z (by omega)]; exact k3 z hz⟩
  | true =>
  by_cases f2 : (foldB e p).length ≤ 64
  · have eM : foldM p e = { p with base := foldB e p, deltas := p.deltas.filter fun r => decide (e < r.lsn) } := by simp [foldM, f1, f2]
    refine ⟨decide (foldB e p = []), nilV (.slice b2 p.deltas.length c2), fun hn => by rw [eM]; simpa using hn, fun hn => ?_, gcL (fold_w h p b1 b2 c1 c2 e hb hd f1 (fun u g => ∃ bv dv x y, u = LV (foldM p e) bv dv ∧ FS g h.next (foldM p e).base (decide (foldB e p = [])) bv x ∧ FS g h.next (foldM p e).deltas (nilV (.slice b2 p.deltas.length c2)) dv y ∧ (∀ r, x = some r → y ≠ some r) ∧ ∀ z, z < h.next → g.get z = h.get z) hK (fun hn => (hn f2).elim) (fun _ bv dv x y g s1 s2 hxy hk => ⟨bv, dv, x, y, rfl, by rw [eM]; exact s1, by rw [eM]; exact s2, hxy, hk⟩)) fun u g hu => hu⟩
    obtain ⟨b, c, e9, h9⟩ := hd.ex
    cases e9
    rcases h9 with ⟨rfl, h9, _⟩ | ⟨r, off, rfl, _⟩
    · rw [eM, List.length_eq_zero_iff.1 h9]; rfl
    · cases hn
  · have eM : foldM p e = p := by simp [foldM, f2]
    rw [eM]
    have nn : ∀ {l : List Rec} {b : Option Addr} {c : Nat}, RS h l (.slice b l.length c) → nilV (.slice b l.length c) = true → l = [] := fun {l b c} hs hn => by
      obtain ⟨b', c', e9, h9⟩ := hs.ex
      cases e9
      rcases h9 with ⟨rfl, h9, _⟩ | ⟨r, off, rfl, _⟩
      · exact List.length_eq_zero_iff.1 h9
      · cases hn
    exact ⟨nilV (.slice b1 p.base.length c1), nilV (.slice b2 p.deltas.length c2), nn hb, nn hd, gcL (fold_w h p b1 b2 c1 c2 e hb hd f1 (fun u g => ∃ bv dv x y, u = LV p bv dv ∧ FS g h.next p.base (nilV (.slice b1 p.base.length c1)) bv x ∧ FS g h.next p.deltas (nilV (.slice b2 p.deltas.length c2)) dv y ∧ (∀ r, x = some r → y ≠ some r) ∧ ∀ z, z < h.next → g.get z = h.get z) hK (fun _ x1 y1 x2 y2 x y lo g hlo s1 s2 hxy hk => ⟨_, _, x, y, rfl, s1.mono hlo (Nat.le_refl _) (fun _ _ _ => rfl), s2.mono hlo (Nat.le_refl _) (fun _ _ _ => rfl), hxy, hk⟩) (fun hn => (f2 hn).elim)) fun u g hu => hu⟩
end Go.Proofs.Ytebheelmgcggmaa
namespace Go.Proofs.Ytebheelmgcggmaa
open Go.Ab Go.Sort
def num (n : Nat) : List UInt8 := if n < 128 then [UInt8.ofNat n] else UInt8.ofNat (128 + n % 128) :: num (n / 128)
termination_by n
theorem num_lo {n : Nat} (h : n < 128) : num n = [UInt8.ofNat n] := by rw [num, if_pos h]
theorem num_hi {n : Nat} (h : ¬ n < 128) : num n = UInt8.ofNat (128 + n % 128) :: num (n / 128) := by rw [num, if_neg h]
theorem num_len : ∀ (k n : Nat), n < 128 ^ (k + 1) → (num n).length ≤ k + 1
  | 0, n, h => by rw [num_lo (by omega)]; simp
  | k + 1, n, h => by
    by_cases c : n < 128
    · rw [num_lo c]; simp
    · rw [num_hi c]
      have := num_len k (n / 128) (by rw [Nat.pow_succ] at h; exact Nat.div_lt_of_lt_mul (by rw [Nat.mul_comm]; exact h))
      simp only [List.length_cons]; omega
abbrev u8v (b : UInt8) : Value := .int .u8 b.toNat
theorem of_lt {n : Nat} (h : n < 256) : ((UInt8.ofNat n).toNat : Int) = (n : Int) := by
  rw [UInt8.toNat_ofNat', Nat.mod_eq_of_lt h]
theorem bytesIn_map : ∀ l : List UInt8, bytesIn (l.map u8v) = some l
  | [] => rfl
  | a :: l => by
    simp only [List.map_cons, bytesIn, bytesIn_map l]
    simp
theorem cv_str {h : AHeap} {s d e : TypeId} {si di ei : TI} {r n c : Nat} {l : List UInt8} (hs : T.get s = some si) (hsu : si.und = .slice e) (hd : T.get d = some di) (hdu : di.und = .string) (he : T.get e = some ei) (heu : ei.und = .int .u8) (hr : h.get r = some (.cells (l.map u8v) 1)) (hn : n = l.length) :
    aConv T s d (.slice (some ⟨r, 0, none⟩) n c) h = some (encS l, h) := by
  subst hn
  have e1 : aCells h 1 l.length (.slice (some ⟨r, 0, none⟩) l.length c) = some (l.map u8v) := by
    cases l with
    | nil => simp [aCells]
    | cons a l =>
      have : Nat.beq ((a :: l).length * 1) 0 = false := rfl
      have h2 : cellsOf ((a :: l).map u8v) 0 ((a :: l).length * 1) = some ((a :: l).map u8v) := cellsOf_all (by simp)
      simp only [aCells, this, cond_false, Nat.ble_eq_true_of_le (Nat.le_refl _), cond_true, rowOf, hr, h2]
  simp only [aConv, hs, hd, hsu, hdu, he, e1, heu, bytesIn_map]
theorem str_app (a b : List UInt8) : ((⟨⟨a⟩⟩ : ByteArray) ++ ⟨⟨b⟩⟩) = ⟨⟨a ++ b⟩⟩ := by
  apply ByteArray.ext
  simp
theorem bs_add {t : TypeId} {x y : Operand} {a b : List UInt8} (h : a.length + b.length ≤ 9223372036854775807 := by first | assumption | omega | (simp only [List.length_append, List.length_cons, List.length_nil]; omega)) : aBin Try.prog T .add t x y (encS a) (encS b) = some (encS (a ++ b)) := by
  have e0 : (ByteArray.mk ⟨a⟩).size = a.length := rfl
  have e1 : (ByteArray.mk ⟨b⟩).size = b.length := rfl
  have h2 : ¬ (9223372036854775807 : Int) < ((ByteArray.mk ⟨a⟩).size : Int) + ((ByteArray.mk ⟨b⟩).size : Int) := by rw [e0, e1]; omega
  simp [aBin, flat, flat1, eqGuard, binOp, Op.stringOp, h2, pureRun_pure, str_app]
end Go.Proofs.Ytebheelmgcggmaa
namespace Go.Proofs.Ytebheelmgcggmaa
open Go.Ab Go.Sort
theorem bi_or0 {t : TypeId} {x y : Operand} {k : IntKind} {m n : Int} : aBin Try.prog T .or t x y (.int k m) (.int k n) = some (.int k (k.wrap ((BitVec.ofInt k.bits m ||| BitVec.ofInt k.bits n).toNat : Nat))) := by simp [aBin, flat, flat1, eqGuard, binOp, Op.intBits, pureRun_pure]
theorem bi_or {t : TypeId} {x y : Operand} {m : Nat} : aBin Try.prog T .or t x y (.int .u8 128) (.int .u8 ((m % 256 : Nat) : Int)) = some (u8v (UInt8.ofNat (128 + m % 128))) := by
  have key : ∀ r, r < 256 → IntKind.u8.wrap ((BitVec.ofInt IntKind.u8.bits 128 ||| BitVec.ofInt IntKind.u8.bits ((r : Nat) : Int)).toNat : Nat) = ((UInt8.ofNat (128 + r % 128)).toNat : Int) := by decide +kernel
  have h1 := key (m % 256) (by omega)
  have h2 : m % 256 % 128 = m % 128 := by omega
  rw [h2] at h1
  rw [bi_or0, h1]
def dg (pre : List UInt8) : List Value := pre.map u8v ++ List.replicate (10 - pre.length) (u8v 0)
theorem dg_length {pre : List UInt8} (h : pre.length ≤ 10) : (dg pre).length = 10 := by simp [dg]; omega
theorem dg_put {pre : List UInt8} (x : UInt8) (h : pre.length < 10) : splice (dg pre) pre.length [u8v x] = dg (pre ++ [x]) := by
  have e : 10 - pre.length = (10 - (pre ++ [x]).length) + 1 := by simp; omega
  have := splice_app (pre.map u8v) [u8v 0] (List.replicate (10 - (pre ++ [x]).length) (u8v 0)) [u8v x] rfl
  simp only [dg, e, List.replicate_succ]
  rw [List.length_map] at this
  simpa using this
theorem dg_part {pre : List UInt8} (h : pre.length ≤ 10) : cellsOf (dg pre) 0 (pre.length * 1) = some (pre.map u8v) := by
  have h1 : 0 + pre.length * 1 ≤ (dg pre).length := by rw [dg_length h]; omega
  simp only [cellsOf, Nat.ble_eq_true_of_le h1, cond_true]
  simp [dg]
theorem dg_cells {h : AHeap} {r c : Nat} {P : List UInt8} (hr : h.get r = some (.cells (dg P) 1)) (hP : P.length ≤ 10) : aCells h 1 P.length (.slice (some ⟨r, 0, none⟩) P.length c) = some (P.map u8v) := by
  cases P with
  | nil => simp [aCells]
  | cons a P =>
    have e : Nat.beq ((a :: P).length * 1) 0 = false := rfl
    simp only [aCells, e, cond_false, Nat.ble_eq_true_of_le (Nat.le_refl _), cond_true, rowOf, hr, dg_part hP]
theorem st_dg {h : AHeap} {r off : Nat} {pre : List UInt8} {x : UInt8} {t : TypeId} {ti : TI} (hr : h.get r = some (.cells (dg pre) 1)) (ho : off = pre.length) (h10 : pre.length < 10) (ht : T.get t = some ti) (hs : ti.size = 1) :
    aStore T t (PA r off) (u8v x) h = some (h.set r (.cells (dg (pre ++ [x])) 1)) := by
  subst ho
  have e1 : Nat.ble (pre.length + [u8v x].length) (dg pre).length = true := Nat.ble_eq_true_of_le (by rw [dg_length (by omega)]; simp; omega)
  have e2 : Nat.beq (u8v x).cells.size ti.size = true := by rw [hs]; rfl
  have e3 : (u8v x).cells.toList = [u8v x] := rfl
  have e4 : oneCells [u8v x] = true := rfl
  simp only [aStore, ht, e2, cond_true, writeRow, hr, e3, e1, e4, Bool.and_self, dg_put x h10]
theorem one_u8 : ∀ l : List UInt8, oneCells (l.map u8v) = true
  | [] => rfl
  | a :: l => by
    have := one_u8 l
    simp only [oneCells, List.map_cons, List.all_cons, Bool.and_eq_true] at this ⊢
    exact ⟨rfl, this⟩
theorem mk_sl {h : AHeap} {t e : TypeId} {ti ei : TI} {n : Nat} (ht : T.get t = some ti) (hu : ti.und = .slice e) (he : T.get e = some ei) (hz : ei.zero = some (.int .u8 0)) (h1 : ei.size = 1) (h2 : ei.bytes = 1) (hn : n ≤ 281474976710656) :
    aMakeSlice T t (I64 n) (I64 n) h = some (.slice (some ⟨h.next, 0, none⟩) n (n + 1), h.new (.cells (zeros [u8v 0] n) 1)) := by
  have c : (Value.int .u8 0).cells.toList.all flat1 = true ∧ (Value.int .u8 0).cells.size = ei.size ∧ (0 : Int) ≤ (n : Int) ∧ (n : Int) ≤ (n : Int) ∧ (n : Int) ≤ 9223372036854775807 ∧ (ei.bytes : Int) * (n : Int) ≤ 281474976710656 := by
    rw [h1, h2]
    exact ⟨rfl, rfl, by omega, by omega, by omega, by omega⟩
  simp only [aMakeSlice, ht, hu, he, hz]
  rw [if_pos c]
  simp only [Int.toNat_natCast, h1]; rfl
theorem cp_row {h : AHeap} {ats : Array TypeId} {t e : TypeId} {rest : List TypeId} {ti ei : TI} {r off dl c : Nat} {x : Value} {pre mid post : List Value} {l : List UInt8} (ha : ats.toList = t :: rest) (ht : T.get t = some ti) (hu : ti.und = .slice e) (he : T.get e = some ei) (h1 : ei.size = 1)
    (hl : aLen x = some l.length) (hx : aCells h 1 l.length x = some (l.map u8v)) (hr : h.get r = some (.cells (pre ++ (mid ++ post)) 1)) (hoff : off = pre.length) (hm : mid.length = l.length) (hd : l.length ≤ dl) :
    aCopy T ats (.slice (some ⟨r, off, none⟩) dl c) x h = some (I64 l.length, h.set r (.cells (pre ++ (l.map u8v ++ post)) 1)) := by
  subst hoff
  have e1 : Nat.min l.length dl = l.length := Nat.min_eq_left hd
  cases l with
  | nil =>
    have : mid = [] := List.length_eq_zero_iff.1 hm
    subst this
    have e2 : Nat.beq (Nat.min ([] : List UInt8).length dl) 0 = true := by rw [e1]; rfl
    have e3 := AHeap.set_self hr
    simp only [aCopy, ha, ht, hu, he, hl]
    cases dl with
    | zero => simp only [e2, cond_true]; rw [show (List.map u8v [] : List Value) = [] from rfl, e3]; rfl
    | succ dl => simp only [e2, cond_true]; rw [show (List.map u8v [] : List Value) = [] from rfl, e3]; rfl
  | cons a l =>
    have e2 : Nat.beq (a :: l).length 0 = false := rfl
    have e3 : Nat.ble (pre.length + ((a :: l).map u8v).length) (pre ++ (mid ++ post)).length = true := Nat.ble_eq_true_of_le (by simp only [List.length_append, List.length_map]; omega)
    have e4 := splice_app pre mid post ((a :: l).map u8v) (by rw [List.length_map]; exact hm.symm)
    simp only [aCopy, ha, ht, hu, he, hl, e1, e2, cond_false, h1, hx, writeRow, hr, e3, one_u8, Bool.and_self, cond_true, e4]
theorem str_cells {h : AHeap} {s : List UInt8} : aCells h 1 s.length (encS s) = some (s.map u8v) := by
  simp only [aCells, Nat.beq_refl, cond_true, byteVals]
  rw [List.take_of_length_le (by simp)]
theorem str_len {s : List UInt8} : aLen (encS s) = some s.length := rfl
theorem sl_k {h : AHeap} {t e : TypeId} {ti ei : TI} {r n i : Nat} (ht : T.get t = some ti) (hu : ti.und = .slice e) (he : T.get e = some ei) (h1 : ei.size = 1) (hi : i < n) :
    aSlice T t (.slice (some ⟨r, 0, none⟩) n (n + 1)) (some (I64 i)) none none h = some (.slice (some ⟨r, i, none⟩) (n - i) (n - i + 1)) := by
  have e2 : Nat.beq n i = false := by
    cases e9 : Nat.beq n i with
    | false => rfl
    | true => have := Nat.eq_of_beq_eq_true e9; omega
  simp only [aSlice, ht, hu, he, if_pos (Nat.le_refl n), bounds_lo (Nat.le_of_lt hi), e2, cond_false, h1, Nat.mul_one, Nat.zero_add]
theorem sl_arr {h : AHeap} {t e : TypeId} {ti ei : TI} {r i : Nat} (ht : T.get t = some ti) (hu : ti.und = .array 10 e) (he : T.get e = some ei) (hi : i ≤ 10) :
    aSlice T t (P0 r) none (some (I64 i)) none h = some (.slice (some ⟨r, 0, none⟩) i 11) := by
  have e2 : Nat.beq 10 0 = false := rfl
  simp only [aSlice, ht, hu, he, bounds_hi hi, e2, cond_false, Nat.zero_mul, Nat.zero_add, Nat.sub_zero, Nat.add_zero]
theorem zeros_rep : ∀ n : Nat, zeros [u8v 0] n = List.replicate n (u8v 0)
  | 0 => rfl
  | n + 1 => by simp only [zeros, zeros_rep n, List.replicate_succ, List.cons_append, List.nil_append]
theorem put_c (h : AHeap) (s : List UInt8) (n : Nat) (hn : n < 18446744073709551616) (hs : s.length ≤ 1000000) : FWp Try.prog 42 [encS s, U64 n] h fun u h' => u = encS (s ++ num n) ∧ h' = h := by
  have tb42 := And.intro ty25 (And.intro ty5 (And.intro ty58 (And.intro ty9 (ty98))))
  refine FWp.gcs (.flat rfl) ?_
  have hd0 : (AObj.cells (dg []) 1) = .cells [.int .u8 0, .int .u8 0, .int .u8 0, .int .u8 0, .int .u8 0, .int .u8 0, .int .u8 0, .int .u8 0, .int .u8 0, .int .u8 0] 1 := rfl
  refine W.enter tyOK Try.func42 rfl rfl ?_
  simp only [entry]
  refine Wr <| Oa rfl za rfl <| On ?_
  refine Wr <| Oa rfl (so_alloc (by simp only [aAlloc, ty98] <;> rfl)) rfl <| On ?_
  refine Wr <| Oa rfl za rfl <| On ?_
  refine W.seq <| ?_
  refine W.cut (fun L g => ∃ (pre : List UInt8) (m : Nat), num n = pre ++ num m ∧ m < 128 ∧ pre.length ≤ 9 ∧ g.next = h.next + 1 ∧ g.get h.next = some (.cells (dg pre) 1) ∧ (∀ z, z < h.next → g.get z = h.get z) ∧ L = [(0, encS s), (1, U64 m), (5, P0 h.next), (6, I64 pre.length)]) (W.block (W.loop (fun k L g => ∃ (pre : List UInt8) (m : Nat), k + pre.length = 10 ∧ num n = pre ++ num m ∧ m * 128 ^ pre.length < 18446744073709551616 ∧ pre.length ≤ 9 ∧ g.next = h.next + 1 ∧ g.get h.next = some (.cells (dg pre) 1) ∧ (∀ z, z < h.next → g.get z = h.get z) ∧ L = [(0, encS s), (1, U64 m), (5, P0 h.next), (6, I64 pre.length)]) (n := 10) ⟨[], n, rfl, rfl, by simpa using hn, by simp, by simp, zQ, fun z hz => zN (by omega), rfl⟩ ?_ ?_)) ?_
  · simp [HasA, Tr.get_put]
  · rintro k L g ⟨pre, m, hk, e1, hlt, h9, hn1, hg, hk1, rfl⟩
    simp only [mkA]
    by_cases hm : m < 128
    · refine W.seq <| Wr <| Oa rfl sm rfl <| Ofb rfl (zb (hv := bi_geq)) rfl <| On ?_
      refine Wn <| CWp.exit <| SQ.exit <| LQ.exit <| BQ.exit <| ?_
      refine NQ.normal (L := [(0, encS s), (1, U64 m), (5, P0 h.next), (6, I64 pre.length)]) ?_ ⟨pre, m, e1, hm, h9, hn1, hg, hk1, rfl⟩
      simp only [HasA, Tr.get_put, Nat.reduceEqDiff, reduceIte, and_self]
    · have hi : pre.length ≤ 8 := by
        by_cases c : pre.length ≤ 8
        · exact c
        · have h1 : 128 ^ 9 ≤ 128 ^ pre.length := Nat.pow_le_pow_right (by decide) (by omega)
          have h2 : 128 * 128 ^ 9 ≤ m * 128 ^ pre.length := Nat.mul_le_mul (by omega) h1
          have h3 : (128 : Nat) * 128 ^ 9 = 1180591620717411303424 := by decide
          omega
      have hc1 : (0 ≤ (pre.length : Int) ∧ (pre.length : Int) < ((10 : Nat) : Int)) := by omega
      have w1 : IntKind.u8.wrap (m : Int) = ((m % 256 : Nat) : Int) := by
        simp only [IntKind.wrap, IntKind.bits, IntKind.signed]; simp
      have w2 : ((m : Int)).fdiv (2 ^ (min (7 : Int).toNat IntKind.u64.bits)) = ((m / 128 : Nat) : Int) := by
        have : (2 : Int) ^ (min (7 : Int).toNat IntKind.u64.bits) = 128 := by decide
        rw [this, Int.fdiv_eq_ediv_of_nonneg _ (by omega)]; omega
      have w3 : IntKind.i64.wrap ((pre.length : Int) + 1) = ((pre.length + 1 : Nat) : Int) := by rw [wrap_i64 (by omega) (by omega)]; omega
      refine W.seq <| Wr <| Oa rfl sm rfl <| Ot rfl (zb (hv := bi_geq)) rfl (by first | rfl | assumption | ((simp only [bl, hg, hc1, sb, Value.cells, places, tb42]) <;> first | done | assumption | omega) | (simp; done) | (simp; omega)) <| On ?_
      refine Wy <| CWp.skip <| SQ.normal ?_
      refine W.seq <| W.block <| Wr <| Oa rfl sm rfl <| Oa rfl sm rfl <| Oa rfl (so_conw (so_conv tyOK (by simp only [lk] <;> rfl) ty25 ⟨_, rfl⟩ ty5 rfl) (by first | (simp only [w1, w2, w3] <;> rfl) | rfl)) rfl <| Oa rfl (zb (hv := bi_or)) rfl <| Oa rfl (zi (hv := by simp (disch := first | omega | simp only [nx]; omega) only [aIndexAddr, ty98, ty5, hpl, hg, hc1, sb, Value.cells, places, tb42] <;> rfl)) rfl <| Oa rfl (zs (hv := st_dg (x := UInt8.ofNat (128 + m % 128)) hg (by simp) (by omega) ty5 rfl)) rfl <| On ?_
      refine W.reg <| Oa rfl sm rfl <| Oa rfl (zb (hv := bi_w (bi_shr (by decide)) (by first | (simp only [w1, w2, w3] <;> rfl) | rfl))) rfl <| Oa rfl za rfl <| OSuf.nil <| BQ.normal <| SQ.normal ?_
      refine W.reg <| Oa rfl sm rfl <| Oa rfl (zb (hv := bi_w bi_add (by first | (simp only [w1, w2, w3] <;> rfl) | rfl))) rfl <| Oa rfl za rfl <| OSuf.nil <| ?_
      refine LQ.normal (m := k - 1) (L := [(0, encS s), (1, U64 ((m / 128 : Nat) : Int)), (5, P0 h.next), (6, I64 ((pre ++ [UInt8.ofNat (128 + m % 128)]).length : Nat))]) (by omega) ?_ ⟨pre ++ [UInt8.ofNat (128 + m % 128)], m / 128, by simp; omega, ?_, ?_, by simp; omega, hn1, zP, fun z hz => by rw [zS (by omega)]; exact hk1 z hz, rfl⟩
      · simp only [HasA, Tr.get_put, Nat.reduceEqDiff, reduceIte, w2, w3, List.length_append, List.length_cons, List.length_nil, and_self]
      · rw [e1, num_hi hm]; simp
      · rw [List.length_append, List.length_singleton, Nat.pow_succ]
        have : m / 128 * 128 ≤ m := Nat.div_mul_le_self _ _
        have h2 : m / 128 * 128 * 128 ^ pre.length ≤ m * 128 ^ pre.length := Nat.mul_le_mul_right _ this
        rw [Nat.mul_comm (128 ^ pre.length) 128, ← Nat.mul_assoc]; omega
  rintro L a' g ha ⟨pre, m, e1, hm, hp, hn1, hg, hk1, rfl⟩
  have w1 : IntKind.u8.wrap (m : Int) = ((UInt8.ofNat m).toNat : Int) := by
    rw [of_lt (by omega)]
    simp only [IntKind.wrap, IntKind.bits, IntKind.signed]; simp; omega
  have e0 : (ByteArray.mk ⟨s⟩).size = s.length := rfl
  have w2 : IntKind.i64.wrap ((s.length : Int) + (pre.length : Int)) = ((s.length + pre.length : Nat) : Int) := by rw [wrap_i64 (by omega) (by omega)]; omega
  obtain ⟨P, hP⟩ : ∃ P, P = pre ++ [UInt8.ofNat m] := ⟨_, rfl⟩
  have hPl : P.length = pre.length + 1 := by rw [hP]; simp
  have w3 : IntKind.i64.wrap (((s.length + pre.length : Nat) : Int) + 1) = ((s.length + P.length : Nat) : Int) := by rw [wrap_i64 (by omega) (by omega)]; omega
  have w4 : IntKind.i64.wrap ((pre.length : Int) + 1) = (P.length : Int) := by rw [wrap_i64 (by omega) (by omega)]; omega
  have hc1 : (0 ≤ (pre.length : Int) ∧ (pre.length : Int) < ((10 : Nat) : Int)) := by omega
  refine SQ.normal <| CWp.known ha ?_
  simp only [mkA]
  refine Wr <| Oa rfl sm rfl <| Oa rfl sm rfl <| Oa rfl (so_conw (so_conv tyOK (by simp only [lk] <;> rfl) ty25 ⟨_, rfl⟩ ty5 rfl) (by first | (simp only [w1, w2, w3, w4] <;> rfl) | rfl)) rfl <| Oa rfl (zi (hv := by simp (disch := first | omega | simp only [nx]; omega) only [aIndexAddr, ty98, ty5, hpl, hg, hc1, e0, sb, Value.cells, places, tb42] <;> rfl)) rfl <| Oa rfl (zs (hv := st_dg (x := UInt8.ofNat m) hg (by simp) (by omega) ty5 rfl)) rfl <| On ?_
  refine Wr <| Oa rfl sm rfl <| Oa rfl (Zn (hv := by simp (disch := first | omega | simp only [nx]; omega) only [aLenOf, ty9, hpl, hg, hc1, e0, sb, Value.cells, places, tb42] <;> rfl)) rfl <| Oa rfl sm rfl <| Oa rfl (zb (hv := bi_w bi_add (by first | (simp only [w1, w2, w3, w4] <;> rfl) | rfl))) rfl <| Oa rfl (zb (hv := bi_w bi_add (by first | (simp only [w1, w2, w3, w4] <;> rfl) | rfl))) rfl <| Oa rfl (so_makeSlice (by simp only [lk] <;> rfl) (by simp only [lk] <;> rfl) (mk_sl ty58 rfl ty5 rfl rfl rfl (by omega))) rfl <| Oa rfl za rfl <| On ?_
  rw [← hP]
  obtain ⟨G, hG⟩ : ∃ G, G = (g.set h.next (.cells (dg P) 1)).new (.cells (zeros [u8v 0] (s.length + P.length)) 1) := ⟨_, rfl⟩
  have q1 : G.get h.next = some (.cells (dg P) 1) := by rw [hG]; simp (disch := first | omega | simp only [nx]; omega) only [hpl]
  have q2 : G.get (h.next + 1) = some (.cells ([] ++ (List.replicate s.length (u8v 0) ++ List.replicate P.length (u8v 0))) 1) := by
    rw [hG, ← hn1, List.nil_append, List.replicate_append_replicate, ← zeros_rep]
    exact zQ
  have old : ∀ z, z < h.next → G.get z = h.get z := fun z hz => by rw [hG]; simp (disch := first | omega | simp only [nx]; omega) only [hpl]; exact hk1 z hz
  show CWp _ _ _ _ ((g.set h.next (.cells (dg P) 1)).new (.cells (zeros [u8v 0] (s.length + P.length)) 1)) _
  rw [← hG]
  refine CWp.known (L := [(0, encS s), (5, P0 h.next), (6, I64 pre.length), (7, .slice (some ⟨h.next + 1, 0, none⟩) (s.length + P.length) (s.length + P.length + 1))]) ⟨(by simp only [lk] <;> rfl), (by simp only [lk] <;> rfl), (by simp only [lk] <;> rfl), (by simp only [lk, AHeap.next_set, hn1] <;> rfl), trivial⟩ ?_
  simp only [mkA]
  refine W.seq <| CWp.sqd tyOK mixed (ms := [0, 0, 0, 6, 15, 0, 32, 96, 255]) (by kernel_rfl) (
      .free rfl rfl sm rfl <| .free rfl rfl sm rfl <| .free rfl rfl sm rfl <| .change rfl rfl (so_copy (by simp only [aopnds, lk] <;> rfl) (cp_row rfl ty58 rfl ty5 rfl str_len str_cells q2 rfl (by simp) (by omega))) rfl trivial rfl <| .read rfl rfl (so_slice (by simp only [lk] <;> rfl) (by simp only [oopnd, lk] <;> rfl) (by simp only [oopnd, lk] <;> rfl) (by simp only [oopnd, lk] <;> rfl) (sl_k ty58 rfl ty5 rfl (by omega))) (by first | rfl | (simp [veq, veq1, veqs]; done) | (simp [veq, veq1, veqs, splice]; done)) ⟨.inl rfl, trivial⟩ rfl <| .free rfl rfl sm rfl <| .free rfl rfl (zb (hv := bi_w bi_add (by first | (simp only [w4] <;> rfl) | rfl))) rfl <| .read rfl rfl (so_slice (by simp only [lk] <;> rfl) (by simp only [oopnd, lk] <;> rfl) (by simp only [oopnd, lk] <;> rfl) (by simp only [oopnd, lk] <;> rfl) (sl_arr ty98 rfl ty5 (by omega))) (by first | rfl | (simp [veq, veq1, veqs]; done) | (simp [veq, veq1, veqs, splice]; done)) ⟨.inr (so_slice (by simp only [lk] <;> rfl) (by simp only [oopnd, lk] <;> rfl) (by simp only [oopnd, lk] <;> rfl) (by simp only [oopnd, lk] <;> rfl) (sl_arr ty98 rfl ty5 (by omega))), trivial⟩ rfl <| .change rfl rfl (so_copy (by simp only [aopnds, lk] <;> rfl) (cp_row (pre := s.map u8v) (mid := List.replicate P.length (u8v 0)) (post := []) (l := P) rfl ty58 rfl ty5 rfl rfl (dg_cells (by rw [zS (by omega)]; exact q1) (by omega)) (by rw [AHeap.get_set_same, List.append_nil]; rfl) (by simp) (by simp) (by omega))) rfl ⟨.inl rfl, .inl rfl, trivial⟩ rfl <| .nil) <| SQ.normal ?_
  refine Wr <| Oa rfl sm rfl <| Oa rfl (so_convert (by simp only [lk] <;> rfl) (cv_str (l := s ++ P) ty58 rfl ty9 rfl ty5 rfl (by rw [AHeap.get_set_same]; simp) (by simp))) rfl <| Oa rfl za rfl <| On ?_
  refine CWp.ret <| FQ.ret (by simp only [aRet, Try.f42, aResults, aResult, lk, Nat.reduceEqDiff, reduceIte] <;> rfl) ?_
  refine ⟨by rw [e1, num_lo hm, hP], fun r o hr ho => ?_⟩
  simp (disch := first | omega | simp only [nx]; omega) only [hpl]
  rw [old r hr]; exact ho
theorem putt_c (h : AHeap) (s t : List UInt8) (ht : t.length ≤ 1000000) (hs : s.length ≤ 1000000) : FWp Try.prog 41 [encS s, encS t] h fun u h' => u = encS (s ++ num t.length ++ t) ∧ h' = h := by
  have hp := put_c h s t.length (by omega) hs
  have hl : (num t.length).length ≤ 10 := num_len 9 _ (by have : (128 : Nat) ^ (9 + 1) = 1180591620717411303424 := by decide
                                                          omega)
  have e1 : (ByteArray.mk ⟨t⟩).size = t.length := rfl
  have w1 : IntKind.u64.wrap (t.length : Int) = (t.length : Int) := by
    simp only [IntKind.wrap, IntKind.bits, IntKind.signed]; simp; omega
  refine W.enter tyOK Try.func41 rfl rfl ?_
  simp only [entry]
  refine Wr <| Oa rfl za rfl <| On ?_
  refine Wr <| Oa rfl sm rfl <| Oa rfl sm rfl <| Oa rfl (Zn (hv := by simp (disch := first | omega | simp only [nx]; omega) only [aLenOf, ty9, hpl, e1] <;> rfl)) rfl <| Oa rfl (so_conw (so_conv tyOK (by simp only [lk] <;> rfl) ty3 ⟨_, rfl⟩ ty25 rfl) (by first | (simp only [w1] <;> rfl) | rfl)) rfl <| OSuf.callD rfl (by simp only [aopnds, lk] <;> rfl) en42 (hp) rfl <| Oa rfl sm rfl <| Oa rfl (zb (hv := bs_add)) rfl <| Oa rfl za rfl <| On ?_
  refine CWp.ret <| FQ.ret (by simp only [aRet, Try.f41, aResults, aResult, lk, Nat.reduceEqDiff, reduceIte] <;> rfl) ?_
  exact ⟨rfl, rfl⟩
end Go.Proofs.Ytebheelmgcggmaa
namespace Go.Proofs.Ytebheelmgcggmaa
open Go.Ab Go.Sort
def svRow : Value → Option Nat
  | .slice (some a) _ _ => some a.block
  | _ => none
inductive SV (h : AHeap) (sz lo : Nat) : List Value → Value → Prop
  | nil : SV h sz lo [] (.slice none 0 0)
  | some {y n : Nat} {vs : List Value} (hn : vs.length = n * sz) (hlo : lo ≤ y) (hy : y < h.next) (hg : h.get y = .some (.cells vs sz)) (hne : vs ≠ []) : SV h sz lo vs (.slice (.some ⟨y, 0, .none⟩) n 0)
theorem SV.mono {h h' : AHeap} {sz lo : Nat} {vs : List Value} {v : Value} (s : SV h sz lo vs v) (hn : h.next ≤ h'.next) (hk : ∀ z, z < h.next → svRow v = Option.some z → h'.get z = h.get z) : SV h' sz lo vs v := by
  cases s with
  | nil => exact .nil
  | some h1 h2 h3 h4 h5 => exact .some h1 h2 (by omega) (by rw [hk _ h3 rfl]; exact h4) h5
theorem aCells_part {h : AHeap} {r off n len size c : Nat} {vs new : List Value} (hr : rowOf h r = some vs) (hl : n ≤ len) (hc : cellsOf vs off (n * size) = some new) : aCells h size n (.slice (some ⟨r, off, none⟩) len c) = some new := by
  cases e1 : Nat.beq (n * size) 0 with
  | false => simp only [aCells, e1, cond_false, Nat.ble_eq_true_of_le hl, cond_true, hr, hc]
  | true =>
    have e2 := Nat.eq_of_beq_eq_true e1
    rw [e2] at hc
    have := (cellsOf_some hc).2.1
    simp only [List.take_zero] at this
    simp only [aCells, e1, cond_true, this]
theorem ap_any {h : AHeap} {sz lo k : Nat} {A B : List Value} {v x : Value} (s : SV h sz lo A v) (hl : aLen x = some k) (hx : aCells h sz k x = some B) (hB : B.length = k * sz) (hone : oneCells B = true) (hlen : vLen v + k ≤ 3000000) (hlo : lo ≤ h.next) (hsz : 0 < sz := by decide) :
    ∃ v' h', (∀ ats A', appT T ats = some A' → A'.size = sz → A'.bytes ≤ 100 → aAppend T ats v x h = some (v', h')) ∧ SV h' sz lo (A ++ B) v' ∧ h.next ≤ h'.next ∧ h'.next ≤ h.next + 1 ∧ (∀ z, z < h.next → ¬ svRow v = some z → h'.get z = h.get z) ∧ ((svRow v' = svRow v ∧ k = 0) ∨ svRow v' = some h.next) ∧ vLen v' = vLen v + k := by
  cases hk : Nat.beq k 0 with
  | true =>
    have e := Nat.eq_of_beq_eq_true hk
    subst e
    have e2 : B = [] := List.length_eq_zero_iff.1 (by rw [hB]; omega)
    subst e2
    refine ⟨v, h, fun ats A' h1 h2 h3 => ?_, by rw [List.append_nil]; exact s, Nat.le_refl _, by omega, fun _ _ _ => rfl, .inl ⟨rfl, rfl⟩, rfl⟩
    have hb : Nat.ble ((2 * (vLen v + 0) + 256) * A'.bytes) 281474976710656 = true := Nat.ble_eq_true_of_le (by
      have : (2 * (vLen v + 0) + 256) * A'.bytes ≤ 7000000 * 100 := Nat.mul_le_mul (by omega) h3
      omega)
    subst h2
    cases s <;> simp only [aAppend, h1, hl, hx, hb, cond_true, hk]
  | false =>
    have hk0 : 0 < k := by
      cases k with
      | zero => cases hk
      | succ k => omega
    have hBne : B ≠ [] := fun e => by
      rw [e] at hB
      have := Nat.mul_pos hk0 hsz
      simp at hB; omega
    cases s with
    | nil =>
      refine ⟨.slice (some ⟨h.next, 0, none⟩) k 0, h.new (.cells B sz), fun ats A' h1 h2 h3 => ?_, .some (by simpa using hB) hlo (by simp) (zQ) (by simpa using hBne), by simp, by simp, fun z hz _ => zN (by omega), .inr rfl, by simp [vLen]⟩
      subst h2
      exact ap_0 h1 hl hx (by have : (2 * (0 + k) + 256) * A'.bytes ≤ 7000000 * 100 := Nat.mul_le_mul (by simp only [vLen] at hlen; omega) h3
                              omega) hk
    | @some y n _ h1 h2 h3 h4 =>
      have hc : cellsOf A 0 (n * sz) = .some A := cellsOf_all h1
      refine ⟨.slice (.some ⟨h.next, 0, .none⟩) (n + k) 0, (h.kill y).new (.cells (A ++ B) sz), fun ats A' g1 g2 g3 => ?_, .some (by rw [List.length_append, h1, hB, Nat.add_mul]) hlo (by simp only [nx]; omega) (AHeap.get_new_at (by simp only [nx]; omega)) (fun e => hBne (List.append_eq_nil_iff.1 e).2), by simp only [nx]; omega, by simp only [nx]; omega, fun z hz hne => ?_, .inr rfl, rfl⟩
      · subst g2
        exact ap_u g1 hl hx (by have : (2 * (n + k) + 256) * A'.bytes ≤ 7000000 * 100 := Nat.mul_le_mul (by simp only [vLen] at hlen; omega) g3
                                omega) hk h4 hone hc
      · have hzy : ¬ y = z := fun e => hne (by rw [← e]; rfl)
        simp (disch := first | omega | simp only [nx]; omega) only [hpl]
theorem SV.row {h : AHeap} {sz lo : Nat} {vs : List Value} {v : Value} {y : Nat} (s : SV h sz lo vs v) (hy : svRow v = Option.some y) : lo ≤ y ∧ y < h.next ∧ h.get y = Option.some (.cells vs sz) ∧ v = .slice (Option.some ⟨y, 0, Option.none⟩) (vLen v) 0 ∧ vs.length = vLen v * sz := by
  cases s with
  | nil => cases hy
  | some h1 h2 h3 h4 => cases hy; exact ⟨h2, h3, h4, rfl, h1⟩
theorem SV.form {h : AHeap} {sz lo : Nat} {vs : List Value} {v : Value} (s : SV h sz lo vs v) : ∃ b, v = .slice b (vLen v) 0 ∧ vs.length = vLen v * sz ∧ (vs ≠ [] → ∃ y, b = Option.some ⟨y, 0, Option.none⟩ ∧ svRow v = Option.some y ∧ lo ≤ y ∧ y < h.next ∧ h.get y = Option.some (.cells vs sz)) := by
  cases s with
  | nil => exact ⟨Option.none, rfl, by simp [vLen], fun h => (h rfl).elim⟩
  | some h1 h2 h3 h4 => exact ⟨_, rfl, h1, fun _ => ⟨_, rfl, rfl, h2, h3, h4⟩⟩
theorem SV.empty {h : AHeap} {sz lo : Nat} {vs : List Value} {v : Value} (s : SV h sz lo vs v) (e : vs = []) : v = .slice Option.none 0 0 := by
  cases s with
  | nil => rfl
  | some _ _ _ _ h5 => exact (h5 e).elim
theorem sv_rg {h : AHeap} {sz lo n : Nat} {vs : List Value} {v : Value} (s : SV h sz lo vs v) (hn : vs.length = n * sz) (h0 : 0 < sz) : RG h sz n vs v := by
  cases s with
  | nil =>
    have : n = 0 := by
      rcases Nat.mul_eq_zero.1 hn.symm with h | h
      · exact h
      · omega
    subst this
    exact ⟨_, _, rfl, .inl ⟨rfl, rfl, rfl⟩⟩
  | @some y m vs h1 h2 h3 h4 h5 =>
    have : m = n := Nat.eq_of_mul_eq_mul_right h0 (by rw [← h1, hn])
    subst this
    exact ⟨_, _, rfl, .inr ⟨_, _, rfl, fun _ => ⟨h3, _, by simp only [rowOf, h4], cellsOf_all hn⟩⟩⟩
theorem sv_rs {h : AHeap} {lo : Nat} {l : List Rec} {v : Value} (s : SV h 4 lo (fl l) v) : RS h l v := sv_rg s (fl_length l) (by omega)
theorem sv_len {h : AHeap} {lo : Nat} {l : List Rec} {v : Value} (s : SV h 4 lo (fl l) v) : vLen v = l.length := by
  obtain ⟨_, _, h2, _⟩ := s.form
  rw [fl_length] at h2
  omega
theorem sv_form {h : AHeap} {lo : Nat} {l : List Rec} {v : Value} (s : SV h 4 lo (fl l) v) : ∃ b, v = .slice b l.length 0 := by
  obtain ⟨b, h1, _, _⟩ := s.form
  rw [sv_len s] at h1
  exact ⟨b, h1⟩
theorem sv_oneR {g : AHeap} {lo : Nat} {l : List Rec} {v : Value} (s : SV g 4 lo (fl l) v) (x : Rec) (hl : l.length ≤ 2000000) (hlo : lo ≤ g.next) :
    ∃ v' G, (∀ ats A', appT T ats = some A' → A'.size = 4 → A'.bytes ≤ 100 → aAppend T ats v (.slice (some ⟨g.next, 0, none⟩) 1 2) (g.new (.cells x.cs 4)) = some (v', G)) ∧ SV G 4 lo (fl (l ++ [x])) v' ∧ g.next ≤ G.next ∧ (∀ z, z < g.next → ¬ svRow v = some z → G.get z = g.get z) ∧ svRow v' = some (g.next + 1) := by
  obtain ⟨v', G, a1, a2, a3, a4, a5, a6, a7⟩ := ap_any (h := g.new (.cells x.cs 4)) (k := 1) (x := .slice (some ⟨g.next, 0, none⟩) 1 2) (B := x.cs) (s.mono (by simp) (fun z hz _ => zN (by omega))) rfl (aCells_part (vs := x.cs) (by simp only [rowOf, AHeap.get_new_same]) (Nat.le_refl _) rfl) rfl rfl (by rw [sv_len s]; omega) (by simp; omega)
  refine ⟨v', G, a1, ?_, by simp only [nx] at a3; omega, fun z hz hv => by rw [a5 z (by simp; omega) hv, zN (by omega)], ?_⟩
  · rw [fl_app]
    have : fl [x] = x.cs := by simp [fl]
    rw [this]; exact a2
  · rcases a6 with h | h
    · exact absurd h.2 (by decide)
    · simpa using h
theorem into_length (r : Rec) : ∀ l : List Rec, (into r l).length ≤ l.length + 1
  | [] => by simp [into]
  | a :: l => by
    have := into_length r l
    simp only [into]
    split
    · simp only [List.length_cons]; omega
    · split
      · split <;> simp
      · simp
theorem intos_length : ∀ (ds l : List Rec), (ds.foldl (fun b r => into r b) l).length ≤ l.length + ds.length
  | [], l => by simp
  | d :: ds, l => by
    have h1 := intos_length ds (into d l)
    have h2 := into_length d l
    simp only [List.foldl_cons, List.length_cons]; omega
theorem intos_mem : ∀ (ds l : List Rec) (x : Rec), x ∈ ds.foldl (fun b r => into r b) l → x ∈ ds ∨ x ∈ l
  | [], l, x, h => .inr h
  | d :: ds, l, x, h => by
    rcases intos_mem ds (into d l) x h with h | h
    · exact .inl (List.mem_cons_of_mem _ h)
    · rcases mem_into h with rfl | h
      · exact .inl List.mem_cons_self
      · exact .inr h
def fB (e : Int) (p : Lf) (i : Nat) : List Rec := ((p.deltas.take i).filter fun r => decide (r.lsn ≤ e)).foldl (fun b r => into r b) p.base
def fD (e : Int) (p : Lf) (i : Nat) : List Rec := (p.deltas.take i).filter fun r => decide (e < r.lsn)
theorem fB_len (e : Int) (p : Lf) (i : Nat) : (fB e p i).length ≤ p.base.length + p.deltas.length := by
  have h1 := intos_length ((p.deltas.take i).filter fun r => decide (r.lsn ≤ e)) p.base
  have h2 : ((p.deltas.take i).filter fun r => decide (r.lsn ≤ e)).length ≤ p.deltas.length := Nat.le_trans (List.length_filter_le _ _) (by rw [List.length_take]; omega)
  simp only [fB]; omega
theorem fB_mem {e : Int} {p : Lf} {i : Nat} {x : Rec} (h : x ∈ fB e p i) : x ∈ p.all := by
  rcases intos_mem _ _ _ h with h | h
  · exact List.mem_append.2 (.inr (List.mem_of_mem_take (List.mem_filter.1 h).1))
  · exact List.mem_append.2 (.inl h)
theorem take_snoc {l : List Rec} {i : Nat} {x : Rec} (hx : l[i]? = some x) : l.take (i + 1) = l.take i ++ [x] := by rw [List.take_add_one, hx]; rfl
end Go.Proofs.Ytebheelmgcggmaa
namespace Go.Proofs.Ytebheelmgcggmaa
open Go.Ab Go.Sort
theorem num_le {n : Nat} (h : n < 18446744073709551616) : (num n).length ≤ 10 := by
  have h2 : (128 : Nat) ^ (9 + 1) = 1180591620717411303424 := by decide
  exact num_len 9 _ (by omega)
def delN (r : Rec) : Nat := if r.del = true then 1 else 0
def imgR (s : List UInt8) (r : Rec) : List UInt8 := s ++ num r.key.length ++ r.key ++ num r.lsn.toNat ++ num (delN r) ++ num r.val.length ++ r.val
def img0 (M : Lf) : List UInt8 := [] ++ num M.low.length ++ M.low ++ num M.high.length ++ M.high ++ num M.full.toNat ++ num M.base.length
def img (M : Lf) : List UInt8 := M.base.foldl imgR (img0 M)
def imgM (p : Lf) (e : Int) : List UInt8 := if chk p = true then img (foldM p e) else []
structure FB (r : Rec) : Prop where
  key : r.key.length ≤ 16
  val : r.val.length ≤ 24
  pos : 1 ≤ r.lsn
  lsn : r.lsn ≤ 1099511627776
structure FM (M : Lf) : Prop where
  low : M.low.length ≤ 16
  high : M.high.length ≤ 16
  pos : 0 ≤ M.full
  full : M.full ≤ 1099511627776
  base : M.base.length ≤ 64
  recs : ∀ r ∈ M.base, FB r
theorem fit_fb {lo hi : List UInt8} {x : Rec} (h : fit lo hi x = true) : FB x := by
  simp only [fit, mayR, Bool.and_eq_true, decide_eq_true_eq] at h
  exact ⟨h.1.1.1, h.1.1.2.1, h.1.2.1, h.1.2.2⟩
theorem fm_of {p : Lf} {e : Int} (hc : chk p = true) (hp : 0 ≤ p.full) : FM (foldM p e) := by
  obtain ⟨f1, _, _, f4, _⟩ := fits_of hc
  have hc' := hc
  simp only [chk, Bool.and_eq_true, decide_eq_true_eq] at hc'
  obtain ⟨⟨g1, g2, _, g4, _⟩, _⟩ := hc'
  simp only [foldM]
  split
  · rename_i h
    refine ⟨g1, g2, hp, g4, h.2, fun r hr => ?_⟩
    rw [← show fB e p p.deltas.length = foldB e p by simp only [fB, foldB, List.take_length]] at hr
    exact fit_fb (f1 r (fB_mem hr))
  · exact ⟨g1, g2, hp, g4, f4, fun r hr => fit_fb (f1 r (List.mem_append.2 (.inl hr)))⟩
theorem imgR_len {s : List UInt8} {r : Rec} (h : FB r) : (imgR s r).length ≤ s.length + 100 := by
  have h1 := num_le (n := r.key.length) (by have := h.key; omega)
  have h2 := num_le (n := r.lsn.toNat) (by have := h.lsn; omega)
  have h3 := num_le (n := delN r) (by simp only [delN]; split <;> omega)
  have h4 := num_le (n := r.val.length) (by have := h.val; omega)
  have := h.key
  have := h.val
  simp only [imgR, List.length_append]; omega
theorem img0_len {M : Lf} (h : FM M) : (img0 M).length ≤ 100 := by
  have := h.low
  have := h.high
  have := h.full
  have := h.base
  have h1 := num_le (n := M.low.length) (by omega)
  have h2 := num_le (n := M.high.length) (by omega)
  have h3 := num_le (n := M.full.toNat) (by omega)
  have h4 := num_le (n := M.base.length) (by omega)
  simp only [img0, List.length_append, List.length_nil]; omega
theorem img_step {s : List UInt8} {l : List Rec} {i : Nat} {x : Rec} (hx : l[i]? = some x) : (l.take (i + 1)).foldl imgR s = imgR ((l.take i).foldl imgR s) x := by
  rw [take_snoc hx, List.foldl_append]; rfl
theorem imgs_len {s : List UInt8} : ∀ l : List Rec, (∀ r ∈ l, FB r) → (l.foldl imgR s).length ≤ s.length + 100 * l.length := by
  intro l
  induction l generalizing s with
  | nil => intro _; simp
  | cons a l ih =>
    intro h
    have h1 := ih (s := imgR s a) fun r hr => h r (List.mem_cons_of_mem _ hr)
    have h2 := imgR_len (s := s) (h a List.mem_cons_self)
    simp only [List.foldl_cons, List.length_cons]; omega
theorem image_c (h : AHeap) (p : Lf) (bv dv : Value) (e : Int) (hb : RS h p.base bv) (hd : RS h p.deltas dv) (hlb : p.base.length ≤ 1000000) (hld : p.deltas.length ≤ 1000000) (hp : 0 ≤ p.full) :
    FWp Try.prog 18 [LV p bv dv, U64 e] h fun u h' => u = encS (imgM p e) ∧ h' = h := by
  have tb18 := And.intro ty25 (And.intro ty26 (And.intro ty28 (And.intro ty3 (And.intro ty33 (And.intro ty4 (ty9))))))
  refine FWp.gcs (.flat rfl) ?_
  obtain ⟨b1, c1, rfl⟩ := hb.form
  obtain ⟨b2, c2, rfl⟩ := hd.form
  obtain ⟨h1, hh1⟩ : ∃ h1, h1 = h.new (.cells (lcs p (.slice b1 p.base.length c1) (.slice b2 p.deltas.length c2)) 1) := ⟨_, rfl⟩
  have n1 : h1.next = h.next + 1 := by rw [hh1]; rfl
  have k1 : ∀ z, z < h.next → h1.get z = h.get z := fun z hz => by rw [hh1]; exact zN (by omega)
  have q0 : h1.get h.next = some (.cells (lcs p (.slice b1 p.base.length c1) (.slice b2 p.deltas.length c2)) 1) := by rw [hh1]; exact zQ
  have hm := may'_c h1 p _ _ (hb.mono (by omega) k1) (hd.mono (by omega) k1) hlb hld
  refine W.enter tyOK Try.func18 rfl rfl ?_
  simp only [entry]
  cases fc : chk p with
  | false =>
    rw [fc, hh1] at hm
    refine Wr <| Oa rfl Zx rfl <| Oa rfl za rfl <| On ?_
    refine W.seq <| Wr <| Oa rfl (zl (hv := by simp (disch := first | omega | simp only [nx]; omega) only [aLoad, ty28, rowOf, hpl, q0, rcl, Value.cells] <;> rfl)) rfl <| OSuf.callD rfl (by simp only [aopnds, lk] <;> rfl) en25 (hm) rfl <| Ot rfl Zt rfl rfl <| On ?_
    refine Wy <| Wr <| Oa rfl za rfl <| On ?_
    refine CWp.ret <| SQ.ret <| FQ.ret (by simp only [aRet, Try.f18, aResults, aResult, lk, Nat.reduceEqDiff, reduceIte] <;> rfl) ?_
    exact ⟨by rw [imgM, if_neg (by rw [fc]; simp)], fun r o hr ho => by simp (disch := first | omega | simp only [nx]; omega) only [hpl]; exact ho⟩
  | true =>
    rw [fc, hh1] at hm
    obtain ⟨nb, nd, o1, o2, wf⟩ := fold_c h1 p _ _ e (hb.mono (by omega) k1) (hd.mono (by omega) k1) hlb hld (fun _ => by
      have := fB_len e p p.deltas.length
      rw [show fB e p p.deltas.length = foldB e p by simp only [fB, foldB, List.take_length]] at this
      have := fits_of fc
      omega)
    obtain ⟨M, hM⟩ : ∃ M, M = foldM p e := ⟨_, rfl⟩
    have fm : FM M := by rw [hM]; exact fm_of fc hp
    rw [← hM] at o1 o2 wf
    obtain ⟨s1, s2⟩ := hand_rs (h := h1) o1 o2
    obtain ⟨x1, y1, ev1⟩ := s1.form
    obtain ⟨x2, y2, ev2⟩ := s2.form
    rw [ev1, ev2] at wf
    rw [ev1] at s1
    have nH := hand_next h1 M nb nd
    have kH : ∀ z, z < h1.next → (hand h1 M nb nd).get z = h1.get z := fun z hz => hand_old _ _ _ _ _ hz
    obtain ⟨H2, hH2⟩ : ∃ H2, H2 = hand h1 M nb nd := ⟨_, rfl⟩
    rw [← hH2] at wf s1 nH kH
    rw [hh1] at wf
    obtain ⟨g1, hg1⟩ : ∃ g1, g1 = H2.new (LR M (.slice x1 M.base.length y1) (.slice x2 M.deltas.length y2)) := ⟨_, rfl⟩
    have qg : g1.get H2.next = some (LR M (.slice x1 M.base.length y1) (.slice x2 M.deltas.length y2)) := by rw [hg1]; exact zQ
    have ng : g1.next = H2.next + 1 := by rw [hg1]; rfl
    have sg : RS g1 M.base (.slice x1 M.base.length y1) := s1.mono (by omega) (fun z hz => by rw [hg1]; exact zN (by omega))
    have oldg : ∀ z, z < h.next → g1.get z = h.get z := fun z hz => by rw [hg1, zN (by omega), kH z (by omega)]; exact k1 z hz
    have lo := fm.low
    have hi := fm.high
    have fu := fm.full
    have fp := fm.pos
    have lb := fm.base
    refine Wr <| Oa rfl Zx rfl <| Oa rfl za rfl <| On ?_
    refine W.seq <| Wr <| Oa rfl (zl (hv := by simp (disch := first | omega | simp only [nx]; omega) only [aLoad, ty28, rowOf, hpl, q0, rcl, Value.cells] <;> rfl)) rfl <| OSuf.callD rfl (by simp only [aopnds, lk] <;> rfl) en25 (hm) rfl <| Of rfl Zt rfl rfl <| On ?_
    refine Wn <| CWp.skip <| SQ.normal ?_
    refine Wr <| Oa rfl (zl (hv := by simp (disch := first | omega | simp only [nx]; omega) only [aLoad, ty28, rowOf, hpl, q0, rcl, Value.cells] <;> rfl)) rfl <| Oa rfl sm rfl <| OSuf.callD rfl (by simp only [aopnds, lk] <;> rfl) en8 (wf) rfl <| Oa rfl (so_alloc (by simp only [aAlloc, ty28] <;> rfl)) rfl <| Oa rfl (zs (hv := by simp (disch := first | omega | simp only [nx]; omega) only [aStore, ty28, writeRow, hpl, q0, rcl, Value.cells] <;> rfl)) rfl <| On ?_
    show CWp _ _ _ _ (H2.new (LR M (.slice x1 M.base.length y1) (.slice x2 M.deltas.length y2))) _
    rw [← hg1]
    refine CWp.known (L := [(1, U64 e), (4, .string ⟨#[]⟩), (5, P0 H2.next)]) ⟨(by simp only [lk] <;> rfl), (by simp only [lk] <;> rfl), (by simp only [lk] <;> rfl), trivial⟩ ?_
    simp only [mkA]
    have t1 : num M.low.length = num M.low.length := rfl
    have hl1 := num_le (n := M.low.length) (by omega)
    have hl2 := num_le (n := M.high.length) (by omega)
    have hl3 := num_le (n := M.full.toNat) (by omega)
    have hl4 := num_le (n := M.base.length) (by omega)
    have eF : (M.full.toNat : Int) = M.full := Int.toNat_of_nonneg fp
    have w1 := putt_c g1 [] M.low (by omega) (by simp)
    have w2 := putt_c g1 ([] ++ num M.low.length ++ M.low) M.high (by omega) (by simp; omega)
    have w3 := put_c g1 ([] ++ num M.low.length ++ M.low ++ num M.high.length ++ M.high) M.full.toNat (by omega) (by simp; omega)
    have w4 := put_c g1 ([] ++ num M.low.length ++ M.low ++ num M.high.length ++ M.high ++ num M.full.toNat) M.base.length (by omega) (by simp; omega)
    rw [eF] at w3
    have wl : IntKind.u64.wrap (M.base.length : Int) = (M.base.length : Int) := by
      simp only [IntKind.wrap, IntKind.bits, IntKind.signed]; simp; omega
    refine W.seq <| CWp.sqd tyOK mixed (ms := [0, 1, 3, 0, 8, 31, 63]) (by kernel_rfl) (
        .free rfl rfl (zf (hv := fa_ok (k := 0) ty28 rfl rfl ty9 rfl rfl)) rfl <| .read rfl rfl (zl (hv := by simp (disch := first | omega | simp only [nx]; omega) only [aLoad, ty9, rowOf, hpl, qg, rcl, Value.cells] <;> rfl)) (by first | rfl | (simp [veq, veq1, veqs]; done) | (simp [veq, veq1, veqs, splice]; done)) trivial rfl <| .call rfl rfl (fcallO (by simp only [aopnds, lk] <;> rfl) en41 (w1)) rfl ⟨.inl rfl, trivial⟩ rfl <| .free rfl rfl (zf (hv := fa_ok (k := 1) ty28 rfl rfl ty9 rfl rfl)) rfl <| .read rfl rfl (zl (hv := by simp (disch := first | omega | simp only [nx]; omega) only [aLoad, ty9, rowOf, hpl, qg, rcl, Value.cells] <;> rfl)) (by first | rfl | (simp [veq, veq1, veqs]; done) | (simp [veq, veq1, veqs, splice]; done)) ⟨.inr (zl (hv := by simp (disch := first | omega | simp only [nx]; omega) only [aLoad, ty9, rowOf, hpl, qg, rcl, Value.cells] <;> rfl)), trivial⟩ rfl <| .call rfl rfl (fcallO (by simp only [aopnds, lk] <;> rfl) en41 (w2)) rfl ⟨.inl rfl, .inl rfl, trivial⟩ rfl <| .free rfl rfl za rfl <| .nil) <| SQ.normal ?_
    refine W.seq <| CWp.sqd tyOK mixed (ms := [0, 0, 2, 7, 0, 16, 48, 112, 255, 511]) (by kernel_rfl) (
        .free rfl rfl sm rfl <| .free rfl rfl (zf (hv := fa_ok (k := 2) ty28 rfl rfl ty25 rfl rfl)) rfl <| .read rfl rfl (zl (hv := by simp (disch := first | omega | simp only [nx]; omega) only [aLoad, ty25, rowOf, hpl, qg, rcl, Value.cells] <;> rfl)) (by first | rfl | (simp [veq, veq1, veqs]; done) | (simp [veq, veq1, veqs, splice]; done)) trivial rfl <| .call rfl rfl (fcallO (by simp only [aopnds, lk] <;> rfl) en42 (w3)) rfl ⟨.inl rfl, trivial⟩ rfl <| .free rfl rfl (zf (hv := fa_ok (k := 3) ty28 rfl rfl ty26 rfl rfl)) rfl <| .read rfl rfl (zl (hv := by simp (disch := first | omega | simp only [nx]; omega) only [aLoad, ty26, rowOf, hpl, qg, rcl, Value.cells] <;> rfl)) (by first | rfl | (simp [veq, veq1, veqs]; done) | (simp [veq, veq1, veqs, splice]; done)) ⟨.inr (zl (hv := by simp (disch := first | omega | simp only [nx]; omega) only [aLoad, ty26, rowOf, hpl, qg, rcl, Value.cells] <;> rfl)), trivial⟩ rfl <| .read rfl rfl (Zn (hv := by simp (disch := first | omega | simp only [nx]; omega) only [aLenOf, ty26, hpl, qg, rcl, Value.cells, places, tb18] <;> rfl)) (by first | rfl | (simp [veq, veq1, veqs]; done) | (simp [veq, veq1, veqs, splice]; done)) ⟨.inr (Zn (hv := by simp (disch := first | omega | simp only [nx]; omega) only [aLenOf, ty26, hpl, qg, rcl, Value.cells, places, tb18] <;> rfl)), trivial⟩ rfl <| .read rfl (by kernel_rfl) (so_conw (so_conv tyOK (by simp only [lk] <;> rfl) ty3 ⟨_, rfl⟩ ty25 rfl) (by first | (simp only [wl] <;> rfl) | rfl)) (by first | rfl | (simp [veq, veq1, veqs]; done) | (simp [veq, veq1, veqs, splice]; done)) ⟨.inr (so_conw (so_conv tyOK (by simp only [lk] <;> rfl) ty3 ⟨_, rfl⟩ ty25 rfl) (by first | (simp only [wl] <;> rfl) | rfl)), trivial⟩ rfl <| .call rfl rfl (fcallO (by simp only [aopnds, lk] <;> rfl) en42 (w4)) rfl ⟨.inl rfl, .inl rfl, .inl rfl, .inl rfl, trivial⟩ rfl <| .free rfl rfl za rfl <| .nil) <| SQ.normal ?_
    refine W.seq <| Wr <| Oa rfl (zf (hv := fa_ok (k := 3) ty28 rfl rfl ty26 rfl rfl)) rfl <| Oa rfl (zl (hv := by simp (disch := first | omega | simp only [nx]; omega) only [aLoad, ty26, rowOf, hpl, qg, rcl, Value.cells] <;> rfl)) rfl <| Oa rfl (Zn (hv := by simp (disch := first | omega | simp only [nx]; omega) only [aLenOf, ty26, hpl, qg, rcl, Value.cells, places, tb18] <;> rfl)) rfl <| Oa rfl sm rfl <| On ?_
    refine W.cut (fun L g => (∀ z, z < h.next → g.get z = h.get z) ∧ L = [(6, encS (img M))]) (W.block (W.loop (fun m L g => ∃ i : Nat, m + i = M.base.length ∧ g1.next ≤ g.next ∧ (∀ z, z < g1.next → g.get z = g1.get z) ∧ L = [(6, encS ((M.base.take i).foldl imgR (img0 M))), (32, .slice x1 M.base.length y1), (33, I64 M.base.length), (34, I64 i)]) (n := M.base.length) ⟨0, rfl, Nat.le_refl _, fun _ _ => rfl, rfl⟩ ?_ ?_)) ?_
    · simp [HasA, Tr.get_put, img0]
    · rintro m L g ⟨i, hm, gn, gk, rfl⟩
      simp only [mkA]
      have w2 : IntKind.i64.wrap ((i : Int) + 1) = ((i + 1 : Nat) : Int) := by rw [wrap_i64 (by omega) (by omega)]; omega
      by_cases hi : (i : Int) < (M.base.length : Int)
      · obtain ⟨x, hx⟩ : ∃ x, M.base[i]? = some x := ⟨M.base[i]'(by omega), by simp⟩
        obtain ⟨_, r, off, eb2, hr1, hr2⟩ := RS.at_ sg hx
        have hc1 : (0 ≤ (i : Int) ∧ (i : Int) < (M.base.length : Int)) := by omega
        have fx := fm.recs x (List.mem_of_getElem? hx)
        have f1 := fx.key
        have f2 := fx.val
        have f3 := fx.pos
        have f4 := fx.lsn
        subst eb2
        obtain ⟨S, hS⟩ : ∃ S, S = (M.base.take i).foldl imgR (img0 M) := ⟨_, rfl⟩
        have lS : S.length ≤ 6500 := by
          have h1 := imgs_len (s := img0 M) (M.base.take i) (fun r hr => fm.recs r (List.mem_of_mem_take hr))
          have h2 := img0_len fm
          rw [List.length_take] at h1
          rw [hS]; omega
        have k1 := num_le (n := x.key.length) (by omega)
        have k2 := num_le (n := x.lsn.toNat) (by omega)
        have k3 := num_le (n := delN x) (by simp only [delN]; split <;> omega)
        have eL : (x.lsn.toNat : Int) = x.lsn := Int.toNat_of_nonneg (by omega)
        obtain ⟨G, hG⟩ : ∃ G, G = g.new (.cells x.cs 1) := ⟨_, rfl⟩
        have v1 := putt_c G S x.key (by omega) (by omega)
        have v2 := put_c G (S ++ num x.key.length ++ x.key) x.lsn.toNat (by omega) (by simp; omega)
        have v3 := put_c G (S ++ num x.key.length ++ x.key ++ num x.lsn.toNat) (delN x) (by simp only [delN]; split <;> omega) (by simp; omega)
        have v4 := putt_c G (S ++ num x.key.length ++ x.key ++ num x.lsn.toNat ++ num (delN x)) x.val (by omega) (by simp; omega)
        rw [eL] at v2
        rw [hG] at v1 v2 v3 v4
        rw [← hS]
        have hn := img_step (s := img0 M) hx
        rw [← hS] at hn
        cases dl : x.del with
        | true =>
          have ed : delN x = 1 := by simp [delN, dl]
          rw [ed] at v3 v4
          refine Wr <| Ot rfl (zb (hv := bi_lss)) rfl (by first | rfl | assumption | ((simp only [bl, hc1, rcl, sb, Rec.cs, Value.cells, places, tb18]) <;> first | done | assumption | omega) | (simp; done) | (simp; omega)) <| On ?_
          refine W.seq <| Wy <| CWp.skip <| SQ.normal ?_
          refine W.seq <| W.block <| Wr <| Oa rfl (zi (hv := by simp (disch := first | omega | simp only [nx]; omega) only [aIndexAddr, ty26, ty33, hpl, hc1, rcl, sb, Rec.cs, Value.cells, places, tb18] <;> rfl)) rfl <| Oa rfl (zl (hv := (hr2 _ (gk _ hr1)).1 _ _ ty33 rfl rfl)) rfl <| Oa rfl (so_alloc (by simp only [aAlloc, ty33] <;> rfl)) rfl <| Oa rfl (zs (hv := by simp (disch := first | omega | simp only [nx]; omega) only [aStore, ty33, writeRow, hpl, hc1, rcl, sb, Rec.cs, Value.cells] <;> rfl)) rfl <| On ?_
          refine Wr <| Oa rfl za rfl <| On ?_
          refine W.seq <| Wr <| Oa rfl (zf (hv := fa_ok (k := 2) ty33 rfl rfl ty4 rfl rfl)) rfl <| Ot rfl (zl (hv := by simp (disch := first | omega | simp only [nx]; omega) only [aLoad, ty4, rowOf, hpl, hc1, rcl, sb, Rec.cs, Value.cells] <;> rfl)) rfl (dl) <| On ?_
          refine Wy <| W.reg <| Oa rfl za rfl <| On ?_
          refine CWp.sqd tyOK mixed (ms := [0, 0, 2, 7, 0, 16, 63, 0, 255, 0, 512, 2047, 4095]) (by kernel_rfl) (
              .free rfl rfl sm rfl <| .free rfl rfl (zf (hv := fa_ok (k := 0) ty33 rfl rfl ty9 rfl rfl)) rfl <| .read rfl rfl (zl (hv := by simp (disch := first | omega | simp only [nx]; omega) only [aLoad, ty9, rowOf, hpl, hc1, rcl, sb, Rec.cs, Value.cells] <;> rfl)) (by first | rfl | (simp [veq, veq1, veqs]; done) | (simp [veq, veq1, veqs, splice]; done)) trivial rfl <| .call rfl rfl (fcallO (by simp only [aopnds, lk] <;> rfl) en41 (v1)) rfl ⟨.inl rfl, trivial⟩ rfl <| .free rfl rfl (zf (hv := fa_ok (k := 1) ty33 rfl rfl ty25 rfl rfl)) rfl <| .read rfl rfl (zl (hv := by simp (disch := first | omega | simp only [nx]; omega) only [aLoad, ty25, rowOf, hpl, hc1, rcl, sb, Rec.cs, Value.cells] <;> rfl)) (by first | rfl | (simp [veq, veq1, veqs]; done) | (simp [veq, veq1, veqs, splice]; done)) ⟨.inr (zl (hv := by simp (disch := first | omega | simp only [nx]; omega) only [aLoad, ty25, rowOf, hpl, hc1, rcl, sb, Rec.cs, Value.cells] <;> rfl)), trivial⟩ rfl <| .call rfl rfl (fcallO (by simp only [aopnds, lk] <;> rfl) en42 (v2)) rfl ⟨.inl rfl, .inl rfl, trivial⟩ rfl <| .free rfl rfl sm rfl <| .call rfl rfl (fcallO (by simp only [aopnds, lk] <;> rfl) en42 (v3)) rfl ⟨.inl rfl, .inl rfl, trivial⟩ rfl <| .free rfl rfl (zf (hv := fa_ok (k := 3) ty33 rfl rfl ty9 rfl rfl)) rfl <| .read rfl rfl (zl (hv := by simp (disch := first | omega | simp only [nx]; omega) only [aLoad, ty9, rowOf, hpl, hc1, rcl, sb, Rec.cs, Value.cells] <;> rfl)) (by first | rfl | (simp [veq, veq1, veqs]; done) | (simp [veq, veq1, veqs, splice]; done)) ⟨.inr (zl (hv := by simp (disch := first | omega | simp only [nx]; omega) only [aLoad, ty9, rowOf, hpl, hc1, rcl, sb, Rec.cs, Value.cells] <;> rfl)), .inr (zl (hv := by simp (disch := first | omega | simp only [nx]; omega) only [aLoad, ty9, rowOf, hpl, hc1, rcl, sb, Rec.cs, Value.cells] <;> rfl)), .inr (zl (hv := by simp (disch := first | omega | simp only [nx]; omega) only [aLoad, ty9, rowOf, hpl, hc1, rcl, sb, Rec.cs, Value.cells] <;> rfl)), trivial⟩ rfl <| .call rfl rfl (fcallO (by simp only [aopnds, lk] <;> rfl) en41 (v4)) rfl ⟨.inl rfl, .inl rfl, .inl rfl, trivial⟩ rfl <| .free rfl rfl za rfl <| .nil) <| BQ.normal <| SQ.normal ?_
          refine W.reg <| Oa rfl (zb (hv := bi_w bi_add (by first | (simp only [w2] <;> rfl) | rfl))) rfl <| Oa rfl sm rfl <| OSuf.nil <| ?_
          refine LQ.normal (m := m - 1) (L := [(6, encS (imgR S x)), (32, .slice (some ⟨r, off, none⟩) M.base.length y1), (33, I64 M.base.length), (34, I64 ((i + 1 : Nat) : Int))]) (by omega) ?_ ⟨i + 1, by omega, by simp only [nx]; omega, fun z hz => by simp (disch := first | omega | simp only [nx]; omega) only [hpl]; exact gk z hz, by rw [hn]⟩
          simp only [HasA, Tr.get_put, Nat.reduceEqDiff, reduceIte, w2, imgR, ed, and_self]
        | false =>
          have ed : delN x = 0 := by simp [delN, dl]
          rw [ed] at v3 v4
          refine Wr <| Ot rfl (zb (hv := bi_lss)) rfl (by first | rfl | assumption | ((simp only [bl, hc1, rcl, sb, Rec.cs, Value.cells, places, tb18]) <;> first | done | assumption | omega) | (simp; done) | (simp; omega)) <| On ?_
          refine W.seq <| Wy <| CWp.skip <| SQ.normal ?_
          refine W.seq <| W.block <| Wr <| Oa rfl (zi (hv := by simp (disch := first | omega | simp only [nx]; omega) only [aIndexAddr, ty26, ty33, hpl, hc1, rcl, sb, Rec.cs, Value.cells, places, tb18] <;> rfl)) rfl <| Oa rfl (zl (hv := (hr2 _ (gk _ hr1)).1 _ _ ty33 rfl rfl)) rfl <| Oa rfl (so_alloc (by simp only [aAlloc, ty33] <;> rfl)) rfl <| Oa rfl (zs (hv := by simp (disch := first | omega | simp only [nx]; omega) only [aStore, ty33, writeRow, hpl, hc1, rcl, sb, Rec.cs, Value.cells] <;> rfl)) rfl <| On ?_
          refine Wr <| Oa rfl za rfl <| On ?_
          refine W.seq <| Wr <| Oa rfl (zf (hv := fa_ok (k := 2) ty33 rfl rfl ty4 rfl rfl)) rfl <| Of rfl (zl (hv := by simp (disch := first | omega | simp only [nx]; omega) only [aLoad, ty4, rowOf, hpl, hc1, rcl, sb, Rec.cs, Value.cells] <;> rfl)) rfl (dl) <| On ?_
          refine Wn <| CWp.skip <| SQ.normal ?_
          refine CWp.sqd tyOK mixed (ms := [0, 0, 2, 7, 0, 16, 63, 0, 255, 0, 512, 2047, 4095]) (by kernel_rfl) (
              .free rfl rfl sm rfl <| .free rfl rfl (zf (hv := fa_ok (k := 0) ty33 rfl rfl ty9 rfl rfl)) rfl <| .read rfl rfl (zl (hv := by simp (disch := first | omega | simp only [nx]; omega) only [aLoad, ty9, rowOf, hpl, hc1, rcl, sb, Rec.cs, Value.cells] <;> rfl)) (by first | rfl | (simp [veq, veq1, veqs]; done) | (simp [veq, veq1, veqs, splice]; done)) trivial rfl <| .call rfl rfl (fcallO (by simp only [aopnds, lk] <;> rfl) en41 (v1)) rfl ⟨.inl rfl, trivial⟩ rfl <| .free rfl rfl (zf (hv := fa_ok (k := 1) ty33 rfl rfl ty25 rfl rfl)) rfl <| .read rfl rfl (zl (hv := by simp (disch := first | omega | simp only [nx]; omega) only [aLoad, ty25, rowOf, hpl, hc1, rcl, sb, Rec.cs, Value.cells] <;> rfl)) (by first | rfl | (simp [veq, veq1, veqs]; done) | (simp [veq, veq1, veqs, splice]; done)) ⟨.inr (zl (hv := by simp (disch := first | omega | simp only [nx]; omega) only [aLoad, ty25, rowOf, hpl, hc1, rcl, sb, Rec.cs, Value.cells] <;> rfl)), trivial⟩ rfl <| .call rfl rfl (fcallO (by simp only [aopnds, lk] <;> rfl) en42 (v2)) rfl ⟨.inl rfl, .inl rfl, trivial⟩ rfl <| .free rfl rfl sm rfl <| .call rfl rfl (fcallO (by simp only [aopnds, lk] <;> rfl) en42 (v3)) rfl ⟨.inl rfl, .inl rfl, trivial⟩ rfl <| .free rfl rfl (zf (hv := fa_ok (k := 3) ty33 rfl rfl ty9 rfl rfl)) rfl <| .read rfl rfl (zl (hv := by simp (disch := first | omega | simp only [nx]; omega) only [aLoad, ty9, rowOf, hpl, hc1, rcl, sb, Rec.cs, Value.cells] <;> rfl)) (by first | rfl | (simp [veq, veq1, veqs]; done) | (simp [veq, veq1, veqs, splice]; done)) ⟨.inr (zl (hv := by simp (disch := first | omega | simp only [nx]; omega) only [aLoad, ty9, rowOf, hpl, hc1, rcl, sb, Rec.cs, Value.cells] <;> rfl)), .inr (zl (hv := by simp (disch := first | omega | simp only [nx]; omega) only [aLoad, ty9, rowOf, hpl, hc1, rcl, sb, Rec.cs, Value.cells] <;> rfl)), .inr (zl (hv := by simp (disch := first | omega | simp only [nx]; omega) only [aLoad, ty9, rowOf, hpl, hc1, rcl, sb, Rec.cs, Value.cells] <;> rfl)), trivial⟩ rfl <| .call rfl rfl (fcallO (by simp only [aopnds, lk] <;> rfl) en41 (v4)) rfl ⟨.inl rfl, .inl rfl, .inl rfl, trivial⟩ rfl <| .free rfl rfl za rfl <| .nil) <| BQ.normal <| SQ.normal ?_
          refine W.reg <| Oa rfl (zb (hv := bi_w bi_add (by first | (simp only [w2] <;> rfl) | rfl))) rfl <| Oa rfl sm rfl <| OSuf.nil <| ?_
          refine LQ.normal (m := m - 1) (L := [(6, encS (imgR S x)), (32, .slice (some ⟨r, off, none⟩) M.base.length y1), (33, I64 M.base.length), (34, I64 ((i + 1 : Nat) : Int))]) (by omega) ?_ ⟨i + 1, by omega, by simp only [nx]; omega, fun z hz => by simp (disch := first | omega | simp only [nx]; omega) only [hpl]; exact gk z hz, by rw [hn]⟩
          simp only [HasA, Tr.get_put, Nat.reduceEqDiff, reduceIte, w2, imgR, ed, and_self]
      · refine Wr <| Ofb rfl (zb (hv := bi_lss)) rfl <| On ?_
        refine W.seq <| Wn <| CWp.exit <| SQ.exit <| LQ.exit <| BQ.exit <| ?_
        refine NQ.normal (L := [(6, encS (img M))]) ?_ ⟨fun z hz => by rw [gk z (by omega)]; exact oldg z hz, rfl⟩
        have : M.base.take i = M.base := List.take_of_length_le (by omega)
        simp only [HasA, Tr.get_put, Nat.reduceEqDiff, reduceIte, this, img, and_self]
    rintro L a' g ha ⟨gk, rfl⟩
    refine SQ.normal <| CWp.known ha ?_
    simp only [mkA]
    refine Wr <| Oa rfl sm rfl <| Oa rfl za rfl <| On ?_
    refine CWp.ret <| FQ.ret (by simp only [aRet, Try.f18, aResults, aResult, lk, Nat.reduceEqDiff, reduceIte] <;> rfl) ?_
    exact ⟨by rw [imgM, if_pos fc, ← hM], fun r o hr ho => by rw [gk r hr]; exact ho⟩
end Go.Proofs.Ytebheelmgcggmaa
