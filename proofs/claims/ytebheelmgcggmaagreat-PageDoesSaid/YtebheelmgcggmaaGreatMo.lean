/-
  Merged: RgA, RgB, RgC, RgD.
-/
import Derived.Test.YtebheelmgcggmaaGreatMk
import Derived.Test.YtebheelmgcggmaaGreatMj
set_option linter.unusedSimpArgs false
set_option linter.unusedVariables false
set_option maxRecDepth 10000
set_option maxHeartbeats 8000000
namespace Go.Proofs.YtebheelmgcggmaaGreat
open Go.Ab Go.Sort
def HC (f : FuncId) (args : List Value) (M : Lf) (h : AHeap) : Prop := ∃ nb nd, (nb = true → M.base = []) ∧ (nd = true → M.deltas = []) ∧ FWp Tryz.prog f args h fun u g => u = LV M (cval nb h.next M.base) (cval nd (h.next + 1) M.deltas) ∧ g = hand h M nb nd
theorem sv_fs {h : AHeap} {lo : Nat} {l : List Rec} {v : Value} (s : SV h 4 lo (fl l) v) : FS h lo l (nilV v) v (svRow v) ∧ (nilV v = true → l = []) := by
  generalize hvs : fl l = vs at s
  cases s with
  | nil => exact ⟨.nil (fl_nil.1 hvs), fun _ => fl_nil.1 hvs⟩
  | @some y n vs h1 h2 h3 h4 h5 =>
    subst hvs
    rw [fl_length] at h1
    exact ⟨.some (rest := []) xA h2 h3 (by rw [List.append_nil]; exact h4) (.inl rfl), fun e => by cases e⟩
theorem hc_of {f : FuncId} {args : List Value} {h : AHeap} {M : Lf} {nb nd : Bool} (h1 : nb = true → M.base = []) (h2 : nd = true → M.deltas = []) {K0 : Value → AHeap → Prop} (hf : FWp Tryz.prog f args h K0)
    (hk : ∀ u h', K0 u h' → ∃ bv dv x y, u = LV M bv dv ∧ FS h' h.next M.base nb bv x ∧ FS h' h.next M.deltas nd dv y ∧ (∀ r, x = some r → y ≠ some r) ∧ ∀ z, z < h.next → h'.get z = h.get z) : HC f args M h :=
  ⟨nb, nd, h1, h2, gcL hf hk⟩
theorem sv_fs' {h : AHeap} {lo : Nat} {l : List Rec} {v : Value} (s : SV h 4 lo (fl l) v) : FS h lo l (decide (l = [])) v (svRow v) := by
  by_cases e : l = []
  · have := s.empty (fl_nil.2 e)
    subst this
    rw [decide_eq_true e]; exact .nil e
  · obtain ⟨f, g⟩ := sv_fs s
    rw [decide_eq_false e]
    have : nilV v = false := by
      cases hn : nilV v with
      | false => rfl
      | true => exact (e (g hn)).elim
    rw [this] at f; exact f
theorem own0_x (h : AHeap) (p : Lf) (bv dv : Value) (hb : RS h p.base bv) (hd : RS h p.deltas dv) (hlb : p.base.length ≤ 1000000) (hld : p.deltas.length ≤ 1000000) :
    FWp Tryz.prog 43 [LV p bv dv] h fun u g => u = LV p (cval (decide (p.base = [])) h.next p.base) (cval (decide (p.deltas = [])) (h.next + 1) p.deltas) ∧ g = hand h p (decide (p.base = [])) (decide (p.deltas = [])) := by
  obtain ⟨b1, c1, rfl⟩ := hb.form
  obtain ⟨b2, c2, rfl⟩ := hd.form
  obtain ⟨h2, hh2⟩ : ∃ h2, h2 = (h.new (.cells (lcs p (.slice b1 p.base.length c1) (.slice b2 p.deltas.length c2)) 1)).new (.cells zlf 1) := ⟨_, rfl⟩
  have e2 : h2.next = h.next + 2 := by rw [hh2]; rfl
  have k2 : ∀ z, z < h.next → h2.get z = h.get z := fun z hz => by rw [hh2]; simp (disch := first | omega | simp only [nx]; omega) only [hpl]
  have q0 : h2.get h.next = some (.cells (lcs p (.slice b1 p.base.length c1) (.slice b2 p.deltas.length c2)) 1) := by rw [hh2]; simp (disch := first | omega | simp only [nx]; omega) only [hpl]
  have q1 : h2.get (h.next + 1) = some (.cells zlf 1) := by rw [hh2]; simp (disch := first | omega | simp only [nx]; omega) only [hpl]
  have r1 := recs0_c h2 p.base _ (hb.mono xA k2) hlb
  have s1 := rval_sv h2 p.base
  have n1 := rheap_next h2 p.base
  have k1 := rheap_old h2 p.base
  obtain ⟨x1, ev1⟩ := sv_form s1
  rw [ev1] at r1 s1
  obtain ⟨H3, hH3⟩ : ∃ H3, H3 = rheap h2 p.base := ⟨_, rfl⟩
  rw [← hH3] at r1 s1 n1 k1
  have p0 : H3.get h.next = some (.cells (lcs p (.slice b1 p.base.length c1) (.slice b2 p.deltas.length c2)) 1) := by rw [k1 _ xA]; exact q0
  obtain ⟨H4, hH4⟩ : ∃ H4, H4 = H3.set h.next (.cells (lcs p (.slice x1 p.base.length 0) (.slice b2 p.deltas.length c2)) 1) := ⟨_, rfl⟩
  have n4 : H4.next = H3.next := by rw [hH4]; rfl
  have k4 : ∀ z, ¬ z = h.next → H4.get z = H3.get z := fun z hz => by rw [hH4]; exact zS xA
  have r2 := recs0_c H4 p.deltas _ (hd.mono xA (fun z hz => by rw [k4 z xA, k1 z xA, k2 z hz])) hld
  have s2 := rval_sv H4 p.deltas
  have n2 := rheap_next H4 p.deltas
  have kk2 := rheap_old H4 p.deltas
  obtain ⟨x2, ev2⟩ := sv_form s2
  rw [ev2] at r2 s2
  obtain ⟨H5, hH5⟩ : ∃ H5, H5 = rheap H4 p.deltas := ⟨_, rfl⟩
  rw [← hH5] at r2 s2 n2 kk2
  have p4 : H4.get h.next = some (.cells (lcs p (.slice x1 p.base.length 0) (.slice b2 p.deltas.length c2)) 1) := by rw [hH4]; exact zP
  have p5 : H5.get h.next = some (.cells (lcs p (.slice x1 p.base.length 0) (.slice b2 p.deltas.length c2)) 1) := by rw [kk2 _ xA]; exact p4
  have z5 : H5.get (h.next + 1) = some (.cells zlf 1) := by rw [kk2 _ xA, k4 _ xA, k1 _ xA]; exact q1
  have s1' : SV H5 4 h2.next (fl p.base) (.slice x1 p.base.length 0) := (s1.mono (h' := H4) xA (fun z hz he => k4 z (by have := s1.row he; omega))).mono xA (fun z hz _ => kk2 z hz)
  have f1 := sv_fs' s1'
  have f2 := sv_fs' s2
  refine gcL (K0 := fun u g => u = LV p (.slice x1 p.base.length 0) (.slice x2 p.deltas.length 0) ∧ H5.next ≤ g.next ∧ ∀ z, z < H5.next → ¬ z = h.next → ¬ z = h.next + 1 → g.get z = H5.get z) ?_ ?_
  · rw [hH4] at r2
    refine W.enter tyOK Tryz.func43 rfl rfl ?_
    simp only [entry]
    have jY := ty25
    refine Wr <| ja Zx <| ja Jo <| On ?_
    have jY := An @q0 <| An @p0 <| An @p4 <| An @p5 <| An @z5 <| An @rcl <| An ty23 <| ty25
    refine Wr <| ja J25f3 <| ja Jl <| jk (Jc en44 ((by rw [hh2] at r1; exact r1))) rfl <| ja J25f3 <| jc Js <| On ?_
    refine Wr <| ja J25f4 <| ja Jl <| jk (Jc en44 (r2)) rfl <| ja J25f4 <| jc Js <| On ?_
    refine Wr <| ja Jl <| jc Js <| On ?_
    refine CWp.ret <| Jr ?_
    exact ⟨rfl, by simp only [nx]; omega, fun z h1 h2 h3 => by simp (disch := first | omega | simp only [nx]; omega) only [hpl]⟩
  · rintro u g ⟨rfl, hn, hg⟩
    have lo1 : ∀ r, svRow (.slice x1 p.base.length 0) = some r → h2.next ≤ r ∧ r < H3.next := fun r hr => by have := s1.row hr; omega
    have lo2 : ∀ r, svRow (.slice x2 p.deltas.length 0) = some r → H4.next ≤ r ∧ r < H5.next := fun r hr => by have := s2.row hr; omega
    exact ⟨_, _, _, _, rfl, f1.keep xA hn (fun r hr hr2 => hg r hr2 (by have := lo1 r hr; omega) (by have := lo1 r hr; omega)), f2.keep xA hn (fun r hr hr2 => hg r hr2 (by have := lo2 r hr; omega) (by have := lo2 r hr; omega)), fun r hr hr2 => by have := lo1 r hr; have := lo2 r hr2; omega, fun z hz => by rw [hg z xA xA xA, kk2 _ xA, k4 _ xA, k1 _ xA, k2 _ hz]⟩
theorem own0_c (h : AHeap) (p : Lf) (bv dv : Value) (hb : RS h p.base bv) (hd : RS h p.deltas dv) (hlb : p.base.length ≤ 1000000) (hld : p.deltas.length ≤ 1000000) : HC 43 [LV p bv dv] p h :=
  ⟨_, _, of_decide_eq_true, of_decide_eq_true, own0_x h p bv dv hb hd hlb hld⟩
def HK (h : AHeap) (M : Lf) (u : Value) (g : AHeap) : Prop := ∃ bv dv x y, u = LV M bv dv ∧ FS g h.next M.base (decide (M.base = [])) bv x ∧ FS g h.next M.deltas (decide (M.deltas = [])) dv y ∧ (∀ r, x = some r → y ≠ some r) ∧ ∀ z, z < h.next → g.get z = h.get z
theorem hc_k {f : FuncId} {args : List Value} {h : AHeap} {M : Lf} (hf : FWp Tryz.prog f args h (HK h M)) : HC f args M h := hc_of of_decide_eq_true of_decide_eq_true hf fun _ _ h => h
end Go.Proofs.YtebheelmgcggmaaGreat
namespace Go.Proofs.YtebheelmgcggmaaGreat
open Go.Ab Go.Sort
theorem hand_fs {h : AHeap} {p : Lf} {nb nd : Bool} (h1 : nb = true → p.base = []) (h2 : nd = true → p.deltas = []) : FS (hand h p nb nd) h.next p.base nb (cval nb h.next p.base) (bif nb then none else some h.next) ∧ FS (hand h p nb nd) h.next p.deltas nd (cval nd (h.next + 1) p.deltas) (bif nd then none else some (h.next + 1)) := by
  have hn := hand_next h p nb nd
  constructor
  · cases nb
    · exact .some (rest := []) rfl (Nat.le_refl _) xA (by rw [List.append_nil, hand, cadd_get _ _ _ _ (by rw [cadd_next]; omega)]; exact zQ) (.inl rfl)
    · exact .nil (h1 rfl)
  · cases nd
    · refine .some (rest := []) rfl xA xA ?_ (.inl rfl)
      rw [List.append_nil, hand, ← cadd_next nb h p.base]
      exact zQ
    · exact .nil (h2 rfl)
def Cap0 (l : List Rec) (v : Value) : Prop := l ≠ [] → ∃ b, v = .slice b l.length 0
theorem sl_hi {h : AHeap} {t elem : TypeId} {ti ei : TI} {r off n m : Nat} (ht : T.get t = some ti) (hu : ti.und = .slice elem) (he : T.get elem = some ei) (hm : m ≤ n) : aSlice T t (.slice (some ⟨r, off, none⟩) n 0) none (some (I64 m)) none h = some (.slice (some ⟨r, off, none⟩) m 0) := by
  simp only [aSlice, ht, hu, he, bounds_hi hm]; rfl
theorem filter_take {l : List Rec} {i : Nat} {e : Int} (hr : l.Pairwise fun a b => ltL a b = true) (h1 : ∀ j x, j < i → l[j]? = some x → x.lsn ≤ e) (h2 : ∀ x, l[i]? = some x → e < x.lsn) : (l.filter fun r => decide (r.lsn ≤ e)) = l.take i := by
  have e0 := List.take_append_drop i l
  conv => lhs; rw [← e0]
  rw [List.filter_append, List.filter_eq_self.2, List.filter_eq_nil_iff.2, List.append_nil]
  · intro x hx
    cases hi : l[i]? with
    | none =>
      rw [List.drop_of_length_le xY] at hx
      cases hx
    | some y =>
      have := h2 y hi
      rw [drop_cons' hi] at hx
      rcases List.mem_cons.1 hx with rfl | hx
      · simp; omega
      · have := rise_drop hr hi x hx
        simp; omega
  · intro x hx
    obtain ⟨j, hj, rfl⟩ := List.mem_iff_getElem.1 hx
    rw [List.length_take] at hj
    have := h1 j (l[j]'xA) xA xI
    rw [List.getElem_take]
    simpa using this
theorem first_gt (e : Int) : ∀ l : List Rec, (∀ x ∈ l, x.lsn ≤ e) ∨ ∃ (i : Nat) (x : Rec), l[i]? = some x ∧ e < x.lsn ∧ ∀ (j : Nat) (y : Rec), j < i → l[j]? = some y → y.lsn ≤ e
  | [] => .inl xI
  | a :: l => by
    by_cases ha : a.lsn ≤ e
    · rcases first_gt e l with h | ⟨i, x, h1, h2, h3⟩
      · exact .inl fun x hx => (List.mem_cons.1 hx).elim (fun h => h ▸ ha) (h x)
      · refine .inr ⟨i + 1, x, by simpa using h1, h2, fun j y hj hy => ?_⟩
        cases j with
        | zero =>
          have : a = y := by simpa using hy
          rw [← this]; exact ha
        | succ j => exact h3 j y xA (by simpa using hy)
    · exact .inr ⟨0, a, rfl, by omega, by omega⟩
theorem reset0_c (h : AHeap) (p : Lf) (bv dv : Value) (e : Int) (hb : RS h p.base bv) (hd : RS h p.deltas dv) (hlb : p.base.length ≤ 1000000) (hld : p.deltas.length ≤ 1000000) (lb : LB p) (hcap : Cap0 p.deltas dv) :
    HC 22 [LV p bv dv, U64 e] (resetM p e) h := by
  have tb22 := And.intro ty22 (And.intro ty23 (And.intro ty25 (ty27)))
  obtain ⟨b1, c1, rfl⟩ := hb.form
  obtain ⟨b2, c2, rfl⟩ := hd.form
  obtain ⟨h2, hh2⟩ : ∃ h2, h2 = (h.new (.cells (lcs p (.slice b1 p.base.length c1) (.slice b2 p.deltas.length c2)) 1)).new (.cells zlf 1) := ⟨_, rfl⟩
  have e2 : h2.next = h.next + 2 := by rw [hh2]; rfl
  have k2 : ∀ z, z < h.next → h2.get z = h.get z := fun z hz => by rw [hh2]; simp (disch := first | omega | simp only [nx]; omega) only [hpl]
  have q0 : h2.get h.next = some (.cells (lcs p (.slice b1 p.base.length c1) (.slice b2 p.deltas.length c2)) 1) := by rw [hh2]; simp (disch := first | omega | simp only [nx]; omega) only [hpl]
  have q1 : h2.get (h.next + 1) = some (.cells zlf 1) := by rw [hh2]; simp (disch := first | omega | simp only [nx]; omega) only [hpl]
  obtain ⟨nb, nd, o1, o2, wo⟩ := own0_c h2 p _ _ (hb.mono xA k2) (hd.mono xA k2) hlb hld
  obtain ⟨f1, f2⟩ := hand_fs (h := h2) o1 o2
  obtain ⟨s1, s2⟩ := hand_rs (h := h2) o1 o2
  obtain ⟨x1, y1, ev1⟩ := s1.form
  obtain ⟨x2, y2, ev2⟩ := s2.form
  rw [ev1] at f1
  rw [ev2] at f2
  rw [ev1, ev2] at wo
  have nH := hand_next h2 p nb nd
  have kH : ∀ z, z < h2.next → (hand h2 p nb nd).get z = h2.get z := fun z hz => hand_old _ _ _ _ _ hz
  obtain ⟨H3, hH3⟩ : ∃ H3, H3 = hand h2 p nb nd := ⟨_, rfl⟩
  rw [← hH3] at wo f1 f2 nH kH
  have p0 : H3.get h.next = some (.cells (lcs p (.slice b1 p.base.length c1) (.slice b2 p.deltas.length c2)) 1) := by rw [kH _ xA]; exact q0
  have p1 : H3.get (h.next + 1) = some (.cells zlf 1) := by rw [kH _ xA]; exact q1
  have old : ∀ z, z < h.next → H3.get z = h.get z := fun z hz => by rw [kH _ xA]; exact k2 z hz
  obtain ⟨H4, hH4⟩ : ∃ H4, H4 = H3.new (LR p (.slice x1 p.base.length y1) (.slice x2 p.deltas.length y2)) := ⟨_, rfl⟩
  have n4 : H4.next = h.next + 5 := by rw [hH4]; simp; omega
  have k4 : ∀ z, z < H3.next → H4.get z = H3.get z := fun z hz => by rw [hH4]; exact zN xA
  have p4 : H4.get h.next = some (.cells (lcs p (.slice b1 p.base.length c1) (.slice b2 p.deltas.length c2)) 1) := by rw [k4 _ xA]; exact p0
  have p5 : H4.get (h.next + 1) = some (.cells zlf 1) := by rw [k4 _ xA]; exact p1
  have p6 : H4.get (h.next + 4) = some (LR p (.slice x1 p.base.length y1) (.slice x2 p.deltas.length y2)) := by
    have : h.next + 4 = H3.next := by omega
    rw [this, hH4]; exact zQ
  have old4 : ∀ z, z < h.next → H4.get z = h.get z := fun z hz => by rw [k4 _ xA]; exact old z hz
  have hck := check0_c H4 p _ _ (hb.mono xA old4) (hd.mono xA old4) hlb hld lb
  have sep : ∀ r, (bif nb then none else some h2.next) = some r → (bif nd then none else some (h2.next + 1)) ≠ some r := fun r hr hr2 => by
    cases nb <;> cases nd <;> simp at hr hr2 <;> omega
  have kp : ∀ {g : AHeap}, H4.next ≤ g.next → (∀ z, z < H4.next → ¬ z = h.next + 1 → g.get z = H4.get z) → FS g h.next p.base nb (.slice x1 p.base.length y1) (bif nb then none else some h2.next) ∧ FS g h.next p.deltas nd (.slice x2 p.deltas.length y2) (bif nd then none else some (h2.next + 1)) := fun {g} gn gk =>
    ⟨f1.keep xA xA (fun r hr hr2 => by have := f1.lo hr; rw [gk r xA xA, k4 r hr2]), f2.keep xA xA (fun r hr hr2 => by have := f2.lo hr; rw [gk r xA xA, k4 r hr2])⟩
  have none_c : (chk p = false ∨ (chk p = true ∧ ∀ x ∈ p.deltas, x.lsn ≤ e)) → HC 22 [LV p (.slice b1 p.base.length c1) (.slice b2 p.deltas.length c2), U64 e] p h := fun hno => by
    refine hc_of o1 o2 (K0 := fun u g => u = LV p (.slice x1 p.base.length y1) (.slice x2 p.deltas.length y2) ∧ H4.next ≤ g.next ∧ ∀ z, z < H4.next → ¬ z = h.next + 1 → g.get z = H4.get z) ?_ ?_
    · refine W.enter tyOK Tryz.func22 rfl rfl ?_
      simp only [entry]
      have jY := ty25
      refine Wr <| ja Zx <| ja Jo <| On ?_
      have jY := An @p0 <| An @p1 <| An @rcl <| ty25
      refine Wr <| ja Jl <| jk (Jc en43 (xU)) rfl <| ja Jo <| jc Js <| On ?_
      refine W.seq <| Wr <| ja za <| On ?_
      refine W.cut (fun L g => H4 = g ∧ L = [(4, P0 (h.next + 1)), (5, P0 (h.next + 4))]) (W.block (W.loop (fun m L g => ∃ i : Nat, m + i = p.deltas.length ∧ H4 = g ∧ L = [(1, U64 e), (2, P0 h.next), (4, P0 (h.next + 1)), (5, P0 (h.next + 4)), (6, I64 i)]) (n := p.deltas.length) ⟨0, rfl, hH4, rfl⟩ ?_ ?_)) ?_
      · have : h.next + 4 = H3.next := by omega
        simp [HasA, Tr.get_put, this]
      · rintro m L g ⟨i, hm, rfl, rfl⟩
        simp only [mkA]
        have w2 : IntKind.i64.wrap ((i : Int) + 1) = ((i + 1 : Nat) : Int) := by rw [wrap_i64 xA xA]; omega
        by_cases hi : (i : Int) < (p.deltas.length : Int)
        · obtain ⟨x, hx⟩ : ∃ x, p.deltas[i]? = some x := ⟨p.deltas[i]'xA, by simp⟩
          obtain ⟨_, r, off, rfl, hr1, hr2⟩ := RS.at_ hd hx
          have hc1 : (0 ≤ (i : Int) ∧ (i : Int) < (p.deltas.length : Int)) := by omega
          rcases hno with f | ⟨f, hall⟩
          · rw [if_neg (by rw [f]; decide)] at hck
            have jY := An @p4 <| An ty23 <| An ty25 <| tb22
            refine W.seq <| Wr <| ja sm <| ja J25f4 <| ja Jl <| ja Jn <| je Jt <| jE sm rfl <| ja Jl <| jk (Jc en14 (hck)) rfl <| jF Jy (rfl) <| jF Zp rfl <| On ?_
            refine Wn <| CWp.exit <| SQ.exit <| LQ.exit <| BQ.exit <| ?_
            refine NQ.normal (L := [(4, P0 (h.next + 1)), (5, P0 (h.next + 4))]) ?_ ⟨rfl, rfl⟩
            simp only [HasA, Tr.get_put, Nat.reduceEqDiff, reduceIte, and_self]
          · rw [if_pos f] at hck
            have hle := hall x (List.mem_of_getElem? hx)
            have jY := An @p4 <| An @hc1 <| An @sb <| An ty23 <| An ty25 <| An tb22 <| ty27
            refine W.seq <| Wr <| ja sm <| ja J25f4 <| ja Jl <| ja Jn <| je Jt <| jE sm rfl <| ja Jl <| jk (Jc en14 (hck)) rfl <| jE Jy (rfl) <| jE Zp rfl <| On ?_
            refine Wy <| CWp.skip <| SQ.normal ?_
            refine W.seq <| W.block <| Wr <| ja J25f4 <| ja Jl <| ja sm <| ja Ji <| ja J27f1 <| ja (zl (hv := (hr2 _ (old4 _ hr1)).2 1 _ _ _ ty22 rfl rfl)) <| ja sm <| jF Jv xG <| On ?_
            refine Wn <| CWp.skip <| BQ.normal <| SQ.normal ?_
            have jW := @w2
            refine W.reg <| ja sm <| ja Ja <| ja za <| OSuf.nil <| ?_
            refine LQ.normal (m := m - 1) (L := [(1, U64 e), (2, P0 h.next), (4, P0 (h.next + 1)), (5, P0 (h.next + 4)), (6, I64 ((i + 1 : Nat) : Int))]) xA ?_ ⟨i + 1, by omega, rfl, rfl⟩
            simp only [HasA, Tr.get_put, Nat.reduceEqDiff, reduceIte, w2, and_self]
        · have jY := An @p4 <| An ty23 <| tb22
          refine W.seq <| Wr <| ja sm <| ja J25f4 <| ja Jl <| ja Jn <| jf Jt <| jF sm rfl <| jp rfl <| jp rfl <| jp rfl <| jF Zp rfl <| On ?_
          refine Wn <| CWp.exit <| SQ.exit <| LQ.exit <| BQ.exit <| ?_
          refine NQ.normal (L := [(4, P0 (h.next + 1)), (5, P0 (h.next + 4))]) ?_ ⟨rfl, rfl⟩
          simp only [HasA, Tr.get_put, Nat.reduceEqDiff, reduceIte, and_self]
      rintro L a' g ha ⟨rfl, rfl⟩
      refine SQ.normal <| CWp.known ha ?_
      simp only [mkA]
      have jY := An @p5 <| An @p6 <| An ty25 <| tb22
      refine Wr <| ja Jl <| jc Js <| On ?_
      refine CWp.ret <| Jr ?_
      exact ⟨rfl, by simp, fun z h1 h2 => zS xA⟩
    · rintro u g ⟨rfl, gn, gk⟩
      obtain ⟨t1, t2⟩ := kp gn gk
      exact ⟨_, _, _, _, rfl, t1, t2, sep, fun z hz => by rw [gk z xA xA]; exact old4 z hz⟩
  cases f : chk p with
  | false =>
    have e9 : resetM p e = p := by simp [resetM, f]
    rw [e9]; exact none_c (.inl f)
  | true =>
    rcases first_gt e p.deltas with hall | ⟨i0, x0, hx0, hgt, hlt⟩
    · have e9 : resetM p e = p := by
        rw [resetM, if_pos f, List.filter_eq_self.2 fun x hx => by simpa using hall x hx]
      rw [e9]; exact none_c (.inr ⟨f, hall⟩)
    · have hrd := (fits_of f).2.2.1
      have hi0 := (List.getElem?_eq_some_iff.1 hx0).1
      have e9 : resetM p e = { p with deltas := p.deltas.take i0 } := by
        rw [resetM, if_pos f, filter_take hrd (fun j x hj hx => hlt j x hj hx) (fun x hx => by rw [hx0] at hx; cases hx; exact hgt)]
      rw [e9]
      rw [if_pos f] at hck
      obtain ⟨bb, ebb⟩ := hcap (fun e => by rw [e] at hi0; simp at hi0)
      cases ebb
      obtain ⟨_, r, off, rfl, hr1, hr2⟩ := RS.at_ hd hx0
      have hl : (p.deltas.take i0).length = i0 := by rw [List.length_take]; omega
      have rt := rs_take hd (m := i0) xA
      have rr := recs0_c H4 (p.deltas.take i0) _ (rt.mono xA old4) xA
      have sv := rval_sv H4 (p.deltas.take i0)
      have nr := rheap_next H4 (p.deltas.take i0)
      have kr := rheap_old H4 (p.deltas.take i0)
      obtain ⟨x5, ev5⟩ := sv_form sv
      rw [ev5] at rr sv
      rw [hl] at rr
      obtain ⟨H5, hH5⟩ : ∃ H5, H5 = rheap H4 (p.deltas.take i0) := ⟨_, rfl⟩
      rw [← hH5] at rr sv nr kr
      have p7 : H5.get (h.next + 4) = some (LR p (.slice x1 p.base.length y1) (.slice x2 p.deltas.length y2)) := by rw [kr _ xA]; exact p6
      have p8 : H5.get (h.next + 1) = some (.cells zlf 1) := by rw [kr _ xA]; exact p5
      obtain ⟨g5, g6⟩ := sv_fs sv
      refine hc_of (M := { p with deltas := p.deltas.take i0 }) o1 g6 (K0 := fun u g => u = LV { p with deltas := p.deltas.take i0 } (.slice x1 p.base.length y1) (.slice x5 (p.deltas.take i0).length 0) ∧ H5.next ≤ g.next ∧ ∀ z, z < H5.next → ¬ z = h.next + 1 → ¬ z = h.next + 4 → g.get z = H5.get z) ?_ ?_
      · refine W.enter tyOK Tryz.func22 rfl rfl ?_
        simp only [entry]
        have jY := ty25
        refine Wr <| ja Zx <| ja Jo <| On ?_
        have jY := An @p0 <| An @p1 <| An @rcl <| ty25
        refine Wr <| ja Jl <| jk (Jc en43 (xU)) rfl <| ja Jo <| jc Js <| On ?_
        refine W.seq <| Wr <| ja za <| On ?_
        refine W.cut (fun L g => False) (W.block (W.loop (fun m L g => ∃ i : Nat, m + i = i0 ∧ H4 = g ∧ L = [(1, U64 e), (2, P0 h.next), (4, P0 (h.next + 1)), (5, P0 (h.next + 4)), (6, I64 i)]) (n := i0) ⟨0, rfl, hH4, rfl⟩ ?_ ?_)) ?_
        · have : h.next + 4 = H3.next := by omega
          simp [HasA, Tr.get_put, this]
        · rintro m L g ⟨i, hm, rfl, rfl⟩
          simp only [mkA]
          have w2 : IntKind.i64.wrap ((i : Int) + 1) = ((i + 1 : Nat) : Int) := by rw [wrap_i64 xA xA]; omega
          have hi : (i : Int) < (p.deltas.length : Int) := by omega
          obtain ⟨x, hx⟩ : ∃ x, p.deltas[i]? = some x := ⟨p.deltas[i]'xA, by simp⟩
          obtain ⟨_, r', off', er, hr1', hr2'⟩ := RS.at_ hd hx
          cases er
          have hc1 : (0 ≤ (i : Int) ∧ (i : Int) < (p.deltas.length : Int)) := by omega
          by_cases he : i = i0
          · subst he
            rw [hx0] at hx; cases hx
            have jY := An @p4 <| An @p6 <| An @p7 <| An @p8 <| An @hc1 <| An @sb <| An ty23 <| An ty25 <| An tb22 <| ty27
            refine W.seq <| Wr <| ja sm <| ja J25f4 <| ja Jl <| ja Jn <| je Jt <| jE sm rfl <| ja Jl <| jk (Jc en14 (hck)) rfl <| jE Jy (rfl) <| jE Zp rfl <| On ?_
            refine Wy <| CWp.skip <| SQ.normal ?_
            refine W.seq <| W.block <| Wr <| ja J25f4 <| ja Jl <| ja sm <| ja Ji <| ja J27f1 <| ja (zl (hv := (hr2' _ (old4 _ hr1')).2 1 _ _ _ ty22 rfl rfl)) <| ja sm <| jE Jv xG <| On ?_
            refine Wy <| Wr <| ja J25f4 <| ja Jl <| ja sm <| ja (so_slice xB xE xE xE (sl_hi ty23 rfl ty27 xA)) <| jk (Jc en44 (rr)) rfl <| ja J25f4 <| jc Js <| On ?_
            refine Wr <| ja Jl <| jc Js <| On ?_
            refine CWp.ret <| BQ.ret <| SQ.ret <| LQ.ret <| BQ.ret <| NQ.ret <| SQ.ret <| Jr ?_
            refine ⟨by rw [hl]; rfl, by simp only [nx]; omega, fun z h1 h2 h3 => by simp (disch := first | omega | simp only [nx]; omega) only [hpl]⟩
          · have hle := hlt i x xA hx
            have jY := An @p4 <| An @hc1 <| An @sb <| An ty23 <| An ty25 <| An tb22 <| ty27
            refine W.seq <| Wr <| ja sm <| ja J25f4 <| ja Jl <| ja Jn <| je Jt <| jE sm rfl <| ja Jl <| jk (Jc en14 (hck)) rfl <| jE Jy (rfl) <| jE Zp rfl <| On ?_
            refine Wy <| CWp.skip <| SQ.normal ?_
            refine W.seq <| W.block <| Wr <| ja J25f4 <| ja Jl <| ja sm <| ja Ji <| ja J27f1 <| ja (zl (hv := (hr2' _ (old4 _ hr1')).2 1 _ _ _ ty22 rfl rfl)) <| ja sm <| jF Jv xG <| On ?_
            refine Wn <| CWp.skip <| BQ.normal <| SQ.normal ?_
            have jW := @w2
            refine W.reg <| ja sm <| ja Ja <| ja za <| OSuf.nil <| ?_
            refine LQ.normal (m := m - 1) (L := [(1, U64 e), (2, P0 h.next), (4, P0 (h.next + 1)), (5, P0 (h.next + 4)), (6, I64 ((i + 1 : Nat) : Int))]) xA ?_ ⟨i + 1, by omega, rfl, rfl⟩
            simp only [HasA, Tr.get_put, Nat.reduceEqDiff, reduceIte, w2, and_self]
        · rintro L a' g ha h9; exact h9.elim
      · rintro u g ⟨rfl, gn, gk⟩
        refine ⟨_, _, _, _, rfl, f1.keep xA xA (fun r hr hr2 => ?_), g5.keep xA gn (fun r hr hr2 => ?_), fun r hr hr2 => ?_, fun z hz => ?_⟩
        · have := f1.lo hr
          rw [gk r xA xA xA, kr r xA, k4 r hr2]
        · have := g5.lo hr
          rw [gk r hr2 xA xA]
        · have := f1.lo hr
          have := g5.lo hr2
          omega
        · rw [gk z xA xA xA, kr z xA]; exact old4 z hz
end Go.Proofs.YtebheelmgcggmaaGreat
namespace Go.Proofs.YtebheelmgcggmaaGreat
open Go.Ab Go.Sort
def advF (p : Lf) (low : Int) : Int := if p.full < low then low else p.full
def advK (p : Lf) (low : Int) : Bool := match p.deltas with
  | [] => true
  | d :: _ => decide (advF p low < d.lsn)
def advM (p : Lf) (low : Int) : Lf := if chk p = true ∧ low ≤ 1099511627776 then { p with full := advF p low, base := if advK p low = true then p.base.filter (fun r => !(r.del && decide (r.lsn ≤ advF p low))) else p.base } else p
theorem adv1_c (h : AHeap) (q : Nat) (p : Lf) (bv dv : Value) (x : Rec) (hq : h.get q = some (LR p bv dv)) (hql : q < h.next) : FWp Tryz.prog 58 [x.V, P0 q] h fun u h' => u = .bool (x.del && decide (x.lsn ≤ p.full)) ∧ h' = h := by
  have tb58 := And.intro ty22 (And.intro ty25 (And.intro ty27 (ty4)))
  refine FWp.gcs (.flat rfl) ?_
  refine W.enter tyOK Tryz.func58 rfl rfl ?_
  simp only [entry]
  cases d : x.del with
  | false =>
    refine Wr <| ja Zx <| jF za rfl <| On ?_
    have jY := An @hq <| An @Rec.csE <| ty4
    refine Wr <| ja J27f2 <| jF Jl (d) <| jF sm rfl <| jp rfl <| jp rfl <| jp rfl <| jp rfl <| jp rfl <| jF Zp rfl <| jF za rfl <| On ?_
    refine CWp.ret <| Jr ?_
    exact ⟨by simp [d], fun r o hr ho => by simp (disch := first | omega | simp only [nx]; omega) only [hpl]; exact ho⟩
  | true =>
    refine Wr <| ja Zx <| jF za rfl <| On ?_
    have jY := An @hq <| An @Rec.csE <| An ty4 <| ty22
    refine Wr <| ja J27f2 <| jE Jl (d) <| jE sm rfl <| ja J27f1 <| ja Jl <| ja J25f2 <| ja Jl <| ja Ju <| ja Zp <| ja za <| On ?_
    refine CWp.ret <| Jr ?_
    exact ⟨by simp [d], fun r o hr ho => by simp (disch := first | omega | simp only [nx]; omega) only [hpl]; exact ho⟩
theorem adv_c (h : AHeap) (p : Lf) (bv dv : Value) (low : Int) (hb : RS h p.base bv) (hd : RS h p.deltas dv) (hlb : p.base.length ≤ 1000000) (hld : p.deltas.length ≤ 1000000) : HC 23 [LV p bv dv, U64 low] (advM p low) h := by
  have tb23 := And.intro ty22 (And.intro ty23 (And.intro ty25 (ty27)))
  obtain ⟨b1, c1, rfl⟩ := hb.form
  obtain ⟨b2, c2, rfl⟩ := hd.form
  have hmay := fun H : AHeap => fun (hn : h.next ≤ H.next) (hk : ∀ z, z < h.next → H.get z = h.get z) => may'_c H p _ _ (hb.mono hn hk) (hd.mono hn hk) hlb hld
  obtain ⟨h2, hh2⟩ : ∃ h2, h2 = (h.new (LR p (.slice b1 p.base.length c1) (.slice b2 p.deltas.length c2))).new (.cells zlf 1) := ⟨_, rfl⟩
  have e2 : h2.next = h.next + 2 := by rw [hh2]; rfl
  have k2 : ∀ z, z < h.next → h2.get z = h.get z := fun z hz => by rw [hh2]; simp (disch := first | omega | simp only [nx]; omega) only [hpl]
  obtain ⟨bv', dv', H1, m, w, ob, od, hsep, hnil, hm1, hm2, hk⟩ := own_c h2 p _ _ (hb.mono xA k2) (hd.mono xA k2) hlb hld
  rw [e2] at ob hm1 hk
  have q0 : H1.get h.next = some (LR p (.slice b1 p.base.length c1) (.slice b2 p.deltas.length c2)) := by rw [hk _ xA, hh2]; simp (disch := first | omega | simp only [nx]; omega) only [hpl]
  have q1 : H1.get (h.next + 1) = some (.cells zlf 1) := by rw [hk _ xA, hh2]; simp (disch := first | omega | simp only [nx]; omega) only [hpl]
  have kk : ∀ z, z < h.next → H1.get z = h.get z := fun z hz => by rw [hk z xA]; exact k2 z hz
  obtain ⟨x, fx, gx⟩ := ob.fs
  obtain ⟨y, fy, gy⟩ := od.fs
  obtain ⟨x1, y1, rfl⟩ := ob.form
  obtain ⟨x2, y2, rfl⟩ := od.form
  have hxm : ∀ r, x = some r → r < m := fun r hr => by obtain ⟨n, c, g1⟩ := gx r hr; exact hsep r c n g1
  have stay : (chk p = false ∨ 1099511627776 < low) → HC 23 [LV p (.slice b1 p.base.length c1) (.slice b2 p.deltas.length c2), U64 low] p h := fun hno => by
    refine hc_of fx.empty fy.empty (K0 := fun u g => u = LV p (.slice x1 p.base.length y1) (.slice x2 p.deltas.length y2) ∧ H1.next ≤ g.next ∧ ∀ z, z < H1.next → ¬ z = h.next + 1 → g.get z = H1.get z) ?_ ?_
    · refine W.enter tyOK Tryz.func23 rfl rfl ?_
      simp only [entry]
      cases f1 : chk p with
      | false =>
        rw [f1] at hmay
        have jY := ty25
        refine Wr <| ja Zx <| ja Jo <| On ?_
        have jY := An @q0 <| An @q1 <| An @rcl <| An ty25 <| tb23
        refine Wr <| ja Jl <| jk (Jc en36 (xy)) rfl <| ja Jo <| jc Js <| On ?_
        refine W.seq <| Wr <| ja Jl <| jk (Jc en37 (hmay _ xF (fun z hz => by simp (disch := first | omega | simp only [nx]; omega) only [hpl]; exact kk z hz))) rfl <| jE Zt rfl <| jE sm rfl <| jp rfl <| jp rfl <| jE Zp rfl <| On ?_
        refine Wy <| Wr <| ja Jl <| jc Js <| On ?_
        refine CWp.ret <| SQ.ret <| Jr ?_
        exact ⟨rfl, by simp only [nx]; omega, fun z h1 h2 => by simp (disch := first | omega | simp only [nx]; omega) only [hpl]⟩
      | true =>
        rw [f1] at hmay
        have hlow : low > 1099511627776 := by
          rcases hno with h9 | h9
          · rw [f1] at h9; cases h9
          · exact h9
        have jY := ty25
        refine Wr <| ja Zx <| ja Jo <| On ?_
        have jY := An @q0 <| An @q1 <| An @rcl <| An ty25 <| tb23
        refine Wr <| ja Jl <| jk (Jc en36 (xy)) rfl <| ja Jo <| jc Js <| On ?_
        refine W.seq <| Wr <| ja Jl <| jk (Jc en37 (hmay _ xF (fun z hz => by simp (disch := first | omega | simp only [nx]; omega) only [hpl]; exact kk z hz))) rfl <| jF Zt rfl <| jF sm rfl <| ja sm <| jE Jv xG <| jE Zp rfl <| On ?_
        refine Wy <| Wr <| ja Jl <| jc Js <| On ?_
        refine CWp.ret <| SQ.ret <| Jr ?_
        exact ⟨rfl, by simp only [nx]; omega, fun z h1 h2 => by simp (disch := first | omega | simp only [nx]; omega) only [hpl]⟩
    · rintro u g ⟨rfl, hn, hg⟩
      exact ⟨_, _, x, y, rfl, fx.keep xA hn (fun r hr hr2 => hg r hr2 (by have := (fx.lo hr).1; omega)), fy.keep xA hn (fun r hr hr2 => hg r hr2 (by have := (fy.lo hr).1; omega)), fun r hr hr2 => by have := hxm r hr; have := (fy.lo hr2).1; omega, fun z hz => by rw [hg z xA xA]; exact kk z hz⟩
  cases f1 : chk p with
  | false =>
    rw [advM, if_neg (by rw [f1]; simp)]; exact stay (.inl f1)
  | true =>
  by_cases hlow : 1099511627776 < low
  · rw [advM, if_neg xA]; exact stay (.inr hlow)
  rw [f1] at hmay
  rw [advM, if_pos ⟨f1, by omega⟩]
  obtain ⟨F, hF⟩ : ∃ F, F = advF p low := ⟨_, rfl⟩
  have eF : (if low > p.full then low else p.full) = F := by rw [hF]; rfl
  rw [← hF]
  obtain ⟨H3, hH3⟩ : ∃ H3, H3 = H1.new (LR { p with full := F } (.slice x1 p.base.length y1) (.slice x2 p.deltas.length y2)) := ⟨_, rfl⟩
  have n3 : H3.next = H1.next + 1 := by rw [hH3]; rfl
  have k3 : ∀ z, z < H1.next → H3.get z = H1.get z := fun z hz => by rw [hH3]; exact zN xA
  have q3 : H3.get H1.next = some (LR { p with full := F } (.slice x1 p.base.length y1) (.slice x2 p.deltas.length y2)) := by rw [hH3]; exact zQ
  have od3 := od.rs.mono (h' := H3) xA k3
  have nb1 : ∀ z, H1.next ≤ z → ∀ n c, Value.slice x1 p.base.length y1 ≠ .slice (some ⟨z, 0, none⟩) n c := fun z hz n c e => by
    rw [e] at ob
    have := ob.row; omega
  have go : advK p low = true → ∀ (pa : FWp Tryz.prog 23 [LV p (.slice b1 p.base.length c1) (.slice b2 p.deltas.length c2), U64 low] h fun u g => ∃ v1 H4 xb, FS H4 (h.next + 2) (p.base.filter fun r => !(r.del && decide (r.lsn ≤ F))) (nilV (.slice x1 p.base.length y1)) v1 xb ∧ (∀ r, xb = some r → ∃ n c, Value.slice x1 p.base.length y1 = .slice (some ⟨r, 0, none⟩) n c) ∧ H4.next = H3.next ∧ (∀ z, (∀ n c, Value.slice x1 p.base.length y1 ≠ .slice (some ⟨z, 0, none⟩) n c) → H4.get z = H3.get z) ∧ u = LV { p with full := F } v1 (.slice x2 p.deltas.length y2) ∧ H4.next ≤ g.next ∧ ∀ z, z < H4.next → ¬ z = H1.next → ¬ z = h.next + 1 → g.get z = H4.get z), HC 23 [LV p (.slice b1 p.base.length c1) (.slice b2 p.deltas.length c2), U64 low] { p with full := F, base := p.base.filter fun r => !(r.del && decide (r.lsn ≤ F)) } h := fun _ pa => by
    refine hc_of (M := { p with full := F, base := p.base.filter fun r => !(r.del && decide (r.lsn ≤ F)) }) (fun e => by rw [fx.empty e]; rfl) fy.empty pa ?_
    rintro u g ⟨v1, H4, xb, f4, g4, n4, k4, rfl, hn, hg⟩
    have hb4 : ∀ r, xb = some r → r < m := fun r hr => by obtain ⟨n, c, e⟩ := g4 r hr; exact hsep r c n e
    refine ⟨_, _, xb, y, rfl, f4.keep xA hn (fun r hr hr2 => ?_), fy.keep xA xA (fun r hr hr2 => ?_), fun r hr hr2 => by have := hb4 r hr; have := (fy.lo hr2).1; omega, fun z hz => ?_⟩
    · have := hb4 r hr
      have := (f4.lo hr).1
      exact hg r hr2 xA xA
    · have h5 := fy.lo hr
      rw [hg r xA xA xA, k4 r (fun n c e => by have := hsep r c n e; omega), k3 r xA]
    · rw [hg z xA xA xA, k4 z (fun n c e => by rw [e] at ob; have := ob.row; omega), k3 z xA]; exact kk z hz
  obtain ⟨v1, H4, xb, wd, f4, gx4, n4, k4⟩ := del_x H3 (h.next + 2) p.base (.slice x1 p.base.length y1) (.func (.func 58) #[] #[P0 H1.next]) (fun r => r.del && decide (r.lsn ≤ F)) (ob.mono xA (fun z _ hz => k3 z hz)) hlb
    (fun r hx g hn hg => cl_v en58 (adv1_c g H1.next { p with full := F } _ _ r (by rw [hg _ xA (nb1 _ (Nat.le_refl _))]; exact q3) xA))
  have g4 : H4.get H1.next = some (LR { p with full := F } (.slice x1 p.base.length y1) (.slice x2 p.deltas.length y2)) := by rw [k4 _ (nb1 _ (Nat.le_refl _))]; exact q3
  have z4 : H4.get (h.next + 1) = some (.cells zlf 1) := by rw [k4 _ (fun n c e => by rw [e] at ob; have := ob.row; omega), k3 _ xA]; exact q1
  obtain ⟨ub, uc, rfl⟩ := f4.form
  have kl : ¬ low > 1099511627776 := by omega
  rw [hH3] at wd
  by_cases hd0 : p.deltas = []
  · have hK : advK p low = true := by simp [advK, hd0]
    rw [if_pos hK]
    apply go hK
    refine W.enter tyOK Tryz.func23 rfl rfl ?_
    simp only [entry]
    have jY := ty25
    refine Wr <| ja Zx <| ja Jo <| On ?_
    have jY := An @q0 <| An @q1 <| An @q3 <| An @g4 <| An @z4 <| An @eF <| An @sb <| An @rcl <| An ty25 <| An ty22 <| An ty23 <| tb23
    refine Wr <| ja Jl <| jk (Jc en36 (xy)) rfl <| ja Jo <| jc Js <| On ?_
    refine W.seq <| Wr <| ja Jl <| jk (Jc en37 (hmay _ xF (fun z hz => by simp (disch := first | omega | simp only [nx]; omega) only [hpl]; exact kk z hz))) rfl <| jF Zt rfl <| jF sm rfl <| ja sm <| jF Jv xG <| jF Zp rfl <| On ?_
    refine Wn <| CWp.skip <| SQ.normal ?_
    refine Wr <| ja J25f2 <| ja Jl <| ja sm <| ja (so_max xD) <| ja J25f2 <| jc Js <| On ?_
    refine W.seq <| Wd <| jb J25f4 <| jb Jl <| jb Jn <| jG Jy (by simp [hd0]) <| jG sm rfl <| jq rfl <| jq rfl <| jq rfl <| jq rfl <| jq rfl <| jq rfl <| jq rfl <| jq rfl <| jG Zp rfl <| Sn ?_
    refine Wy <| W.reg <| ja J25f3 <| ja Jl <| ja (so_makeFunc rfl xD xD) <| jk (Jc en53 (wd)) rfl <| ja J25f3 <| jc Js <| On ?_
    refine Wr <| ja Jl <| jc Js <| On ?_
    refine CWp.ret <| Jr ?_
    exact ⟨_, H4, xb, f4, gx4, n4, k4, rfl, by simp only [nx]; omega, fun z h1 h2 h3 => by simp (disch := first | omega | simp only [nx]; omega) only [hpl]⟩
  · obtain ⟨d, hd1⟩ : ∃ d, p.deltas[0]? = some d := by
      cases hds : p.deltas with
      | nil => exact (hd0 hds).elim
      | cons d ds => exact ⟨d, rfl⟩
    have hKd : advK p low = decide (F < d.lsn) := by
      cases hds : p.deltas with
      | nil => exact (hd0 hds).elim
      | cons d' ds =>
        rw [hds] at hd1
        have : d' = d := by simpa using hd1
        subst this
        simp [advK, hds, hF]
    obtain ⟨_, r, off, rfl, hr1, hr2⟩ := RS.at_ od3 hd1
    have hlen : (0 ≤ (0 : Int) ∧ (0 : Int) < (p.deltas.length : Int)) := by
      have := (List.getElem?_eq_some_iff.1 hd1).1; omega
    have ld : ∀ (G : AHeap), G.get r = H3.get r → ∀ t ti, T.get t = some ti → ti.agg = false → aLoad T t (PA r (off + 1)) G = some (U64 d.lsn) := fun G hG t ti ht ha => by
      have := (hr2 G hG).2 1 t ti (U64 d.lsn) ht ha rfl
      simpa using this
    rw [hH3] at ld
    by_cases hlt : F < d.lsn
    · have hK : advK p low = true := by rw [hKd]; exact decide_eq_true hlt
      rw [if_pos hK]
      apply go hK
      refine W.enter tyOK Tryz.func23 rfl rfl ?_
      simp only [entry]
      have jY := ty25
      refine Wr <| ja Zx <| ja Jo <| On ?_
      have jY := An @q0 <| An @q1 <| An @q3 <| An @g4 <| An @z4 <| An @eF <| An @hlen <| An @sb <| An @rcl <| An ty25 <| An ty22 <| An ty23 <| An ty27 <| tb23
      refine Wr <| ja Jl <| jk (Jc en36 (xy)) rfl <| ja Jo <| jc Js <| On ?_
      refine W.seq <| Wr <| ja Jl <| jk (Jc en37 (hmay _ xF (fun z hz => by simp (disch := first | omega | simp only [nx]; omega) only [hpl]; exact kk z hz))) rfl <| jF Zt rfl <| jF sm rfl <| ja sm <| jF Jv xG <| jF Zp rfl <| On ?_
      refine Wn <| CWp.skip <| SQ.normal ?_
      refine Wr <| ja J25f2 <| ja Jl <| ja sm <| ja (so_max xD) <| ja J25f2 <| jc Js <| On ?_
      refine W.seq <| Wd <| jb J25f4 <| jb Jl <| jb Jn <| jH Jy (by simp [hd0]) <| jH sm rfl <| jb J25f4 <| jb Jl <| jb Ji <| jb J27f1 <| jb (zl (hv := ld _ rfl _ _ ty22 rfl)) <| jb J25f2 <| jb Jl <| jG Jv (by simp [hlt]) <| jG Zp rfl <| Sn ?_
      refine Wy <| W.reg <| ja J25f3 <| ja Jl <| ja (so_makeFunc rfl xD xD) <| jk (Jc en53 (wd)) rfl <| ja J25f3 <| jc Js <| On ?_
      refine Wr <| ja Jl <| jc Js <| On ?_
      refine CWp.ret <| Jr ?_
      exact ⟨_, H4, xb, f4, gx4, n4, k4, rfl, by simp only [nx]; omega, fun z h1 h2 h3 => by simp (disch := first | omega | simp only [nx]; omega) only [hpl]⟩
    · have hK : ¬ advK p low = true := by rw [hKd]; simp [hlt]
      rw [if_neg hK]
      refine hc_of (M := { p with full := F }) fx.empty fy.empty (K0 := fun u g => u = LV { p with full := F } (.slice x1 p.base.length y1) (.slice (some ⟨r, off, none⟩) p.deltas.length y2) ∧ H3.next ≤ g.next ∧ ∀ z, z < H3.next → ¬ z = h.next + 1 → g.get z = H3.get z) ?_ ?_
      · rw [hH3]
        refine W.enter tyOK Tryz.func23 rfl rfl ?_
        simp only [entry]
        have jY := ty25
        refine Wr <| ja Zx <| ja Jo <| On ?_
        have jY := An @q0 <| An @q1 <| An @q3 <| An @g4 <| An @z4 <| An @eF <| An @hlen <| An @sb <| An @rcl <| An ty25 <| An ty22 <| An ty23 <| An ty27 <| tb23
        refine Wr <| ja Jl <| jk (Jc en36 (xy)) rfl <| ja Jo <| jc Js <| On ?_
        refine W.seq <| Wr <| ja Jl <| jk (Jc en37 (hmay _ xF (fun z hz => by simp (disch := first | omega | simp only [nx]; omega) only [hpl]; exact kk z hz))) rfl <| jF Zt rfl <| jF sm rfl <| ja sm <| jF Jv xG <| jF Zp rfl <| On ?_
        refine Wn <| CWp.skip <| SQ.normal ?_
        refine Wr <| ja J25f2 <| ja Jl <| ja sm <| ja (so_max xD) <| ja J25f2 <| jc Js <| On ?_
        refine W.seq <| Wd <| jb J25f4 <| jb Jl <| jb Jn <| jH Jy (by simp [hd0]) <| jH sm rfl <| jb J25f4 <| jb Jl <| jb Ji <| jb J27f1 <| jb (zl (hv := ld _ rfl _ _ ty22 rfl)) <| jb J25f2 <| jb Jl <| jH Jv xG <| jH Zp rfl <| Sn ?_
        refine Wn <| CWp.skip <| SQ.normal ?_
        refine Wr <| ja Jl <| jc Js <| On ?_
        refine CWp.ret <| Jr ?_
        exact ⟨rfl, by simp only [nx]; omega, fun z h1 h2 => by simp (disch := first | omega | simp only [nx]; omega) only [hpl] <;> rfl⟩
      · rintro u g ⟨rfl, hn, hg⟩
        exact ⟨_, _, x, y, rfl, fx.keep xA xA (fun q hq hq2 => by have := (fx.lo hq).1; rw [hg q xA xA, k3 q hq2]), fy.keep xA xA (fun q hq hq2 => by have := (fy.lo hq).1; rw [hg q xA xA, k3 q hq2]), fun q hq hq2 => by have := hxm q hq; have := (fy.lo hq2).1; omega, fun z hz => by rw [hg z xA xA, k3 z xA]; exact kk z hz⟩
end Go.Proofs.YtebheelmgcggmaaGreat
namespace Go.Proofs.YtebheelmgcggmaaGreat
open Go.Ab Go.Sort
theorem adv0_c (h : AHeap) (p : Lf) (bv dv : Value) (low : Int) (hb : RS h p.base bv) (hd : RS h p.deltas dv) (hlb : p.base.length ≤ 1000000) (hld : p.deltas.length ≤ 1000000) (lb : LB p) :
    HC 24 [LV p bv dv, U64 low] (advM p low) h := by
  have tb24 := And.intro ty22 (And.intro ty23 (And.intro ty25 (And.intro ty27 (ty4))))
  obtain ⟨b1, c1, rfl⟩ := hb.form
  obtain ⟨b2, c2, rfl⟩ := hd.form
  obtain ⟨h2, hh2⟩ : ∃ h2, h2 = (h.new (.cells (lcs p (.slice b1 p.base.length c1) (.slice b2 p.deltas.length c2)) 1)).new (.cells zlf 1) := ⟨_, rfl⟩
  have e2 : h2.next = h.next + 2 := by rw [hh2]; rfl
  have k2 : ∀ z, z < h.next → h2.get z = h.get z := fun z hz => by rw [hh2]; simp (disch := first | omega | simp only [nx]; omega) only [hpl]
  have q0 : h2.get h.next = some (.cells (lcs p (.slice b1 p.base.length c1) (.slice b2 p.deltas.length c2)) 1) := by rw [hh2]; simp (disch := first | omega | simp only [nx]; omega) only [hpl]
  have q1 : h2.get (h.next + 1) = some (.cells zlf 1) := by rw [hh2]; simp (disch := first | omega | simp only [nx]; omega) only [hpl]
  obtain ⟨nb, nd, o1, o2, wo⟩ := own0_c h2 p _ _ (hb.mono xA k2) (hd.mono xA k2) hlb hld
  obtain ⟨f1, f2⟩ := hand_fs (h := h2) o1 o2
  obtain ⟨s1, s2⟩ := hand_rs (h := h2) o1 o2
  obtain ⟨x1, y1, ev1⟩ := s1.form
  obtain ⟨x2, y2, ev2⟩ := s2.form
  rw [ev1] at f1
  rw [ev2] at f2
  rw [ev1, ev2] at wo
  have nH := hand_next h2 p nb nd
  have kH : ∀ z, z < h2.next → (hand h2 p nb nd).get z = h2.get z := fun z hz => hand_old _ _ _ _ _ hz
  obtain ⟨H3, hH3⟩ : ∃ H3, H3 = hand h2 p nb nd := ⟨_, rfl⟩
  rw [← hH3] at wo f1 f2 nH kH
  have p0 : H3.get h.next = some (.cells (lcs p (.slice b1 p.base.length c1) (.slice b2 p.deltas.length c2)) 1) := by rw [kH _ xA]; exact q0
  have p1 : H3.get (h.next + 1) = some (.cells zlf 1) := by rw [kH _ xA]; exact q1
  have old : ∀ z, z < h.next → H3.get z = h.get z := fun z hz => by rw [kH _ xA]; exact k2 z hz
  obtain ⟨H4, hH4⟩ : ∃ H4, H4 = H3.new (LR p (.slice x1 p.base.length y1) (.slice x2 p.deltas.length y2)) := ⟨_, rfl⟩
  have n4 : H4.next = h.next + 5 := by rw [hH4]; simp; omega
  have k4 : ∀ z, z < H3.next → H4.get z = H3.get z := fun z hz => by rw [hH4]; exact zN xA
  have p4 : H4.get h.next = some (.cells (lcs p (.slice b1 p.base.length c1) (.slice b2 p.deltas.length c2)) 1) := by rw [k4 _ xA]; exact p0
  have p5 : H4.get (h.next + 1) = some (.cells zlf 1) := by rw [k4 _ xA]; exact p1
  have p6 : H4.get (h.next + 4) = some (LR p (.slice x1 p.base.length y1) (.slice x2 p.deltas.length y2)) := by
    have : h.next + 4 = H3.next := by omega
    rw [this, hH4]; exact zQ
  have old4 : ∀ z, z < h.next → H4.get z = h.get z := fun z hz => by rw [k4 _ xA]; exact old z hz
  have hck := check0_c H4 p _ _ (hb.mono xA old4) (hd.mono xA old4) hlb hld lb
  have sep : ∀ r, (bif nb then none else some h2.next) = some r → (bif nd then none else some (h2.next + 1)) ≠ some r := fun r hr hr2 => by
    cases nb <;> cases nd <;> simp at hr hr2 <;> omega
  have kp : ∀ {g : AHeap}, H4.next ≤ g.next → (∀ z, z < H4.next → ¬ z = h.next + 1 → g.get z = H4.get z) → FS g h.next p.base nb (.slice x1 p.base.length y1) (bif nb then none else some h2.next) ∧ FS g h.next p.deltas nd (.slice x2 p.deltas.length y2) (bif nd then none else some (h2.next + 1)) := fun {g} gn gk =>
    ⟨f1.keep xA xA (fun r hr hr2 => by have := f1.lo hr; rw [gk r xA xA, k4 r hr2]), f2.keep xA xA (fun r hr hr2 => by have := f2.lo hr; rw [gk r xA xA, k4 r hr2])⟩
  have stay : (chk p = false ∨ 1099511627776 < low) → HC 24 [LV p (.slice b1 p.base.length c1) (.slice b2 p.deltas.length c2), U64 low] p h := fun hno => by
    refine hc_of o1 o2 (K0 := fun u g => u = LV p (.slice x1 p.base.length y1) (.slice x2 p.deltas.length y2) ∧ H4.next ≤ g.next ∧ ∀ z, z < H4.next → ¬ z = h.next + 1 → g.get z = H4.get z) ?_ ?_
    · refine W.enter tyOK Tryz.func24 rfl rfl ?_
      simp only [entry]
      rw [hH4] at hck p4 p5 p6 ⊢
      cases fc : chk p with
      | false =>
        rw [if_neg (by rw [fc]; decide)] at hck
        have jY := ty25
        refine Wr <| ja Zx <| ja Jo <| On ?_
        have jY := An @p0 <| An @p1 <| An @p4 <| An @p5 <| An @p6 <| An @rcl <| An ty25 <| tb24
        refine Wr <| ja Jl <| jk (Jc en43 (xU)) rfl <| ja Jo <| jc Js <| On ?_
        refine W.seq <| Wr <| ja Jl <| jk (Jc en14 (hck)) rfl <| jE Jz (rfl) <| jE sm rfl <| jp rfl <| jp rfl <| jE Zp rfl <| On ?_
        refine Wy <| Wr <| ja Jl <| jc Js <| On ?_
        refine CWp.ret <| SQ.ret <| Jr ?_
        exact ⟨rfl, by simp only [nx]; omega, fun z h1 h2 => by simp (disch := first | omega | simp only [nx]; omega) only [hpl]⟩
      | true =>
        rw [if_pos fc] at hck
        have hlow : low > 1099511627776 := by
          rcases hno with h9 | h9
          · rw [fc] at h9; cases h9
          · exact h9
        have jY := ty25
        refine Wr <| ja Zx <| ja Jo <| On ?_
        have jY := An @p0 <| An @p1 <| An @p4 <| An @p5 <| An @p6 <| An @rcl <| An ty25 <| tb24
        refine Wr <| ja Jl <| jk (Jc en43 (xU)) rfl <| ja Jo <| jc Js <| On ?_
        refine W.seq <| Wr <| ja Jl <| jk (Jc en14 (hck)) rfl <| jF Jz (rfl) <| jF sm rfl <| ja sm <| jE Jv xG <| jE Zp rfl <| On ?_
        refine Wy <| Wr <| ja Jl <| jc Js <| On ?_
        refine CWp.ret <| SQ.ret <| Jr ?_
        exact ⟨rfl, by simp only [nx]; omega, fun z h1 h2 => by simp (disch := first | omega | simp only [nx]; omega) only [hpl]⟩
    · rintro u g ⟨rfl, gn, gk⟩
      obtain ⟨t1, t2⟩ := kp gn gk
      exact ⟨_, _, _, _, rfl, t1, t2, sep, fun z hz => by rw [gk z xA xA]; exact old4 z hz⟩
  cases fc : chk p with
  | false =>
    rw [advM, if_neg (by rw [fc]; simp)]; exact stay (.inl fc)
  | true =>
  by_cases hlow : 1099511627776 < low
  · rw [advM, if_neg xA]; exact stay (.inr hlow)
  rw [if_pos fc] at hck
  rw [advM, if_pos ⟨fc, by omega⟩]
  obtain ⟨F, hF⟩ : ∃ F, F = advF p low := ⟨_, rfl⟩
  have eF : (if low > p.full then low else p.full) = F := by rw [hF]; rfl
  rw [← hF]
  have kl : ¬ low > 1099511627776 := by omega
  obtain ⟨H6, hH6⟩ : ∃ H6, H6 = H3.new (LR { p with full := F } (.slice x1 p.base.length y1) (.slice x2 p.deltas.length y2)) := ⟨_, rfl⟩
  have n6 : H6.next = H3.next + 1 := by rw [hH6]; rfl
  have k6 : ∀ z, z < H3.next → H6.get z = H3.get z := fun z hz => by rw [hH6]; exact zN xA
  have ds6 : RS H6 p.deltas (.slice x2 p.deltas.length y2) := by
    have := s2.mono (h' := H6) xe (fun z hz => by rw [k6 z (by rw [hH3]; exact hz), hH3])
    rw [ev2] at this; exact this
  rw [hH4] at hck
  have back : advK p low = true → HC 24 [LV p (.slice b1 p.base.length c1) (.slice b2 p.deltas.length c2), U64 low] { p with full := F, base := p.base.filter fun r => !(r.del && decide (r.lsn ≤ F)) } h := fun hK => by
    refine hc_of (M := { p with full := F, base := p.base.filter fun r => !(r.del && decide (r.lsn ≤ F)) }) (nb := decide ((p.base.filter fun r => !(r.del && decide (r.lsn ≤ F))) = [])) (fun e => by simpa using e) o2 (K0 := fun u g => ∃ xd, SV g 4 H6.next (fl (p.base.filter fun r => !(r.del && decide (r.lsn ≤ F)))) (.slice xd (p.base.filter fun r => !(r.del && decide (r.lsn ≤ F))).length 0) ∧ u = LV { p with full := F } (.slice xd (p.base.filter fun r => !(r.del && decide (r.lsn ≤ F))).length 0) (.slice x2 p.deltas.length y2) ∧ H6.next ≤ g.next ∧ ∀ z, z < H6.next → ¬ z = h.next + 1 → ¬ z = h.next + 4 → g.get z = H6.get z) ?_ ?_
    · refine W.enter tyOK Tryz.func24 rfl rfl ?_
      simp only [entry]
      have q6 : H6.get (h.next + 4) = some (LR { p with full := F } (.slice x1 p.base.length y1) (.slice x2 p.deltas.length y2)) := by
        have : h.next + 4 = H3.next := by omega
        rw [this, hH6]; exact zQ
      have u0 : H6.get h.next = some (.cells (lcs p (.slice b1 p.base.length c1) (.slice b2 p.deltas.length c2)) 1) := by rw [k6 _ xA]; exact p0
      have u1 : H6.get (h.next + 1) = some (.cells zlf 1) := by rw [k6 _ xA]; exact p1
      rw [hH4] at p4 p5 p6
      have h34 : h.next + 4 = H3.next := by omega
      have jY := ty25
      refine Wr <| ja Zx <| ja Jo <| On ?_
      have jY := An @p0 <| An @p1 <| An @p4 <| An @p5 <| An @p6 <| An @eF <| An @rcl <| An @sb <| An ty25 <| ty22
      refine Wr <| ja Jl <| jk (Jc en43 (xU)) rfl <| ja Jo <| jc Js <| On ?_
      refine W.seq <| Wr <| ja Jl <| jk (Jc en14 (hck)) rfl <| jF Jz (rfl) <| jF sm rfl <| ja sm <| jF Jv xG <| jF Zp rfl <| On ?_
      refine Wn <| CWp.skip <| SQ.normal ?_
      refine Wr <| ja J25f2 <| ja Jl <| ja sm <| ja (so_max xD) <| ja J25f2 <| jc Js <| On ?_
      refine W.seq <| ?_
      show CWp _ _ _ _ (H3.new (LR { p with full := F } (.slice x1 p.base.length y1) (.slice x2 p.deltas.length y2))) _
      rw [← hH6]
      refine CWp.known (L := [(2, P0 h.next), (4, P0 (h.next + 1)), (5, P0 (h.next + 4))]) ⟨xB, xB, (by simp only [lk, h34] <;> rfl), trivial⟩ ?_
      simp only [mkA]
      apply W.join (fun L g => H6 = g ∧ L = [(2, P0 h.next), (4, P0 (h.next + 1)), (5, P0 (h.next + 4))])
      · intro rest
        by_cases hd0 : p.deltas = []
        · have jY := An @q6 <| An @rcl <| An @sb <| An ty23 <| tb24
          refine Wd <| jb J25f4 <| jb Jl <| jb Jn <| jH Jv (by simp [hd0]) <| jH sm rfl <| jq rfl <| jq rfl <| jq rfl <| jq rfl <| jq rfl <| jq rfl <| jq rfl <| jq rfl <| jH Zp rfl <| Sn ?_
          refine Wn <| CWp.skip <| SQ.normal ?_
          (refine rest [(2, P0 h.next), (4, P0 (h.next + 1)), (5, P0 (h.next + 4))] _ _ ?_ ⟨rfl, rfl⟩; simp [HasA, Tr.get_put])
        · obtain ⟨d, hd1⟩ : ∃ d, p.deltas[0]? = some d := by
            cases hds : p.deltas with
            | nil => exact (hd0 hds).elim
            | cons d ds => exact ⟨d, rfl⟩
          have hlt : F < d.lsn := by
            cases hds : p.deltas with
            | nil => exact (hd0 hds).elim
            | cons d' ds =>
              rw [hds] at hd1
              have : d' = d := by simpa using hd1
              subst this
              simpa [advK, hds, hF] using hK
          obtain ⟨_, r, off, ex2, hr1, hr2⟩ := RS.at_ ds6 hd1
          have hlen : (0 ≤ (0 : Int) ∧ (0 : Int) < (p.deltas.length : Int)) := by
            have := (List.getElem?_eq_some_iff.1 hd1).1; omega
          have hpos : (p.deltas.length : Int) > 0 := by omega
          have ld : ∀ t ti, T.get t = some ti → ti.agg = false → aLoad T t (PA r (off + 1)) H6 = some (U64 d.lsn) := fun t ti ht ha => by
            have := (hr2 H6 rfl).2 1 t ti (U64 d.lsn) ht ha rfl
            simpa using this
          have jY := An @q6 <| An @ex2 <| An @hlen <| An @rcl <| An @sb <| An ty23 <| An ty22 <| An ty27 <| tb24
          refine Wd <| jb J25f4 <| jb Jl <| jb Jn <| jG Jv xG <| jG sm rfl <| jb J25f4 <| jb Jl <| jb Ji <| jb J27f1 <| jb (zl (hv := ld _ _ ty22 rfl)) <| jb J25f2 <| jb Jl <| jH Ju xG <| jH Zp rfl <| Sn ?_
          refine Wn <| CWp.skip <| SQ.normal ?_
          (refine rest [(2, P0 h.next), (4, P0 (h.next + 1)), (5, P0 (h.next + 4))] _ _ ?_ ⟨rfl, rfl⟩; simp [HasA, Tr.get_put])
      rintro L g ⟨rfl, rfl⟩
      simp only [mkA]
      have jY := An @q6 <| ty23
      refine Wr <| ja J25f3 <| jc Js <| On ?_
      refine W.seq <| Wr <| ja za <| On ?_
      refine W.cut (fun L g => ∃ xd, SV g 4 H6.next (fl (p.base.filter fun r => !(r.del && decide (r.lsn ≤ F)))) (.slice xd (p.base.filter fun r => !(r.del && decide (r.lsn ≤ F))).length 0) ∧ g.get (h.next + 4) = some (LR { p with full := F } (.slice xd (p.base.filter fun r => !(r.del && decide (r.lsn ≤ F))).length 0) (.slice x2 p.deltas.length y2)) ∧ H6.next ≤ g.next ∧ (∀ z, z < H6.next → ¬ z = h.next + 4 → g.get z = H6.get z) ∧ L = [(4, P0 (h.next + 1)), (5, P0 (h.next + 4))]) (W.block (W.loop (fun m L g => ∃ (i : Nat) (xd : Option Addr), m + i = p.base.length ∧ SV g 4 H6.next (fl ((p.base.take i).filter fun r => !(r.del && decide (r.lsn ≤ F)))) (.slice xd ((p.base.take i).filter fun r => !(r.del && decide (r.lsn ≤ F))).length 0) ∧ g.get (h.next + 4) = some (LR { p with full := F } (.slice xd ((p.base.take i).filter fun r => !(r.del && decide (r.lsn ≤ F))).length 0) (.slice x2 p.deltas.length y2)) ∧ H6.next ≤ g.next ∧ (∀ z, z < H6.next → ¬ z = h.next + 4 → g.get z = H6.get z) ∧ L = [(2, P0 h.next), (4, P0 (h.next + 1)), (5, P0 (h.next + 4)), (6, I64 i)]) (n := p.base.length) ⟨0, none, rfl, .nil, zP, by simp, fun z hz h9 => zS xA, rfl⟩ ?_ ?_)) ?_
      · simp [HasA, Tr.get_put]
      · rintro m L g ⟨i, xd, hm, sv, gj, gn, gk, rfl⟩
        simp only [mkA]
        have w2 : IntKind.i64.wrap ((i : Int) + 1) = ((i + 1 : Nat) : Int) := by rw [wrap_i64 xA xA]; omega
        have gp : g.get h.next = some (.cells (lcs p (.slice b1 p.base.length c1) (.slice b2 p.deltas.length c2)) 1) := by rw [gk _ xA xA]; exact u0
        have gold : ∀ z, z < h.next → g.get z = h.get z := fun z hz => by rw [gk z xA xA, k6 z xA]; exact old z hz
        have nxd : ∀ z, z < H6.next → ¬ svRow (.slice xd ((p.base.take i).filter fun r => !(r.del && decide (r.lsn ≤ F))).length 0) = some z := fun z hz e => by have := sv.row e; omega
        by_cases hi : (i : Int) < (p.base.length : Int)
        · obtain ⟨x, hx⟩ : ∃ x, p.base[i]? = some x := ⟨p.base[i]'xA, by simp⟩
          obtain ⟨_, r, off, rfl, hr1, hr2⟩ := RS.at_ hb hx
          have hc1 : (0 ≤ (i : Int) ∧ (i : Int) < (p.base.length : Int)) := by omega
          cases d : x.del with
          | false =>
            obtain ⟨v', G, a1, a2, a3, a4⟩ := sv_one sv x (Nat.le_trans (List.length_filter_le _ _) qB) gn
            obtain ⟨xd', rfl⟩ := sv_form a2
            have Gj : G.get (h.next + 4) = some (LR { p with full := F } (.slice xd ((p.base.take i).filter fun r => !(r.del && decide (r.lsn ≤ F))).length 0) (.slice x2 p.deltas.length y2)) := by rw [a4 _ xA (nxd _ xA)]; exact gj
            have Gp := (a4 h.next xA (nxd _ xA)).trans gp
            have jY := An @gp <| An @gj <| An @Gj <| An @Gp <| An @hc1 <| An @rcl <| An @sb <| An ty23 <| An tb24 <| ty27
            refine W.seq <| Wr <| ja sm <| ja J25f3 <| ja Jl <| ja Jn <| je Jt <| On ?_
            refine Wy <| CWp.skip <| SQ.normal ?_
            refine W.seq <| W.block <| Wd <| jb J25f3 <| jb Jl <| jb sm <| jb Ji <| jb J27f2 <| jH (zl (hv := (hr2 _ (gold _ hr1)).2 2 _ _ _ ty4 rfl rfl)) (d) <| jG Zt rfl <| jG sm rfl <| jq rfl <| jq rfl <| jq rfl <| jq rfl <| jq rfl <| jq rfl <| jq rfl <| jq rfl <| jq rfl <| jG Zp rfl <| Sn ?_
            refine Wy <| CWp.sqd tyOK mixed (ms := [0, 1, 0, 4, 0, 28, 60, 124, 255, 511, 1023]) xJ (
                jR J25f3 <| js Jl <| jR J25f3 <| js Jl <| jR sm <| jR Ji <| .read rfl rfl (zl (hv := (show aLoad T _ _ _ = some (Value.agg #[encS x.key, U64 x.lsn, .bool x.del, encS x.val]) from (hr2 _ xn).1 _ _ ty27 rfl rfl))) xC trivial rfl <| jt Jh rfl <| jt (so_append xD (a1 _ _ xL rfl xK)) rfl <| jR J25f3 <| jt Js rfl <| .nil) <| BQ.normal <| SQ.normal ?_
            have jW := @w2
            refine W.reg <| ja sm <| ja Ja <| ja za <| OSuf.nil <| ?_
            have htk : (p.base.take (i + 1)).filter (fun r => !(r.del && decide (r.lsn ≤ F))) = (p.base.take i).filter (fun r => !(r.del && decide (r.lsn ≤ F))) ++ [x] := by rw [take_snoc hx, List.filter_append]; simp [d]
            refine LQ.normal (m := m - 1) (L := [(2, P0 h.next), (4, P0 (h.next + 1)), (5, P0 (h.next + 4)), (6, I64 ((i + 1 : Nat) : Int))]) xA ?_ ⟨i + 1, xd', by omega, ?_, ?_, by simp only [nx]; omega, fun z hz h9 => ?_, rfl⟩
            · simp only [HasA, Tr.get_put, Nat.reduceEqDiff, reduceIte, w2, and_self]
            · rw [htk]
              exact a2.mono xI (fun z hz he => zS (by have := a2.row he; omega))
            · rw [htk]; exact zP
            · rw [zS xA, a4 z xA (nxd z hz)]; exact gk z hz h9
          | true =>
            by_cases hl : x.lsn > F
            · skip
              obtain ⟨v', G, a1, a2, a3, a4⟩ := sv_one sv x (Nat.le_trans (List.length_filter_le _ _) qB) gn
              obtain ⟨xd', rfl⟩ := sv_form a2
              have Gj : G.get (h.next + 4) = some (LR { p with full := F } (.slice xd ((p.base.take i).filter fun r => !(r.del && decide (r.lsn ≤ F))).length 0) (.slice x2 p.deltas.length y2)) := by rw [a4 _ xA (nxd _ xA)]; exact gj
              have Gp := (a4 h.next xA (nxd _ xA)).trans gp
              have jY := An @gp <| An @gj <| An @Gj <| An @Gp <| An @hc1 <| An @rcl <| An @sb <| An ty23 <| An tb24 <| An ty22 <| ty27
              refine W.seq <| Wr <| ja sm <| ja J25f3 <| ja Jl <| ja Jn <| je Jt <| On ?_
              refine Wy <| CWp.skip <| SQ.normal ?_
              refine W.seq <| W.block <| Wd <| jb J25f3 <| jb Jl <| jb sm <| jb Ji <| jb J27f2 <| jG (zl (hv := (hr2 _ (gold _ hr1)).2 2 _ _ _ ty4 rfl rfl)) (d) <| jH Zt rfl <| jH sm rfl <| jb J25f3 <| jb Jl <| jb sm <| jb Ji <| jb J27f1 <| jb (zl (hv := (hr2 _ (gold _ hr1)).2 1 _ _ _ ty22 rfl rfl)) <| jb J25f2 <| jb Jl <| jG Jv xG <| jG Zp rfl <| Sn ?_
              refine Wy <| CWp.sqd tyOK mixed (ms := [0, 1, 0, 4, 0, 28, 60, 124, 255, 511, 1023]) xJ (
                  jR J25f3 <| js Jl <| jR J25f3 <| js Jl <| jR sm <| jR Ji <| .read rfl rfl (zl (hv := (show aLoad T _ _ _ = some (Value.agg #[encS x.key, U64 x.lsn, .bool x.del, encS x.val]) from (hr2 _ xn).1 _ _ ty27 rfl rfl))) xC trivial rfl <| jt Jh rfl <| jt (so_append xD (a1 _ _ xL rfl xK)) rfl <| jR J25f3 <| jt Js rfl <| .nil) <| BQ.normal <| SQ.normal ?_
              have jW := @w2
              refine W.reg <| ja sm <| ja Ja <| ja za <| OSuf.nil <| ?_
              have htk : (p.base.take (i + 1)).filter (fun r => !(r.del && decide (r.lsn ≤ F))) = (p.base.take i).filter (fun r => !(r.del && decide (r.lsn ≤ F))) ++ [x] := by rw [take_snoc hx, List.filter_append]; simp [d]; omega
              refine LQ.normal (m := m - 1) (L := [(2, P0 h.next), (4, P0 (h.next + 1)), (5, P0 (h.next + 4)), (6, I64 ((i + 1 : Nat) : Int))]) xA ?_ ⟨i + 1, xd', by omega, ?_, ?_, by simp only [nx]; omega, fun z hz h9 => ?_, rfl⟩
              · simp only [HasA, Tr.get_put, Nat.reduceEqDiff, reduceIte, w2, and_self]
              · rw [htk]
                exact a2.mono xI (fun z hz he => zS (by have := a2.row he; omega))
              · rw [htk]; exact zP
              · rw [zS xA, a4 z xA (nxd z hz)]; exact gk z hz h9
            · have jY := An @gp <| An @gj <| An @hc1 <| An @rcl <| An @sb <| An ty23 <| An tb24 <| An ty22 <| ty27
              refine W.seq <| Wr <| ja sm <| ja J25f3 <| ja Jl <| ja Jn <| je Jt <| On ?_
              refine Wy <| CWp.skip <| SQ.normal ?_
              refine W.seq <| W.block <| Wd <| jb J25f3 <| jb Jl <| jb sm <| jb Ji <| jb J27f2 <| jG (zl (hv := (hr2 _ (gold _ hr1)).2 2 _ _ _ ty4 rfl rfl)) (d) <| jH Zt rfl <| jH sm rfl <| jb J25f3 <| jb Jl <| jb sm <| jb Ji <| jb J27f1 <| jb (zl (hv := (hr2 _ (gold _ hr1)).2 1 _ _ _ ty22 rfl rfl)) <| jb J25f2 <| jb Jl <| jH Jv xG <| jH Zp rfl <| Sn ?_
              refine Wn <| CWp.skip <| BQ.normal <| SQ.normal ?_
              have jW := @w2
              refine W.reg <| ja sm <| ja Ja <| ja za <| OSuf.nil <| ?_
              have htk : (p.base.take (i + 1)).filter (fun r => !(r.del && decide (r.lsn ≤ F))) = (p.base.take i).filter (fun r => !(r.del && decide (r.lsn ≤ F))) := by rw [take_snoc hx, List.filter_append]; simp [d]; omega
              refine LQ.normal (m := m - 1) (L := [(2, P0 h.next), (4, P0 (h.next + 1)), (5, P0 (h.next + 4)), (6, I64 ((i + 1 : Nat) : Int))]) xA ?_ ⟨i + 1, xd, by omega, by rw [htk]; exact sv, by rw [htk]; exact gj, gn, gk, rfl⟩
              simp only [HasA, Tr.get_put, Nat.reduceEqDiff, reduceIte, w2, and_self]
        · have jY := An @gp <| An ty23 <| tb24
          refine W.seq <| Wr <| ja sm <| ja J25f3 <| ja Jl <| ja Jn <| jf Jt <| On ?_
          refine Wn <| CWp.exit <| SQ.exit <| LQ.exit <| BQ.exit <| ?_
          have : i = p.base.length := by omega
          subst this
          rw [List.take_length] at sv gj
          refine NQ.normal (L := [(4, P0 (h.next + 1)), (5, P0 (h.next + 4))]) ?_ ⟨xd, sv, gj, gn, gk, rfl⟩
          simp only [HasA, Tr.get_put, Nat.reduceEqDiff, reduceIte, and_self]
      rintro L a' g ha ⟨xd, sv, gj, gn, gk, rfl⟩
      have gz : g.get (h.next + 1) = some (.cells zlf 1) := by rw [gk _ xA xA]; exact u1
      refine SQ.normal <| CWp.known ha ?_
      simp only [mkA]
      have jY := An @gj <| An @gz <| An ty25 <| tb24
      refine Wr <| ja Jl <| jc Js <| On ?_
      refine CWp.ret <| Jr ?_
      exact ⟨xd, sv.mono xI (fun z hz he => zS (by have := sv.row he; omega)), rfl, by simp only [nx]; omega, fun z h1 h2 h3 => by rw [zS xA]; exact gk z h1 h3⟩
    · rintro u g ⟨xd, sv, rfl, gn, gk⟩
      refine ⟨_, _, _, _, rfl, sv_fs' (sv.mono (h' := g) (Nat.le_refl _) (fun _ _ _ => rfl)) |>.mono xA (Nat.le_refl _) (fun _ _ _ => rfl), f2.keep xA xA (fun r hr hr2 => ?_), fun r hr hr2 => ?_, fun z hz => ?_⟩
      · have := f2.lo hr
        rw [gk r xA xA xA, k6 r hr2]
      · have := f2.lo hr2
        have := sv.row hr
        omega
      · rw [gk z xA xA xA, k6 z xA]; exact old z hz
  by_cases hK : advK p low = true
  · rw [if_pos hK]; exact back hK
  · rw [if_neg hK]
    obtain ⟨d, hd1, hlt⟩ : ∃ d, p.deltas[0]? = some d ∧ d.lsn ≤ F := by
      cases hds : p.deltas with
      | nil => exact (hK (by simp [advK, hds])).elim
      | cons d ds =>
        refine ⟨d, rfl, ?_⟩
        have : ¬ F < d.lsn := fun h9 => hK (by simp [advK, hds, ← hF, h9])
        omega
    obtain ⟨_, r, off, ex2, hr1, hr2⟩ := RS.at_ ds6 hd1
    have hlen : (0 ≤ (0 : Int) ∧ (0 : Int) < (p.deltas.length : Int)) := by
      have := (List.getElem?_eq_some_iff.1 hd1).1; omega
    have hpos : (p.deltas.length : Int) > 0 := by omega
    have ld : ∀ t ti, T.get t = some ti → ti.agg = false → aLoad T t (PA r (off + 1)) H6 = some (U64 d.lsn) := fun t ti ht ha => by
      have := (hr2 H6 rfl).2 1 t ti (U64 d.lsn) ht ha rfl
      simpa using this
    rw [hH6] at ld
    subst ex2
    refine hc_of (M := { p with full := F }) o1 o2 (K0 := fun u g => u = LV { p with full := F } (.slice x1 p.base.length y1) (.slice (some ⟨r, off, none⟩) p.deltas.length y2) ∧ H6.next ≤ g.next ∧ ∀ z, z < H6.next → ¬ z = h.next + 1 → g.get z = H6.get z) ?_ ?_
    · refine W.enter tyOK Tryz.func24 rfl rfl ?_
      simp only [entry]
      rw [hH4] at p4 p5 p6
      rw [hH6]
      have jY := ty25
      refine Wr <| ja Zx <| ja Jo <| On ?_
      have jY := An @p0 <| An @p1 <| An @p4 <| An @p5 <| An @p6 <| An @eF <| An @hlen <| An @rcl <| An @sb <| An ty25 <| An ty22 <| An ty23 <| An ty27 <| tb24
      refine Wr <| ja Jl <| jk (Jc en43 (xU)) rfl <| ja Jo <| jc Js <| On ?_
      refine W.seq <| Wr <| ja Jl <| jk (Jc en14 (hck)) rfl <| jF Jz (rfl) <| jF sm rfl <| ja sm <| jF Jv xG <| jF Zp rfl <| On ?_
      refine Wn <| CWp.skip <| SQ.normal ?_
      refine Wr <| ja J25f2 <| ja Jl <| ja sm <| ja (so_max xD) <| ja J25f2 <| jc Js <| On ?_
      refine W.seq <| Wd <| jb J25f4 <| jb Jl <| jb Jn <| jG Jv xG <| jG sm rfl <| jb J25f4 <| jb Jl <| jb Ji <| jb J27f1 <| jb (zl (hv := ld _ _ ty22 rfl)) <| jb J25f2 <| jb Jl <| jG Ju xG <| jG Zp rfl <| Sn ?_
      refine Wy <| Wr <| ja Jl <| jc Js <| On ?_
      refine CWp.ret <| SQ.ret <| Jr ?_
      exact ⟨rfl, by simp only [nx]; omega, fun z h1 h2 => by simp (disch := first | omega | simp only [nx]; omega) only [hpl] <;> rfl⟩
    · rintro u g ⟨rfl, gn, gk⟩
      exact ⟨_, _, _, _, rfl, f1.keep xA xA (fun q hq hq2 => by have := f1.lo hq; rw [gk q xA xA, k6 q hq2]), f2.keep xA xA (fun q hq hq2 => by have := f2.lo hq; rw [gk q xA xA, k6 q hq2]), sep, fun z hz => by rw [gk z xA xA, k6 z xA]; exact old z hz⟩
end Go.Proofs.YtebheelmgcggmaaGreat
