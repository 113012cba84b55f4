/-
  Merged: RgA, RgB, RgE, RgF, RgN, RgP, RgQ.
-/
import Derived.Test.YtebheelmgcggmaaGreatMf
import Derived.Test.YtebheelmgcggmaaGreatMb
set_option linter.unusedSimpArgs false
set_option linter.unusedVariables false
set_option maxRecDepth 10000
set_option maxHeartbeats 8000000
namespace Go.Proofs.YtebheelmgcggmaaGreat
open Go.Ab Go.Sort
def HC (f : FuncId) (args : List Value) (M : Lf) (h : AHeap) : Prop := ∃ nb nd, (nb = true → M.base = []) ∧ (nd = true → M.deltas = []) ∧ FWp Tryz.prog f args h fun u g => u = LV M (cval nb h.next M.base) (cval nd (h.next + 1) M.deltas) ∧ g = hand h M nb nd
theorem sv_fs {h : AHeap} {lo : Nat} {l : List Rec} {v : Value} (s : SV h 4 lo (fl l) v) : FS h lo l (nilV v) v (svRow v) ∧ (nilV v = true → l = []) := by
  generalize hvs : fl l = vs at s
  cases s with
  | nil => exact ⟨.nil (fl_nil.1 hvs), fun _ => fl_nil.1 hvs⟩
  | @some y n vs h1 h2 h3 h4 h5 =>
    subst hvs
    rw [fl_length] at h1
    exact ⟨.some (rest := []) (by omega) h2 h3 (by rw [List.append_nil]; exact h4) (.inl rfl), fun e => by cases e⟩
theorem hc_of {f : FuncId} {args : List Value} {h : AHeap} {M : Lf} {nb nd : Bool} (h1 : nb = true → M.base = []) (h2 : nd = true → M.deltas = []) {K0 : Value → AHeap → Prop} (hf : FWp Tryz.prog f args h K0)
    (hk : ∀ u h', K0 u h' → ∃ bv dv x y, u = LV M bv dv ∧ FS h' h.next M.base nb bv x ∧ FS h' h.next M.deltas nd dv y ∧ (∀ r, x = some r → y ≠ some r) ∧ ∀ z, z < h.next → h'.get z = h.get z) : HC f args M h :=
  ⟨nb, nd, h1, h2, gcL hf hk⟩
theorem sv_fs' {h : AHeap} {lo : Nat} {l : List Rec} {v : Value} (s : SV h 4 lo (fl l) v) : FS h lo l (decide (l = [])) v (svRow v) := by
  by_cases e : l = []
  · have := s.empty (fl_nil.2 e)
    subst this
    rw [decide_eq_true e]; exact .nil e
  · obtain ⟨f, g⟩ := sv_fs s
    rw [decide_eq_false e]
    have : nilV v = false := by
      cases hn : nilV v with
      | false => rfl
      | true => exact (e (g hn)).elim
    rw [this] at f; exact f
theorem own0_x (h : AHeap) (p : Lf) (bv dv : Value) (hb : RS h p.base bv) (hd : RS h p.deltas dv) (hlb : p.base.length ≤ 1000000) (hld : p.deltas.length ≤ 1000000) :
    FWp Tryz.prog 43 [LV p bv dv] h fun u g => u = LV p (cval (decide (p.base = [])) h.next p.base) (cval (decide (p.deltas = [])) (h.next + 1) p.deltas) ∧ g = hand h p (decide (p.base = [])) (decide (p.deltas = [])) := by
  obtain ⟨b1, c1, rfl⟩ := hb.form
  obtain ⟨b2, c2, rfl⟩ := hd.form
  obtain ⟨h2, hh2⟩ : ∃ h2, h2 = (h.new (.cells (lcs p (.slice b1 p.base.length c1) (.slice b2 p.deltas.length c2)) 1)).new (.cells zlf 1) := ⟨_, rfl⟩
  have e2 : h2.next = h.next + 2 := by rw [hh2]; rfl
  have k2 : ∀ z, z < h.next → h2.get z = h.get z := fun z hz => by rw [hh2]; simp (disch := first | omega | simp only [nx]; omega) only [hpl]
  have q0 : h2.get h.next = some (.cells (lcs p (.slice b1 p.base.length c1) (.slice b2 p.deltas.length c2)) 1) := by rw [hh2]; simp (disch := first | omega | simp only [nx]; omega) only [hpl]
  have q1 : h2.get (h.next + 1) = some (.cells zlf 1) := by rw [hh2]; simp (disch := first | omega | simp only [nx]; omega) only [hpl]
  have r1 := recs0_c h2 p.base _ (hb.mono (by omega) k2) hlb
  have s1 := rval_sv h2 p.base
  have n1 := rheap_next h2 p.base
  have k1 := rheap_old h2 p.base
  obtain ⟨x1, ev1⟩ := sv_form s1
  rw [ev1] at r1 s1
  obtain ⟨H3, hH3⟩ : ∃ H3, H3 = rheap h2 p.base := ⟨_, rfl⟩
  rw [← hH3] at r1 s1 n1 k1
  have p0 : H3.get h.next = some (.cells (lcs p (.slice b1 p.base.length c1) (.slice b2 p.deltas.length c2)) 1) := by rw [k1 _ (by omega)]; exact q0
  obtain ⟨H4, hH4⟩ : ∃ H4, H4 = H3.set h.next (.cells (lcs p (.slice x1 p.base.length 0) (.slice b2 p.deltas.length c2)) 1) := ⟨_, rfl⟩
  have n4 : H4.next = H3.next := by rw [hH4]; rfl
  have k4 : ∀ z, ¬ z = h.next → H4.get z = H3.get z := fun z hz => by rw [hH4]; exact zS (by omega)
  have r2 := recs0_c H4 p.deltas _ (hd.mono (by omega) (fun z hz => by rw [k4 z (by omega), k1 z (by omega), k2 z hz])) hld
  have s2 := rval_sv H4 p.deltas
  have n2 := rheap_next H4 p.deltas
  have kk2 := rheap_old H4 p.deltas
  obtain ⟨x2, ev2⟩ := sv_form s2
  rw [ev2] at r2 s2
  obtain ⟨H5, hH5⟩ : ∃ H5, H5 = rheap H4 p.deltas := ⟨_, rfl⟩
  rw [← hH5] at r2 s2 n2 kk2
  have p4 : H4.get h.next = some (.cells (lcs p (.slice x1 p.base.length 0) (.slice b2 p.deltas.length c2)) 1) := by rw [hH4]; exact zP
  have p5 : H5.get h.next = some (.cells (lcs p (.slice x1 p.base.length 0) (.slice b2 p.deltas.length c2)) 1) := by rw [kk2 _ (by omega)]; exact p4
  have z5 : H5.get (h.next + 1) = some (.cells zlf 1) := by rw [kk2 _ (by omega), k4 _ (by omega), k1 _ (by omega)]; exact q1
  have s1' : SV H5 4 h2.next (fl p.base) (.slice x1 p.base.length 0) := (s1.mono (h' := H4) (by omega) (fun z hz he => k4 z (by have := s1.row he; omega))).mono (by omega) (fun z hz _ => kk2 z hz)
  have f1 := sv_fs' s1'
  have f2 := sv_fs' s2
  refine gcL (K0 := fun u g => u = LV p (.slice x1 p.base.length 0) (.slice x2 p.deltas.length 0) ∧ H5.next ≤ g.next ∧ ∀ z, z < H5.next → ¬ z = h.next → ¬ z = h.next + 1 → g.get z = H5.get z) ?_ ?_
  · rw [hH4] at r2
    refine W.enter tyOK Tryz.func43 rfl rfl ?_
    simp only [entry]
    refine Wr <| Oa rfl Zx rfl <| Oa rfl (so_alloc (by simp only [aAlloc, ty25] <;> rfl)) rfl <| On ?_
    refine Wr <| Oa rfl (zf (hv := fa_ok (k := 3) ty25 rfl rfl ty23 rfl rfl)) rfl <| Oa rfl (zl (hv := by simp (disch := first | omega | simp only [nx]; omega) only [aLoad, ty23, rowOf, hpl, q0, p0, p4, p5, z5, rcl, Value.cells, ty23, ty25] <;> rfl)) rfl <| OSuf.callD rfl (by simp only [aopnds, lk] <;> rfl) en44 ((by rw [hh2] at r1; exact r1)) rfl <| Oa rfl (zf (hv := fa_ok (k := 3) ty25 rfl rfl ty23 rfl rfl)) rfl <| Oa rfl (zs (hv := by simp (disch := first | omega | simp only [nx]; omega) only [aStore, ty23, writeRow, hpl, q0, p0, p4, p5, z5, rcl, Value.cells, ty23, ty25] <;> rfl)) rfl <| On ?_
    refine Wr <| Oa rfl (zf (hv := fa_ok (k := 4) ty25 rfl rfl ty23 rfl rfl)) rfl <| Oa rfl (zl (hv := by simp (disch := first | omega | simp only [nx]; omega) only [aLoad, ty23, rowOf, hpl, q0, p0, p4, p5, z5, rcl, Value.cells, ty23, ty25] <;> rfl)) rfl <| OSuf.callD rfl (by simp only [aopnds, lk] <;> rfl) en44 (r2) rfl <| Oa rfl (zf (hv := fa_ok (k := 4) ty25 rfl rfl ty23 rfl rfl)) rfl <| Oa rfl (zs (hv := by simp (disch := first | omega | simp only [nx]; omega) only [aStore, ty23, writeRow, hpl, q0, p0, p4, p5, z5, rcl, Value.cells, ty23, ty25] <;> rfl)) rfl <| On ?_
    refine Wr <| Oa rfl (zl (hv := by simp (disch := first | omega | simp only [nx]; omega) only [aLoad, ty25, rowOf, hpl, q0, p0, p4, p5, z5, rcl, Value.cells, ty23, ty25] <;> rfl)) rfl <| Oa rfl (zs (hv := by simp (disch := first | omega | simp only [nx]; omega) only [aStore, ty25, writeRow, hpl, q0, p0, p4, p5, z5, rcl, Value.cells, ty23, ty25] <;> rfl)) rfl <| On ?_
    refine CWp.ret <| FQ.ret (by simp (disch := first | omega | simp only [nx]; omega) only [aRet, Tryz.f43, aResults, aResult, lk, Nat.reduceEqDiff, reduceIte, aLoad, rowOf, hpl, q0, p0, p4, p5, z5, rcl, Value.cells, places, ty23, ty25] <;> rfl) ?_
    exact ⟨rfl, by simp only [nx]; omega, fun z h1 h2 h3 => by simp (disch := first | omega | simp only [nx]; omega) only [hpl]⟩
  · rintro u g ⟨rfl, hn, hg⟩
    have lo1 : ∀ r, svRow (.slice x1 p.base.length 0) = some r → h2.next ≤ r ∧ r < H3.next := fun r hr => by have := s1.row hr; omega
    have lo2 : ∀ r, svRow (.slice x2 p.deltas.length 0) = some r → H4.next ≤ r ∧ r < H5.next := fun r hr => by have := s2.row hr; omega
    exact ⟨_, _, _, _, rfl, f1.keep (by omega) hn (fun r hr hr2 => hg r hr2 (by have := lo1 r hr; omega) (by have := lo1 r hr; omega)), f2.keep (by omega) hn (fun r hr hr2 => hg r hr2 (by have := lo2 r hr; omega) (by have := lo2 r hr; omega)), fun r hr hr2 => by have := lo1 r hr; have := lo2 r hr2; omega, fun z hz => by rw [hg z (by omega) (by omega) (by omega), kk2 _ (by omega), k4 _ (by omega), k1 _ (by omega), k2 _ hz]⟩
def HK (h : AHeap) (M : Lf) (u : Value) (g : AHeap) : Prop := ∃ bv dv x y, u = LV M bv dv ∧ FS g h.next M.base (decide (M.base = [])) bv x ∧ FS g h.next M.deltas (decide (M.deltas = [])) dv y ∧ (∀ r, x = some r → y ≠ some r) ∧ ∀ z, z < h.next → g.get z = h.get z
theorem hc_k {f : FuncId} {args : List Value} {h : AHeap} {M : Lf} (hf : FWp Tryz.prog f args h (HK h M)) : HC f args M h := hc_of of_decide_eq_true of_decide_eq_true hf fun _ _ h => h
end Go.Proofs.YtebheelmgcggmaaGreat
namespace Go.Proofs.YtebheelmgcggmaaGreat
open Go.Ab Go.Sort
theorem hand_fs {h : AHeap} {p : Lf} {nb nd : Bool} (h1 : nb = true → p.base = []) (h2 : nd = true → p.deltas = []) : FS (hand h p nb nd) h.next p.base nb (cval nb h.next p.base) (bif nb then none else some h.next) ∧ FS (hand h p nb nd) h.next p.deltas nd (cval nd (h.next + 1) p.deltas) (bif nd then none else some (h.next + 1)) := by
  have hn := hand_next h p nb nd
  constructor
  · cases nb
    · exact .some (rest := []) rfl (Nat.le_refl _) (by omega) (by rw [List.append_nil, hand, cadd_get _ _ _ _ (by rw [cadd_next]; omega)]; exact zQ) (.inl rfl)
    · exact .nil (h1 rfl)
  · cases nd
    · refine .some (rest := []) rfl (by omega) (by omega) ?_ (.inl rfl)
      rw [List.append_nil, hand, ← cadd_next nb h p.base]
      exact zQ
    · exact .nil (h2 rfl)
end Go.Proofs.YtebheelmgcggmaaGreat
namespace Go.Proofs.YtebheelmgcggmaaGreat
open Go.Ab Go.Sort
theorem sv_atb {h : AHeap} {lo : Nat} {l : List Rec} {b : Option Addr} (s : SV h 4 lo (fl l) (.slice b l.length 0)) : AtB b l.length := by
  obtain ⟨b', e, _, hr⟩ := s.form
  have e9 : b = b' := by injection e
  subst e9
  by_cases hl : l = []
  · left
    have := s.empty (fl_nil.2 hl)
    injection this with e1
    exact ⟨e1, by rw [hl]; rfl⟩
  · obtain ⟨y, h1, _⟩ := hr (fun e => hl (fl_nil.1 e))
    exact .inr ⟨y, h1⟩
theorem svr_lo {h : AHeap} {lo : Nat} {l : List Rec} {b : Option Addr} (s : SV h 4 lo (fl l) (.slice b l.length 0)) {i : Nat} (hi : i ≤ l.length) :
    ∃ x, (∀ t elem ti ei, T.get t = some ti → ti.und = .slice elem → T.get elem = some ei → ei.size = 4 → aSlice T t (.slice b l.length 0) (some (I64 i)) none none h = some x) ∧ aLen x = some (l.length - i) ∧ ∀ g : AHeap, (∀ z, svRow (.slice b l.length 0) = some z → g.get z = h.get z) → aCells g 4 (l.length - i) x = some (fl (l.drop i)) := by
  by_cases hl : l = []
  · have e := s.empty (fl_nil.2 hl)
    injection e with e1
    subst e1
    subst hl
    have : i = 0 := by simpa using hi
    subst this
    exact ⟨_, fun t elem ti ei h1 h2 h3 _ => sl_0 (x := (0, 0, 0)) h1 h2 h3 rfl, rfl, fun _ _ => rfl⟩
  · obtain ⟨b', e, _, hr⟩ := s.form
    have e9 : b = b' := by injection e
    subst e9
    obtain ⟨y, rfl, hy, _, _, hg⟩ := hr (fun e => hl (fl_nil.1 e))
    refine ⟨.slice (some ⟨y, 0 + i * 4, none⟩) (l.length - i) 0, fun t elem ti ei g1 g2 g3 g4 => by rw [← g4]; exact sl_u g1 g2 g3 (bounds_lo hi) (by rw [g4]; exact hg), rfl, fun g hk => ?_⟩
    have e : rowOf g y = some (fl l) := by simp only [rowOf, hk y rfl, hg]
    refine aCells_part e (by omega) ?_
    have e2 : fl l = fl (l.take i) ++ fl (l.drop i) := by rw [← fl_app, List.take_append_drop]
    rw [cellsOf_mk (by rw [fl_length]; omega), e2, Nat.zero_add, List.drop_left' (by rw [fl_length, List.length_take]; omega), List.take_of_length_le (by rw [fl_length, List.length_drop]; omega)]
theorem first_ge (k : List UInt8) : ∀ l : List Rec, ∃ i, i ≤ l.length ∧ (∀ (j : Nat) (x : Rec), j < i → l[j]? = some x → ltStr x.key k = true) ∧ ∀ x : Rec, l[i]? = some x → ltStr x.key k = false
  | [] => ⟨0, Nat.le_refl _, by omega, by simp⟩
  | a :: l => by
    cases c : ltStr a.key k with
    | false => exact ⟨0, Nat.zero_le _, by omega, fun x hx => by have : a = x := by simpa using hx
                                                                 rw [← this]; exact c⟩
    | true =>
      obtain ⟨i, h1, h2, h3⟩ := first_ge k l
      refine ⟨i + 1, by simp; omega, fun j x hj hx => ?_, fun x hx => h3 x (by simpa using hx)⟩
      cases j with
      | zero =>
        have : a = x := by simpa using hx
        rw [← this]; exact c
      | succ j => exact h2 j x (by omega) (by simpa using hx)
theorem into_at {r : Rec} : ∀ {l : List Rec} {i : Nat}, (∀ (j : Nat) (x : Rec), j < i → l[j]? = some x → ltStr x.key r.key = true) → i ≤ l.length → (∀ x : Rec, l[i]? = some x → ltStr x.key r.key = false) →
    (∀ x : Rec, l[i]? = some x → x.key = r.key → x.lsn < r.lsn → into r l = l.set i r) ∧ (∀ x : Rec, l[i]? = some x → x.key = r.key → ¬ x.lsn < r.lsn → into r l = l) ∧ ((∀ x : Rec, l[i]? = some x → ¬ x.key = r.key) → into r l = l.take i ++ r :: l.drop i)
  | [], i, _, hi, _ => by
    have : i = 0 := by simpa using hi
    subst this
    exact ⟨fun x hx => by simp at hx, fun x hx => by simp at hx, fun _ => rfl⟩
  | a :: l, 0, _, _, h3 => by
    have h4 : ¬ ltStr a.key r.key = true := by rw [h3 a rfl]; decide
    refine ⟨fun x hx hk hl => ?_, fun x hx hk hl => ?_, fun hk => ?_⟩
    · have : a = x := by simpa using hx
      subst this
      rw [into, if_neg h4, if_pos hk, if_pos hl]; rfl
    · have : a = x := by simpa using hx
      subst this
      rw [into, if_neg h4, if_pos hk, if_neg hl]
    · rw [into, if_neg h4, if_neg (hk a rfl)]; rfl
  | a :: l, i + 1, h1, hi, h3 => by
    have h4 := h1 0 a (by omega) rfl
    obtain ⟨e1, e2, e3⟩ := into_at (r := r) (l := l) (i := i) (fun j x hj hx => h1 (j + 1) x (by omega) (by simpa using hx)) (by simpa using hi) (fun x hx => h3 x (by simpa using hx))
    refine ⟨fun x hx hk hl => ?_, fun x hx hk hl => ?_, fun hk => ?_⟩
    · simp only [into, h4, if_true]; rw [e1 x (by simpa using hx) hk hl]; rfl
    · simp only [into, h4, if_true]; rw [e2 x (by simpa using hx) hk hl]
    · simp only [into, h4, if_true]; rw [e3 (fun x hx => hk x (by simpa using hx))]; rfl
theorem into0_c (h : AHeap) (lo : Nat) (l : List Rec) (r : Rec) (b : Option Addr) (s : SV h 4 lo (fl l) (.slice b l.length 0)) (hl : l.length ≤ 1000000) (hlo : lo ≤ h.next) (hk : ∀ x ∈ l, SL x.key) (hr : SL r.key) :
    ∃ b' H, FWp Tryz.prog 56 [.slice b l.length 0, r.V] h (fun u g => u = .slice b' (into r l).length 0 ∧ g = H) ∧ SV H 4 lo (fl (into r l)) (.slice b' (into r l).length 0) ∧ h.next ≤ H.next ∧ (∀ z, z < h.next → ¬ svRow (.slice b l.length 0) = some z → H.get z = h.get z) ∧ ∀ z, svRow (.slice b' (into r l).length 0) = some z → svRow (.slice b l.length 0) = some z ∨ h.next ≤ z := by
  have tb56 := And.intro ty22 (And.intro ty23 (And.intro ty27 (ty9)))
  obtain ⟨i, hi, hlt, hge⟩ := first_ge r.key l
  obtain ⟨p1, p2, p3⟩ := into_at hlt hi hge
  obtain ⟨h1, hh1⟩ : ∃ h1, h1 = h.new (.cells [encS r.key, U64 r.lsn, .bool r.del, encS r.val] 1) := ⟨_, rfl⟩
  have n1 : h1.next = h.next + 1 := by rw [hh1]; rfl
  have k1 : ∀ z, z < h.next → h1.get z = h.get z := fun z hz => by rw [hh1]; exact zN (by omega)
  have u0 : h1.get h.next = some (.cells [encS r.key, U64 r.lsn, .bool r.del, encS r.val] 1) := by rw [hh1]; exact zQ
  have s1 : SV h1 4 lo (fl l) (.slice b l.length 0) := s.mono (by omega) (fun z hz _ => k1 z hz)
  have rs1 := sv_rs s1
  by_cases heq : ∃ x, l[i]? = some x ∧ x.key = r.key
  · obtain ⟨x0, hx0, hkx⟩ := heq
    have hi0 := (List.getElem?_eq_some_iff.1 hx0).1
    obtain ⟨_, q, off, eb, hq1, hq2⟩ := RS.at_ rs1 hx0
    have hc0 : (0 ≤ (i : Int) ∧ (i : Int) < (l.length : Int)) := by omega
    have hne : l ≠ [] := fun e => by rw [e] at hi0; simp at hi0
    obtain ⟨b', e', _, hr'⟩ := s1.form
    have e9 : b = b' := by injection e'
    subst e9
    obtain ⟨y, ey, hy1, hy2, hy3, hy4⟩ := hr' (fun e => hne (fl_nil.1 e))
    rw [eb] at ey
    cases ey
    simp only [Nat.zero_add] at hq2
    have tk : List.take 4 (List.drop 0 [encS r.key, U64 r.lsn, .bool r.del, encS r.val]) = [encS r.key, U64 r.lsn, .bool r.del, encS r.val] := rfl
    have tz : Nat.beq (List.toArray [encS r.key, U64 r.lsn, .bool r.del, encS r.val]).size 4 = true := rfl
    have to : oneCells [encS r.key, U64 r.lsn, .bool r.del, encS r.val] = true := rfl
    have tl : [encS r.key, U64 r.lsn, .bool r.del, encS r.val].length = 4 := rfl
    by_cases hls : x0.lsn < r.lsn
    · rw [p1 x0 hx0 hkx hls, List.length_set]
      have hsp := fl_set (l := l) r (i := i) hi0
      have hbl := fl_ble (l := l) (i := i) hi0
      have hsp' : splice (fl l) (i * 4) [encS r.key, U64 r.lsn, .bool r.del, encS r.val] = fl (l.set i r) := hsp
      refine ⟨b, h1.set q (.cells (fl (l.set i r)) 4), ?_, ?_, by simp only [nx]; omega, fun z hz hv => ?_, fun z hz => .inl hz⟩
      · refine W.enter tyOK Tryz.func56 rfl rfl ?_
        simp only [entry]
        refine Wr <| Oa rfl Zx rfl <| Oa rfl za rfl <| On ?_
        refine Wr <| Oa rfl za rfl <| On ?_
        refine W.seq <| ?_
        refine W.cut (fun L g => h1 = g ∧ L = [(0, .slice b l.length 0), (3, P0 h.next), (5, I64 i)]) (W.block (W.loop (fun m L g => ∃ j : Nat, m + j = i ∧ h1 = g ∧ L = [(0, .slice b l.length 0), (3, P0 h.next), (5, I64 j)]) (n := i) ⟨0, rfl, hh1, rfl⟩ ?_ ?_)) ?_
        · simp [HasA, Tr.get_put]
        · rintro m L g ⟨j, hm, rfl, rfl⟩
          simp only [mkA]
          have w2 : IntKind.i64.wrap ((j : Int) + 1) = ((j + 1 : Nat) : Int) := by rw [wrap_i64 (by omega) (by omega)]; omega
          by_cases hj : (j : Int) < (l.length : Int)
          · obtain ⟨x, hx⟩ : ∃ x, l[j]? = some x := ⟨l[j]'(by omega), by simp⟩
            obtain ⟨_, q2, off2, eb2, hr1, hr2⟩ := RS.at_ rs1 hx
            have hc1 : (0 ≤ (j : Int) ∧ (j : Int) < (l.length : Int)) := by omega
            have hless := fun G : AHeap => less_c G x.key r.key (hk x (List.mem_of_getElem? hx)) hr
            by_cases hji : j < i
            · rw [hlt j x hji hx] at hless
              refine W.seq <| Wd <| Sa rfl sm rfl <| Sa rfl sm rfl <| Sa rfl (Zn (hv := by simp (disch := first | omega | simp only [nx]; omega) only [aLenOf, ty23, hpl, u0, eb2, hc1, sb, Value.cells, places, tb56] <;> rfl)) rfl <| St rfl (zb (hv := bi_lss)) rfl (by first | rfl | assumption | ((simp only [bl, u0, eb2, hc1, sb, Value.cells, places, tb56]) <;> first | done | assumption | omega) | (simp; done) | (simp; omega)) <| St rfl sm rfl rfl <| Sa ag sm rfl <| Sa ag sm rfl <| Sa ag (zi (hv := by simp (disch := first | omega | simp only [nx]; omega) only [aIndexAddr, ty23, ty27, hpl, u0, eb2, hc1, sb, Value.cells, places, tb56] <;> rfl)) rfl <| Sa ag (zf (hv := fa_ok (k := 0) ty27 rfl rfl ty9 rfl rfl)) rfl <| Sa ag (zl (hv := (hr2 _ rfl).2 0 _ _ _ ty9 rfl rfl)) rfl <| Sa ag (zf (hv := fa_ok (k := 0) ty27 rfl rfl ty9 rfl rfl)) rfl <| Sa ag (zl (hv := by simp (disch := first | omega | simp only [nx]; omega) only [aLoad, ty9, rowOf, hpl, u0, eb2, hc1, sb, Value.cells] <;> rfl)) rfl <| SqW.callD ag (by simp only [aopnds, lk] <;> rfl) en49 (hless _) rfl <| St rfl Zp rfl rfl <| Sn ?_
              refine Wy <| CWp.skip <| SQ.normal ?_
              refine W.block <| W.reg <| Oa rfl sm rfl <| Oa rfl (zb (hv := bi_w bi_add (by first | (simp only [w2] <;> rfl) | rfl))) rfl <| Oa rfl za rfl <| OSuf.nil <| BQ.normal <| ?_
              refine LQ.normal (m := m - 1) (L := [(0, .slice b l.length 0), (3, P0 h.next), (5, I64 ((j + 1 : Nat) : Int))]) (by omega) ?_ ⟨j + 1, by omega, rfl, rfl⟩
              simp only [HasA, Tr.get_put, Nat.reduceEqDiff, reduceIte, w2, and_self]
            · obtain rfl : j = i := by omega
              rw [hge x hx] at hless
              refine W.seq <| Wd <| Sa rfl sm rfl <| Sa rfl sm rfl <| Sa rfl (Zn (hv := by simp (disch := first | omega | simp only [nx]; omega) only [aLenOf, ty23, hpl, u0, eb2, hc1, sb, Value.cells, places, tb56] <;> rfl)) rfl <| St rfl (zb (hv := bi_lss)) rfl (by first | rfl | assumption | ((simp only [bl, u0, eb2, hc1, sb, Value.cells, places, tb56]) <;> first | done | assumption | omega) | (simp; done) | (simp; omega)) <| St rfl sm rfl rfl <| Sa ag sm rfl <| Sa ag sm rfl <| Sa ag (zi (hv := by simp (disch := first | omega | simp only [nx]; omega) only [aIndexAddr, ty23, ty27, hpl, u0, eb2, hc1, sb, Value.cells, places, tb56] <;> rfl)) rfl <| Sa ag (zf (hv := fa_ok (k := 0) ty27 rfl rfl ty9 rfl rfl)) rfl <| Sa ag (zl (hv := (hr2 _ rfl).2 0 _ _ _ ty9 rfl rfl)) rfl <| Sa ag (zf (hv := fa_ok (k := 0) ty27 rfl rfl ty9 rfl rfl)) rfl <| Sa ag (zl (hv := by simp (disch := first | omega | simp only [nx]; omega) only [aLoad, ty9, rowOf, hpl, u0, eb2, hc1, sb, Value.cells] <;> rfl)) rfl <| SqW.callD ag (by simp only [aopnds, lk] <;> rfl) en49 (hless _) rfl <| Sf rfl Zp rfl rfl <| Sn ?_
              refine Wn <| CWp.exit <| SQ.exit <| LQ.exit <| BQ.exit <| ?_
              refine NQ.normal (L := [(0, .slice b l.length 0), (3, P0 h.next), (5, I64 j)]) ?_ ⟨rfl, rfl⟩
              simp only [HasA, Tr.get_put, Nat.reduceEqDiff, reduceIte, and_self]
          · refine W.seq <| Wd <| Sa rfl sm rfl <| Sa rfl sm rfl <| Sa rfl (Zn (hv := by simp (disch := first | omega | simp only [nx]; omega) only [aLenOf, ty23, hpl] <;> rfl)) rfl <| Sf rfl (zb (hv := bi_lss)) rfl (by first | rfl | assumption | ((simp only [bl]) <;> first | done | assumption | omega) | (simp; done) | (simp; omega)) <| Sf rfl sm rfl rfl <| Pb ag rfl <| Pb ag rfl <| Pb ag rfl <| Pb ag rfl <| Pb ag rfl <| Pb ag rfl <| Pb ag rfl <| Pb ag rfl <| Sf rfl Zp rfl rfl <| Sn ?_
            refine Wn <| CWp.exit <| SQ.exit <| LQ.exit <| BQ.exit <| ?_
            obtain rfl : j = i := by omega
            refine NQ.normal (L := [(0, .slice b l.length 0), (3, P0 h.next), (5, I64 j)]) ?_ ⟨rfl, rfl⟩
            simp only [HasA, Tr.get_put, Nat.reduceEqDiff, reduceIte, and_self]
        rintro L a' g ha ⟨rfl, rfl⟩
        refine SQ.normal <| CWp.known ha ?_
        simp only [mkA]
        refine W.seq <| Wd <| Sa rfl sm rfl <| Sa rfl sm rfl <| Sa rfl (Zn (hv := by simp (disch := first | omega | simp only [nx]; omega) only [aLenOf, ty23, hpl, u0, eb, hy4, hc0, tk, tz, to, tl, Bool.and_self, hsp, hsp', hbl, rcl, sb, csz, csl, cso, csn, csb, Value.cells, places, tb56] <;> rfl)) rfl <| St rfl (zb (hv := bi_lss)) rfl (by first | rfl | assumption | ((simp only [bl, u0, eb, hy4, hc0, tk, tz, to, tl, Bool.and_self, hsp, hsp', hbl, rcl, sb, csz, csl, cso, csn, csb, Value.cells, places, tb56]) <;> first | done | assumption | omega) | (simp; done) | (simp; omega)) <| St rfl sm rfl rfl <| Sa ag sm rfl <| Sa ag sm rfl <| Sa ag (zi (hv := by simp (disch := first | omega | simp only [nx]; omega) only [aIndexAddr, ty23, ty27, hpl, u0, eb, hy4, hc0, tk, tz, to, tl, Bool.and_self, hsp, hsp', hbl, rcl, sb, csz, csl, cso, csn, csb, Value.cells, places, tb56] <;> rfl)) rfl <| Sa ag (zf (hv := fa_ok (k := 0) ty27 rfl rfl ty9 rfl rfl)) rfl <| Sa ag (zl (hv := (hq2 _ rfl).2 0 _ _ _ ty9 rfl rfl)) rfl <| Sa ag (zf (hv := fa_ok (k := 0) ty27 rfl rfl ty9 rfl rfl)) rfl <| Sa ag (zl (hv := by simp (disch := first | omega | simp only [nx]; omega) only [aLoad, ty9, rowOf, hpl, u0, eb, hy4, hc0, tk, tz, to, tl, Bool.and_self, hsp, hsp', hbl, rcl, sb, csz, csl, cso, csn, csb, Value.cells] <;> rfl)) rfl <| St ag (zb (hv := bs_eql)) rfl (by simp [sst, hkx]) <| St rfl Zp rfl rfl <| Sn ?_
        refine Wy <| W.seq <| Wd <| Sa rfl sm rfl <| Sa rfl sm rfl <| Sa rfl (zi (hv := by simp (disch := first | omega | simp only [nx]; omega) only [aIndexAddr, ty23, ty27, hpl, u0, eb, hy4, hc0, tk, tz, to, tl, Bool.and_self, hsp, hsp', hbl, rcl, sb, csz, csl, cso, csn, csb, Value.cells, places, tb56] <;> rfl)) rfl <| Sa rfl (zf (hv := fa_ok (k := 1) ty27 rfl rfl ty22 rfl rfl)) rfl <| Sa rfl (zl (hv := (hq2 _ rfl).2 1 _ _ _ ty22 rfl rfl)) rfl <| Sa rfl (zf (hv := fa_ok (k := 1) ty27 rfl rfl ty22 rfl rfl)) rfl <| Sa rfl (zl (hv := by simp (disch := first | omega | simp only [nx]; omega) only [aLoad, ty22, rowOf, hpl, u0, eb, hy4, hc0, tk, tz, to, tl, Bool.and_self, hsp, hsp', hbl, rcl, sb, csz, csl, cso, csn, csb, Value.cells] <;> rfl)) rfl <| St rfl (zb (hv := bi_lss)) rfl (by simp [hls]) <| Sn ?_
        refine Wy <| W.reg <| Oa rfl sm rfl <| Oa rfl sm rfl <| Oa rfl (zl (hv := by simp (disch := first | omega | simp only [nx]; omega) only [aLoad, ty27, rowOf, hpl, u0, eb, hy4, hc0, tk, tz, to, tl, Bool.and_self, hsp, hsp', hbl, rcl, sb, csz, csl, cso, csn, csb, Value.cells] <;> rfl)) rfl <| Oa rfl (zi (hv := by simp (disch := first | omega | simp only [nx]; omega) only [aIndexAddr, ty23, ty27, hpl, u0, eb, hy4, hc0, tk, tz, to, tl, Bool.and_self, hsp, hsp', hbl, rcl, sb, csz, csl, cso, csn, csb, Value.cells, places, tb56] <;> rfl)) rfl <| Oa rfl (zs (hv := by simp (disch := first | omega | simp only [nx]; omega) only [aStore, ty27, writeRow, hpl, u0, eb, hy4, hc0, tk, tz, to, tl, Bool.and_self, hsp, hsp', hbl, rcl, sb, csz, csl, cso, csn, csb, Value.cells] <;> rfl)) rfl <| On ?_
        refine Wr <| Oa rfl sm rfl <| Oa rfl za rfl <| On ?_
        refine CWp.ret <| SQ.ret <| FQ.ret (by simp only [aRet, Tryz.f56, aResults, aResult, lk, Nat.reduceEqDiff, reduceIte] <;> rfl) ?_
        exact ⟨rfl, rfl⟩
      · rw [eb]
        exact .some (by rw [fl_length, List.length_set]) (by omega) (by simp only [nx]; omega) (zP) (fun e => by rw [fl_nil] at e; exact hne (by simpa using e))
      · rw [eb] at hv
        have : ¬ q = z := fun e => hv (by rw [e]; rfl)
        rw [zS (by omega)]; exact k1 z hz
    · rw [p2 x0 hx0 hkx hls]
      refine ⟨b, h1, ?_, s1, by omega, fun z hz _ => k1 z hz, fun z hz => .inl hz⟩
      refine W.enter tyOK Tryz.func56 rfl rfl ?_
      simp only [entry]
      refine Wr <| Oa rfl Zx rfl <| Oa rfl za rfl <| On ?_
      refine Wr <| Oa rfl za rfl <| On ?_
      refine W.seq <| ?_
      refine W.cut (fun L g => h1 = g ∧ L = [(0, .slice b l.length 0), (3, P0 h.next), (5, I64 i)]) (W.block (W.loop (fun m L g => ∃ j : Nat, m + j = i ∧ h1 = g ∧ L = [(0, .slice b l.length 0), (3, P0 h.next), (5, I64 j)]) (n := i) ⟨0, rfl, hh1, rfl⟩ ?_ ?_)) ?_
      · simp [HasA, Tr.get_put]
      · rintro m L g ⟨j, hm, rfl, rfl⟩
        simp only [mkA]
        have w2 : IntKind.i64.wrap ((j : Int) + 1) = ((j + 1 : Nat) : Int) := by rw [wrap_i64 (by omega) (by omega)]; omega
        by_cases hj : (j : Int) < (l.length : Int)
        · obtain ⟨x, hx⟩ : ∃ x, l[j]? = some x := ⟨l[j]'(by omega), by simp⟩
          obtain ⟨_, q2, off2, eb2, hr1, hr2⟩ := RS.at_ rs1 hx
          have hc1 : (0 ≤ (j : Int) ∧ (j : Int) < (l.length : Int)) := by omega
          have hless := fun G : AHeap => less_c G x.key r.key (hk x (List.mem_of_getElem? hx)) hr
          by_cases hji : j < i
          · rw [hlt j x hji hx] at hless
            refine W.seq <| Wd <| Sa rfl sm rfl <| Sa rfl sm rfl <| Sa rfl (Zn (hv := by simp (disch := first | omega | simp only [nx]; omega) only [aLenOf, ty23, hpl, u0, eb2, hc1, sb, Value.cells, places, tb56] <;> rfl)) rfl <| St rfl (zb (hv := bi_lss)) rfl (by first | rfl | assumption | ((simp only [bl, u0, eb2, hc1, sb, Value.cells, places, tb56]) <;> first | done | assumption | omega) | (simp; done) | (simp; omega)) <| St rfl sm rfl rfl <| Sa ag sm rfl <| Sa ag sm rfl <| Sa ag (zi (hv := by simp (disch := first | omega | simp only [nx]; omega) only [aIndexAddr, ty23, ty27, hpl, u0, eb2, hc1, sb, Value.cells, places, tb56] <;> rfl)) rfl <| Sa ag (zf (hv := fa_ok (k := 0) ty27 rfl rfl ty9 rfl rfl)) rfl <| Sa ag (zl (hv := (hr2 _ rfl).2 0 _ _ _ ty9 rfl rfl)) rfl <| Sa ag (zf (hv := fa_ok (k := 0) ty27 rfl rfl ty9 rfl rfl)) rfl <| Sa ag (zl (hv := by simp (disch := first | omega | simp only [nx]; omega) only [aLoad, ty9, rowOf, hpl, u0, eb2, hc1, sb, Value.cells] <;> rfl)) rfl <| SqW.callD ag (by simp only [aopnds, lk] <;> rfl) en49 (hless _) rfl <| St rfl Zp rfl rfl <| Sn ?_
            refine Wy <| CWp.skip <| SQ.normal ?_
            refine W.block <| W.reg <| Oa rfl sm rfl <| Oa rfl (zb (hv := bi_w bi_add (by first | (simp only [w2] <;> rfl) | rfl))) rfl <| Oa rfl za rfl <| OSuf.nil <| BQ.normal <| ?_
            refine LQ.normal (m := m - 1) (L := [(0, .slice b l.length 0), (3, P0 h.next), (5, I64 ((j + 1 : Nat) : Int))]) (by omega) ?_ ⟨j + 1, by omega, rfl, rfl⟩
            simp only [HasA, Tr.get_put, Nat.reduceEqDiff, reduceIte, w2, and_self]
          · obtain rfl : j = i := by omega
            rw [hge x hx] at hless
            refine W.seq <| Wd <| Sa rfl sm rfl <| Sa rfl sm rfl <| Sa rfl (Zn (hv := by simp (disch := first | omega | simp only [nx]; omega) only [aLenOf, ty23, hpl, u0, eb2, hc1, sb, Value.cells, places, tb56] <;> rfl)) rfl <| St rfl (zb (hv := bi_lss)) rfl (by first | rfl | assumption | ((simp only [bl, u0, eb2, hc1, sb, Value.cells, places, tb56]) <;> first | done | assumption | omega) | (simp; done) | (simp; omega)) <| St rfl sm rfl rfl <| Sa ag sm rfl <| Sa ag sm rfl <| Sa ag (zi (hv := by simp (disch := first | omega | simp only [nx]; omega) only [aIndexAddr, ty23, ty27, hpl, u0, eb2, hc1, sb, Value.cells, places, tb56] <;> rfl)) rfl <| Sa ag (zf (hv := fa_ok (k := 0) ty27 rfl rfl ty9 rfl rfl)) rfl <| Sa ag (zl (hv := (hr2 _ rfl).2 0 _ _ _ ty9 rfl rfl)) rfl <| Sa ag (zf (hv := fa_ok (k := 0) ty27 rfl rfl ty9 rfl rfl)) rfl <| Sa ag (zl (hv := by simp (disch := first | omega | simp only [nx]; omega) only [aLoad, ty9, rowOf, hpl, u0, eb2, hc1, sb, Value.cells] <;> rfl)) rfl <| SqW.callD ag (by simp only [aopnds, lk] <;> rfl) en49 (hless _) rfl <| Sf rfl Zp rfl rfl <| Sn ?_
            refine Wn <| CWp.exit <| SQ.exit <| LQ.exit <| BQ.exit <| ?_
            refine NQ.normal (L := [(0, .slice b l.length 0), (3, P0 h.next), (5, I64 j)]) ?_ ⟨rfl, rfl⟩
            simp only [HasA, Tr.get_put, Nat.reduceEqDiff, reduceIte, and_self]
        · refine W.seq <| Wd <| Sa rfl sm rfl <| Sa rfl sm rfl <| Sa rfl (Zn (hv := by simp (disch := first | omega | simp only [nx]; omega) only [aLenOf, ty23, hpl] <;> rfl)) rfl <| Sf rfl (zb (hv := bi_lss)) rfl (by first | rfl | assumption | ((simp only [bl]) <;> first | done | assumption | omega) | (simp; done) | (simp; omega)) <| Sf rfl sm rfl rfl <| Pb ag rfl <| Pb ag rfl <| Pb ag rfl <| Pb ag rfl <| Pb ag rfl <| Pb ag rfl <| Pb ag rfl <| Pb ag rfl <| Sf rfl Zp rfl rfl <| Sn ?_
          refine Wn <| CWp.exit <| SQ.exit <| LQ.exit <| BQ.exit <| ?_
          obtain rfl : j = i := by omega
          refine NQ.normal (L := [(0, .slice b l.length 0), (3, P0 h.next), (5, I64 j)]) ?_ ⟨rfl, rfl⟩
          simp only [HasA, Tr.get_put, Nat.reduceEqDiff, reduceIte, and_self]
      rintro L a' g ha ⟨rfl, rfl⟩
      refine SQ.normal <| CWp.known ha ?_
      simp only [mkA]
      refine W.seq <| Wd <| Sa rfl sm rfl <| Sa rfl sm rfl <| Sa rfl (Zn (hv := by simp (disch := first | omega | simp only [nx]; omega) only [aLenOf, ty23, hpl, u0, eb, hy4, hc0, sb, Value.cells, places, tb56] <;> rfl)) rfl <| St rfl (zb (hv := bi_lss)) rfl (by first | rfl | assumption | ((simp only [bl, u0, eb, hy4, hc0, sb, Value.cells, places, tb56]) <;> first | done | assumption | omega) | (simp; done) | (simp; omega)) <| St rfl sm rfl rfl <| Sa ag sm rfl <| Sa ag sm rfl <| Sa ag (zi (hv := by simp (disch := first | omega | simp only [nx]; omega) only [aIndexAddr, ty23, ty27, hpl, u0, eb, hy4, hc0, sb, Value.cells, places, tb56] <;> rfl)) rfl <| Sa ag (zf (hv := fa_ok (k := 0) ty27 rfl rfl ty9 rfl rfl)) rfl <| Sa ag (zl (hv := (hq2 _ rfl).2 0 _ _ _ ty9 rfl rfl)) rfl <| Sa ag (zf (hv := fa_ok (k := 0) ty27 rfl rfl ty9 rfl rfl)) rfl <| Sa ag (zl (hv := by simp (disch := first | omega | simp only [nx]; omega) only [aLoad, ty9, rowOf, hpl, u0, eb, hy4, hc0, sb, Value.cells] <;> rfl)) rfl <| St ag (zb (hv := bs_eql)) rfl (by simp [sst, hkx]) <| St rfl Zp rfl rfl <| Sn ?_
      refine Wy <| W.seq <| Wd <| Sa rfl sm rfl <| Sa rfl sm rfl <| Sa rfl (zi (hv := by simp (disch := first | omega | simp only [nx]; omega) only [aIndexAddr, ty23, ty27, hpl, u0, eb, hy4, hc0, sb, Value.cells, places, tb56] <;> rfl)) rfl <| Sa rfl (zf (hv := fa_ok (k := 1) ty27 rfl rfl ty22 rfl rfl)) rfl <| Sa rfl (zl (hv := (hq2 _ rfl).2 1 _ _ _ ty22 rfl rfl)) rfl <| Sa rfl (zf (hv := fa_ok (k := 1) ty27 rfl rfl ty22 rfl rfl)) rfl <| Sa rfl (zl (hv := by simp (disch := first | omega | simp only [nx]; omega) only [aLoad, ty22, rowOf, hpl, u0, eb, hy4, hc0, sb, Value.cells] <;> rfl)) rfl <| Sf rfl (zb (hv := bi_lss)) rfl (by simp; omega) <| Sn ?_
      refine Wn <| CWp.skip <| SQ.normal ?_
      refine Wr <| Oa rfl sm rfl <| Oa rfl za rfl <| On ?_
      refine CWp.ret <| SQ.ret <| FQ.ret (by simp only [aRet, Tryz.f56, aResults, aResult, lk, Nat.reduceEqDiff, reduceIte] <;> rfl) ?_
      exact ⟨rfl, rfl⟩
  · have hnk : ∀ x, l[i]? = some x → ¬ x.key = r.key := fun x hx hk9 => heq ⟨x, hx, hk9⟩
    rw [p3 hnk]
    have hl2 : (l.take i).length = i := by rw [List.length_take]; omega
    have rt := recs0_c h1 (l.take i) (.slice b i 0) (rs_take rs1 hi) (by omega)
    obtain ⟨H2, hH2⟩ : ∃ H2, H2 = rheap h1 (l.take i) := ⟨_, rfl⟩
    have n2 := rheap_next h1 (l.take i)
    have k2 := rheap_old h1 (l.take i)
    have sv2 := rval_sv h1 (l.take i)
    rw [← hH2] at rt n2 k2 sv2
    obtain ⟨v3, H3, ap3, sv3, n3, k3⟩ := sv_one sv2 r (by omega) (by omega)
    have nv2 : ∀ z, z < h1.next → ¬ svRow (rval h1 (l.take i)) = some z := fun z hz e => by have := sv2.row e; omega
    have z3 : ∀ z, z < h1.next → H3.get z = h1.get z := fun z hz => by rw [k3 z (by omega) (nv2 z hz), k2 z hz]
    have s3 : SV H3 4 lo (fl l) (.slice b l.length 0) := s1.mono (by omega) (fun z hz _ => z3 z hz)
    obtain ⟨x4, a4, l4, e4⟩ := svr_lo s3 hi
    obtain ⟨v5, H5, ap5, sv5, n5, n5', k5, hrow5, hvl5⟩ := ap_any sv3 l4 (e4 H3 (fun _ _ => rfl)) (by rw [fl_length, List.length_drop]) (fl_ones _) (by rw [sv_len sv3, List.length_append, hl2]; simp; omega) (by omega)
    have nv3 : ∀ z, z < h1.next → ¬ svRow v3 = some z := fun z hz e => by have := sv3.row e; omega
    have hcat : fl (l.take i ++ [r]) ++ fl (l.drop i) = fl (l.take i ++ r :: l.drop i) := by rw [← fl_app]; simp
    rw [hcat] at sv5
    obtain ⟨b5, ev5⟩ := sv_form sv5
    subst ev5
    have u2 : H2.get h.next = some (.cells [encS r.key, U64 r.lsn, .bool r.del, encS r.val] 1) := by rw [k2 _ (by omega)]; exact u0
    have sv5' : SV H5 4 lo (fl (l.take i ++ r :: l.drop i)) (.slice b5 (l.take i ++ r :: l.drop i).length 0) := by
      generalize fl (l.take i ++ r :: l.drop i) = vs at sv5
      generalize Value.slice b5 (l.take i ++ r :: l.drop i).length 0 = w at sv5
      cases sv5 with
      | nil => exact .nil
      | some q1 q2 q3 q4 q5 => exact .some q1 (by omega) q3 q4 q5
    refine ⟨b5, H5, ?_, sv5', by omega, fun z hz hv => by rw [k5 z (by omega) (nv3 z (by omega)), z3 z (by omega)]; exact k1 z hz, fun z hz => .inr (by have := sv5.row hz; omega)⟩
    have atb := sv_atb s1
    refine W.enter tyOK Tryz.func56 rfl rfl ?_
    simp only [entry]
    refine Wr <| Oa rfl Zx rfl <| Oa rfl za rfl <| On ?_
    refine Wr <| Oa rfl za rfl <| On ?_
    refine W.seq <| ?_
    refine W.cut (fun L g => h1 = g ∧ L = [(0, .slice b l.length 0), (3, P0 h.next), (5, I64 i)]) (W.block (W.loop (fun m L g => ∃ j : Nat, m + j = i ∧ h1 = g ∧ L = [(0, .slice b l.length 0), (3, P0 h.next), (5, I64 j)]) (n := i) ⟨0, rfl, hh1, rfl⟩ ?_ ?_)) ?_
    · simp [HasA, Tr.get_put]
    · rintro m L g ⟨j, hm, rfl, rfl⟩
      simp only [mkA]
      have w2 : IntKind.i64.wrap ((j : Int) + 1) = ((j + 1 : Nat) : Int) := by rw [wrap_i64 (by omega) (by omega)]; omega
      by_cases hj : (j : Int) < (l.length : Int)
      · obtain ⟨x, hx⟩ : ∃ x, l[j]? = some x := ⟨l[j]'(by omega), by simp⟩
        obtain ⟨_, q2, off2, eb2, hr1, hr2⟩ := RS.at_ rs1 hx
        have hc1 : (0 ≤ (j : Int) ∧ (j : Int) < (l.length : Int)) := by omega
        have hless := fun G : AHeap => less_c G x.key r.key (hk x (List.mem_of_getElem? hx)) hr
        by_cases hji : j < i
        · rw [hlt j x hji hx] at hless
          refine W.seq <| Wd <| Sa rfl sm rfl <| Sa rfl sm rfl <| Sa rfl (Zn (hv := by simp (disch := first | omega | simp only [nx]; omega) only [aLenOf, ty23, hpl, u0, eb2, hc1, sb, Value.cells, places, tb56] <;> rfl)) rfl <| St rfl (zb (hv := bi_lss)) rfl (by first | rfl | assumption | ((simp only [bl, u0, eb2, hc1, sb, Value.cells, places, tb56]) <;> first | done | assumption | omega) | (simp; done) | (simp; omega)) <| St rfl sm rfl rfl <| Sa ag sm rfl <| Sa ag sm rfl <| Sa ag (zi (hv := by simp (disch := first | omega | simp only [nx]; omega) only [aIndexAddr, ty23, ty27, hpl, u0, eb2, hc1, sb, Value.cells, places, tb56] <;> rfl)) rfl <| Sa ag (zf (hv := fa_ok (k := 0) ty27 rfl rfl ty9 rfl rfl)) rfl <| Sa ag (zl (hv := (hr2 _ rfl).2 0 _ _ _ ty9 rfl rfl)) rfl <| Sa ag (zf (hv := fa_ok (k := 0) ty27 rfl rfl ty9 rfl rfl)) rfl <| Sa ag (zl (hv := by simp (disch := first | omega | simp only [nx]; omega) only [aLoad, ty9, rowOf, hpl, u0, eb2, hc1, sb, Value.cells] <;> rfl)) rfl <| SqW.callD ag (by simp only [aopnds, lk] <;> rfl) en49 (hless _) rfl <| St rfl Zp rfl rfl <| Sn ?_
          refine Wy <| CWp.skip <| SQ.normal ?_
          refine W.block <| W.reg <| Oa rfl sm rfl <| Oa rfl (zb (hv := bi_w bi_add (by first | (simp only [w2] <;> rfl) | rfl))) rfl <| Oa rfl za rfl <| OSuf.nil <| BQ.normal <| ?_
          refine LQ.normal (m := m - 1) (L := [(0, .slice b l.length 0), (3, P0 h.next), (5, I64 ((j + 1 : Nat) : Int))]) (by omega) ?_ ⟨j + 1, by omega, rfl, rfl⟩
          simp only [HasA, Tr.get_put, Nat.reduceEqDiff, reduceIte, w2, and_self]
        · obtain rfl : j = i := by omega
          rw [hge x hx] at hless
          refine W.seq <| Wd <| Sa rfl sm rfl <| Sa rfl sm rfl <| Sa rfl (Zn (hv := by simp (disch := first | omega | simp only [nx]; omega) only [aLenOf, ty23, hpl, u0, eb2, hc1, sb, Value.cells, places, tb56] <;> rfl)) rfl <| St rfl (zb (hv := bi_lss)) rfl (by first | rfl | assumption | ((simp only [bl, u0, eb2, hc1, sb, Value.cells, places, tb56]) <;> first | done | assumption | omega) | (simp; done) | (simp; omega)) <| St rfl sm rfl rfl <| Sa ag sm rfl <| Sa ag sm rfl <| Sa ag (zi (hv := by simp (disch := first | omega | simp only [nx]; omega) only [aIndexAddr, ty23, ty27, hpl, u0, eb2, hc1, sb, Value.cells, places, tb56] <;> rfl)) rfl <| Sa ag (zf (hv := fa_ok (k := 0) ty27 rfl rfl ty9 rfl rfl)) rfl <| Sa ag (zl (hv := (hr2 _ rfl).2 0 _ _ _ ty9 rfl rfl)) rfl <| Sa ag (zf (hv := fa_ok (k := 0) ty27 rfl rfl ty9 rfl rfl)) rfl <| Sa ag (zl (hv := by simp (disch := first | omega | simp only [nx]; omega) only [aLoad, ty9, rowOf, hpl, u0, eb2, hc1, sb, Value.cells] <;> rfl)) rfl <| SqW.callD ag (by simp only [aopnds, lk] <;> rfl) en49 (hless _) rfl <| Sf rfl Zp rfl rfl <| Sn ?_
          refine Wn <| CWp.exit <| SQ.exit <| LQ.exit <| BQ.exit <| ?_
          refine NQ.normal (L := [(0, .slice b l.length 0), (3, P0 h.next), (5, I64 j)]) ?_ ⟨rfl, rfl⟩
          simp only [HasA, Tr.get_put, Nat.reduceEqDiff, reduceIte, and_self]
      · refine W.seq <| Wd <| Sa rfl sm rfl <| Sa rfl sm rfl <| Sa rfl (Zn (hv := by simp (disch := first | omega | simp only [nx]; omega) only [aLenOf, ty23, hpl] <;> rfl)) rfl <| Sf rfl (zb (hv := bi_lss)) rfl (by first | rfl | assumption | ((simp only [bl]) <;> first | done | assumption | omega) | (simp; done) | (simp; omega)) <| Sf rfl sm rfl rfl <| Pb ag rfl <| Pb ag rfl <| Pb ag rfl <| Pb ag rfl <| Pb ag rfl <| Pb ag rfl <| Pb ag rfl <| Pb ag rfl <| Sf rfl Zp rfl rfl <| Sn ?_
        refine Wn <| CWp.exit <| SQ.exit <| LQ.exit <| BQ.exit <| ?_
        obtain rfl : j = i := by omega
        refine NQ.normal (L := [(0, .slice b l.length 0), (3, P0 h.next), (5, I64 j)]) ?_ ⟨rfl, rfl⟩
        simp only [HasA, Tr.get_put, Nat.reduceEqDiff, reduceIte, and_self]
    rintro L a' g ha ⟨rfl, rfl⟩
    by_cases hil : (i : Int) < (l.length : Int)
    · obtain ⟨x0, hx0⟩ : ∃ x, l[i]? = some x := ⟨l[i]'(by omega), by simp⟩
      have hkx := hnk x0 hx0
      have hc0 : (0 ≤ (i : Int) ∧ (i : Int) < (l.length : Int)) := by omega
      obtain ⟨_, q, off, eb, hq1, hq2⟩ := RS.at_ rs1 hx0
      refine SQ.normal <| CWp.known ha ?_
      simp only [mkA]
      refine W.seq <| Wd <| Sa rfl sm rfl <| Sa rfl sm rfl <| Sa rfl (Zn (hv := by simp (disch := first | omega | simp only [nx]; omega) only [aLenOf, ty23, hpl, u0, u2, eb, hc0, rcl, sb, Value.cells, places, tb56] <;> rfl)) rfl <| St rfl (zb (hv := bi_lss)) rfl (by first | rfl | assumption | ((simp only [bl, u0, u2, eb, hc0, rcl, sb, Value.cells, places, tb56]) <;> first | done | assumption | omega) | (simp; done) | (simp; omega)) <| St rfl sm rfl rfl <| Sa ag sm rfl <| Sa ag sm rfl <| Sa ag (zi (hv := by simp (disch := first | omega | simp only [nx]; omega) only [aIndexAddr, ty23, ty27, hpl, u0, u2, eb, hc0, rcl, sb, Value.cells, places, tb56] <;> rfl)) rfl <| Sa ag (zf (hv := fa_ok (k := 0) ty27 rfl rfl ty9 rfl rfl)) rfl <| Sa ag (zl (hv := (hq2 _ rfl).2 0 _ _ _ ty9 rfl rfl)) rfl <| Sa ag (zf (hv := fa_ok (k := 0) ty27 rfl rfl ty9 rfl rfl)) rfl <| Sa ag (zl (hv := by simp (disch := first | omega | simp only [nx]; omega) only [aLoad, ty9, rowOf, hpl, u0, u2, eb, hc0, rcl, sb, Value.cells] <;> rfl)) rfl <| Sf ag (zb (hv := bs_eql)) rfl (by simp [sst, hkx]) <| Sf rfl Zp rfl rfl <| Sn ?_
      refine Wn <| CWp.skip <| SQ.normal ?_
      refine W.seq <| CWp.sql tyOK mixed (ms := [0, 0, 3, 7, 0, 16, 63, 127]) (by kernel_rfl) (
          .free rfl rfl rfl sm rfl <| .free rfl rfl rfl sm rfl <| .read rfl rfl rfl (so_slice (by simp only [lk] <;> rfl) (by simp only [oopnd, lk] <;> rfl) (by simp only [oopnd, lk] <;> rfl) (by simp only [oopnd, lk] <;> rfl) (sl_cut ty23 rfl ty27 atb hi)) (by first | rfl | (simp [veq, veq1, veqs]; done) | (simp [veq, veq1, veqs, splice]; done)) trivial rfl <| .call rfl rfl rfl (fcallO (by simp only [aopnds, lk] <;> rfl) en44 (rt)) rfl ⟨.inl rfl, trivial⟩ rfl <| .read rfl rfl rfl (zl (hv := by simp (disch := first | omega | simp only [nx]; omega) only [aLoad, ty27, rowOf, hpl, u0, u2, eb, hc0, rcl, sb, Value.cells] <;> rfl)) (by first | rfl | (simp [veq, veq1, veqs]; done) | (simp [veq, veq1, veqs, splice]; done)) ⟨.inr (zl (hv := by simp (disch := first | omega | simp only [nx]; omega) only [aLoad, ty27, rowOf, hpl, u0, u2, eb, hc0, rcl, sb, Value.cells] <;> rfl)), trivial⟩ rfl <| .late rfl rfl rfl (so_buildSlice (by simp only [aparts, lk] <;> rfl) (by simp only [aBuildSlice, ty23, ty27, u0, u2, eb, hc0, rcl, sb, Value.cells, places, tb56] <;> rfl)) rfl rfl ⟨.inl rfl, .inr (so_slice (by simp only [lk] <;> rfl) (by simp only [oopnd, lk] <;> rfl) (by simp only [oopnd, lk] <;> rfl) (by simp only [oopnd, lk] <;> rfl) (sl_cut ty23 rfl ty27 atb hi)), trivial⟩ rfl <| .change rfl rfl rfl (so_append (by simp only [aopnds, lk] <;> rfl) (ap3 _ _ (by simp only [appT, ty23, ty27] <;> rfl) rfl (by decide))) rfl ⟨.inl rfl, .inl rfl, trivial⟩ rfl <| .free rfl rfl rfl za rfl <| .nil) <| SQ.normal ?_
      refine Wr <| Oa rfl sm rfl <| Oa rfl sm rfl <| Oa rfl sm rfl <| Oa rfl (so_slice (by simp only [lk] <;> rfl) (by simp only [oopnd, lk] <;> rfl) (by simp only [oopnd, lk] <;> rfl) (by simp only [oopnd, lk] <;> rfl) (a4 _ _ _ _ ty23 rfl ty27 rfl)) rfl <| Oa rfl (so_append (by simp only [aopnds, lk] <;> rfl) (ap5 _ _ (by simp only [appT, ty23, ty27] <;> rfl) rfl (by decide))) rfl <| Oa rfl za rfl <| On ?_
      refine CWp.ret <| FQ.ret (by simp only [aRet, Tryz.f56, aResults, aResult, lk, Nat.reduceEqDiff, reduceIte] <;> rfl) ?_
      exact ⟨rfl, rfl⟩
    · refine SQ.normal <| CWp.known ha ?_
      simp only [mkA]
      refine W.seq <| Wd <| Sa rfl sm rfl <| Sa rfl sm rfl <| Sa rfl (Zn (hv := by simp (disch := first | omega | simp only [nx]; omega) only [aLenOf, ty23, hpl, u0, u2, rcl, sb, Value.cells, places, tb56] <;> rfl)) rfl <| Sf rfl (zb (hv := bi_lss)) rfl (by first | rfl | assumption | ((simp only [bl, u0, u2, rcl, sb, Value.cells, places, tb56]) <;> first | done | assumption | omega) | (simp; done) | (simp; omega)) <| Sf rfl sm rfl rfl <| Pb ag rfl <| Pb ag rfl <| Pb ag rfl <| Pb ag rfl <| Pb ag rfl <| Pb ag rfl <| Pb ag rfl <| Pb ag rfl <| Sf rfl Zp rfl rfl <| Sn ?_
      refine Wn <| CWp.skip <| SQ.normal ?_
      refine W.seq <| CWp.sql tyOK mixed (ms := [0, 0, 3, 7, 0, 16, 63, 127]) (by kernel_rfl) (
          .free rfl rfl rfl sm rfl <| .free rfl rfl rfl sm rfl <| .read rfl rfl rfl (so_slice (by simp only [lk] <;> rfl) (by simp only [oopnd, lk] <;> rfl) (by simp only [oopnd, lk] <;> rfl) (by simp only [oopnd, lk] <;> rfl) (sl_cut ty23 rfl ty27 atb hi)) (by first | rfl | (simp [veq, veq1, veqs]; done) | (simp [veq, veq1, veqs, splice]; done)) trivial rfl <| .call rfl rfl rfl (fcallO (by simp only [aopnds, lk] <;> rfl) en44 (rt)) rfl ⟨.inl rfl, trivial⟩ rfl <| .read rfl rfl rfl (zl (hv := by simp (disch := first | omega | simp only [nx]; omega) only [aLoad, ty27, rowOf, hpl, u0, u2, rcl, sb, Value.cells] <;> rfl)) (by first | rfl | (simp [veq, veq1, veqs]; done) | (simp [veq, veq1, veqs, splice]; done)) ⟨.inr (zl (hv := by simp (disch := first | omega | simp only [nx]; omega) only [aLoad, ty27, rowOf, hpl, u0, u2, rcl, sb, Value.cells] <;> rfl)), trivial⟩ rfl <| .late rfl rfl rfl (so_buildSlice (by simp only [aparts, lk] <;> rfl) (by simp only [aBuildSlice, ty23, ty27, u0, u2, rcl, sb, Value.cells, places, tb56] <;> rfl)) rfl rfl ⟨.inl rfl, .inr (so_slice (by simp only [lk] <;> rfl) (by simp only [oopnd, lk] <;> rfl) (by simp only [oopnd, lk] <;> rfl) (by simp only [oopnd, lk] <;> rfl) (sl_cut ty23 rfl ty27 atb hi)), trivial⟩ rfl <| .change rfl rfl rfl (so_append (by simp only [aopnds, lk] <;> rfl) (ap3 _ _ (by simp only [appT, ty23, ty27] <;> rfl) rfl (by decide))) rfl ⟨.inl rfl, .inl rfl, trivial⟩ rfl <| .free rfl rfl rfl za rfl <| .nil) <| SQ.normal ?_
      refine Wr <| Oa rfl sm rfl <| Oa rfl sm rfl <| Oa rfl sm rfl <| Oa rfl (so_slice (by simp only [lk] <;> rfl) (by simp only [oopnd, lk] <;> rfl) (by simp only [oopnd, lk] <;> rfl) (by simp only [oopnd, lk] <;> rfl) (a4 _ _ _ _ ty23 rfl ty27 rfl)) rfl <| Oa rfl (so_append (by simp only [aopnds, lk] <;> rfl) (ap5 _ _ (by simp only [appT, ty23, ty27] <;> rfl) rfl (by decide))) rfl <| Oa rfl za rfl <| On ?_
      refine CWp.ret <| FQ.ret (by simp only [aRet, Tryz.f56, aResults, aResult, lk, Nat.reduceEqDiff, reduceIte] <;> rfl) ?_
      exact ⟨rfl, rfl⟩
end Go.Proofs.YtebheelmgcggmaaGreat
namespace Go.Proofs.YtebheelmgcggmaaGreat
open Go.Ab Go.Sort
theorem sv_oneR {g : AHeap} {lo : Nat} {l : List Rec} {v : Value} (s : SV g 4 lo (fl l) v) (x : Rec) (hl : l.length ≤ 2000000) (hlo : lo ≤ g.next) :
    ∃ v' G, (∀ ats A', appT T ats = some A' → A'.size = 4 → A'.bytes ≤ 100 → aAppend T ats v (.slice (some ⟨g.next, 0, none⟩) 1 2) (g.new (.cells x.cs 4)) = some (v', G)) ∧ SV G 4 lo (fl (l ++ [x])) v' ∧ g.next ≤ G.next ∧ (∀ z, z < g.next → ¬ svRow v = some z → G.get z = g.get z) ∧ svRow v' = some (g.next + 1) := by
  obtain ⟨v', G, a1, a2, a3, a4, a5, a6, a7⟩ := ap_any (h := g.new (.cells x.cs 4)) (k := 1) (x := .slice (some ⟨g.next, 0, none⟩) 1 2) (B := x.cs) (s.mono (by simp) (fun z hz _ => zN (by omega))) rfl (aCells_part (vs := x.cs) (by simp only [rowOf, AHeap.get_new_same]) (Nat.le_refl _) rfl) rfl rfl (by rw [sv_len s]; omega) (by simp; omega)
  refine ⟨v', G, a1, ?_, by simp only [nx] at a3; omega, fun z hz hv => by rw [a5 z (by simp; omega) hv, zN (by omega)], ?_⟩
  · rw [fl_app]
    have : fl [x] = x.cs := by simp [fl]
    rw [this]; exact a2
  · rcases a6 with h | h
    · exact absurd h.2 (by decide)
    · simpa using h
theorem hand_sv (h : AHeap) (p : Lf) (nd : Bool) : SV (hand h p (decide (p.base = [])) nd) 4 h.next (fl p.base) (cval (decide (p.base = [])) h.next p.base) := by
  have hn := hand_next h p (decide (p.base = [])) nd
  by_cases e : p.base = []
  · rw [decide_eq_true e, e]; exact .nil
  · rw [decide_eq_false e] at hn ⊢
    refine .some (fl_length _) (Nat.le_refl _) (by omega) ?_ (fun h9 => e (fl_nil.1 h9))
    rw [hand, cadd_get _ _ _ _ (by rw [cadd_next]; omega)]
    exact zQ
theorem into_length (r : Rec) : ∀ l : List Rec, (into r l).length ≤ l.length + 1
  | [] => by simp [into]
  | a :: l => by
    have := into_length r l
    simp only [into]
    split
    · simp only [List.length_cons]; omega
    · split
      · split <;> simp
      · simp
theorem intos_length : ∀ (ds l : List Rec), (ds.foldl (fun b r => into r b) l).length ≤ l.length + ds.length
  | [], l => by simp
  | d :: ds, l => by
    have h1 := intos_length ds (into d l)
    have h2 := into_length d l
    simp only [List.foldl_cons, List.length_cons]; omega
theorem intos_mem : ∀ (ds l : List Rec) (x : Rec), x ∈ ds.foldl (fun b r => into r b) l → x ∈ ds ∨ x ∈ l
  | [], l, x, h => .inr h
  | d :: ds, l, x, h => by
    rcases intos_mem ds (into d l) x h with h | h
    · exact .inl (List.mem_cons_of_mem _ h)
    · rcases mem_into h with rfl | h
      · exact .inl List.mem_cons_self
      · exact .inr h
def fB (e : Int) (p : Lf) (i : Nat) : List Rec := ((p.deltas.take i).filter fun r => decide (r.lsn ≤ e)).foldl (fun b r => into r b) p.base
def fD (e : Int) (p : Lf) (i : Nat) : List Rec := (p.deltas.take i).filter fun r => decide (e < r.lsn)
theorem fB_in {e : Int} {p : Lf} {i : Nat} {x : Rec} (hx : p.deltas[i]? = some x) (hl : x.lsn ≤ e) : fB e p (i + 1) = into x (fB e p i) ∧ fD e p (i + 1) = fD e p i := by
  simp only [fB, fD, take_snoc hx, List.filter_append]
  have h1 : decide (x.lsn ≤ e) = true := decide_eq_true hl
  have h2 : decide (e < x.lsn) = false := decide_eq_false (by omega)
  simp [h1, h2, List.foldl_append]
theorem fB_out {e : Int} {p : Lf} {i : Nat} {x : Rec} (hx : p.deltas[i]? = some x) (hl : ¬ x.lsn ≤ e) : fB e p (i + 1) = fB e p i ∧ fD e p (i + 1) = fD e p i ++ [x] := by
  simp only [fB, fD, take_snoc hx, List.filter_append]
  have h1 : decide (x.lsn ≤ e) = false := decide_eq_false hl
  have h2 : decide (e < x.lsn) = true := decide_eq_true (by omega)
  simp [h1, h2]
theorem fB_len (e : Int) (p : Lf) (i : Nat) : (fB e p i).length ≤ p.base.length + p.deltas.length := by
  have h1 := intos_length ((p.deltas.take i).filter fun r => decide (r.lsn ≤ e)) p.base
  have h2 : ((p.deltas.take i).filter fun r => decide (r.lsn ≤ e)).length ≤ p.deltas.length := Nat.le_trans (List.length_filter_le _ _) (by rw [List.length_take]; omega)
  simp only [fB]; omega
theorem fB_mem {e : Int} {p : Lf} {i : Nat} {x : Rec} (h : x ∈ fB e p i) : x ∈ p.all := by
  rcases intos_mem _ _ _ h with h | h
  · exact List.mem_append.2 (.inr (List.mem_of_mem_take (List.mem_filter.1 h).1))
  · exact List.mem_append.2 (.inl h)
def FI (n : Nat) (H4 : AHeap) (p : Lf) (e : Int) (i : Nat) (g : AHeap) : Prop := ∃ xb xd, SV g 4 (n + 2) (fl (fB e p i)) (.slice xb (fB e p i).length 0) ∧ SV g 4 H4.next (fl (fD e p i)) (.slice xd (fD e p i).length 0) ∧ (∀ z, svRow (.slice xb (fB e p i).length 0) = some z → ¬ svRow (.slice xd (fD e p i).length 0) = some z ∧ (z = n + 2 ∨ H4.next ≤ z)) ∧ g.get (n + 4) = some (LR p (.slice xb (fB e p i).length 0) (.slice xd (fD e p i).length 0)) ∧ H4.next ≤ g.next ∧ (∀ z, z < H4.next → ¬ z = n + 4 → ¬ z = n + 2 → g.get z = H4.get z)
theorem fold0_c (h : AHeap) (p : Lf) (bv dv : Value) (e : Int) (hb : RS h p.base bv) (hd : RS h p.deltas dv) (hlb : p.base.length ≤ 400000) (hld : p.deltas.length ≤ 400000) (lb : LB p) :
    HC 20 [LV p bv dv, U64 e] (foldM p e) h := by
  have tb20 := And.intro ty22 (And.intro ty23 (And.intro ty25 (ty27)))
  refine hc_k ?_
  obtain ⟨b1, c1, rfl⟩ := hb.form
  obtain ⟨b2, c2, rfl⟩ := hd.form
  obtain ⟨h2, hh2⟩ : ∃ h2, h2 = (h.new (.cells (lcs p (.slice b1 p.base.length c1) (.slice b2 p.deltas.length c2)) 1)).new (.cells zlf 1) := ⟨_, rfl⟩
  have e2 : h2.next = h.next + 2 := by rw [hh2]; rfl
  have k2 : ∀ z, z < h.next → h2.get z = h.get z := fun z hz => by rw [hh2]; simp (disch := first | omega | simp only [nx]; omega) only [hpl]
  have q0 : h2.get h.next = some (.cells (lcs p (.slice b1 p.base.length c1) (.slice b2 p.deltas.length c2)) 1) := by rw [hh2]; simp (disch := first | omega | simp only [nx]; omega) only [hpl]
  have q1 : h2.get (h.next + 1) = some (.cells zlf 1) := by rw [hh2]; simp (disch := first | omega | simp only [nx]; omega) only [hpl]
  have wo := own0_x h2 p _ _ (hb.mono (by omega) k2) (hd.mono (by omega) k2) (by omega) (by omega)
  have o1 : decide (p.base = []) = true → p.base = [] := of_decide_eq_true
  have o2 : decide (p.deltas = []) = true → p.deltas = [] := of_decide_eq_true
  obtain ⟨f1, f2⟩ := hand_fs (h := h2) o1 o2
  obtain ⟨s1, s2⟩ := hand_rs (h := h2) o1 o2
  have sb0 := hand_sv h2 p (decide (p.deltas = []))
  obtain ⟨x1, y1, ev1⟩ := s1.form
  obtain ⟨x2, y2, ev2⟩ := s2.form
  rw [ev1] at f1 sb0
  rw [ev2] at f2
  rw [ev1, ev2] at wo
  have nH := hand_next h2 p (decide (p.base = [])) (decide (p.deltas = []))
  have kH : ∀ z, z < h2.next → (hand h2 p (decide (p.base = [])) (decide (p.deltas = []))).get z = h2.get z := fun z hz => hand_old _ _ _ _ _ hz
  obtain ⟨H3, hH3⟩ : ∃ H3, H3 = hand h2 p (decide (p.base = [])) (decide (p.deltas = [])) := ⟨_, rfl⟩
  rw [← hH3] at wo f1 f2 nH kH sb0
  have p0 : H3.get h.next = some (.cells (lcs p (.slice b1 p.base.length c1) (.slice b2 p.deltas.length c2)) 1) := by rw [kH _ (by omega)]; exact q0
  have p1 : H3.get (h.next + 1) = some (.cells zlf 1) := by rw [kH _ (by omega)]; exact q1
  have old : ∀ z, z < h.next → H3.get z = h.get z := fun z hz => by rw [kH _ (by omega)]; exact k2 z hz
  obtain ⟨H4, hH4⟩ : ∃ H4, H4 = H3.new (LR p (.slice x1 p.base.length y1) (.slice x2 p.deltas.length y2)) := ⟨_, rfl⟩
  have n4 : H4.next = h.next + 5 := by rw [hH4]; simp; omega
  have k4 : ∀ z, z < H3.next → H4.get z = H3.get z := fun z hz => by rw [hH4]; exact zN (by omega)
  have p4 : H4.get h.next = some (.cells (lcs p (.slice b1 p.base.length c1) (.slice b2 p.deltas.length c2)) 1) := by rw [k4 _ (by omega)]; exact p0
  have p5 : H4.get (h.next + 1) = some (.cells zlf 1) := by rw [k4 _ (by omega)]; exact p1
  have p6 : H4.get (h.next + 4) = some (LR p (.slice x1 p.base.length y1) (.slice x2 p.deltas.length y2)) := by
    have : h.next + 4 = H3.next := by omega
    rw [this, hH4]; exact zQ
  have old4 : ∀ z, z < h.next → H4.get z = h.get z := fun z hz => by rw [k4 _ (by omega)]; exact old z hz
  have hck := check0_c H4 p _ _ (hb.mono (by omega) old4) (hd.mono (by omega) old4) (by omega) (by omega) lb
  have w1 : ∀ b : Bool, b = chk p → (b = false → foldM p e = p) := fun b hb h9 => by rw [foldM, if_neg (by rw [← hb, h9]; simp)]
  rw [hH4] at hck
  refine W.enter tyOK Tryz.func20 rfl rfl ?_
  simp only [entry]
  have h34 : h.next + 4 = H3.next := by omega
  have p4' := p4
  have p5' := p5
  have p6' := p6
  rw [hH4] at p4' p5' p6'
  cases fc : chk p with
  | false =>
    rw [w1 _ fc.symm rfl]
    rw [if_neg (by rw [fc]; decide)] at hck
    refine Wr <| Oa rfl Zx rfl <| Oa rfl (so_alloc (by simp only [aAlloc, ty25] <;> rfl)) rfl <| On ?_
    refine Wr <| Oa rfl (zl (hv := by simp (disch := first | omega | simp only [nx]; omega) only [aLoad, ty25, rowOf, hpl, p0, p1, p4', p5', p6', rcl, Value.cells] <;> rfl)) rfl <| OSuf.callD rfl (by simp only [aopnds, lk] <;> rfl) en43 ((by rw [hh2] at wo; exact wo)) rfl <| Oa rfl (so_alloc (by simp only [aAlloc, ty25] <;> rfl)) rfl <| Oa rfl (zs (hv := by simp (disch := first | omega | simp only [nx]; omega) only [aStore, ty25, writeRow, hpl, p0, p1, p4', p5', p6', rcl, Value.cells] <;> rfl)) rfl <| On ?_
    refine W.seq <| Wr <| Oa rfl (zl (hv := by simp (disch := first | omega | simp only [nx]; omega) only [aLoad, ty25, rowOf, hpl, p0, p1, p4', p5', p6', rcl, Value.cells] <;> rfl)) rfl <| OSuf.callD rfl (by simp only [aopnds, lk] <;> rfl) en14 (hck) rfl <| Ot rfl (zb (hv := bi_neq)) rfl (rfl) <| On ?_
    refine Wy <| Wr <| Oa rfl (zl (hv := by simp (disch := first | omega | simp only [nx]; omega) only [aLoad, ty25, rowOf, hpl, p0, p1, p4', p5', p6', rcl, Value.cells] <;> rfl)) rfl <| Oa rfl (zs (hv := by simp (disch := first | omega | simp only [nx]; omega) only [aStore, ty25, writeRow, hpl, p0, p1, p4', p5', p6', rcl, Value.cells] <;> rfl)) rfl <| On ?_
    refine CWp.ret <| SQ.ret <| FQ.ret (by simp (disch := first | omega | simp only [nx]; omega) only [aRet, Tryz.f20, aResults, aResult, lk, Nat.reduceEqDiff, reduceIte, aLoad, rowOf, hpl, p0, p1, p4', p5', p6', rcl, Value.cells, places, tb20] <;> rfl) ?_
    refine ⟨_, _, _, _, rfl, f1.keep (by omega) (by simp only [nx]; omega) (fun r hr hr2 => ?_), f2.keep (by omega) (by simp only [nx]; omega) (fun r hr hr2 => ?_), fun r hr hr2 => ?_, fun z hz => ?_⟩
    · have := f1.lo hr; simp (disch := first | omega | simp only [nx]; omega) only [hpl]
    · have := f2.lo hr; simp (disch := first | omega | simp only [nx]; omega) only [hpl]
    · cases e1 : decide (p.base = []) <;> cases e2 : decide (p.deltas = []) <;> simp [e1, e2] at hr hr2 <;> omega
    · simp (disch := first | omega | simp only [nx]; omega) only [hpl]; exact old z hz
  | true =>
    rw [if_pos fc] at hck
    have y10 : y1 = 0 := by
      obtain ⟨b9, e9⟩ := sv_form sb0
      cases e9; rfl
    subst y10
    have eB : fB e p p.deltas.length = foldB e p := by simp only [fB, foldB, List.take_length]
    have eD : fD e p p.deltas.length = p.deltas.filter fun r => decide (e < r.lsn) := by simp only [fD, List.take_length]
    have lkx : ∀ i, ∀ x ∈ fB e p i, SL x.key := fun i x hx => (lb.ky x (fB_mem hx)).1
    refine Wr <| Oa rfl Zx rfl <| Oa rfl (so_alloc (by simp only [aAlloc, ty25] <;> rfl)) rfl <| On ?_
    refine Wr <| Oa rfl (zl (hv := by simp (disch := first | omega | simp only [nx]; omega) only [aLoad, ty25, rowOf, hpl, p0, p1, p6', rcl, Value.cells] <;> rfl)) rfl <| OSuf.callD rfl (by simp only [aopnds, lk] <;> rfl) en43 ((by rw [hh2] at wo; exact wo)) rfl <| Oa rfl (so_alloc (by simp only [aAlloc, ty25] <;> rfl)) rfl <| Oa rfl (zs (hv := by simp (disch := first | omega | simp only [nx]; omega) only [aStore, ty25, writeRow, hpl, p0, p1, p6', rcl, Value.cells] <;> rfl)) rfl <| On ?_
    refine W.seq <| Wr <| Oa rfl (zl (hv := by simp (disch := first | omega | simp only [nx]; omega) only [aLoad, ty25, rowOf, hpl, p0, p1, p6', rcl, Value.cells] <;> rfl)) rfl <| OSuf.callD rfl (by simp only [aopnds, lk] <;> rfl) en14 (hck) rfl <| Of rfl (zb (hv := bi_neq)) rfl (rfl) <| On ?_
    refine Wn <| CWp.skip <| SQ.normal ?_
    refine Wr <| Oa rfl (zf (hv := fa_ok (k := 4) ty25 rfl rfl ty23 rfl rfl)) rfl <| Oa rfl (zs (hv := by simp (disch := first | omega | simp only [nx]; omega) only [aStore, ty23, writeRow, hpl, p0, p1, p6', rcl, Value.cells] <;> rfl)) rfl <| On ?_
    refine W.seq <| Wr <| Oa rfl za rfl <| On ?_
    refine W.cut (fun L g => FI h.next H4 p e p.deltas.length g ∧ L = [(2, P0 h.next), (4, P0 (h.next + 1)), (5, P0 (h.next + 4))]) (W.block (W.loop (fun m L g => ∃ i : Nat, m + i = p.deltas.length ∧ FI h.next H4 p e i g ∧ L = [(1, U64 e), (2, P0 h.next), (4, P0 (h.next + 1)), (5, P0 (h.next + 4)), (6, I64 i)]) (n := p.deltas.length) ⟨0, rfl, ⟨x1, none, ?_, .nil, ?_, ?_, ?_, ?_⟩, rfl⟩ ?_ ?_)) ?_
    · show SV _ 4 (h.next + 2) (fl p.base) (.slice x1 p.base.length 0)
      rw [← e2]
      exact sb0.mono (by simp only [nx]; omega) (fun z hz he => by simp (disch := first | omega | simp only [nx]; omega) only [hpl])
    · intro z hz
      have h9 : svRow (cval (decide (p.base = [])) h2.next p.base) = some z := by rw [ev1]; exact hz
      refine ⟨by simp [svRow], .inl ?_⟩
      cases e1 : decide (p.base = []) <;> rw [e1] at h9 <;> simp [cval, svRow] at h9
      omega
    · rw [h34]; simp (disch := first | omega | simp only [nx]; omega) only [hpl]; rfl
    · simp only [nx]; omega
    · intro z hz h8 h9
      rw [hH4]; simp (disch := first | omega | simp only [nx]; omega) only [hpl]
    · simp [HasA, Tr.get_put, h34]
    · rintro m L g ⟨i, hm, ⟨xb, xd, svb, svd, hsp, gj, gn, gk⟩, rfl⟩
      simp only [mkA]
      have w2 : IntKind.i64.wrap ((i : Int) + 1) = ((i + 1 : Nat) : Int) := by rw [wrap_i64 (by omega) (by omega)]; omega
      have gp : g.get h.next = some (.cells (lcs p (.slice b1 p.base.length c1) (.slice b2 p.deltas.length c2)) 1) := by rw [gk _ (by omega) (by omega) (by omega)]; exact p4
      have gold : ∀ z, z < h.next → g.get z = h.get z := fun z hz => by rw [gk z (by omega) (by omega) (by omega)]; exact old4 z hz
      have hbl := fB_len e p i
      have hb4 : ¬ svRow (.slice xb (fB e p i).length 0) = some (h.next + 4) := fun e9 => by have := (hsp _ e9).2; omega
      by_cases hi : (i : Int) < (p.deltas.length : Int)
      · obtain ⟨x, hx⟩ : ∃ x, p.deltas[i]? = some x := ⟨p.deltas[i]'(by omega), by simp⟩
        obtain ⟨_, r, off, eb2, hr1, hr2⟩ := RS.at_ hd hx
        have hc1 : (0 ≤ (i : Int) ∧ (i : Int) < (p.deltas.length : Int)) := by omega
        have lx := (lb.ky x (List.mem_append.2 (.inr (List.mem_of_getElem? hx)))).1
        subst eb2
        by_cases hle : x.lsn ≤ e
        · obtain ⟨q1, q2⟩ := fB_in hx hle
          obtain ⟨xb', H, wi, svb', hn, hk', hro⟩ := into0_c g (h.next + 2) (fB e p i) x xb svb (by omega) (by omega) (lkx i) lx
          have Hj : H.get (h.next + 4) = some (LR p (.slice xb (fB e p i).length 0) (.slice xd (fD e p i).length 0)) := by rw [hk' _ (by omega) hb4]; exact gj
          refine W.seq <| Wr <| Oa rfl sm rfl <| Oa rfl (zf (hv := fa_ok (k := 4) ty25 rfl rfl ty23 rfl rfl)) rfl <| Oa rfl (zl (hv := by simp (disch := first | omega | simp only [nx]; omega) only [aLoad, ty23, rowOf, hpl, gp, gj, Hj, hc1, rcl, sb, Value.cells] <;> rfl)) rfl <| Oa rfl (Zn (hv := by simp (disch := first | omega | simp only [nx]; omega) only [aLenOf, ty23, hpl, gp, gj, Hj, hc1, rcl, sb, Value.cells, places, tb20] <;> rfl)) rfl <| Ot rfl (zb (hv := bi_lss)) rfl (by first | rfl | assumption | ((simp only [bl, gp, gj, Hj, hc1, rcl, sb, Value.cells, places, tb20]) <;> first | done | assumption | omega) | (simp; done) | (simp; omega)) <| On ?_
          refine Wy <| CWp.skip <| SQ.normal ?_
          refine W.seq <| W.block <| Wr <| Oa rfl (zf (hv := fa_ok (k := 4) ty25 rfl rfl ty23 rfl rfl)) rfl <| Oa rfl (zl (hv := by simp (disch := first | omega | simp only [nx]; omega) only [aLoad, ty23, rowOf, hpl, gp, gj, Hj, hc1, rcl, sb, Value.cells] <;> rfl)) rfl <| Oa rfl sm rfl <| Oa rfl (zi (hv := by simp (disch := first | omega | simp only [nx]; omega) only [aIndexAddr, ty23, ty27, hpl, gp, gj, Hj, hc1, rcl, sb, Value.cells, places, tb20] <;> rfl)) rfl <| Oa rfl (zf (hv := fa_ok (k := 1) ty27 rfl rfl ty22 rfl rfl)) rfl <| Oa rfl (zl (hv := (hr2 _ (gold _ hr1)).2 1 _ _ _ ty22 rfl rfl)) rfl <| Oa rfl sm rfl <| Ot rfl (zb (hv := bi_leq)) rfl (by simp; omega) <| On ?_
          refine Wy <| W.regD tyOK mixed (by kernel_rfl) <| Sa rfl (zf (hv := fa_ok (k := 3) ty25 rfl rfl ty23 rfl rfl)) rfl <| Sa rfl (zl (hv := by simp (disch := first | omega | simp only [nx]; omega) only [aLoad, ty23, rowOf, hpl, gp, gj, Hj, hc1, rcl, sb, Value.cells] <;> rfl)) rfl <| Sa rfl (zf (hv := fa_ok (k := 4) ty25 rfl rfl ty23 rfl rfl)) rfl <| Sa rfl (zl (hv := by simp (disch := first | omega | simp only [nx]; omega) only [aLoad, ty23, rowOf, hpl, gp, gj, Hj, hc1, rcl, sb, Value.cells] <;> rfl)) rfl <| Sa rfl sm rfl <| Sa rfl (zi (hv := by simp (disch := first | omega | simp only [nx]; omega) only [aIndexAddr, ty23, ty27, hpl, gp, gj, Hj, hc1, rcl, sb, Value.cells, places, tb20] <;> rfl)) rfl <| Sa rfl (zl (hv := (hr2 _ (gold _ hr1)).1 _ _ ty27 rfl rfl)) rfl <| SqW.callD rfl (by simp only [aopnds, lk] <;> rfl) en56 (wi) rfl <| Sa rfl (zf (hv := fa_ok (k := 3) ty25 rfl rfl ty23 rfl rfl)) rfl <| Sa rfl (zs (hv := by simp (disch := first | omega | simp only [nx]; omega) only [aStore, ty23, writeRow, hpl, gp, gj, Hj, hc1, rcl, sb, Value.cells] <;> rfl)) rfl <| SqW.nil <| BQ.normal <| SQ.normal ?_
          refine W.reg <| Oa rfl sm rfl <| Oa rfl (zb (hv := bi_w bi_add (by first | (simp only [w2] <;> rfl) | rfl))) rfl <| Oa rfl za rfl <| OSuf.nil <| ?_
          refine LQ.normal (m := m - 1) (L := [(1, U64 e), (2, P0 h.next), (4, P0 (h.next + 1)), (5, P0 (h.next + 4)), (6, I64 ((i + 1 : Nat) : Int))]) (by omega) ?_ ⟨i + 1, by omega, ⟨xb', xd, ?_, ?_, ?_, ?_, by simp only [nx]; omega, fun z hz h8 h9 => ?_⟩, rfl⟩
          · simp only [HasA, Tr.get_put, Nat.reduceEqDiff, reduceIte, w2, and_self]
          · rw [q1]
            refine svb'.mono (by simp) (fun z hz he => zS (fun e9 => ?_))
            rcases hro z he with h7 | h7
            · exact hb4 (by rw [e9]; exact h7)
            · omega
          · rw [q2]
            refine svd.mono (by simp only [nx]; omega) (fun z hz he => ?_)
            rw [zS (by have := svd.row he; omega)]
            exact hk' z hz (fun e9 => (hsp z e9).1 he)
          · rw [q1, q2]
            intro z hz
            rcases hro z hz with h7 | h7
            · exact hsp z h7
            · exact ⟨fun e9 => by have := svd.row e9; omega, .inr (by omega)⟩
          · rw [q1, q2]; exact zP
          · rw [zS (by omega), hk' z (by omega) (fun e9 => by have := (hsp z e9).2; omega)]
            exact gk z hz h8 h9
        · obtain ⟨q1, q2⟩ := fB_out hx hle
          have hdl : (fD e p i).length ≤ 2000000 := Nat.le_trans (List.length_filter_le _ _) (by rw [List.length_take]; omega)
          obtain ⟨v', G, a1, a2, a3, a4, a5⟩ := sv_oneR svd x hdl gn
          obtain ⟨xd', rfl⟩ := sv_form a2
          have nxd : ∀ z, z < H4.next → ¬ svRow (.slice xd (fD e p i).length 0) = some z := fun z hz e => by have := svd.row e; omega
          have Gj : G.get (h.next + 4) = some (LR p (.slice xb (fB e p i).length 0) (.slice xd (fD e p i).length 0)) := by rw [a4 _ (by omega) (nxd _ (by omega))]; exact gj
          refine W.seq <| Wr <| Oa rfl sm rfl <| Oa rfl (zf (hv := fa_ok (k := 4) ty25 rfl rfl ty23 rfl rfl)) rfl <| Oa rfl (zl (hv := by simp (disch := first | omega | simp only [nx]; omega) only [aLoad, ty23, rowOf, hpl, gp, gj, Gj, hc1, rcl, sb, Value.cells] <;> rfl)) rfl <| Oa rfl (Zn (hv := by simp (disch := first | omega | simp only [nx]; omega) only [aLenOf, ty23, hpl, gp, gj, Gj, hc1, rcl, sb, Value.cells, places, tb20] <;> rfl)) rfl <| Ot rfl (zb (hv := bi_lss)) rfl (by first | rfl | assumption | ((simp only [bl, gp, gj, Gj, hc1, rcl, sb, Value.cells, places, tb20]) <;> first | done | assumption | omega) | (simp; done) | (simp; omega)) <| On ?_
          refine Wy <| CWp.skip <| SQ.normal ?_
          refine W.seq <| W.block <| Wr <| Oa rfl (zf (hv := fa_ok (k := 4) ty25 rfl rfl ty23 rfl rfl)) rfl <| Oa rfl (zl (hv := by simp (disch := first | omega | simp only [nx]; omega) only [aLoad, ty23, rowOf, hpl, gp, gj, Gj, hc1, rcl, sb, Value.cells] <;> rfl)) rfl <| Oa rfl sm rfl <| Oa rfl (zi (hv := by simp (disch := first | omega | simp only [nx]; omega) only [aIndexAddr, ty23, ty27, hpl, gp, gj, Gj, hc1, rcl, sb, Value.cells, places, tb20] <;> rfl)) rfl <| Oa rfl (zf (hv := fa_ok (k := 1) ty27 rfl rfl ty22 rfl rfl)) rfl <| Oa rfl (zl (hv := (hr2 _ (gold _ hr1)).2 1 _ _ _ ty22 rfl rfl)) rfl <| Oa rfl sm rfl <| Of rfl (zb (hv := bi_leq)) rfl (by simp; omega) <| On ?_
          refine Wn <| CWp.sqd tyOK mixed (ms := [0, 1, 0, 4, 0, 28, 60, 124, 255, 511, 1023]) (by kernel_rfl) (
              .free rfl rfl (zf (hv := fa_ok (k := 4) ty25 rfl rfl ty23 rfl rfl)) rfl <| .read rfl rfl (zl (hv := by simp (disch := first | omega | simp only [nx]; omega) only [aLoad, ty23, rowOf, hpl, gp, gj, Gj, hc1, rcl, sb, Value.cells] <;> rfl)) (by first | rfl | (simp [veq, veq1, veqs]; done) | (simp [veq, veq1, veqs, splice]; done)) trivial rfl <| .free rfl rfl (zf (hv := fa_ok (k := 4) ty25 rfl rfl ty23 rfl rfl)) rfl <| .read rfl rfl (zl (hv := by simp (disch := first | omega | simp only [nx]; omega) only [aLoad, ty23, rowOf, hpl, gp, gj, Gj, hc1, rcl, sb, Value.cells] <;> rfl)) (by first | rfl | (simp [veq, veq1, veqs]; done) | (simp [veq, veq1, veqs, splice]; done)) trivial rfl <| .free rfl rfl sm rfl <| .free rfl rfl (zi (hv := by simp (disch := first | omega | simp only [nx]; omega) only [aIndexAddr, ty23, ty27, hpl, gp, gj, Gj, hc1, rcl, sb, Value.cells, places, tb20] <;> rfl)) rfl <| .read rfl rfl (zl (hv := (show aLoad T _ _ _ = some (Value.agg #[encS x.key, U64 x.lsn, .bool x.del, encS x.val]) from (hr2 _ (by first | exact gold _ hr1 | (rw [zN (by omega)]; exact gold _ hr1))).1 _ _ ty27 rfl rfl))) (by first | rfl | (simp [veq, veq1, veqs]; done) | (simp [veq, veq1, veqs, splice]; done)) trivial rfl <| .change rfl rfl (so_buildSlice (by simp only [aparts, lk] <;> rfl) (by simp only [aBuildSlice, ty23, ty27, gp, gj, Gj, hc1, rcl, sb, Value.cells, places, tb20] <;> rfl)) rfl ⟨.inl rfl, .inl rfl, .inr (zl (hv := by simp (disch := first | omega | simp only [nx]; omega) only [aLoad, ty23, rowOf, hpl, gp, gj, Gj, hc1, rcl, sb, Value.cells] <;> rfl)), trivial⟩ rfl <| .change rfl rfl (so_append (by simp only [aopnds, lk] <;> rfl) (a1 _ _ (by simp only [appT, ty23, ty27] <;> rfl) rfl (by decide))) rfl ⟨.inl rfl, .inl rfl, .inl rfl, trivial⟩ rfl <| .free rfl rfl (zf (hv := fa_ok (k := 4) ty25 rfl rfl ty23 rfl rfl)) rfl <| .change rfl rfl (zs (hv := by simp (disch := first | omega | simp only [nx]; omega) only [aStore, ty23, writeRow, hpl, gp, gj, Gj, hc1, rcl, sb, Value.cells] <;> rfl)) rfl ⟨.inl rfl, .inl rfl, .inl rfl, trivial⟩ rfl <| .nil) <| BQ.normal <| SQ.normal ?_
          refine W.reg <| Oa rfl sm rfl <| Oa rfl (zb (hv := bi_w bi_add (by first | (simp only [w2] <;> rfl) | rfl))) rfl <| Oa rfl za rfl <| OSuf.nil <| ?_
          refine LQ.normal (m := m - 1) (L := [(1, U64 e), (2, P0 h.next), (4, P0 (h.next + 1)), (5, P0 (h.next + 4)), (6, I64 ((i + 1 : Nat) : Int))]) (by omega) ?_ ⟨i + 1, by omega, ⟨xb, xd', ?_, ?_, ?_, ?_, by simp only [nx]; omega, fun z hz h8 h9 => ?_⟩, rfl⟩
          · simp only [HasA, Tr.get_put, Nat.reduceEqDiff, reduceIte, w2, and_self]
          · rw [q1]
            refine svb.mono (by simp only [nx]; omega) (fun z hz he => ?_)
            rw [zS (fun e9 => hb4 (by rw [e9]; exact he)), a4 z hz (hsp z he).1]
          · rw [q2]; exact a2.mono (by simp) (fun z hz he => zS (by have := a2.row he; omega))
          · rw [q1, q2]
            intro z hz
            refine ⟨fun e9 => ?_, (hsp z hz).2⟩
            have h7 := svb.row hz
            rw [a5] at e9; cases e9; omega
          · rw [q1, q2]; exact zP
          · rw [zS (by omega), a4 z (by omega) (nxd z hz)]; exact gk z hz h8 h9
      · refine W.seq <| Wr <| Oa rfl sm rfl <| Oa rfl (zf (hv := fa_ok (k := 4) ty25 rfl rfl ty23 rfl rfl)) rfl <| Oa rfl (zl (hv := by simp (disch := first | omega | simp only [nx]; omega) only [aLoad, ty23, rowOf, hpl, gp, Value.cells] <;> rfl)) rfl <| Oa rfl (Zn (hv := by simp (disch := first | omega | simp only [nx]; omega) only [aLenOf, ty23, hpl, gp, Value.cells, places, tb20] <;> rfl)) rfl <| Of rfl (zb (hv := bi_lss)) rfl (by first | rfl | assumption | ((simp only [bl, gp, Value.cells, places, tb20]) <;> first | done | assumption | omega) | (simp; done) | (simp; omega)) <| On ?_
        refine Wn <| CWp.exit <| SQ.exit <| LQ.exit <| BQ.exit <| ?_
        have : i = p.deltas.length := by omega
        subst this
        refine NQ.normal (L := [(2, P0 h.next), (4, P0 (h.next + 1)), (5, P0 (h.next + 4))]) ?_ ⟨⟨xb, xd, svb, svd, hsp, gj, gn, gk⟩, rfl⟩
        simp only [HasA, Tr.get_put, Nat.reduceEqDiff, reduceIte, and_self]
    rintro L a' g ha ⟨⟨xb, xd, svb, svd, hsp, gj, gn, gk⟩, rfl⟩
    rw [eB] at svb hsp gj
    rw [eD] at svd hsp gj
    have gz : g.get (h.next + 1) = some (.cells zlf 1) := by rw [gk _ (by omega) (by omega) (by omega)]; exact p5
    have gp : g.get h.next = some (.cells (lcs p (.slice b1 p.base.length c1) (.slice b2 p.deltas.length c2)) 1) := by rw [gk _ (by omega) (by omega) (by omega)]; exact p4
    have gold : ∀ z, z < h.next → g.get z = h.get z := fun z hz => by rw [gk z (by omega) (by omega) (by omega)]; exact old4 z hz
    by_cases hbig : (foldB e p).length ≤ 64
    · have eM : foldM p e = { p with base := foldB e p, deltas := p.deltas.filter fun r => decide (e < r.lsn) } := by rw [foldM, if_pos ⟨fc, hbig⟩]
      rw [eM]
      refine SQ.normal <| CWp.known ha ?_
      simp only [mkA]
      refine W.seq <| Wr <| Oa rfl (zf (hv := fa_ok (k := 3) ty25 rfl rfl ty23 rfl rfl)) rfl <| Oa rfl (zl (hv := by simp (disch := first | omega | simp only [nx]; omega) only [aLoad, ty23, rowOf, hpl, gp, gj, gz, rcl, Value.cells] <;> rfl)) rfl <| Oa rfl (Zn (hv := by simp (disch := first | omega | simp only [nx]; omega) only [aLenOf, ty23, hpl, gp, gj, gz, rcl, Value.cells, places, tb20] <;> rfl)) rfl <| Of rfl (zb (hv := bi_gtr)) rfl (by simp; omega) <| On ?_
      refine Wn <| CWp.skip <| SQ.normal ?_
      refine Wr <| Oa rfl (zl (hv := by simp (disch := first | omega | simp only [nx]; omega) only [aLoad, ty25, rowOf, hpl, gp, gj, gz, rcl, Value.cells] <;> rfl)) rfl <| Oa rfl (zs (hv := by simp (disch := first | omega | simp only [nx]; omega) only [aStore, ty25, writeRow, hpl, gp, gj, gz, rcl, Value.cells] <;> rfl)) rfl <| On ?_
      refine CWp.ret <| FQ.ret (by simp (disch := first | omega | simp only [nx]; omega) only [aRet, Tryz.f20, aResults, aResult, lk, Nat.reduceEqDiff, reduceIte, aLoad, rowOf, hpl, gp, gj, gz, rcl, Value.cells, places, tb20] <;> rfl) ?_
      refine ⟨_, _, _, _, rfl, (sv_fs' svb).keep (by omega) (by simp only [nx]; omega) (fun r hr hr2 => zS (by have := svb.row hr; omega)), (sv_fs' svd).keep (by omega) (by simp only [nx]; omega) (fun r hr hr2 => zS (by have := svd.row hr; omega)), fun r hr hr2 => (hsp r hr).1 hr2, fun z hz => by rw [zS (by omega)]; exact gold z hz⟩
    · have eM : foldM p e = p := by rw [foldM, if_neg (fun h9 => hbig h9.2)]
      rw [eM]
      have w9 := own0_x g p _ _ (hb.mono (by omega) gold) (hd.mono (by omega) gold) (by omega) (by omega)
      obtain ⟨f3, f4⟩ := hand_fs (h := g) o1 o2
      obtain ⟨s3, s4⟩ := hand_rs (h := g) o1 o2
      have n9 := hand_next g p (decide (p.base = [])) (decide (p.deltas = []))
      have k9 : ∀ z, z < g.next → (hand g p (decide (p.base = [])) (decide (p.deltas = []))).get z = g.get z := fun z hz => hand_old _ _ _ _ _ hz
      obtain ⟨x3, y3, ev3⟩ := s3.form
      obtain ⟨x4, y4, ev4⟩ := s4.form
      rw [ev3] at f3
      rw [ev4] at f4
      rw [ev3, ev4] at w9
      obtain ⟨H9, hH9⟩ : ∃ H9, H9 = hand g p (decide (p.base = [])) (decide (p.deltas = [])) := ⟨_, rfl⟩
      rw [← hH9] at w9 f3 f4 n9 k9
      have z9 : H9.get (h.next + 1) = some (.cells zlf 1) := by rw [k9 _ (by omega)]; exact gz
      refine SQ.normal <| CWp.known ha ?_
      simp only [mkA]
      refine W.seq <| Wr <| Oa rfl (zf (hv := fa_ok (k := 3) ty25 rfl rfl ty23 rfl rfl)) rfl <| Oa rfl (zl (hv := by simp (disch := first | omega | simp only [nx]; omega) only [aLoad, ty23, rowOf, hpl, gp, gj, gz, z9, rcl, Value.cells] <;> rfl)) rfl <| Oa rfl (Zn (hv := by simp (disch := first | omega | simp only [nx]; omega) only [aLenOf, ty23, hpl, gp, gj, gz, z9, rcl, Value.cells, places, tb20] <;> rfl)) rfl <| Ot rfl (zb (hv := bi_gtr)) rfl (by simp; omega) <| On ?_
      refine Wy <| Wr <| Oa rfl (zl (hv := by simp (disch := first | omega | simp only [nx]; omega) only [aLoad, ty25, rowOf, hpl, gp, gj, gz, z9, rcl, Value.cells] <;> rfl)) rfl <| OSuf.callD rfl (by simp only [aopnds, lk] <;> rfl) en43 (w9) rfl <| Oa rfl (zs (hv := by simp (disch := first | omega | simp only [nx]; omega) only [aStore, ty25, writeRow, hpl, gp, gj, gz, z9, rcl, Value.cells] <;> rfl)) rfl <| On ?_
      refine CWp.ret <| SQ.ret <| FQ.ret (by simp (disch := first | omega | simp only [nx]; omega) only [aRet, Tryz.f20, aResults, aResult, lk, Nat.reduceEqDiff, reduceIte, aLoad, rowOf, hpl, gp, gj, gz, z9, rcl, Value.cells, places, tb20] <;> rfl) ?_
      refine ⟨_, _, _, _, rfl, f3.keep (by omega) (by simp only [nx]; omega) (fun r hr hr2 => zS (by have := f3.lo hr; omega)), f4.keep (by omega) (by simp only [nx]; omega) (fun r hr hr2 => zS (by have := f4.lo hr; omega)), fun r hr hr2 => ?_, fun z hz => by rw [zS (by omega), k9 z (by omega)]; exact gold z hz⟩
      cases e1 : decide (p.base = []) <;> cases e2 : decide (p.deltas = []) <;> simp [e1, e2] at hr hr2 <;> omega
end Go.Proofs.YtebheelmgcggmaaGreat
namespace Go.Proofs.YtebheelmgcggmaaGreat
open Go.Ab Go.Sort
def num (n : Nat) : List UInt8 := if n < 128 then [UInt8.ofNat n] else UInt8.ofNat (128 + n % 128) :: num (n / 128)
termination_by n
theorem num_lo {n : Nat} (h : n < 128) : num n = [UInt8.ofNat n] := by rw [num, if_pos h]
theorem num_hi {n : Nat} (h : ¬ n < 128) : num n = UInt8.ofNat (128 + n % 128) :: num (n / 128) := by rw [num, if_neg h]
theorem num_len : ∀ (k n : Nat), n < 128 ^ (k + 1) → (num n).length ≤ k + 1
  | 0, n, h => by rw [num_lo (by omega)]; simp
  | k + 1, n, h => by
    by_cases c : n < 128
    · rw [num_lo c]; simp
    · rw [num_hi c]
      have := num_len k (n / 128) (by rw [Nat.pow_succ] at h; exact Nat.div_lt_of_lt_mul (by rw [Nat.mul_comm]; exact h))
      simp only [List.length_cons]; omega
abbrev u8v (b : UInt8) : Value := .int .u8 b.toNat
theorem of_lt {n : Nat} (h : n < 256) : ((UInt8.ofNat n).toNat : Int) = (n : Int) := by
  rw [UInt8.toNat_ofNat', Nat.mod_eq_of_lt h]
theorem bytesIn_map : ∀ l : List UInt8, bytesIn (l.map u8v) = some l
  | [] => rfl
  | a :: l => by
    simp only [List.map_cons, bytesIn, bytesIn_map l]
    simp
theorem cv_str {h : AHeap} {s d e : TypeId} {si di ei : TI} {r n c : Nat} {l : List UInt8} (hs : T.get s = some si) (hsu : si.und = .slice e) (hd : T.get d = some di) (hdu : di.und = .string) (he : T.get e = some ei) (heu : ei.und = .int .u8) (hr : h.get r = some (.cells (l.map u8v) 1)) (hn : n = l.length) :
    aConv T s d (.slice (some ⟨r, 0, none⟩) n c) h = some (encS l, h) := by
  subst hn
  have e1 : aCells h 1 l.length (.slice (some ⟨r, 0, none⟩) l.length c) = some (l.map u8v) := by
    cases l with
    | nil => simp [aCells]
    | cons a l =>
      have : Nat.beq ((a :: l).length * 1) 0 = false := rfl
      have h2 : cellsOf ((a :: l).map u8v) 0 ((a :: l).length * 1) = some ((a :: l).map u8v) := cellsOf_all (by simp)
      simp only [aCells, this, cond_false, Nat.ble_eq_true_of_le (Nat.le_refl _), cond_true, rowOf, hr, h2]
  simp only [aConv, hs, hd, hsu, hdu, he, e1, heu, bytesIn_map]
theorem str_app (a b : List UInt8) : ((⟨⟨a⟩⟩ : ByteArray) ++ ⟨⟨b⟩⟩) = ⟨⟨a ++ b⟩⟩ := by
  apply ByteArray.ext
  simp
theorem bs_add {t : TypeId} {x y : Operand} {a b : List UInt8} (h : a.length + b.length ≤ 9223372036854775807 := by first | assumption | omega | (simp only [List.length_append, List.length_cons, List.length_nil]; omega)) : aBin Tryz.prog T .add t x y (encS a) (encS b) = some (encS (a ++ b)) := by
  have e0 : (ByteArray.mk ⟨a⟩).size = a.length := rfl
  have e1 : (ByteArray.mk ⟨b⟩).size = b.length := rfl
  have h2 : ¬ (9223372036854775807 : Int) < ((ByteArray.mk ⟨a⟩).size : Int) + ((ByteArray.mk ⟨b⟩).size : Int) := by rw [e0, e1]; omega
  simp [aBin, flat, flat1, eqGuard, binOp, Op.stringOp, h2, pureRun_pure, str_app]
theorem put0_c (h : AHeap) (s : List UInt8) (n : Nat) (hn : n < 18446744073709551616) (hs : s.length ≤ 1000000) : FWp Tryz.prog 62 [encS s, U64 n] h fun u h' => u = encS (s ++ num n) ∧ h' = h := by
  refine FWp.gcs (.flat rfl) ?_
  refine W.enter tyOK Tryz.func62 rfl rfl ?_
  simp only [entry]
  refine Wr <| Oa rfl za rfl <| On ?_
  refine W.seq <| ?_
  refine W.cut (fun L g => ∃ (pre : List UInt8) (m : Nat), num n = pre ++ num m ∧ m < 128 ∧ pre.length ≤ 10 ∧ h.next ≤ g.next ∧ (∀ z, z < h.next → g.get z = h.get z) ∧ L = [(0, encS (s ++ pre)), (1, U64 m)]) (W.block (W.loop (fun k L g => ∃ (i : Nat) (pre : List UInt8) (m : Nat), k + i = 10 ∧ num n = pre ++ num m ∧ pre.length = i ∧ m * 128 ^ i < 18446744073709551616 ∧ h.next ≤ g.next ∧ (∀ z, z < h.next → g.get z = h.get z) ∧ L = [(0, encS (s ++ pre)), (1, U64 m)]) (n := 10) ⟨0, [], n, rfl, rfl, rfl, by simpa using hn, Nat.le_refl _, fun _ _ => rfl, by rw [List.append_nil]⟩ ?_ ?_)) ?_
  · simp [HasA, Tr.get_put]
  · rintro k L g ⟨i, pre, m, hk, e1, hp, hlt, hn1, hk1, rfl⟩
    simp only [mkA]
    by_cases hm : m < 128
    · refine W.seq <| Wr <| Oa rfl sm rfl <| Ofb rfl (zb (hv := bi_geq)) rfl <| On ?_
      refine Wn <| CWp.exit <| SQ.exit <| LQ.exit <| BQ.exit <| ?_
      refine NQ.normal (L := [(0, encS (s ++ pre)), (1, U64 m)]) ?_ ⟨pre, m, e1, hm, by omega, hn1, hk1, rfl⟩
      simp only [HasA, Tr.get_put, Nat.reduceEqDiff, reduceIte, and_self]
    · have hi : i ≤ 8 := by
        by_cases c : i ≤ 8
        · exact c
        · have h1 : 128 ^ 9 ≤ 128 ^ i := Nat.pow_le_pow_right (by decide) (by omega)
          have h2 : 128 * 128 ^ 9 ≤ m * 128 ^ i := Nat.mul_le_mul (by omega) h1
          have h3 : (128 : Nat) * 128 ^ 9 = 1180591620717411303424 := by decide
          omega
      have hm2 : m < 18446744073709551616 := by
        have h1 : 0 < 128 ^ i := Nat.pow_pos (by decide)
        have h2 : m * 1 ≤ m * 128 ^ i := Nat.mul_le_mul_left _ h1
        omega
      have w1 : ((m : Int)).tmod 128 = ((m % 128 : Nat) : Int) := by rw [Int.tmod_eq_emod_of_nonneg (by omega)]; omega
      have w2 : IntKind.u8.wrap ((m % 128 : Nat) : Int) = ((m % 128 : Nat) : Int) := by
        simp only [IntKind.wrap, IntKind.bits, IntKind.signed]; simp; omega
      have w3 : IntKind.u8.wrap (128 + ((m % 128 : Nat) : Int)) = ((UInt8.ofNat (128 + m % 128)).toNat : Int) := by
        rw [of_lt (by omega)]
        simp only [IntKind.wrap, IntKind.bits, IntKind.signed]; simp; omega
      have w4 : IntKind.u64.wrap ((m : Int).tdiv 128) = ((m / 128 : Nat) : Int) := by
        rw [Int.tdiv_eq_ediv_of_nonneg (by omega)]
        simp only [IntKind.wrap, IntKind.bits, IntKind.signed]; simp; omega
      refine W.seq <| Wr <| Oa rfl sm rfl <| Ot rfl (zb (hv := bi_geq)) rfl (by first | rfl | assumption | ((simp only [bl, Value.cells, places]) <;> first | done | assumption | omega) | (simp; done) | (simp; omega)) <| On ?_
      refine Wy <| CWp.skip <| SQ.normal ?_
      refine W.block <| Wr <| Oa rfl sm rfl <| Oa rfl sm rfl <| Oa rfl (zb (hv := bi_w (bi_rem (by decide)) (by first | (simp only [w1, w2, w3, w4] <;> rfl) | rfl))) rfl <| Oa rfl (so_conw (so_conv tyOK (by simp only [lk] <;> rfl) ty22 ⟨_, rfl⟩ ty5 rfl) (by first | (simp only [w1, w2, w3, w4] <;> rfl) | rfl)) rfl <| Oa rfl (zb (hv := bi_w bi_add (by first | (simp only [w1, w2, w3, w4] <;> rfl) | rfl))) rfl <| Oa rfl (so_buildSlice (by simp only [aparts, lk] <;> rfl) (by simp only [aBuildSlice, ty99, ty5, Value.cells, places] <;> rfl)) rfl <| Oa rfl (so_convert (by simp only [lk] <;> rfl) (cv_str (l := [UInt8.ofNat (128 + m % 128)]) ty99 rfl ty9 rfl ty5 rfl (zQ) rfl)) rfl <| Oa rfl (zb (hv := bs_add)) rfl <| Oa rfl za rfl <| On ?_
      refine W.reg <| Oa rfl sm rfl <| Oa rfl (zb (hv := bi_w (bi_quo (by decide)) (by first | (simp only [w1, w2, w3, w4] <;> rfl) | rfl))) rfl <| Oa rfl za rfl <| OSuf.nil <| BQ.normal <| ?_
      refine LQ.normal (m := k - 1) (L := [(0, encS (s ++ (pre ++ [UInt8.ofNat (128 + m % 128)]))), (1, U64 ((m / 128 : Nat) : Int))]) (by omega) ?_ ⟨i + 1, pre ++ [UInt8.ofNat (128 + m % 128)], m / 128, by omega, ?_, by simp [hp], ?_, by simp only [nx]; omega, fun z hz => ?_, rfl⟩
      · simp only [HasA, Tr.get_put, Nat.reduceEqDiff, reduceIte, w4, List.append_assoc, and_self]
      · rw [e1, num_hi hm]; simp
      · rw [Nat.pow_succ]
        have : m / 128 * 128 ≤ m := Nat.div_mul_le_self _ _
        have h2 : m / 128 * 128 * 128 ^ i ≤ m * 128 ^ i := Nat.mul_le_mul_right _ this
        rw [Nat.mul_comm (128 ^ i) 128, ← Nat.mul_assoc]; omega
      · simp (disch := first | omega | simp only [nx]; omega) only [hpl]; exact hk1 z hz
  rintro L a' g ha ⟨pre, m, e1, hm, hp, hn1, hk1, rfl⟩
  have w1 : IntKind.u8.wrap (m : Int) = ((UInt8.ofNat m).toNat : Int) := by
    rw [of_lt (by omega)]
    simp only [IntKind.wrap, IntKind.bits, IntKind.signed]; simp; omega
  refine SQ.normal <| CWp.known ha ?_
  simp only [mkA]
  refine Wr <| Oa rfl sm rfl <| Oa rfl sm rfl <| Oa rfl (so_conw (so_conv tyOK (by simp only [lk] <;> rfl) ty22 ⟨_, rfl⟩ ty5 rfl) (by first | (simp only [w1] <;> rfl) | rfl)) rfl <| Oa rfl (so_buildSlice (by simp only [aparts, lk] <;> rfl) (by simp only [aBuildSlice, ty99, ty5, Value.cells, places] <;> rfl)) rfl <| Oa rfl (so_convert (by simp only [lk] <;> rfl) (cv_str (l := [UInt8.ofNat m]) ty99 rfl ty9 rfl ty5 rfl (zQ) rfl)) rfl <| Oa rfl (zb (hv := bs_add)) rfl <| Oa rfl za rfl <| On ?_
  refine CWp.ret <| FQ.ret (by simp only [aRet, Tryz.f62, aResults, aResult, lk, Nat.reduceEqDiff, reduceIte] <;> rfl) ?_
  refine ⟨by rw [e1, num_lo hm, List.append_assoc], fun r o hr ho => ?_⟩
  simp (disch := first | omega | simp only [nx]; omega) only [hpl]
  rw [hk1 r hr]; exact ho
theorem putt0_c (h : AHeap) (s t : List UInt8) (ht : t.length ≤ 1000000) (hs : s.length ≤ 1000000) : FWp Tryz.prog 61 [encS s, encS t] h fun u h' => u = encS (s ++ num t.length ++ t) ∧ h' = h := by
  have hp := put0_c h s t.length (by omega) hs
  have hl : (num t.length).length ≤ 10 := num_len 9 _ (by have : (128 : Nat) ^ (9 + 1) = 1180591620717411303424 := by decide
                                                          omega)
  have e1 : (ByteArray.mk ⟨t⟩).size = t.length := rfl
  have w1 : IntKind.u64.wrap (t.length : Int) = (t.length : Int) := by
    simp only [IntKind.wrap, IntKind.bits, IntKind.signed]; simp; omega
  refine W.enter tyOK Tryz.func61 rfl rfl ?_
  simp only [entry]
  refine Wr <| Oa rfl za rfl <| On ?_
  refine Wr <| Oa rfl sm rfl <| Oa rfl sm rfl <| Oa rfl (Zn (hv := by simp (disch := first | omega | simp only [nx]; omega) only [aLenOf, ty9, hpl, e1] <;> rfl)) rfl <| Oa rfl (so_conw (so_conv tyOK (by simp only [lk] <;> rfl) ty3 ⟨_, rfl⟩ ty22 rfl) (by first | (simp only [w1] <;> rfl) | rfl)) rfl <| OSuf.callD rfl (by simp only [aopnds, lk] <;> rfl) en62 (hp) rfl <| Oa rfl sm rfl <| Oa rfl (zb (hv := bs_add)) rfl <| Oa rfl za rfl <| On ?_
  refine CWp.ret <| FQ.ret (by simp only [aRet, Tryz.f61, aResults, aResult, lk, Nat.reduceEqDiff, reduceIte] <;> rfl) ?_
  exact ⟨rfl, rfl⟩
end Go.Proofs.YtebheelmgcggmaaGreat
namespace Go.Proofs.YtebheelmgcggmaaGreat
open Go.Ab Go.Sort
theorem num_le {n : Nat} (h : n < 18446744073709551616) : (num n).length ≤ 10 := by
  have h2 : (128 : Nat) ^ (9 + 1) = 1180591620717411303424 := by decide
  exact num_len 9 _ (by omega)
def delN (r : Rec) : Nat := if r.del = true then 1 else 0
def imgR (s : List UInt8) (r : Rec) : List UInt8 := s ++ num r.key.length ++ r.key ++ num r.lsn.toNat ++ num (delN r) ++ num r.val.length ++ r.val
def img0 (M : Lf) : List UInt8 := [] ++ num M.low.length ++ M.low ++ num M.high.length ++ M.high ++ num M.full.toNat ++ num M.base.length
def img (M : Lf) : List UInt8 := M.base.foldl imgR (img0 M)
def imgM (p : Lf) (e : Int) : List UInt8 := if chk p = true then img (foldM p e) else []
structure FB (r : Rec) : Prop where
  key : r.key.length ≤ 16
  val : r.val.length ≤ 24
  pos : 1 ≤ r.lsn
  lsn : r.lsn ≤ 1099511627776
structure FM (M : Lf) : Prop where
  low : M.low.length ≤ 16
  high : M.high.length ≤ 16
  pos : 0 ≤ M.full
  full : M.full ≤ 1099511627776
  base : M.base.length ≤ 64
  recs : ∀ r ∈ M.base, FB r
theorem fit_fb {lo hi : List UInt8} {x : Rec} (h : fit lo hi x = true) : FB x := by
  simp only [fit, mayR, Bool.and_eq_true, decide_eq_true_eq] at h
  exact ⟨h.1.1.1, h.1.1.2.1, h.1.2.1, h.1.2.2⟩
theorem fm_of {p : Lf} {e : Int} (hc : chk p = true) (hp : 0 ≤ p.full) : FM (foldM p e) := by
  obtain ⟨f1, _, _, f4, _⟩ := fits_of hc
  have hc' := hc
  simp only [chk, Bool.and_eq_true, decide_eq_true_eq] at hc'
  obtain ⟨⟨g1, g2, _, g4, _⟩, _⟩ := hc'
  simp only [foldM]
  split
  · rename_i h
    refine ⟨g1, g2, hp, g4, h.2, fun r hr => ?_⟩
    rw [← show fB e p p.deltas.length = foldB e p by simp only [fB, foldB, List.take_length]] at hr
    exact fit_fb (f1 r (fB_mem hr))
  · exact ⟨g1, g2, hp, g4, f4, fun r hr => fit_fb (f1 r (List.mem_append.2 (.inl hr)))⟩
theorem imgR_len {s : List UInt8} {r : Rec} (h : FB r) : (imgR s r).length ≤ s.length + 100 := by
  have h1 := num_le (n := r.key.length) (by have := h.key; omega)
  have h2 := num_le (n := r.lsn.toNat) (by have := h.lsn; omega)
  have h3 := num_le (n := delN r) (by simp only [delN]; split <;> omega)
  have h4 := num_le (n := r.val.length) (by have := h.val; omega)
  have := h.key
  have := h.val
  simp only [imgR, List.length_append]; omega
theorem img0_len {M : Lf} (h : FM M) : (img0 M).length ≤ 100 := by
  have := h.low
  have := h.high
  have := h.full
  have := h.base
  have h1 := num_le (n := M.low.length) (by omega)
  have h2 := num_le (n := M.high.length) (by omega)
  have h3 := num_le (n := M.full.toNat) (by omega)
  have h4 := num_le (n := M.base.length) (by omega)
  simp only [img0, List.length_append, List.length_nil]; omega
theorem img_step {s : List UInt8} {l : List Rec} {i : Nat} {x : Rec} (hx : l[i]? = some x) : (l.take (i + 1)).foldl imgR s = imgR ((l.take i).foldl imgR s) x := by
  rw [take_snoc hx, List.foldl_append]; rfl
theorem imgs_len {s : List UInt8} : ∀ l : List Rec, (∀ r ∈ l, FB r) → (l.foldl imgR s).length ≤ s.length + 100 * l.length := by
  intro l
  induction l generalizing s with
  | nil => intro _; simp
  | cons a l ih =>
    intro h
    have h1 := ih (s := imgR s a) fun r hr => h r (List.mem_cons_of_mem _ hr)
    have h2 := imgR_len (s := s) (h a List.mem_cons_self)
    simp only [List.foldl_cons, List.length_cons]; omega
end Go.Proofs.YtebheelmgcggmaaGreat
namespace Go.Proofs.YtebheelmgcggmaaGreat
open Go.Ab Go.Sort
theorem image0_c (h : AHeap) (p : Lf) (bv dv : Value) (e : Int) (hb : RS h p.base bv) (hd : RS h p.deltas dv) (hlb : p.base.length ≤ 400000) (hld : p.deltas.length ≤ 400000) (lb : LB p) (hp : 0 ≤ p.full) :
    FWp Tryz.prog 26 [LV p bv dv, U64 e] h fun u h' => u = encS (imgM p e) ∧ h' = h := by
  have tb26 := And.intro ty22 (And.intro ty23 (And.intro ty25 (And.intro ty27 (And.intro ty3 (And.intro ty4 (ty9))))))
  refine FWp.gcs (.flat rfl) ?_
  obtain ⟨b1, c1, rfl⟩ := hb.form
  obtain ⟨b2, c2, rfl⟩ := hd.form
  obtain ⟨h1, hh1⟩ : ∃ h1, h1 = h.new (.cells (lcs p (.slice b1 p.base.length c1) (.slice b2 p.deltas.length c2)) 1) := ⟨_, rfl⟩
  have n1 : h1.next = h.next + 1 := by rw [hh1]; rfl
  have k1 : ∀ z, z < h.next → h1.get z = h.get z := fun z hz => by rw [hh1]; exact zN (by omega)
  have q0 : h1.get h.next = some (.cells (lcs p (.slice b1 p.base.length c1) (.slice b2 p.deltas.length c2)) 1) := by rw [hh1]; exact zQ
  have hm := check0_c h1 p _ _ (hb.mono (by omega) k1) (hd.mono (by omega) k1) (by omega) (by omega) lb
  refine W.enter tyOK Tryz.func26 rfl rfl ?_
  simp only [entry]
  cases fc : chk p with
  | false =>
    rw [if_neg (by rw [fc]; decide), hh1] at hm
    refine Wr <| Oa rfl Zx rfl <| Oa rfl za rfl <| On ?_
    refine W.seq <| Wr <| Oa rfl (zl (hv := by simp (disch := first | omega | simp only [nx]; omega) only [aLoad, ty25, rowOf, hpl, q0, rcl, Value.cells] <;> rfl)) rfl <| OSuf.callD rfl (by simp only [aopnds, lk] <;> rfl) en14 (hm) rfl <| Ot rfl (zb (hv := bi_neq)) rfl (rfl) <| On ?_
    refine Wy <| Wr <| Oa rfl za rfl <| On ?_
    refine CWp.ret <| SQ.ret <| FQ.ret (by simp only [aRet, Tryz.f26, aResults, aResult, lk, Nat.reduceEqDiff, reduceIte] <;> rfl) ?_
    exact ⟨by rw [imgM, if_neg (by rw [fc]; simp)], fun r o hr ho => by simp (disch := first | omega | simp only [nx]; omega) only [hpl]; exact ho⟩
  | true =>
    rw [if_pos fc, hh1] at hm
    obtain ⟨nb, nd, o1, o2, wf⟩ := fold0_c h1 p _ _ e (hb.mono (by omega) k1) (hd.mono (by omega) k1) hlb hld lb
    obtain ⟨M, hM⟩ : ∃ M, M = foldM p e := ⟨_, rfl⟩
    have fm : FM M := by rw [hM]; exact fm_of fc hp
    rw [← hM] at o1 o2 wf
    obtain ⟨s1, s2⟩ := hand_rs (h := h1) o1 o2
    obtain ⟨x1, y1, ev1⟩ := s1.form
    obtain ⟨x2, y2, ev2⟩ := s2.form
    rw [ev1, ev2] at wf
    rw [ev1] at s1
    have nH := hand_next h1 M nb nd
    have kH : ∀ z, z < h1.next → (hand h1 M nb nd).get z = h1.get z := fun z hz => hand_old _ _ _ _ _ hz
    obtain ⟨H2, hH2⟩ : ∃ H2, H2 = hand h1 M nb nd := ⟨_, rfl⟩
    rw [← hH2] at wf s1 nH kH
    rw [hh1] at wf
    obtain ⟨g1, hg1⟩ : ∃ g1, g1 = H2.new (LR M (.slice x1 M.base.length y1) (.slice x2 M.deltas.length y2)) := ⟨_, rfl⟩
    have qg : g1.get H2.next = some (LR M (.slice x1 M.base.length y1) (.slice x2 M.deltas.length y2)) := by rw [hg1]; exact zQ
    have ng : g1.next = H2.next + 1 := by rw [hg1]; rfl
    have sg : RS g1 M.base (.slice x1 M.base.length y1) := s1.mono (by omega) (fun z hz => by rw [hg1]; exact zN (by omega))
    have oldg : ∀ z, z < h.next → g1.get z = h.get z := fun z hz => by rw [hg1, zN (by omega), kH z (by omega)]; exact k1 z hz
    have lo := fm.low
    have hi := fm.high
    have fu := fm.full
    have fp := fm.pos
    have lb9 := fm.base
    refine Wr <| Oa rfl Zx rfl <| Oa rfl za rfl <| On ?_
    refine W.seq <| Wr <| Oa rfl (zl (hv := by simp (disch := first | omega | simp only [nx]; omega) only [aLoad, ty25, rowOf, hpl, q0, rcl, Value.cells] <;> rfl)) rfl <| OSuf.callD rfl (by simp only [aopnds, lk] <;> rfl) en14 (hm) rfl <| Of rfl (zb (hv := bi_neq)) rfl (rfl) <| On ?_
    refine Wn <| CWp.skip <| SQ.normal ?_
    refine Wr <| Oa rfl (zl (hv := by simp (disch := first | omega | simp only [nx]; omega) only [aLoad, ty25, rowOf, hpl, q0, rcl, Value.cells] <;> rfl)) rfl <| Oa rfl sm rfl <| OSuf.callD rfl (by simp only [aopnds, lk] <;> rfl) en20 (wf) rfl <| Oa rfl (so_alloc (by simp only [aAlloc, ty25] <;> rfl)) rfl <| Oa rfl (zs (hv := by simp (disch := first | omega | simp only [nx]; omega) only [aStore, ty25, writeRow, hpl, q0, rcl, Value.cells] <;> rfl)) rfl <| On ?_
    show CWp _ _ _ _ (H2.new (LR M (.slice x1 M.base.length y1) (.slice x2 M.deltas.length y2))) _
    rw [← hg1]
    refine CWp.known (L := [(1, U64 e), (4, .string ⟨#[]⟩), (5, P0 H2.next)]) ⟨(by simp only [lk] <;> rfl), (by simp only [lk] <;> rfl), (by simp only [lk] <;> rfl), trivial⟩ ?_
    simp only [mkA]
    have t1 : num M.low.length = num M.low.length := rfl
    have hl1 := num_le (n := M.low.length) (by omega)
    have hl2 := num_le (n := M.high.length) (by omega)
    have hl3 := num_le (n := M.full.toNat) (by omega)
    have hl4 := num_le (n := M.base.length) (by omega)
    have eF : (M.full.toNat : Int) = M.full := Int.toNat_of_nonneg fp
    have w1 := putt0_c g1 [] M.low (by omega) (by simp)
    have w2 := putt0_c g1 ([] ++ num M.low.length ++ M.low) M.high (by omega) (by simp; omega)
    have w3 := put0_c g1 ([] ++ num M.low.length ++ M.low ++ num M.high.length ++ M.high) M.full.toNat (by omega) (by simp; omega)
    have w4 := put0_c g1 ([] ++ num M.low.length ++ M.low ++ num M.high.length ++ M.high ++ num M.full.toNat) M.base.length (by omega) (by simp; omega)
    rw [eF] at w3
    have wl : IntKind.u64.wrap (M.base.length : Int) = (M.base.length : Int) := by
      simp only [IntKind.wrap, IntKind.bits, IntKind.signed]; simp; omega
    refine W.seq <| CWp.sqd tyOK mixed (ms := [0, 1, 3, 0, 8, 31, 63]) (by kernel_rfl) (
        .free rfl rfl (zf (hv := fa_ok (k := 0) ty25 rfl rfl ty9 rfl rfl)) rfl <| .read rfl rfl (zl (hv := by simp (disch := first | omega | simp only [nx]; omega) only [aLoad, ty9, rowOf, hpl, qg, rcl, Value.cells] <;> rfl)) (by first | rfl | (simp [veq, veq1, veqs]; done) | (simp [veq, veq1, veqs, splice]; done)) trivial rfl <| .call rfl rfl (fcallO (by simp only [aopnds, lk] <;> rfl) en61 (w1)) rfl ⟨.inl rfl, trivial⟩ rfl <| .free rfl rfl (zf (hv := fa_ok (k := 1) ty25 rfl rfl ty9 rfl rfl)) rfl <| .read rfl rfl (zl (hv := by simp (disch := first | omega | simp only [nx]; omega) only [aLoad, ty9, rowOf, hpl, qg, rcl, Value.cells] <;> rfl)) (by first | rfl | (simp [veq, veq1, veqs]; done) | (simp [veq, veq1, veqs, splice]; done)) ⟨.inr (zl (hv := by simp (disch := first | omega | simp only [nx]; omega) only [aLoad, ty9, rowOf, hpl, qg, rcl, Value.cells] <;> rfl)), trivial⟩ rfl <| .call rfl rfl (fcallO (by simp only [aopnds, lk] <;> rfl) en61 (w2)) rfl ⟨.inl rfl, .inl rfl, trivial⟩ rfl <| .free rfl rfl za rfl <| .nil) <| SQ.normal ?_
    refine W.seq <| CWp.sqd tyOK mixed (ms := [0, 0, 2, 7, 0, 16, 48, 112, 255, 511]) (by kernel_rfl) (
        .free rfl rfl sm rfl <| .free rfl rfl (zf (hv := fa_ok (k := 2) ty25 rfl rfl ty22 rfl rfl)) rfl <| .read rfl rfl (zl (hv := by simp (disch := first | omega | simp only [nx]; omega) only [aLoad, ty22, rowOf, hpl, qg, rcl, Value.cells] <;> rfl)) (by first | rfl | (simp [veq, veq1, veqs]; done) | (simp [veq, veq1, veqs, splice]; done)) trivial rfl <| .call rfl rfl (fcallO (by simp only [aopnds, lk] <;> rfl) en62 (w3)) rfl ⟨.inl rfl, trivial⟩ rfl <| .free rfl rfl (zf (hv := fa_ok (k := 3) ty25 rfl rfl ty23 rfl rfl)) rfl <| .read rfl rfl (zl (hv := by simp (disch := first | omega | simp only [nx]; omega) only [aLoad, ty23, rowOf, hpl, qg, rcl, Value.cells] <;> rfl)) (by first | rfl | (simp [veq, veq1, veqs]; done) | (simp [veq, veq1, veqs, splice]; done)) ⟨.inr (zl (hv := by simp (disch := first | omega | simp only [nx]; omega) only [aLoad, ty23, rowOf, hpl, qg, rcl, Value.cells] <;> rfl)), trivial⟩ rfl <| .read rfl rfl (Zn (hv := by simp (disch := first | omega | simp only [nx]; omega) only [aLenOf, ty23, hpl, qg, rcl, Value.cells, places, tb26] <;> rfl)) (by first | rfl | (simp [veq, veq1, veqs]; done) | (simp [veq, veq1, veqs, splice]; done)) ⟨.inr (Zn (hv := by simp (disch := first | omega | simp only [nx]; omega) only [aLenOf, ty23, hpl, qg, rcl, Value.cells, places, tb26] <;> rfl)), trivial⟩ rfl <| .read rfl (by kernel_rfl) (so_conw (so_conv tyOK (by simp only [lk] <;> rfl) ty3 ⟨_, rfl⟩ ty22 rfl) (by first | (simp only [wl] <;> rfl) | rfl)) (by first | rfl | (simp [veq, veq1, veqs]; done) | (simp [veq, veq1, veqs, splice]; done)) ⟨.inr (so_conw (so_conv tyOK (by simp only [lk] <;> rfl) ty3 ⟨_, rfl⟩ ty22 rfl) (by first | (simp only [wl] <;> rfl) | rfl)), trivial⟩ rfl <| .call rfl rfl (fcallO (by simp only [aopnds, lk] <;> rfl) en62 (w4)) rfl ⟨.inl rfl, .inl rfl, .inl rfl, .inl rfl, trivial⟩ rfl <| .free rfl rfl za rfl <| .nil) <| SQ.normal ?_
    refine W.seq <| Wr <| Oa rfl za rfl <| On ?_
    refine W.cut (fun L g => (∀ z, z < h.next → g.get z = h.get z) ∧ L = [(6, encS (img M))]) (W.block (W.loop (fun m L g => ∃ i : Nat, m + i = M.base.length ∧ g1.next ≤ g.next ∧ (∀ z, z < g1.next → g.get z = g1.get z) ∧ L = [(5, P0 H2.next), (6, encS ((M.base.take i).foldl imgR (img0 M))), (7, I64 i)]) (n := M.base.length) ⟨0, rfl, Nat.le_refl _, fun _ _ => rfl, rfl⟩ ?_ ?_)) ?_
    · simp [HasA, Tr.get_put, img0]
    · rintro m L g ⟨i, hm, gn, gk, rfl⟩
      simp only [mkA]
      have qq : g.get H2.next = some (LR M (.slice x1 M.base.length y1) (.slice x2 M.deltas.length y2)) := by rw [gk _ (by omega)]; exact qg
      have w2 : IntKind.i64.wrap ((i : Int) + 1) = ((i + 1 : Nat) : Int) := by rw [wrap_i64 (by omega) (by omega)]; omega
      by_cases hi : (i : Int) < (M.base.length : Int)
      · obtain ⟨x, hx⟩ : ∃ x, M.base[i]? = some x := ⟨M.base[i]'(by omega), by simp⟩
        obtain ⟨_, r, off, eb2, hr1, hr2⟩ := RS.at_ sg hx
        have hc1 : (0 ≤ (i : Int) ∧ (i : Int) < (M.base.length : Int)) := by omega
        have fx := fm.recs x (List.mem_of_getElem? hx)
        have f1 := fx.key
        have f2 := fx.val
        have f3 := fx.pos
        have f4 := fx.lsn
        subst eb2
        obtain ⟨S, hS⟩ : ∃ S, S = (M.base.take i).foldl imgR (img0 M) := ⟨_, rfl⟩
        have lS : S.length ≤ 6500 := by
          have h1 := imgs_len (s := img0 M) (M.base.take i) (fun r hr => fm.recs r (List.mem_of_mem_take hr))
          have h2 := img0_len fm
          rw [List.length_take] at h1
          rw [hS]; omega
        have k1 := num_le (n := x.key.length) (by omega)
        have k2 := num_le (n := x.lsn.toNat) (by omega)
        have k3 := num_le (n := delN x) (by simp only [delN]; split <;> omega)
        have eL : (x.lsn.toNat : Int) = x.lsn := Int.toNat_of_nonneg (by omega)
        obtain ⟨G, hG⟩ : ∃ G, G = g.new (.cells x.cs 1) := ⟨_, rfl⟩
        have v1 := putt0_c G S x.key (by omega) (by omega)
        have v2 := put0_c G (S ++ num x.key.length ++ x.key) x.lsn.toNat (by omega) (by simp; omega)
        have v3 := put0_c G (S ++ num x.key.length ++ x.key ++ num x.lsn.toNat) (delN x) (by simp only [delN]; split <;> omega) (by simp; omega)
        have v4 := putt0_c G (S ++ num x.key.length ++ x.key ++ num x.lsn.toNat ++ num (delN x)) x.val (by omega) (by simp; omega)
        rw [eL] at v2
        rw [hG] at v1 v2 v3 v4
        rw [← hS]
        have hn := img_step (s := img0 M) hx
        rw [← hS] at hn
        cases dl : x.del with
        | true =>
          have ed : delN x = 1 := by simp [delN, dl]
          rw [ed] at v3 v4
          refine W.seq <| Wr <| Oa rfl sm rfl <| Oa rfl (zf (hv := fa_ok (k := 3) ty25 rfl rfl ty23 rfl rfl)) rfl <| Oa rfl (zl (hv := by simp (disch := first | omega | simp only [nx]; omega) only [aLoad, ty23, rowOf, hpl, qq, hc1, rcl, sb, Rec.cs, Value.cells] <;> rfl)) rfl <| Oa rfl (Zn (hv := by simp (disch := first | omega | simp only [nx]; omega) only [aLenOf, ty23, hpl, qq, hc1, rcl, sb, Rec.cs, Value.cells, places, tb26] <;> rfl)) rfl <| Ot rfl (zb (hv := bi_lss)) rfl (by first | rfl | assumption | ((simp only [bl, qq, hc1, rcl, sb, Rec.cs, Value.cells, places, tb26]) <;> first | done | assumption | omega) | (simp; done) | (simp; omega)) <| On ?_
          refine Wy <| CWp.skip <| SQ.normal ?_
          refine W.seq <| W.block <| Wr <| Oa rfl (zf (hv := fa_ok (k := 3) ty25 rfl rfl ty23 rfl rfl)) rfl <| Oa rfl (zl (hv := by simp (disch := first | omega | simp only [nx]; omega) only [aLoad, ty23, rowOf, hpl, qq, hc1, rcl, sb, Rec.cs, Value.cells] <;> rfl)) rfl <| Oa rfl sm rfl <| Oa rfl (zi (hv := by simp (disch := first | omega | simp only [nx]; omega) only [aIndexAddr, ty23, ty27, hpl, qq, hc1, rcl, sb, Rec.cs, Value.cells, places, tb26] <;> rfl)) rfl <| Oa rfl (zl (hv := (hr2 _ (gk _ hr1)).1 _ _ ty27 rfl rfl)) rfl <| Oa rfl (so_alloc (by simp only [aAlloc, ty27] <;> rfl)) rfl <| Oa rfl (zs (hv := by simp (disch := first | omega | simp only [nx]; omega) only [aStore, ty27, writeRow, hpl, qq, hc1, rcl, sb, Rec.cs, Value.cells] <;> rfl)) rfl <| On ?_
          refine Wr <| Oa rfl za rfl <| On ?_
          refine W.seq <| Wr <| Oa rfl (zf (hv := fa_ok (k := 2) ty27 rfl rfl ty4 rfl rfl)) rfl <| Ot rfl (zl (hv := by simp (disch := first | omega | simp only [nx]; omega) only [aLoad, ty4, rowOf, hpl, qq, hc1, rcl, sb, Rec.cs, Value.cells] <;> rfl)) rfl (dl) <| On ?_
          refine Wy <| W.reg <| Oa rfl za rfl <| On ?_
          refine W.seq <| CWp.sqd tyOK mixed (ms := [0, 0, 2, 7, 0, 16, 63, 127]) (by kernel_rfl) (
              .free rfl rfl sm rfl <| .free rfl rfl (zf (hv := fa_ok (k := 0) ty27 rfl rfl ty9 rfl rfl)) rfl <| .read rfl rfl (zl (hv := by simp (disch := first | omega | simp only [nx]; omega) only [aLoad, ty9, rowOf, hpl, qq, hc1, rcl, sb, Rec.cs, Value.cells] <;> rfl)) (by first | rfl | (simp [veq, veq1, veqs]; done) | (simp [veq, veq1, veqs, splice]; done)) trivial rfl <| .call rfl rfl (fcallO (by simp only [aopnds, lk] <;> rfl) en61 (v1)) rfl ⟨.inl rfl, trivial⟩ rfl <| .free rfl rfl (zf (hv := fa_ok (k := 1) ty27 rfl rfl ty22 rfl rfl)) rfl <| .read rfl rfl (zl (hv := by simp (disch := first | omega | simp only [nx]; omega) only [aLoad, ty22, rowOf, hpl, qq, hc1, rcl, sb, Rec.cs, Value.cells] <;> rfl)) (by first | rfl | (simp [veq, veq1, veqs]; done) | (simp [veq, veq1, veqs, splice]; done)) ⟨.inr (zl (hv := by simp (disch := first | omega | simp only [nx]; omega) only [aLoad, ty22, rowOf, hpl, qq, hc1, rcl, sb, Rec.cs, Value.cells] <;> rfl)), trivial⟩ rfl <| .call rfl rfl (fcallO (by simp only [aopnds, lk] <;> rfl) en62 (v2)) rfl ⟨.inl rfl, .inl rfl, trivial⟩ rfl <| .free rfl rfl za rfl <| .nil) <| SQ.normal ?_
          refine CWp.sqd tyOK mixed (ms := [0, 0, 3, 0, 8, 31, 63]) (by kernel_rfl) (
              .free rfl rfl sm rfl <| .free rfl rfl sm rfl <| .call rfl rfl (fcallO (by simp only [aopnds, lk] <;> rfl) en62 (v3)) rfl trivial rfl <| .free rfl rfl (zf (hv := fa_ok (k := 3) ty27 rfl rfl ty9 rfl rfl)) rfl <| .read rfl rfl (zl (hv := by simp (disch := first | omega | simp only [nx]; omega) only [aLoad, ty9, rowOf, hpl, qq, hc1, rcl, sb, Rec.cs, Value.cells] <;> rfl)) (by first | rfl | (simp [veq, veq1, veqs]; done) | (simp [veq, veq1, veqs, splice]; done)) ⟨.inr (zl (hv := by simp (disch := first | omega | simp only [nx]; omega) only [aLoad, ty9, rowOf, hpl, qq, hc1, rcl, sb, Rec.cs, Value.cells] <;> rfl)), trivial⟩ rfl <| .call rfl rfl (fcallO (by simp only [aopnds, lk] <;> rfl) en61 (v4)) rfl ⟨.inl rfl, trivial⟩ rfl <| .free rfl rfl za rfl <| .nil) <| BQ.normal <| SQ.normal ?_
          refine W.reg <| Oa rfl sm rfl <| Oa rfl (zb (hv := bi_w bi_add (by first | (simp only [w2] <;> rfl) | rfl))) rfl <| Oa rfl za rfl <| OSuf.nil <| ?_
          refine LQ.normal (m := m - 1) (L := [(5, P0 H2.next), (6, encS (imgR S x)), (7, I64 ((i + 1 : Nat) : Int))]) (by omega) ?_ ⟨i + 1, by omega, by simp only [nx]; omega, fun z hz => by simp (disch := first | omega | simp only [nx]; omega) only [hpl]; exact gk z hz, by rw [hn]⟩
          simp only [HasA, Tr.get_put, Nat.reduceEqDiff, reduceIte, w2, imgR, ed, and_self]
        | false =>
          have ed : delN x = 0 := by simp [delN, dl]
          rw [ed] at v3 v4
          refine W.seq <| Wr <| Oa rfl sm rfl <| Oa rfl (zf (hv := fa_ok (k := 3) ty25 rfl rfl ty23 rfl rfl)) rfl <| Oa rfl (zl (hv := by simp (disch := first | omega | simp only [nx]; omega) only [aLoad, ty23, rowOf, hpl, qq, hc1, rcl, sb, Rec.cs, Value.cells] <;> rfl)) rfl <| Oa rfl (Zn (hv := by simp (disch := first | omega | simp only [nx]; omega) only [aLenOf, ty23, hpl, qq, hc1, rcl, sb, Rec.cs, Value.cells, places, tb26] <;> rfl)) rfl <| Ot rfl (zb (hv := bi_lss)) rfl (by first | rfl | assumption | ((simp only [bl, qq, hc1, rcl, sb, Rec.cs, Value.cells, places, tb26]) <;> first | done | assumption | omega) | (simp; done) | (simp; omega)) <| On ?_
          refine Wy <| CWp.skip <| SQ.normal ?_
          refine W.seq <| W.block <| Wr <| Oa rfl (zf (hv := fa_ok (k := 3) ty25 rfl rfl ty23 rfl rfl)) rfl <| Oa rfl (zl (hv := by simp (disch := first | omega | simp only [nx]; omega) only [aLoad, ty23, rowOf, hpl, qq, hc1, rcl, sb, Rec.cs, Value.cells] <;> rfl)) rfl <| Oa rfl sm rfl <| Oa rfl (zi (hv := by simp (disch := first | omega | simp only [nx]; omega) only [aIndexAddr, ty23, ty27, hpl, qq, hc1, rcl, sb, Rec.cs, Value.cells, places, tb26] <;> rfl)) rfl <| Oa rfl (zl (hv := (hr2 _ (gk _ hr1)).1 _ _ ty27 rfl rfl)) rfl <| Oa rfl (so_alloc (by simp only [aAlloc, ty27] <;> rfl)) rfl <| Oa rfl (zs (hv := by simp (disch := first | omega | simp only [nx]; omega) only [aStore, ty27, writeRow, hpl, qq, hc1, rcl, sb, Rec.cs, Value.cells] <;> rfl)) rfl <| On ?_
          refine Wr <| Oa rfl za rfl <| On ?_
          refine W.seq <| Wr <| Oa rfl (zf (hv := fa_ok (k := 2) ty27 rfl rfl ty4 rfl rfl)) rfl <| Of rfl (zl (hv := by simp (disch := first | omega | simp only [nx]; omega) only [aLoad, ty4, rowOf, hpl, qq, hc1, rcl, sb, Rec.cs, Value.cells] <;> rfl)) rfl (dl) <| On ?_
          refine Wn <| CWp.skip <| SQ.normal ?_
          refine W.seq <| CWp.sqd tyOK mixed (ms := [0, 0, 2, 7, 0, 16, 63, 127]) (by kernel_rfl) (
              .free rfl rfl sm rfl <| .free rfl rfl (zf (hv := fa_ok (k := 0) ty27 rfl rfl ty9 rfl rfl)) rfl <| .read rfl rfl (zl (hv := by simp (disch := first | omega | simp only [nx]; omega) only [aLoad, ty9, rowOf, hpl, qq, hc1, rcl, sb, Rec.cs, Value.cells] <;> rfl)) (by first | rfl | (simp [veq, veq1, veqs]; done) | (simp [veq, veq1, veqs, splice]; done)) trivial rfl <| .call rfl rfl (fcallO (by simp only [aopnds, lk] <;> rfl) en61 (v1)) rfl ⟨.inl rfl, trivial⟩ rfl <| .free rfl rfl (zf (hv := fa_ok (k := 1) ty27 rfl rfl ty22 rfl rfl)) rfl <| .read rfl rfl (zl (hv := by simp (disch := first | omega | simp only [nx]; omega) only [aLoad, ty22, rowOf, hpl, qq, hc1, rcl, sb, Rec.cs, Value.cells] <;> rfl)) (by first | rfl | (simp [veq, veq1, veqs]; done) | (simp [veq, veq1, veqs, splice]; done)) ⟨.inr (zl (hv := by simp (disch := first | omega | simp only [nx]; omega) only [aLoad, ty22, rowOf, hpl, qq, hc1, rcl, sb, Rec.cs, Value.cells] <;> rfl)), trivial⟩ rfl <| .call rfl rfl (fcallO (by simp only [aopnds, lk] <;> rfl) en62 (v2)) rfl ⟨.inl rfl, .inl rfl, trivial⟩ rfl <| .free rfl rfl za rfl <| .nil) <| SQ.normal ?_
          refine CWp.sqd tyOK mixed (ms := [0, 0, 3, 0, 8, 31, 63]) (by kernel_rfl) (
              .free rfl rfl sm rfl <| .free rfl rfl sm rfl <| .call rfl rfl (fcallO (by simp only [aopnds, lk] <;> rfl) en62 (v3)) rfl trivial rfl <| .free rfl rfl (zf (hv := fa_ok (k := 3) ty27 rfl rfl ty9 rfl rfl)) rfl <| .read rfl rfl (zl (hv := by simp (disch := first | omega | simp only [nx]; omega) only [aLoad, ty9, rowOf, hpl, qq, hc1, rcl, sb, Rec.cs, Value.cells] <;> rfl)) (by first | rfl | (simp [veq, veq1, veqs]; done) | (simp [veq, veq1, veqs, splice]; done)) ⟨.inr (zl (hv := by simp (disch := first | omega | simp only [nx]; omega) only [aLoad, ty9, rowOf, hpl, qq, hc1, rcl, sb, Rec.cs, Value.cells] <;> rfl)), trivial⟩ rfl <| .call rfl rfl (fcallO (by simp only [aopnds, lk] <;> rfl) en61 (v4)) rfl ⟨.inl rfl, trivial⟩ rfl <| .free rfl rfl za rfl <| .nil) <| BQ.normal <| SQ.normal ?_
          refine W.reg <| Oa rfl sm rfl <| Oa rfl (zb (hv := bi_w bi_add (by first | (simp only [w2] <;> rfl) | rfl))) rfl <| Oa rfl za rfl <| OSuf.nil <| ?_
          refine LQ.normal (m := m - 1) (L := [(5, P0 H2.next), (6, encS (imgR S x)), (7, I64 ((i + 1 : Nat) : Int))]) (by omega) ?_ ⟨i + 1, by omega, by simp only [nx]; omega, fun z hz => by simp (disch := first | omega | simp only [nx]; omega) only [hpl]; exact gk z hz, by rw [hn]⟩
          simp only [HasA, Tr.get_put, Nat.reduceEqDiff, reduceIte, w2, imgR, ed, and_self]
      · refine W.seq <| Wr <| Oa rfl sm rfl <| Oa rfl (zf (hv := fa_ok (k := 3) ty25 rfl rfl ty23 rfl rfl)) rfl <| Oa rfl (zl (hv := by simp (disch := first | omega | simp only [nx]; omega) only [aLoad, ty23, rowOf, hpl, qq, rcl, Value.cells] <;> rfl)) rfl <| Oa rfl (Zn (hv := by simp (disch := first | omega | simp only [nx]; omega) only [aLenOf, ty23, hpl, qq, rcl, Value.cells, places, tb26] <;> rfl)) rfl <| Of rfl (zb (hv := bi_lss)) rfl (by first | rfl | assumption | ((simp only [bl, qq, rcl, Value.cells, places, tb26]) <;> first | done | assumption | omega) | (simp; done) | (simp; omega)) <| On ?_
        refine Wn <| CWp.exit <| SQ.exit <| LQ.exit <| BQ.exit <| ?_
        refine NQ.normal (L := [(6, encS (img M))]) ?_ ⟨fun z hz => by rw [gk z (by omega)]; exact oldg z hz, rfl⟩
        have : M.base.take i = M.base := List.take_of_length_le (by omega)
        simp only [HasA, Tr.get_put, Nat.reduceEqDiff, reduceIte, this, img, and_self]
    rintro L a' g ha ⟨gk, rfl⟩
    refine SQ.normal <| CWp.known ha ?_
    simp only [mkA]
    refine Wr <| Oa rfl sm rfl <| Oa rfl za rfl <| On ?_
    refine CWp.ret <| FQ.ret (by simp only [aRet, Tryz.f26, aResults, aResult, lk, Nat.reduceEqDiff, reduceIte] <;> rfl) ?_
    exact ⟨by rw [imgM, if_pos fc, ← hM], fun r o hr ho => by rw [gk r hr]; exact ho⟩
end Go.Proofs.YtebheelmgcggmaaGreat
