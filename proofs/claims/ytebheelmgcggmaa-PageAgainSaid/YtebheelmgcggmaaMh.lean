/-
  Merged: PgR, PgS.
-/
import Derived.Test.YtebheelmgcggmaaMf
import Derived.Test.YtebheelmgcggmaaMg
namespace Go.Proofs.Ytebheelmgcggmaa
open Go.Ab Go.Sort
set_option linter.unusedSimpArgs false
set_option linter.unusedVariables false
set_option maxRecDepth 10000
set_option maxHeartbeats 4000000
theorem reset1_c (h : AHeap) (q : Nat) (e : Int) (x : Rec) (hq : h.get q = some (.cells [U64 e] 1)) (hql : q < h.next) : FWp Try.prog 40 [x.V, P0 q] h fun u h' => u = .bool (decide (e < x.lsn)) ∧ h' = h := by
  refine FWp.gcs (.flat rfl) ?_
  refine W.enter tyOK Try.func40 rfl rfl ?_
  simp only [entry]
  refine W.seq <| W.reg <| OSuf.aop tyOK rfl (so_box (by simp only [lk] <;> rfl)) rfl <| OSuf.aopF tyOK rfl za (fun _ => rfl) rfl <| OSuf.nil <| SQ.normal ?_
  refine W.seq <| W.reg <| OSuf.aop tyOK rfl (zf (hv := fa_ok (k := 1) ty33 rfl rfl ty25 rfl rfl)) rfl <| OSuf.aop tyOK rfl (zl (hv := by simp (disch := first | assumption | omega | (simp only [nx] <;> omega) | fail) only [aLoad, ty25, rowOf, hpl, hq, Value.cells, ty25, ty33] <;> rfl)) rfl <| OSuf.aop tyOK rfl (zl (hv := by simp (disch := first | assumption | omega | (simp only [nx] <;> omega) | fail) only [aLoad, ty25, rowOf, hpl, hq, Value.cells, ty25, ty33] <;> rfl)) rfl <| OSuf.aop tyOK rfl (zb (hv := bi_gtr)) rfl <| OSuf.aop tyOK rfl za rfl <| OSuf.nil <| SQ.normal ?_
  refine CWp.ret <| FQ.ret (by simp only [aRet, Try.f40, aResults, aResult, lk, Nat.reduceEqDiff, reduceIte] <;> rfl) ?_
  -- leaf: end
  exact ⟨rfl, fun r o hr ho => by simp (disch := first | assumption | omega | (simp only [nx] <;> omega) | fail) only [hpl]; exact ho⟩
theorem reset_c (h : AHeap) (p : Lf) (bv dv : Value) (e : Int) (hb : RS h p.base bv) (hd : RS h p.deltas dv) (hlb : p.base.length ≤ 1000000) (hld : p.deltas.length ≤ 1000000) :
    ∃ nb nd, (nb = true → (resetM p e).base = []) ∧ (nd = true → (resetM p e).deltas = []) ∧ FWp Try.prog 14 [LV p bv dv, U64 e] h fun u g => u = LV (resetM p e) (cval nb h.next (resetM p e).base) (cval nd (h.next + 1) (resetM p e).deltas) ∧ g = hand h (resetM p e) nb nd := by
  obtain ⟨b1, c1, rfl⟩ := hb.form
  obtain ⟨b2, c2, rfl⟩ := hd.form
  have hmay := fun H : AHeap => fun (hn : h.next ≤ H.next) (hk : ∀ z, z < h.next → H.get z = h.get z) => may'_c H p _ _ (hb.mono hn hk) (hd.mono hn hk) hlb hld
  obtain ⟨h3, hh3⟩ : ∃ h3, h3 = ((h.new (LR p (.slice b1 p.base.length c1) (.slice b2 p.deltas.length c2))).new (.cells [U64 e] 1)).new (.cells zlf 1) := ⟨_, rfl⟩
  have e3 : h3.next = h.next + 3 := by rw [hh3]; rfl
  have k3 : ∀ z, z < h.next → h3.get z = h.get z := fun z hz => by rw [hh3]; simp (disch := first | assumption | omega | (simp only [nx] <;> omega) | fail) only [hpl]
  obtain ⟨bv', dv', H1, m, w, ob, od, hsep, hnil, hm1, hm2, hk⟩ := own_c h3 p _ _ (hb.mono (by omega) k3) (hd.mono (by omega) k3) hlb hld
  rw [e3] at ob hm1 hk
  have q0 : H1.get h.next = some (LR p (.slice b1 p.base.length c1) (.slice b2 p.deltas.length c2)) := by rw [hk _ (by omega), hh3]; simp (disch := first | assumption | omega | (simp only [nx] <;> omega) | fail) only [hpl]
  have q1 : H1.get (h.next + 1) = some (.cells [U64 e] 1) := by rw [hk _ (by omega), hh3]; simp (disch := first | assumption | omega | (simp only [nx] <;> omega) | fail) only [hpl]
  have q2 : H1.get (h.next + 2) = some (.cells zlf 1) := by rw [hk _ (by omega), hh3]; simp (disch := first | assumption | omega | (simp only [nx] <;> omega) | fail) only [hpl]
  have kk : ∀ z, z < h.next → H1.get z = h.get z := fun z hz => by rw [hk z (by omega)]; exact k3 z hz
  obtain ⟨x, fx, gx⟩ := ob.fs
  obtain ⟨y, fy, gy⟩ := od.fs
  obtain ⟨x1, y1, rfl⟩ := ob.form
  obtain ⟨x2, y2, rfl⟩ := od.form
  have hxm : ∀ r, x = some r → r < m := fun r hr => by obtain ⟨n, c, g1⟩ := gx r hr; exact hsep r c n g1
  cases f1 : chk p with
  | false =>
    rw [f1] at hmay
    have eM : resetM p e = p := by simp [resetM, f1]
    rw [eM]
    refine ⟨_, _, fx.empty, fy.empty, gcL (K0 := fun u g => u = LV p (.slice x1 p.base.length y1) (.slice x2 p.deltas.length y2) ∧ H1.next ≤ g.next ∧ ∀ z, z < H1.next → ¬ z = h.next + 2 → g.get z = H1.get z) ?_ ?_⟩
    · refine W.enter tyOK Try.func14 rfl rfl ?_
      simp only [entry]
      refine W.seq <| W.reg <| OSuf.aop tyOK rfl (so_box (by simp only [lk] <;> rfl)) rfl <| OSuf.aop tyOK rfl (so_box (by simp only [lk] <;> rfl)) rfl <| OSuf.aop tyOK rfl (so_alloc (by simp only [aAlloc, ty28] <;> rfl)) rfl <| OSuf.nil <| SQ.normal ?_
      refine W.seq <| W.reg <| OSuf.aop tyOK rfl (zl (hv := by simp (disch := first | assumption | omega | (simp only [nx] <;> omega) | fail) only [aLoad, ty28, rowOf, hpl, q0, q1, q2, rcl, Value.cells, ty26, ty28] <;> rfl)) rfl <| OSuf.callD rfl (by simp only [aopnds, lk] <;> rfl) en26 ((by rw [hh3] at w; exact w)) rfl <| OSuf.aop tyOK rfl (so_alloc (by simp only [aAlloc, ty28] <;> rfl)) rfl <| OSuf.aop tyOK rfl (zs (hv := by simp (disch := first | assumption | omega | (simp only [nx] <;> omega) | fail) only [aStore, ty28, writeRow, hpl, q0, q1, q2, rcl, Value.cells, ty26, ty28] <;> rfl)) rfl <| OSuf.nil <| SQ.normal ?_
      refine W.seq <| W.seq <| W.reg <| OSuf.aop tyOK rfl (zl (hv := by simp (disch := first | assumption | omega | (simp only [nx] <;> omega) | fail) only [aLoad, ty28, rowOf, hpl, q0, q1, q2, rcl, Value.cells, ty26, ty28] <;> rfl)) rfl <| OSuf.callD rfl (by simp only [aopnds, lk] <;> rfl) en25 (hmay _ (by simp only [nx]; omega) (fun z hz => by simp (disch := first | assumption | omega | (simp only [nx] <;> omega) | fail) only [hpl]; exact kk z hz)) rfl <| OSuf.nil <| SQ.normal ?_
      refine W.no (by simp only [lk] <;> rfl) <| CWp.skip <| SQ.normal ?_
      refine W.seq <| W.reg <| OSuf.aop tyOK rfl (zl (hv := by simp (disch := first | assumption | omega | (simp only [nx] <;> omega) | fail) only [aLoad, ty28, rowOf, hpl, q0, q1, q2, rcl, Value.cells, ty26, ty28] <;> rfl)) rfl <| OSuf.aop tyOK rfl (zs (hv := by simp (disch := first | assumption | omega | (simp only [nx] <;> omega) | fail) only [aStore, ty28, writeRow, hpl, q0, q1, q2, rcl, Value.cells, ty26, ty28] <;> rfl)) rfl <| OSuf.nil <| SQ.normal ?_
      refine CWp.ret <| FQ.ret (by simp (disch := first | assumption | omega | (simp only [nx] <;> omega) | fail) only [aRet, Try.f14, aResults, aResult, lk, Nat.reduceEqDiff, reduceIte, aLoad, rowOf, hpl, q0, q1, q2, rcl, Value.cells, places, ty26, ty28] <;> rfl) ?_
      -- leaf: end
      exact ⟨rfl, by simp only [nx]; omega, fun z h1 h2 => by simp (disch := first | assumption | omega | (simp only [nx] <;> omega) | fail) only [hpl]⟩
    · rintro u g ⟨rfl, hn, hg⟩
      exact ⟨_, _, x, y, rfl, fx.mono (by omega) hn (fun z h1 h2 => hg z h2 (by omega)), fy.mono (by omega) hn (fun z h1 h2 => hg z h2 (by omega)), fun r hr hr2 => by have := hxm r hr; have := (fy.lo hr2).1; omega, fun z hz => by rw [hg z (by omega) (by omega)]; exact kk z hz⟩
  | true =>
    rw [f1] at hmay
    obtain ⟨KD, hKD⟩ : ∃ KD, KD = p.deltas.filter fun r => decide (r.lsn ≤ e) := ⟨_, rfl⟩
    have eM : resetM p e = { p with deltas := KD } := by rw [resetM, if_pos f1, hKD]
    obtain ⟨H2, hH2⟩ : ∃ H2, H2 = H1.new (LR p (.slice x1 p.base.length y1) (.slice x2 p.deltas.length y2)) := ⟨_, rfl⟩
    have nH2 : H2.next = H1.next + 1 := by rw [hH2]; rfl
    have kH2 : ∀ z, z < H1.next → H2.get z = H1.get z := fun z hz => by rw [hH2]; exact AHeap.get_new_ne (by omega)
    have hdel := del_os H2 m p.deltas (.slice x2 p.deltas.length y2) (.func (.func 40) #[] #[P0 (h.next + 1)]) (fun x => decide (e < x.lsn))
      (fun pre G => H2.next ≤ G.next ∧ ∀ z, z < H2.next → (z < m ∨ H1.next ≤ z) → G.get z = H2.get z) (od.mono (by omega) fun z _ hz => kH2 z hz) hld
      ⟨Nat.le_refl _, fun _ _ _ => rfl⟩
      (fun r n c er pre G o hJ => by
        rw [er] at od
        have := od.row
        exact ⟨hJ.1, fun z hz h9 => by rw [AHeap.get_set_ne (by omega)]; exact hJ.2 z hz h9⟩)
      (fun pre G o hJ => ⟨by have := hJ.1; simp; omega, fun z hz h9 => by have := hJ.1; rw [AHeap.get_new_ne (by omega)]; exact hJ.2 z hz h9⟩)
      (fun pre G hJ => hJ.1)
      (fun pre x post hp G hJ => by
        refine VWp.mono (cl_v en40 (reset1_c G (h.next + 1) e x (by rw [hJ.2 _ (by omega) (by omega), kH2 _ (by omega)]; exact q1) (by have := hJ.1; omega))) ?_
        rintro u G' ⟨rfl, rfl⟩
        exact ⟨rfl, hJ, fun _ _ _ => rfl⟩)
    have hkeep : (fun x : Rec => !decide (e < x.lsn)) = fun r => decide (r.lsn ≤ e) := by funext x; by_cases c : x.lsn ≤ e <;> simp [c] <;> omega
    rw [hkeep, ← hKD] at hdel
    rw [hH2] at hdel
    have g8 : (H1.new (LR p (.slice x1 p.base.length y1) (.slice x2 p.deltas.length y2))).get H1.next = some (LR p (.slice x1 p.base.length y1) (.slice x2 p.deltas.length y2)) := AHeap.get_new_same _ _
    rw [eM]
    refine ⟨_, nilV (.slice x2 p.deltas.length y2), fx.empty, fun hn => ?_, gcL (K0 := fun u g => ∃ dv y, u = LV p (.slice x1 p.base.length y1) dv ∧ FS g m KD (nilV (.slice x2 p.deltas.length y2)) dv y ∧ H1.next ≤ g.next ∧ ∀ z, z < H1.next → z < m → ¬ z = h.next + 2 → g.get z = H1.get z) ?_ ?_⟩
    · have := fy.empty hn
      show KD = []
      rw [hKD, this]; rfl
    · refine W.enter tyOK Try.func14 rfl rfl ?_
      simp only [entry]
      refine W.seq <| W.reg <| OSuf.aop tyOK rfl (so_box (by simp only [lk] <;> rfl)) rfl <| OSuf.aop tyOK rfl (so_box (by simp only [lk] <;> rfl)) rfl <| OSuf.aop tyOK rfl (so_alloc (by simp only [aAlloc, ty28] <;> rfl)) rfl <| OSuf.nil <| SQ.normal ?_
      refine W.seq <| W.reg <| OSuf.aop tyOK rfl (zl (hv := by simp (disch := first | assumption | omega | (simp only [nx] <;> omega) | fail) only [aLoad, ty28, rowOf, hpl, q0, q1, rcl, Value.cells, ty26, ty28] <;> rfl)) rfl <| OSuf.callD rfl (by simp only [aopnds, lk] <;> rfl) en26 ((by rw [hh3] at w; exact w)) rfl <| OSuf.aop tyOK rfl (so_alloc (by simp only [aAlloc, ty28] <;> rfl)) rfl <| OSuf.aop tyOK rfl (zs (hv := by simp (disch := first | assumption | omega | (simp only [nx] <;> omega) | fail) only [aStore, ty28, writeRow, hpl, q0, q1, rcl, Value.cells, ty26, ty28] <;> rfl)) rfl <| OSuf.nil <| SQ.normal ?_
      refine W.seq <| W.seq <| W.reg <| OSuf.aop tyOK rfl (zl (hv := by simp (disch := first | assumption | omega | (simp only [nx] <;> omega) | fail) only [aLoad, ty28, rowOf, hpl, q0, q1, rcl, Value.cells, ty26, ty28] <;> rfl)) rfl <| OSuf.callD rfl (by simp only [aopnds, lk] <;> rfl) en25 (hmay _ (by simp only [nx]; omega) (fun z hz => by simp (disch := first | assumption | omega | (simp only [nx] <;> omega) | fail) only [hpl]; exact kk z hz)) rfl <| OSuf.nil <| SQ.normal ?_
      refine W.yes (by simp only [lk] <;> rfl) <| W.reg <| OSuf.aop tyOK rfl (zf (hv := fa_ok (k := 4) ty28 rfl rfl ty26 rfl rfl)) rfl <| OSuf.aop tyOK rfl (zl (hv := by simp (disch := first | assumption | omega | (simp only [nx] <;> omega) | fail) only [aLoad, ty26, rowOf, hpl, q0, q1, rcl, Value.cells, ty26, ty28] <;> rfl)) rfl <| OSuf.aop tyOK rfl (so_makeFunc rfl (by simp only [aopnds, lk] <;> rfl) (by simp only [aopnds, lk] <;> rfl)) rfl <| OSuf.call rfl (by simp only [aopnds, lk] <;> rfl) en27 (hdel) ?_
      rintro u G ⟨⟨hn3, h83⟩, y', fy', gy'⟩
      obtain ⟨ub, uc, rfl⟩ := fy'.form
      have g8' : G.get H1.next = some (LR p (.slice x1 p.base.length y1) (.slice x2 p.deltas.length y2)) := (by rw [h83 _ (by simp) (.inr (Nat.le_refl _))]; exact g8)
      have q2' : G.get (h.next + 2) = some (.cells zlf 1) := (by rw [h83 _ (by simp only [nx]; omega) (.inl (by omega)), AHeap.get_new_ne (by omega)]; exact q2)
      simp only [nx] at hn3 h83
      refine ⟨_, rfl, ?_⟩
      refine OSuf.aop tyOK rfl (zf (hv := fa_ok (k := 4) ty28 rfl rfl ty26 rfl rfl)) rfl <| OSuf.aop tyOK rfl (zs (hv := by simp (disch := first | assumption | omega | (simp only [nx] <;> omega) | fail) only [aStore, ty26, writeRow, hpl, q0, q1, rcl, Value.cells, ty26, ty28, g8', q2'] <;> rfl)) rfl <| OSuf.nil <| SQ.normal ?_
      refine W.seq <| W.reg <| OSuf.aop tyOK rfl (zl (hv := by simp (disch := first | assumption | omega | (simp only [nx] <;> omega) | fail) only [aLoad, ty28, rowOf, hpl, q0, q1, rcl, Value.cells, ty26, ty28, g8', q2'] <;> rfl)) rfl <| OSuf.aop tyOK rfl (zs (hv := by simp (disch := first | assumption | omega | (simp only [nx] <;> omega) | fail) only [aStore, ty28, writeRow, hpl, q0, q1, rcl, Value.cells, ty26, ty28, g8', q2'] <;> rfl)) rfl <| OSuf.nil <| SQ.normal ?_
      refine CWp.ret <| FQ.ret (by simp (disch := first | assumption | omega | (simp only [nx] <;> omega) | fail) only [aRet, Try.f14, aResults, aResult, lk, Nat.reduceEqDiff, reduceIte, aLoad, rowOf, hpl, q0, q1, rcl, Value.cells, places, ty26, ty28, g8', q2'] <;> rfl) ?_
      -- leaf: end
      have hy' : ∀ r, y' = some r → r < H1.next := fun r hr => by
        obtain ⟨n, c, er⟩ := gy' r hr
        rw [er] at od
        exact od.row.2
      refine ⟨_, y', rfl, fy'.keep (Nat.le_refl _) (by simp) (fun r hr hr2 => ?_), by simp only [nx]; omega, fun z h1 h2 h3 => ?_⟩
      · have h1 := hy' r hr
        have h2 := (fy'.lo hr).1
        simp (disch := first | assumption | omega | (simp only [nx] <;> omega) | fail) only [hpl]
      · simp (disch := first | assumption | omega | (simp only [nx] <;> omega) | fail) only [hpl]; rw [h83 z (by omega) (.inl h2)]; simp (disch := first | assumption | omega | (simp only [nx] <;> omega) | fail) only [hpl]
    · rintro u g ⟨dv, y', rfl, fy', hn, hg⟩
      refine ⟨_, _, x, y', rfl, fx.keep (by omega) hn (fun r hr hr2 => hg r hr2 (hxm r hr) (by have := (fx.lo hr).1; omega)), fy'.keep (by omega) (Nat.le_refl _) (fun r hr _ => rfl), fun r hr hr2 => by have := hxm r hr; have := (fy'.lo hr2).1; omega, fun z hz => by rw [hg z (by omega) (by omega) (by omega)]; exact kk z hz⟩
end Go.Proofs.Ytebheelmgcggmaa
namespace Go.Proofs.Ytebheelmgcggmaa
open Go.Ab Go.Sort
set_option linter.unusedSimpArgs false
set_option linter.unusedVariables false
set_option maxRecDepth 10000
set_option maxHeartbeats 4000000
structure L2 (lo : Nat) (g : AHeap) (z : Nat) (L : Lf) : Prop where
  ex : ∃ b c b' c', g.get z = some (LR L (.slice b L.base.length c) (.slice b' L.deltas.length c')) ∧ RSl g lo L.base (.slice b L.base.length c) ∧ RSl g lo L.deltas (.slice b' L.deltas.length c')
theorem L2.keep {lo : Nat} {g g' : AHeap} {z : Nat} {L : Lf} (l : L2 lo g z L) (hn : g.next ≤ g'.next) (hz : g'.get z = g.get z) (hk : ∀ y, lo ≤ y → y < g.next → g'.get y = g.get y) : L2 lo g' z L := by
  obtain ⟨b, c, b', c', l1, l2, l3⟩ := l.ex
  exact ⟨b, c, b', c', by rw [hz]; exact l1, l2.mono (Nat.le_refl _) hn hk, l3.mono (Nat.le_refl _) hn hk⟩
theorem L2.put {lo n : Nat} {G : AHeap} {z : Nat} {F : Lf} {b1 b2 : Option Addr} {c1 c2 : Nat} (hz : z < lo) (hn : lo ≤ n) (s1 : RSl G n F.base (.slice b1 F.base.length c1)) (s2 : RSl G n F.deltas (.slice b2 F.deltas.length c2)) : L2 lo (G.set z (LR F (.slice b1 F.base.length c1) (.slice b2 F.deltas.length c2))) z F :=
  ⟨_, _, _, _, AHeap.get_set_same _ _ _, s1.mono hn (by simp) (fun y hy _ => AHeap.get_set_ne (by omega)), s2.mono hn (by simp) (fun y hy _ => AHeap.get_set_ne (by omega))⟩
theorem app_base (F : Lf) (r : Rec) : (appM F r).base = F.base := by simp only [appM]; split <;> rfl
theorem app_step {lo : Nat} {g : AHeap} {z : Nat} {F : Lf} (l : L2 lo g z F) (hz : z < lo) (hlo : lo ≤ g.next) (h6 : F.base.length ≤ 1000000 ∧ F.deltas.length ≤ 1000000) (r : Rec) :
    ∃ b c b' c' b1 c1 b2 c2 H, g.get z = some (LR F (.slice b F.base.length c) (.slice b' F.deltas.length c')) ∧ H.get z = g.get z ∧ FWp Try.prog 10 [LV F (.slice b F.base.length c) (.slice b' F.deltas.length c'), r.V] g (fun u g => u = .tuple #[LV (appM F r) (.slice b1 (appM F r).base.length c1) (.slice b2 (appM F r).deltas.length c2), .bool (appOK F r)] ∧ g = H) ∧
      L2 lo (H.set z (LR (appM F r) (.slice b1 (appM F r).base.length c1) (.slice b2 (appM F r).deltas.length c2))) z (appM F r) ∧ g.next ≤ H.next ∧ ∀ y, y < g.next → H.get y = g.get y := by
  obtain ⟨b, c, b', c', l1, l2, l3⟩ := l.ex
  obtain ⟨v1, v2, H, wa, s1, s2, hn, hk⟩ := apply_c g F _ _ r l2.rs l3.rs h6.1 h6.2
  rw [← app_base F r] at s1
  obtain ⟨x1, y1, rfl⟩ := s1.rs.form
  obtain ⟨x2, y2, rfl⟩ := s2.rs.form
  exact ⟨b, c, b', c', x1, y1, x2, y2, H, l1, hk z (by omega), wa, L2.put hz hlo s1 s2, hn, hk⟩
theorem fold_step {lo : Nat} {g : AHeap} {z : Nat} {F : Lf} (l : L2 lo g z F) (hlo : lo ≤ g.next) (h6 : F.base.length ≤ 1000000 ∧ F.deltas.length ≤ 1000000) (e : Nat) (hK : (foldB (e : Int) F).length ≤ 12) :
    ∃ b c b' c' b1 c1 b2 c2 H, g.get z = some (LR F (.slice b F.base.length c) (.slice b' F.deltas.length c')) ∧ FWp Try.prog 8 [LV F (.slice b F.base.length c) (.slice b' F.deltas.length c'), U64 e] g (fun u g => u = LV (foldM F e) (.slice b1 (foldM F e).base.length c1) (.slice b2 (foldM F e).deltas.length c2) ∧ g = H) ∧
      (∀ z', z' < lo → L2 lo (H.set z' (LR (foldM F e) (.slice b1 (foldM F e).base.length c1) (.slice b2 (foldM F e).deltas.length c2))) z' (foldM F e)) ∧ g.next ≤ H.next ∧ ∀ y, y < g.next → H.get y = g.get y := by
  obtain ⟨b, c, b', c', l1, l2, l3⟩ := l.ex
  obtain ⟨nb, nd, n1, n2, wf⟩ := fold_c g F _ _ (e : Int) l2.rs l3.rs h6.1 h6.2 (fun _ => hK)
  obtain ⟨s1, s2⟩ := hand_rsl (h := g) (p := foldM F e) n1 n2
  obtain ⟨x1, y1, e1⟩ := s1.rs.form
  obtain ⟨x2, y2, e2⟩ := s2.rs.form
  rw [e1] at wf s1
  rw [e2] at wf s2
  exact ⟨b, c, b', c', x1, y1, x2, y2, _, l1, wf, fun z' hz' => L2.put hz' hlo s1 s2, by rw [hand_next]; omega, fun y hy => hand_old _ _ _ _ _ hy⟩
theorem reset_step {lo : Nat} {g : AHeap} {z : Nat} {F : Lf} (l : L2 lo g z F) (hlo : lo ≤ g.next) (h6 : F.base.length ≤ 1000000 ∧ F.deltas.length ≤ 1000000) (e : Nat) :
    ∃ b c b' c' b1 c1 b2 c2 H, g.get z = some (LR F (.slice b F.base.length c) (.slice b' F.deltas.length c')) ∧ FWp Try.prog 14 [LV F (.slice b F.base.length c) (.slice b' F.deltas.length c'), U64 e] g (fun u g => u = LV (resetM F e) (.slice b1 (resetM F e).base.length c1) (.slice b2 (resetM F e).deltas.length c2) ∧ g = H) ∧
      (∀ z', z' < lo → L2 lo (H.set z' (LR (resetM F e) (.slice b1 (resetM F e).base.length c1) (.slice b2 (resetM F e).deltas.length c2))) z' (resetM F e)) ∧ g.next ≤ H.next ∧ ∀ y, y < g.next → H.get y = g.get y := by
  obtain ⟨b, c, b', c', l1, l2, l3⟩ := l.ex
  obtain ⟨nb, nd, n1, n2, wf⟩ := reset_c g F _ _ (e : Int) l2.rs l3.rs h6.1 h6.2
  obtain ⟨s1, s2⟩ := hand_rsl (h := g) (p := resetM F e) n1 n2
  obtain ⟨x1, y1, e1⟩ := s1.rs.form
  obtain ⟨x2, y2, e2⟩ := s2.rs.form
  rw [e1] at wf s1
  rw [e2] at wf s2
  exact ⟨b, c, b', c', x1, y1, x2, y2, _, l1, wf, fun z' hz' => L2.put hz' hlo s1 s2, by rw [hand_next]; omega, fun y hy => hand_old _ _ _ _ _ hy⟩
theorem again_c (h : AHeap) (b : Option Addr) (c : Nat) (ns : List Nat) (M1 M2 : Nat) (hv : RG h 1 ns.length (ns.map U16) (.slice b ns.length c)) (hns : ∀ n ∈ ns, n < 65536) (hm1 : M1 < 65536) (hm2 : M2 < 65536) :
    FWp Try.prog 4 [.slice b ns.length c, U16 M1, U16 M2] h fun u _ => u = .bool true := by
  have tb4 := And.intro ty22 (And.intro ty25 (And.intro ty26 (And.intro ty28 (And.intro ty31 (And.intro ty33 (And.intro ty36 (And.intro ty39 (ty9))))))))
  obtain ⟨e1, he1⟩ : ∃ e1, e1 = M1 % 400 := ⟨_, rfl⟩
  obtain ⟨e2, he2⟩ : ∃ e2, e2 = e1 + M2 % 100 := ⟨_, rfl⟩
  have w1 : Int.tmod (M1 : Int) 400 = (e1 : Int) := by rw [Int.tmod_eq_emod_of_nonneg (by omega)]; omega
  have w2 : IntKind.u64.wrap (e1 : Int) = (e1 : Int) := wrap_u64 (by omega) (by omega)
  have w3 : Int.tmod (M2 : Int) 100 = ((M2 % 100 : Nat) : Int) := by rw [Int.tmod_eq_emod_of_nonneg (by omega)]; omega
  have w4 : IntKind.u64.wrap ((M2 % 100 : Nat) : Int) = ((M2 % 100 : Nat) : Int) := wrap_u64 (by omega) (by omega)
  have w5 : IntKind.u64.wrap ((e1 : Int) + ((M2 % 100 : Nat) : Int)) = (e2 : Int) := by rw [wrap_u64 (by omega) (by omega)]; omega
  obtain ⟨U, hU⟩ : ∃ U, U = (ns.take 50).map fun n => keyed (1 + n % 400) := ⟨_, rfl⟩
  have hlU : U.length ≤ 50 := by rw [hU, List.length_map, List.length_take]; omega
  have hkU : ∀ r ∈ U, ∃ n, 1 ≤ n ∧ n ≤ 400 ∧ r = keyed n := fun r hr => by
    rw [hU] at hr
    obtain ⟨n, _, rfl⟩ := List.mem_map.1 hr
    exact ⟨1 + n % 400, by omega, by omega, rfl⟩
  have hmU : ∀ i N, i < 50 → ns[i]? = some N → keyed (1 + N % 400) ∈ U := fun i N hi hN => by
    rw [hU]
    exact List.mem_map.2 ⟨N, List.mem_of_getElem? (l := ns.take 50) (i := i) (by rw [List.getElem?_take_of_lt hi]; exact hN), rfl⟩
  refine W.enter tyOK Try.func4 rfl rfl ?_
  simp only [entry]
  refine W.seq <| W.reg <| OSuf.aopF tyOK rfl za (fun _ => rfl) rfl <| OSuf.nil <| SQ.normal ?_
  refine W.seq <| W.seq <| W.reg <| OSuf.callD rfl (by simp only [aopnds, lk] <;> rfl) en7 (works_c _) rfl <| OSuf.aopF tyOK rfl (so_not (by simp only [lk] <;> rfl)) (fun _ => rfl) rfl <| OSuf.nil <| SQ.normal ?_
  refine W.no (by simp only [lk] <;> rfl) <| CWp.skip <| SQ.normal ?_
  refine W.seq <| W.reg <| OSuf.aop tyOK rfl sm rfl <| OSuf.aop tyOK rfl (zb (hv := bi_w (bi_rem (by decide)) (by first | (simp only [w1, w2, w3, w4, w5] <;> rfl) | rfl))) rfl <| OSuf.aop tyOK rfl (so_conw (so_conv tyOK (by simp only [lk] <;> rfl) ty31 ⟨_, rfl⟩ ty25 rfl) (by first | (simp only [w1, w2, w3, w4, w5] <;> rfl) | rfl)) rfl <| OSuf.aop tyOK rfl za rfl <| OSuf.nil <| SQ.normal ?_
  refine W.seq <| W.reg <| OSuf.aop tyOK rfl sm rfl <| OSuf.aop tyOK rfl sm rfl <| OSuf.aop tyOK rfl (zb (hv := bi_w (bi_rem (by decide)) (by first | (simp only [w1, w2, w3, w4, w5] <;> rfl) | rfl))) rfl <| OSuf.aop tyOK rfl (so_conw (so_conv tyOK (by simp only [lk] <;> rfl) ty31 ⟨_, rfl⟩ ty25 rfl) (by first | (simp only [w1, w2, w3, w4, w5] <;> rfl) | rfl)) rfl <| OSuf.aop tyOK rfl (zb (hv := bi_w bi_add (by first | (simp only [w1, w2, w3, w4, w5] <;> rfl) | rfl))) rfl <| OSuf.aop tyOK rfl za rfl <| OSuf.nil <| SQ.normal ?_
  refine W.seq <| W.reg <| OSuf.aop tyOK rfl (so_alloc (by simp only [aAlloc, ty28] <;> rfl)) rfl <| OSuf.aop tyOK rfl (so_alloc (by simp only [aAlloc, ty28] <;> rfl)) rfl <| OSuf.nil <| SQ.normal ?_
  refine W.seq <| W.seq <| W.reg <| OSuf.aop tyOK rfl za rfl <| OSuf.nil <| SQ.normal ?_
  -- leaf: loop
  refine W.cut (fun L g => (∃ F, PInv F U U ∧ L2 (h.next + 2) g h.next F ∧ g.get (h.next + 1) = some (.cells zlf 1) ∧ h.next + 2 ≤ g.next ∧ ∀ z, z < h.next → g.get z = h.get z) ∧ L = [(0, .slice b ns.length c), (7, U64 e1), (8, U64 e2), (9, P0 h.next), (10, P0 (h.next + 1))]) (W.block (W.loop (fun m L g => ∃ (i : Nat) (F : Lf), m + i = min ns.length 50 ∧ PInv F U ((ns.take i).map fun n => keyed (1 + n % 400)) ∧ L2 (h.next + 2) g h.next F ∧ g.get (h.next + 1) = some (.cells zlf 1) ∧ h.next + 2 ≤ g.next ∧ (∀ z, z < h.next → g.get z = h.get z) ∧ L = [(0, .slice b ns.length c), (7, U64 e1), (8, U64 e2), (9, P0 h.next), (10, P0 (h.next + 1)), (11, I64 i)]) (n := min ns.length 50) ⟨0, ⟨[], [], 0, [], []⟩, rfl, ⟨rfl, rfl, rfl, .nil, .nil, by simp [Lf.all], by simp, hlU, hkU⟩, ⟨none, 0, none, 0, ?_, ⟨⟨_, _, rfl, .inl ⟨rfl, rfl, rfl⟩⟩, fun a n c e => by cases e⟩, ⟨⟨_, _, rfl, .inl ⟨rfl, rfl, rfl⟩⟩, fun a n c e => by cases e⟩⟩, by simp (disch := first | assumption | omega | (simp only [nx] <;> omega) | fail) only [hpl] <;> rfl, by simp, fun z hz => by simp (disch := first | assumption | omega | (simp only [nx] <;> omega) | fail) only [hpl], rfl⟩ ?_ ?_)) ?_
  · simp (disch := first | assumption | omega | (simp only [nx] <;> omega) | fail) only [hpl]; rfl
  · simp [HasA, Tr.get_put]
  · rintro m L g ⟨i, F, hm, inv, hL, hz1, lt, old, rfl⟩
    simp only [mkA]
    have w6 : IntKind.i64.wrap ((i : Int) + 1) = ((i + 1 : Nat) : Int) := by rw [wrap_i64 (by omega) (by omega)]; omega
    have fin : ¬ i < min ns.length 50 → PInv F U U := fun hi => inv.less fun r hr => by
      rw [hU] at hr
      rcases Nat.le_total ns.length 50 with h9 | h9
      · rw [List.take_of_length_le (by omega)] at hr ⊢; exact hr
      · have : i = 50 := by omega
        rw [this]; exact hr
    by_cases c1 : (i : Int) < (ns.length : Int)
    · by_cases c2 : (i : Int) < 50
      · obtain ⟨N, hN⟩ : ∃ N, ns[i]? = some N := ⟨ns[i]'(by omega), by simp⟩
        obtain ⟨r, hr⟩ : ∃ r, r = keyed (1 + N % 400) := ⟨_, rfl⟩
        have hA1 : ((ns.take (i + 1)).map fun n => keyed (1 + n % 400)) = ((ns.take i).map fun n => keyed (1 + n % 400)) ++ [r] := by rw [List.take_add_one, hN, hr]; simp
        obtain ⟨_, rr, off, rfl, hr1, hr2⟩ := RG.at_ (hv.mono (by omega) old) (i := i) (by omega)
        obtain ⟨b1, d1, b2, d2, b3, d3, b4, d4, H, q0, q1, wa, hL2, hn, hk⟩ := app_step hL (by omega) lt inv.l6 r
        have q2 : H.get h.next = some (LR F (.slice b1 F.base.length d1) (.slice b2 F.deltas.length d2)) := by rw [q1]; exact q0
        have ld : ∀ G : AHeap, G.get rr = g.get rr → ∀ t ti, T.get t = some ti → ti.agg = true → ti.size = 1 → aLoad T t (PA rr (off + i)) G = some (.agg #[U16 N]) := fun G hG t ti ht ha hs => by
          have := (hr2 G hG).1 t ti [U16 N] ht ha (by rw [hs, cellsOf_mk (by simp; omega), Nat.mul_one, one_at (x := U16 N) (by simp [hN])])
          simpa using this
        have hc1 : (0 ≤ (i : Int) ∧ (i : Int) < (ns.length : Int)) := by omega
        have kc := keyed_c g N (hns N (List.mem_of_getElem? hN))
        rw [← hr] at kc
        refine W.seq <| W.seq <| W.reg <| OSuf.aop tyOK rfl sm rfl <| OSuf.aop tyOK rfl sm rfl <| OSuf.aop tyOK rfl (so_len (by simp only [aopnds, lk] <;> rfl) (by simp (disch := first | assumption | omega | (simp only [nx] <;> omega) | fail) only [aLenOf, ty22, hpl, hc1, sb, q0, q2, Value.cells, places, tb4] <;> rfl)) rfl <| OSuf.aopT tyOK rfl (zb (hv := bi_lss)) (fun _ => rfl) (by first | rfl | assumption | ((simp only [bl, hc1, sb, q0, q2, Value.cells, places, tb4]) <;> first | done | assumption | omega) | (simp; done) | (simp; omega)) <| OSuf.aopT tyOK rfl sm (fun _ => rfl) rfl <| OSuf.aop tyOK ag sm rfl <| OSuf.aopT tyOK ag (zb (hv := bi_lss)) (fun _ => rfl) (by first | rfl | assumption | ((simp only [bl, hc1, sb, q0, q2, Value.cells, places, tb4]) <;> first | done | assumption | omega) | (simp; done) | (simp; omega)) <| OSuf.aopT tyOK rfl (so_pick (by simp only [lk] <;> rfl) (by simp only [lk, cond_true, cond_false] <;> rfl)) (fun _ => rfl) rfl <| OSuf.nil <| SQ.normal ?_
        refine W.yes (by simp only [lk] <;> rfl) <| CWp.skip <| SQ.normal ?_
        refine W.seq <| W.block <| CWp.sqd tyOK mixed (ms := [0, 0, 0, 6, 14, 30, 63, 127, 255, 255, 511]) (by kernel_rfl) (
            .read rfl rfl (zl (hv := by simp (disch := first | assumption | omega | (simp only [nx] <;> omega) | fail) only [aLoad, ty28, rowOf, hpl, hc1, sb, q0, q2, Value.cells] <;> rfl)) (by first | rfl | (simp [veq, veq1, veqs]; done) | (simp [veq, veq1, veqs, splice]; done)) trivial rfl <| .free rfl rfl sm rfl <| .free rfl rfl sm rfl <| .free rfl rfl (zi (hv := by simp (disch := first | assumption | omega | (simp only [nx] <;> omega) | fail) only [aIndexAddr, ty22, ty36, hpl, hc1, sb, q0, q2, Value.cells, places, tb4] <;> rfl)) rfl <| .read rfl rfl (zl (hv := ld _ (by first | rfl | exact hk _ hr1 | (rw [AHeap.get_set_ne (by omega)]; exact hk _ hr1)) _ _ ty36 rfl rfl)) (by first | rfl | (simp [veq, veq1, veqs]; done) | (simp [veq, veq1, veqs, splice]; done)) trivial rfl <| .call rfl rfl (fcallO (by simp only [aopnds, lk] <;> rfl) en9 (kc)) rfl ⟨.inl rfl, .inr (zl (hv := by simp (disch := first | assumption | omega | (simp only [nx] <;> omega) | fail) only [aLoad, ty28, rowOf, hpl, hc1, sb, q0, q2, Value.cells] <;> rfl)), trivial⟩ rfl <| .call rfl rfl (fcallO (by simp only [aopnds, lk] <;> rfl) en10 (wa)) rfl ⟨.inl rfl, .inl rfl, trivial⟩ rfl <| .free rfl rfl sm rfl <| .free rfl rfl (ze (hv := by simp (disch := first | assumption | omega | (simp only [nx] <;> omega) | fail) only [aExtract, hpl, hc1, sb, q0, q2, Value.cells, places, tb4] <;> rfl)) rfl <| .free rfl rfl (ze (hv := by simp (disch := first | assumption | omega | (simp only [nx] <;> omega) | fail) only [aExtract, hpl, hc1, sb, q0, q2, Value.cells, places, tb4] <;> rfl)) rfl <| .change rfl rfl (zs (hv := by simp (disch := first | assumption | omega | (simp only [nx] <;> omega) | fail) only [aStore, ty28, writeRow, hpl, hc1, sb, q0, q2, Value.cells] <;> rfl)) rfl ⟨.inl rfl, .inl rfl, trivial⟩ rfl <| .nil) <| BQ.normal <| SQ.normal ?_
        refine W.reg <| OSuf.aop tyOK rfl sm rfl <| OSuf.aop tyOK rfl (zb (hv := bi_w bi_add (by first | (simp only [w6] <;> rfl) | rfl))) rfl <| OSuf.aop tyOK rfl za rfl <| OSuf.nil <| ?_
        -- leaf: round
        refine LQ.normal (m := m - 1) (L := [(0, .slice (some ⟨rr, off, none⟩) ns.length c), (7, U64 e1), (8, U64 e2), (9, P0 h.next), (10, P0 (h.next + 1)), (11, I64 ((i + 1 : Nat) : Int))]) (by omega) ?_ ⟨i + 1, _, by omega, ?_, hL2, ?_, by simp only [nx]; omega, fun z hz => ?_, rfl⟩
        · simp only [HasA, Tr.get_put, Nat.reduceEqDiff, reduceIte, w6, and_self]
        · rw [hA1]
          exact (inv.app (by rw [hr]; exact hmU i N (by omega) hN)).less fun x hx => by
            rcases List.mem_append.1 hx with hx | hx
            · exact List.mem_cons_of_mem _ hx
            · rw [List.mem_singleton.1 hx]; exact List.mem_cons_self
        · rw [AHeap.get_set_ne (by omega), hk _ (by omega)]; exact hz1
        · rw [AHeap.get_set_ne (by omega), hk _ (by omega)]; exact old z hz
      · refine W.seq <| W.seq <| W.reg <| OSuf.aop tyOK rfl sm rfl <| OSuf.aop tyOK rfl sm rfl <| OSuf.aop tyOK rfl (so_len (by simp only [aopnds, lk] <;> rfl) (by simp (disch := first | assumption | omega | (simp only [nx] <;> omega) | fail) only [aLenOf, ty22, hpl] <;> rfl)) rfl <| OSuf.aopT tyOK rfl (zb (hv := bi_lss)) (fun _ => rfl) (by first | rfl | assumption | ((simp only [bl]) <;> first | done | assumption | omega) | (simp; done) | (simp; omega)) <| OSuf.aopT tyOK rfl sm (fun _ => rfl) rfl <| OSuf.aop tyOK ag sm rfl <| OSuf.aopF tyOK ag (zb (hv := bi_lss)) (fun _ => rfl) (by first | rfl | assumption | ((simp only [bl]) <;> first | done | assumption | omega) | (simp; done) | (simp; omega)) <| OSuf.aopF tyOK rfl (so_pick (by simp only [lk] <;> rfl) (by simp only [lk, cond_true, cond_false] <;> rfl)) (fun _ => rfl) rfl <| OSuf.nil <| SQ.normal ?_
        refine W.no (by simp only [lk] <;> rfl) <| CWp.exit <| SQ.exit <| LQ.exit <| BQ.exit <| ?_
        -- leaf: cut
        refine NQ.normal (L := [(0, .slice b ns.length c), (7, U64 e1), (8, U64 e2), (9, P0 h.next), (10, P0 (h.next + 1))]) ?_ ⟨⟨F, fin (by omega), hL, hz1, lt, old⟩, rfl⟩
        simp only [HasA, Tr.get_put, Nat.reduceEqDiff, reduceIte, and_self]
    · refine W.seq <| W.seq <| W.reg <| OSuf.aop tyOK rfl sm rfl <| OSuf.aop tyOK rfl sm rfl <| OSuf.aop tyOK rfl (so_len (by simp only [aopnds, lk] <;> rfl) (by simp (disch := first | assumption | omega | (simp only [nx] <;> omega) | fail) only [aLenOf, ty22, hpl] <;> rfl)) rfl <| OSuf.aopF tyOK rfl (zb (hv := bi_lss)) (fun _ => rfl) (by first | rfl | assumption | ((simp only [bl]) <;> first | done | assumption | omega) | (simp; done) | (simp; omega)) <| OSuf.aopF tyOK rfl sm (fun _ => rfl) rfl <| OSuf.pass ag rfl <| OSuf.pass ag rfl <| OSuf.aopF tyOK rfl (so_pick (by simp only [lk] <;> rfl) (by simp only [lk, cond_true, cond_false] <;> rfl)) (fun _ => rfl) rfl <| OSuf.nil <| SQ.normal ?_
      refine W.no (by simp only [lk] <;> rfl) <| CWp.exit <| SQ.exit <| LQ.exit <| BQ.exit <| ?_
      -- leaf: cut
      refine NQ.normal (L := [(0, .slice b ns.length c), (7, U64 e1), (8, U64 e2), (9, P0 h.next), (10, P0 (h.next + 1))]) ?_ ⟨⟨F, fin (by omega), hL, hz1, lt, old⟩, rfl⟩
      simp only [HasA, Tr.get_put, Nat.reduceEqDiff, reduceIte, and_self]
  rintro L a' g ha ⟨⟨F, inv, hL, hz1, lt, old⟩, rfl⟩
  obtain ⟨b1, d1, b2, d2, b3, d3, b4, d4, H, q0, wf, hL1, hn1, hk1⟩ := fold_step hL lt inv.l6 e1 (inv.fold_six _)
  obtain ⟨G1, hG1⟩ : ∃ G1, G1 = H.set h.next (LR (foldM F e1) (.slice b3 (foldM F e1).base.length d3) (.slice b4 (foldM F e1).deltas.length d4)) := ⟨_, rfl⟩
  have hLp := hL1 h.next (by omega)
  rw [← hG1] at hLp
  have nG1 : g.next ≤ G1.next := by rw [hG1]; exact hn1
  have kG1 : ∀ y, y < g.next → ¬ y = h.next → G1.get y = g.get y := fun y hy h9 => by rw [hG1, AHeap.get_set_ne (by omega)]; exact hk1 y hy
  have invP := (inv.fold (e1 : Int)).1
  obtain ⟨x1, y1, x2, y2, x3, y3, x4, y4, H2, r0, wr, hL2', hn2, hk2⟩ := reset_step hLp (by omega) invP.l6 e2
  have g9 : G1.get h.next = some (LR (foldM F e1) (.slice b3 (foldM F e1).base.length d3) (.slice b4 (foldM F e1).deltas.length d4)) := by rw [hG1]; exact AHeap.get_set_same _ _ _
  have e9 := r0.symm.trans g9
  simp only [Option.some.injEq, AObj.cells.injEq, List.cons.injEq, Value.slice.injEq, and_true, true_and] at e9
  obtain ⟨⟨rfl, rfl⟩, rfl, rfl⟩ := e9
  obtain ⟨P, hP⟩ : ∃ P, P = foldM F e1 := ⟨_, rfl⟩
  rw [← hP] at invP hLp r0 wr hL2'
  obtain ⟨invQ, hQd⟩ := invP.reset (e2 : Int)
  obtain ⟨Q, hQ⟩ : ∃ Q, Q = resetM P e2 := ⟨_, rfl⟩
  rw [← hQ] at invQ hQd wr hL2'
  have hq0 : H.get h.next = some (LR F (.slice b1 F.base.length d1) (.slice b2 F.deltas.length d2)) := by rw [hk1 _ (by omega)]; exact q0
  have r1 : H2.get (h.next + 1) = some (.cells zlf 1) := by rw [hk2 _ (by omega), kG1 _ (by omega) (by omega)]; exact hz1
  have hLq := hL2' (h.next + 1) (by omega)
  rw [hG1, ← hP] at wr
  refine SQ.normal <| CWp.known ha ?_
  simp only [mkA]
  refine W.seq <| W.reg <| OSuf.aop tyOK rfl (zl (hv := by simp (disch := first | assumption | omega | (simp only [nx] <;> omega) | fail) only [aLoad, ty28, rowOf, hpl, q0, hq0, r0, r1, rcl, Value.cells] <;> rfl)) rfl <| OSuf.aop tyOK rfl sm rfl <| OSuf.callD rfl (by simp only [aopnds, lk] <;> rfl) en8 ((by rw [← hP] at wf; exact wf)) rfl <| OSuf.aop tyOK rfl (zs (hv := by simp (disch := first | assumption | omega | (simp only [nx] <;> omega) | fail) only [aStore, ty28, writeRow, hpl, q0, hq0, r0, r1, rcl, Value.cells] <;> rfl)) rfl <| OSuf.nil <| SQ.normal ?_
  refine W.seq <| W.reg <| OSuf.aop tyOK rfl (zl (hv := by simp (disch := first | assumption | omega | (simp only [nx] <;> omega) | fail) only [aLoad, ty28, rowOf, hpl, q0, hq0, r0, r1, rcl, Value.cells] <;> rfl)) rfl <| OSuf.aop tyOK rfl sm rfl <| OSuf.callD rfl (by simp only [aopnds, lk] <;> rfl) en14 (wr) rfl <| OSuf.aop tyOK rfl (zs (hv := by simp (disch := first | assumption | omega | (simp only [nx] <;> omega) | fail) only [aStore, ty28, writeRow, hpl, q0, hq0, r0, r1, rcl, Value.cells] <;> rfl)) rfl <| OSuf.nil <| SQ.normal ?_
  refine W.seq <| W.seq <| W.reg <| OSuf.aop tyOK rfl za rfl <| OSuf.nil <| SQ.normal ?_
  -- leaf: loop
  obtain ⟨G2, hG2⟩ : ∃ G2, G2 = H2.set (h.next + 1) (LR Q (.slice x3 Q.base.length y3) (.slice x4 Q.deltas.length y4)) := ⟨_, rfl⟩
  rw [← hG2] at hLq
  have nG2 : G1.next ≤ G2.next := by rw [hG2]; exact hn2
  have kG2 : ∀ y, y < G1.next → ¬ y = h.next + 1 → G2.get y = G1.get y := fun y hy h9 => by rw [hG2, AHeap.get_set_ne (by omega)]; exact hk2 y hy
  have hLp2 : L2 (h.next + 2) G2 h.next P := hLp.keep nG2 (kG2 _ (by omega) (by omega)) fun y h1 h2 => kG2 y h2 (by omega)
  have old2 : ∀ z, z < h.next → G2.get z = h.get z := fun z hz => by rw [kG2 z (by omega) (by omega), kG1 z (by omega) (by omega)]; exact old z hz
  show CWp _ _ _ _ (H2.set (h.next + 1) (LR Q (.slice x3 Q.base.length y3) (.slice x4 Q.deltas.length y4))) _
  rw [← hG2]
  obtain ⟨b5, d5, b6, d6, z1, s1, s2⟩ := id hLq
  refine W.cut (fun L' g' => g' = G2 ∧ L' = [(0, .slice b ns.length c), (9, P0 h.next), (10, P0 (h.next + 1))]) (W.block (W.loop (fun m L' g' => ∃ i : Nat, m + i = Q.deltas.length ∧ g' = G2 ∧ L' = [(0, .slice b ns.length c), (8, U64 e2), (9, P0 h.next), (10, P0 (h.next + 1)), (12, I64 i)]) (n := Q.deltas.length) ⟨0, rfl, rfl, rfl⟩ ?_ ?_)) ?_
  · simp [HasA, Tr.get_put]
  · rintro m L' g' ⟨i, hm, rfl, rfl⟩
    simp only [mkA]
    have w6 : IntKind.i64.wrap ((i : Int) + 1) = ((i + 1 : Nat) : Int) := by
      have := invQ.ld
      rw [wrap_i64 (by omega) (by omega)]; omega
    by_cases c1 : (i : Int) < (Q.deltas.length : Int)
    · obtain ⟨x, hx⟩ : ∃ x, Q.deltas[i]? = some x := ⟨Q.deltas[i]'(by omega), by simp⟩
      obtain ⟨_, rr, off, rfl, hr1, hr2⟩ := RS.at_ s2.rs hx
      have hc1 : (0 ≤ (i : Int) ∧ (i : Int) < (Q.deltas.length : Int)) := by omega
      have hle := hQd x (List.mem_of_getElem? hx)
      refine W.seq <| W.seq <| W.reg <| OSuf.aop tyOK rfl sm rfl <| OSuf.aop tyOK rfl (zf (hv := fa_ok (k := 4) ty28 rfl rfl ty26 rfl rfl)) rfl <| OSuf.aop tyOK rfl (zl (hv := by simp (disch := first | assumption | omega | (simp only [nx] <;> omega) | fail) only [aLoad, ty26, rowOf, hpl, hc1, sb, z1, Value.cells] <;> rfl)) rfl <| OSuf.aop tyOK rfl (so_len (by simp only [aopnds, lk] <;> rfl) (by simp (disch := first | assumption | omega | (simp only [nx] <;> omega) | fail) only [aLenOf, ty26, hpl, hc1, sb, z1, Value.cells, places, tb4] <;> rfl)) rfl <| OSuf.aopT tyOK rfl (zb (hv := bi_lss)) (fun _ => rfl) (by first | rfl | assumption | ((simp only [bl, hc1, sb, z1, Value.cells, places, tb4]) <;> first | done | assumption | omega) | (simp; done) | (simp; omega)) <| OSuf.nil <| SQ.normal ?_
      refine W.yes (by simp only [lk] <;> rfl) <| CWp.skip <| SQ.normal ?_
      refine W.seq <| W.block <| W.seq <| W.reg <| OSuf.aop tyOK rfl (zf (hv := fa_ok (k := 4) ty28 rfl rfl ty26 rfl rfl)) rfl <| OSuf.aop tyOK rfl (zl (hv := by simp (disch := first | assumption | omega | (simp only [nx] <;> omega) | fail) only [aLoad, ty26, rowOf, hpl, hc1, sb, z1, Value.cells] <;> rfl)) rfl <| OSuf.aop tyOK rfl sm rfl <| OSuf.aop tyOK rfl (zi (hv := by simp (disch := first | assumption | omega | (simp only [nx] <;> omega) | fail) only [aIndexAddr, ty26, ty33, hpl, hc1, sb, z1, Value.cells, places, tb4] <;> rfl)) rfl <| OSuf.aop tyOK rfl (zf (hv := fa_ok (k := 1) ty33 rfl rfl ty25 rfl rfl)) rfl <| OSuf.aop tyOK rfl (zl (hv := (hr2 _ rfl).2 1 _ _ _ ty25 rfl rfl)) rfl <| OSuf.aop tyOK rfl sm rfl <| OSuf.aopF tyOK rfl (zb (hv := bi_gtr)) (fun _ => rfl) (by first | rfl | assumption | ((simp only [bl, hc1, sb, z1, Value.cells, places, tb4]) <;> first | done | assumption | omega) | (simp; done) | (simp; omega)) <| OSuf.nil <| SQ.normal ?_
      refine W.no (by simp only [lk] <;> rfl) <| CWp.skip <| BQ.normal <| SQ.normal ?_
      refine W.reg <| OSuf.aop tyOK rfl sm rfl <| OSuf.aop tyOK rfl (zb (hv := bi_w bi_add (by first | (simp only [w6] <;> rfl) | rfl))) rfl <| OSuf.aop tyOK rfl za rfl <| OSuf.nil <| ?_
      -- leaf: round
      refine LQ.normal (m := m - 1) (L := [(0, .slice b ns.length c), (8, U64 e2), (9, P0 h.next), (10, P0 (h.next + 1)), (12, I64 ((i + 1 : Nat) : Int))]) (by omega) ?_ ⟨i + 1, by omega, rfl, rfl⟩
      simp only [HasA, Tr.get_put, Nat.reduceEqDiff, reduceIte, w6, and_self]
    · refine W.seq <| W.seq <| W.reg <| OSuf.aop tyOK rfl sm rfl <| OSuf.aop tyOK rfl (zf (hv := fa_ok (k := 4) ty28 rfl rfl ty26 rfl rfl)) rfl <| OSuf.aop tyOK rfl (zl (hv := by simp (disch := first | assumption | omega | (simp only [nx] <;> omega) | fail) only [aLoad, ty26, rowOf, hpl, z1, Value.cells] <;> rfl)) rfl <| OSuf.aop tyOK rfl (so_len (by simp only [aopnds, lk] <;> rfl) (by simp (disch := first | assumption | omega | (simp only [nx] <;> omega) | fail) only [aLenOf, ty26, hpl, z1, Value.cells, places, tb4] <;> rfl)) rfl <| OSuf.aopF tyOK rfl (zb (hv := bi_lss)) (fun _ => rfl) (by first | rfl | assumption | ((simp only [bl, z1, Value.cells, places, tb4]) <;> first | done | assumption | omega) | (simp; done) | (simp; omega)) <| OSuf.nil <| SQ.normal ?_
      refine W.no (by simp only [lk] <;> rfl) <| CWp.exit <| SQ.exit <| LQ.exit <| BQ.exit <| ?_
      -- leaf: cut
      refine NQ.normal (L := [(0, .slice b ns.length c), (9, P0 h.next), (10, P0 (h.next + 1))]) ?_ ⟨rfl, rfl⟩
      simp only [HasA, Tr.get_put, Nat.reduceEqDiff, reduceIte, and_self]
  rintro L' a' g' ha ⟨rfl, rfl⟩
  refine SQ.normal <| CWp.known ha ?_
  simp only [mkA]
  refine W.seq <| W.seq <| W.reg <| OSuf.aop tyOK rfl za rfl <| OSuf.nil <| SQ.normal ?_
  -- leaf: loop
  have lt2 : h.next + 2 ≤ g'.next := by omega
  clear z1 s1 s2 hG2 hG1 r0 r1 q0 hq0 wf wr hL1 hL2' hk1 hk2 kG1 kG2 hn1 hn2 nG1 nG2 hL g9 hz1 lt old ha
  refine W.cut (fun L g => (∃ Q, PInv P U U ∧ PInv Q U U ∧ L2 (h.next + 2) g h.next P ∧ L2 (h.next + 2) g (h.next + 1) Q ∧ h.next + 2 ≤ g.next ∧ ∀ z, z < h.next → g.get z = h.get z) ∧ L = [(9, P0 h.next), (10, P0 (h.next + 1))]) (W.block (W.loop (fun m L g => ∃ (i : Nat) (F : Lf), m + i = min ns.length 50 ∧ PInv F U ((ns.take i).map fun n => keyed (1 + n % 400)) ∧ L2 (h.next + 2) g h.next P ∧ L2 (h.next + 2) g (h.next + 1) F ∧ h.next + 2 ≤ g.next ∧ (∀ z, z < h.next → g.get z = h.get z) ∧ L = [(0, .slice b ns.length c), (9, P0 h.next), (10, P0 (h.next + 1)), (13, I64 i)]) (n := min ns.length 50) ⟨0, Q, rfl, invQ, hLp2, hLq, lt2, old2, rfl⟩ ?_ ?_)) ?_
  · simp [HasA, Tr.get_put]
  · clear hLq hLp2 lt2 old2 hLp
    rintro m L g ⟨i, F, hm, inv, hLp, hL, lt, old, rfl⟩
    simp only [mkA]
    have w6 : IntKind.i64.wrap ((i : Int) + 1) = ((i + 1 : Nat) : Int) := by rw [wrap_i64 (by omega) (by omega)]; omega
    have fin : ¬ i < min ns.length 50 → PInv F U U := fun hi => inv.less fun r hr => by
      rw [hU] at hr
      rcases Nat.le_total ns.length 50 with h9 | h9
      · rw [List.take_of_length_le (by omega)] at hr ⊢; exact hr
      · have : i = 50 := by omega
        rw [this]; exact hr
    by_cases c1 : (i : Int) < (ns.length : Int)
    · by_cases c2 : (i : Int) < 50
      · obtain ⟨N, hN⟩ : ∃ N, ns[i]? = some N := ⟨ns[i]'(by omega), by simp⟩
        obtain ⟨r, hr⟩ : ∃ r, r = keyed (1 + N % 400) := ⟨_, rfl⟩
        have hA1 : ((ns.take (i + 1)).map fun n => keyed (1 + n % 400)) = ((ns.take i).map fun n => keyed (1 + n % 400)) ++ [r] := by rw [List.take_add_one, hN, hr]; simp
        obtain ⟨_, rr, off, rfl, hr1, hr2⟩ := RG.at_ (hv.mono (by omega) old) (i := i) (by omega)
        obtain ⟨b1, d1, b2, d2, b3, d3, b4, d4, H, q0, q1, wa, hL2, hn, hk⟩ := app_step hL (by omega) lt inv.l6 r
        have q2 : H.get (h.next + 1) = some (LR F (.slice b1 F.base.length d1) (.slice b2 F.deltas.length d2)) := by rw [q1]; exact q0
        have ld : ∀ G : AHeap, G.get rr = g.get rr → ∀ t ti, T.get t = some ti → ti.agg = true → ti.size = 1 → aLoad T t (PA rr (off + i)) G = some (.agg #[U16 N]) := fun G hG t ti ht ha hs => by
          have := (hr2 G hG).1 t ti [U16 N] ht ha (by rw [hs, cellsOf_mk (by simp; omega), Nat.mul_one, one_at (x := U16 N) (by simp [hN])])
          simpa using this
        have hc1 : (0 ≤ (i : Int) ∧ (i : Int) < (ns.length : Int)) := by omega
        have kc := keyed_c g N (hns N (List.mem_of_getElem? hN))
        rw [← hr] at kc
        refine W.seq <| W.seq <| W.reg <| OSuf.aop tyOK rfl sm rfl <| OSuf.aop tyOK rfl sm rfl <| OSuf.aop tyOK rfl (so_len (by simp only [aopnds, lk] <;> rfl) (by simp (disch := first | assumption | omega | (simp only [nx] <;> omega) | fail) only [aLenOf, ty22, hpl, hc1, sb, q0, q2, Value.cells, places, tb4] <;> rfl)) rfl <| OSuf.aopT tyOK rfl (zb (hv := bi_lss)) (fun _ => rfl) (by first | rfl | assumption | ((simp only [bl, hc1, sb, q0, q2, Value.cells, places, tb4]) <;> first | done | assumption | omega) | (simp; done) | (simp; omega)) <| OSuf.aopT tyOK rfl sm (fun _ => rfl) rfl <| OSuf.aop tyOK ag sm rfl <| OSuf.aopT tyOK ag (zb (hv := bi_lss)) (fun _ => rfl) (by first | rfl | assumption | ((simp only [bl, hc1, sb, q0, q2, Value.cells, places, tb4]) <;> first | done | assumption | omega) | (simp; done) | (simp; omega)) <| OSuf.aopT tyOK rfl (so_pick (by simp only [lk] <;> rfl) (by simp only [lk, cond_true, cond_false] <;> rfl)) (fun _ => rfl) rfl <| OSuf.nil <| SQ.normal ?_
        refine W.yes (by simp only [lk] <;> rfl) <| CWp.skip <| SQ.normal ?_
        refine W.seq <| W.block <| CWp.sqd tyOK mixed (ms := [0, 0, 0, 6, 14, 30, 63, 127, 255, 255, 511]) (by kernel_rfl) (
            .read rfl rfl (zl (hv := by simp (disch := first | assumption | omega | (simp only [nx] <;> omega) | fail) only [aLoad, ty28, rowOf, hpl, hc1, sb, q0, q2, Value.cells] <;> rfl)) (by first | rfl | (simp [veq, veq1, veqs]; done) | (simp [veq, veq1, veqs, splice]; done)) trivial rfl <| .free rfl rfl sm rfl <| .free rfl rfl sm rfl <| .free rfl rfl (zi (hv := by simp (disch := first | assumption | omega | (simp only [nx] <;> omega) | fail) only [aIndexAddr, ty22, ty36, hpl, hc1, sb, q0, q2, Value.cells, places, tb4] <;> rfl)) rfl <| .read rfl rfl (zl (hv := ld _ (by first | rfl | exact hk _ hr1 | (rw [AHeap.get_set_ne (by omega)]; exact hk _ hr1)) _ _ ty36 rfl rfl)) (by first | rfl | (simp [veq, veq1, veqs]; done) | (simp [veq, veq1, veqs, splice]; done)) trivial rfl <| .call rfl rfl (fcallO (by simp only [aopnds, lk] <;> rfl) en9 (kc)) rfl ⟨.inl rfl, .inr (zl (hv := by simp (disch := first | assumption | omega | (simp only [nx] <;> omega) | fail) only [aLoad, ty28, rowOf, hpl, hc1, sb, q0, q2, Value.cells] <;> rfl)), trivial⟩ rfl <| .call rfl rfl (fcallO (by simp only [aopnds, lk] <;> rfl) en10 (wa)) rfl ⟨.inl rfl, .inl rfl, trivial⟩ rfl <| .free rfl rfl sm rfl <| .free rfl rfl (ze (hv := by simp (disch := first | assumption | omega | (simp only [nx] <;> omega) | fail) only [aExtract, hpl, hc1, sb, q0, q2, Value.cells, places, tb4] <;> rfl)) rfl <| .free rfl rfl (ze (hv := by simp (disch := first | assumption | omega | (simp only [nx] <;> omega) | fail) only [aExtract, hpl, hc1, sb, q0, q2, Value.cells, places, tb4] <;> rfl)) rfl <| .change rfl rfl (zs (hv := by simp (disch := first | assumption | omega | (simp only [nx] <;> omega) | fail) only [aStore, ty28, writeRow, hpl, hc1, sb, q0, q2, Value.cells] <;> rfl)) rfl ⟨.inl rfl, .inl rfl, trivial⟩ rfl <| .nil) <| BQ.normal <| SQ.normal ?_
        refine W.reg <| OSuf.aop tyOK rfl sm rfl <| OSuf.aop tyOK rfl (zb (hv := bi_w bi_add (by first | (simp only [w6] <;> rfl) | rfl))) rfl <| OSuf.aop tyOK rfl za rfl <| OSuf.nil <| ?_
        -- leaf: round
        refine LQ.normal (m := m - 1) (L := [(0, .slice (some ⟨rr, off, none⟩) ns.length c), (9, P0 h.next), (10, P0 (h.next + 1)), (13, I64 ((i + 1 : Nat) : Int))]) (by omega) ?_ ⟨i + 1, _, by omega, ?_, ?_, hL2, by simp only [nx]; omega, fun z hz => ?_, rfl⟩
        · simp only [HasA, Tr.get_put, Nat.reduceEqDiff, reduceIte, w6, and_self]
        · rw [hA1]
          exact (inv.app (by rw [hr]; exact hmU i N (by omega) hN)).less fun x hx => by
            rcases List.mem_append.1 hx with hx | hx
            · exact List.mem_cons_of_mem _ hx
            · rw [List.mem_singleton.1 hx]; exact List.mem_cons_self
        · exact hLp.keep (by simp only [nx]; omega) (by rw [AHeap.get_set_ne (by omega)]; exact hk _ (by omega)) fun y h1 h2 => by rw [AHeap.get_set_ne (by omega)]; exact hk y h2
        · rw [AHeap.get_set_ne (by omega), hk _ (by omega)]; exact old z hz
      · refine W.seq <| W.seq <| W.reg <| OSuf.aop tyOK rfl sm rfl <| OSuf.aop tyOK rfl sm rfl <| OSuf.aop tyOK rfl (so_len (by simp only [aopnds, lk] <;> rfl) (by simp (disch := first | assumption | omega | (simp only [nx] <;> omega) | fail) only [aLenOf, ty22, hpl] <;> rfl)) rfl <| OSuf.aopT tyOK rfl (zb (hv := bi_lss)) (fun _ => rfl) (by first | rfl | assumption | ((simp only [bl]) <;> first | done | assumption | omega) | (simp; done) | (simp; omega)) <| OSuf.aopT tyOK rfl sm (fun _ => rfl) rfl <| OSuf.aop tyOK ag sm rfl <| OSuf.aopF tyOK ag (zb (hv := bi_lss)) (fun _ => rfl) (by first | rfl | assumption | ((simp only [bl]) <;> first | done | assumption | omega) | (simp; done) | (simp; omega)) <| OSuf.aopF tyOK rfl (so_pick (by simp only [lk] <;> rfl) (by simp only [lk, cond_true, cond_false] <;> rfl)) (fun _ => rfl) rfl <| OSuf.nil <| SQ.normal ?_
        refine W.no (by simp only [lk] <;> rfl) <| CWp.exit <| SQ.exit <| LQ.exit <| BQ.exit <| ?_
        -- leaf: cut
        refine NQ.normal (L := [(9, P0 h.next), (10, P0 (h.next + 1))]) ?_ ⟨⟨F, invP, fin (by omega), hLp, hL, lt, old⟩, rfl⟩
        simp only [HasA, Tr.get_put, Nat.reduceEqDiff, reduceIte, and_self]
    · refine W.seq <| W.seq <| W.reg <| OSuf.aop tyOK rfl sm rfl <| OSuf.aop tyOK rfl sm rfl <| OSuf.aop tyOK rfl (so_len (by simp only [aopnds, lk] <;> rfl) (by simp (disch := first | assumption | omega | (simp only [nx] <;> omega) | fail) only [aLenOf, ty22, hpl] <;> rfl)) rfl <| OSuf.aopF tyOK rfl (zb (hv := bi_lss)) (fun _ => rfl) (by first | rfl | assumption | ((simp only [bl]) <;> first | done | assumption | omega) | (simp; done) | (simp; omega)) <| OSuf.aopF tyOK rfl sm (fun _ => rfl) rfl <| OSuf.pass ag rfl <| OSuf.pass ag rfl <| OSuf.aopF tyOK rfl (so_pick (by simp only [lk] <;> rfl) (by simp only [lk, cond_true, cond_false] <;> rfl)) (fun _ => rfl) rfl <| OSuf.nil <| SQ.normal ?_
      refine W.no (by simp only [lk] <;> rfl) <| CWp.exit <| SQ.exit <| LQ.exit <| BQ.exit <| ?_
      -- leaf: cut
      refine NQ.normal (L := [(9, P0 h.next), (10, P0 (h.next + 1))]) ?_ ⟨⟨F, invP, fin (by omega), hLp, hL, lt, old⟩, rfl⟩
      simp only [HasA, Tr.get_put, Nat.reduceEqDiff, reduceIte, and_self]
  clear hLq hLp2 lt2 old2 hLp invQ hQd hQ
  rintro L a' g ha ⟨⟨Q, _, invQ, hLp, hLq, lt, old⟩, rfl⟩
  obtain ⟨ks, hks⟩ : ∃ ks, ks = keysL U := ⟨_, rfl⟩
  have ek1 : keysM P = ks := by rw [keysM, if_pos invP.chk, invP.keys, hks]
  have ek2 : keysM Q = ks := by rw [keysM, if_pos invQ.chk, invQ.keys, hks]
  have hl6 := invP.keys_six
  rw [ek1] at hl6
  obtain ⟨pb, pc, pb', pc', p1, p2, p3⟩ := hLp.ex
  obtain ⟨qb, qc, qb', qc', q1, q2, q3⟩ := hLq.ex
  obtain ⟨K1, hK1⟩ : ∃ K1, K1 = kheap g ks := ⟨_, rfl⟩
  have n1 := (kheap_next g ks).1
  rw [← hK1] at n1
  have k1 : ∀ y, y < g.next → K1.get y = g.get y := fun y hy => by rw [hK1]; exact kheap_old g ks y hy
  obtain ⟨K2, hK2⟩ : ∃ K2, K2 = kheap K1 ks := ⟨_, rfl⟩
  have n2 := (kheap_next K1 ks).1
  rw [← hK2] at n2
  have k2 : ∀ y, y < K1.next → K2.get y = K1.get y := fun y hy => by rw [hK2]; exact kheap_old K1 ks y hy
  have wk1 := keys_c g P _ _ p2.rs p3.rs invP.l6.1 invP.l6.2 (by rw [ek1]; exact hl6)
  have q2' := q2.mono (Nat.le_refl _) n1 (fun z _ hz => k1 z hz)
  have q3' := q3.mono (Nat.le_refl _) n1 (fun z _ hz => k1 z hz)
  have wk2 := keys_c K1 Q _ _ q2'.rs q3'.rs invQ.l6.1 invQ.l6.2 (by rw [ek2]; exact hl6)
  rw [ek1] at wk1
  rw [ek2] at wk2
  have rg1 := kval_rg g ks
  have rg2 := kval_rg K1 ks
  obtain ⟨kb, kc, e1'⟩ := rg1.form
  obtain ⟨kb2, kc2, e2'⟩ := rg2.form
  rw [e1'] at wk1 rg1
  rw [e2'] at wk2 rg2
  rw [← hK1] at wk1 rg1
  rw [← hK2] at wk2 rg2
  have rg1' := rg1.mono n2 k2
  have a1 : K1.get h.next = some (LR P (.slice pb P.base.length pc) (.slice pb' P.deltas.length pc')) := by rw [k1 _ (by omega)]; exact p1
  have a2 : K2.get h.next = some (LR P (.slice pb P.base.length pc) (.slice pb' P.deltas.length pc')) := by rw [k2 _ (by omega)]; exact a1
  have b1 : K1.get (h.next + 1) = some (LR Q (.slice qb Q.base.length qc) (.slice qb' Q.deltas.length qc')) := by rw [k1 _ (by omega)]; exact q1
  have b2 : K2.get (h.next + 1) = some (LR Q (.slice qb Q.base.length qc) (.slice qb' Q.deltas.length qc')) := by rw [k2 _ (by omega)]; exact b1
  refine SQ.normal <| CWp.known ha ?_
  simp only [mkA]
  refine W.seq <| CWp.sqd tyOK mixed (ms := [0, 1, 0, 7, 15, 31]) (by kernel_rfl) (
      .read rfl rfl (zl (hv := by simp (disch := first | assumption | omega | (simp only [nx] <;> omega) | fail) only [aLoad, ty28, rowOf, hpl, p1, q1, a1, a2, b1, b2, Value.cells] <;> rfl)) (by first | rfl | (simp [veq, veq1, veqs]; done) | (simp [veq, veq1, veqs, splice]; done)) trivial rfl <| .call rfl rfl (fcallO (by simp only [aopnds, lk] <;> rfl) en11 (wk1)) rfl ⟨.inl rfl, trivial⟩ rfl <| .read rfl rfl (zl (hv := by simp (disch := first | assumption | omega | (simp only [nx] <;> omega) | fail) only [aLoad, ty28, rowOf, hpl, p1, q1, a1, a2, b1, b2, Value.cells] <;> rfl)) (by first | rfl | (simp [veq, veq1, veqs]; done) | (simp [veq, veq1, veqs, splice]; done)) ⟨.inr (zl (hv := by simp (disch := first | assumption | omega | (simp only [nx] <;> omega) | fail) only [aLoad, ty28, rowOf, hpl, p1, q1, a1, a2, b1, b2, Value.cells] <;> rfl)), trivial⟩ rfl <| .call rfl rfl (fcallO (by simp only [aopnds, lk] <;> rfl) en11 (wk2)) rfl ⟨.inl rfl, .inl rfl, trivial⟩ rfl <| .free rfl rfl za rfl <| .free rfl rfl za rfl <| .nil) <| SQ.normal ?_
  refine W.seq <| W.seq <| W.reg <| OSuf.aop tyOK rfl sm rfl <| OSuf.aop tyOK rfl sm rfl <| OSuf.callD rfl (by simp only [aopnds, lk] <;> rfl) en15 (texts_c _ _ _ ks rg1' rg2 (by omega)) rfl <| OSuf.aopF tyOK rfl (so_not (by simp only [lk] <;> rfl)) (fun _ => rfl) rfl <| OSuf.nil <| SQ.normal ?_
  refine W.no (by simp only [lk] <;> rfl) <| CWp.skip <| SQ.normal ?_
  refine W.seq <| W.seq <| W.reg <| OSuf.aop tyOK rfl za rfl <| OSuf.nil <| SQ.normal ?_
  -- leaf: loop
  have hLp2 : L2 (h.next + 2) K2 h.next P := hLp.keep (by omega) (by rw [a2, p1]) fun y _ hy => by rw [k2 y (by omega), k1 y hy]
  have hLq2 : L2 (h.next + 2) K2 (h.next + 1) Q := hLq.keep (by omega) (by rw [b2, q1]) fun y _ hy => by rw [k2 y (by omega), k1 y hy]
  refine W.block (W.loop (fun m L' g' => ∃ i : Nat, m + i = ks.length ∧ K2.next ≤ g'.next ∧ (∀ y, y < K2.next → g'.get y = K2.get y) ∧ L' = [(9, P0 h.next), (10, P0 (h.next + 1)), (14, .slice kb ks.length kc), (16, I64 i)]) (n := ks.length) ⟨0, rfl, Nat.le_refl _, fun _ _ => rfl, rfl⟩ ?_ ?_)
  · simp [HasA, Tr.get_put]
  rintro m L' g' ⟨i, hm, nn, kk, rfl⟩
  simp only [mkA]
  have w6 : IntKind.i64.wrap ((i : Int) + 1) = ((i + 1 : Nat) : Int) := by rw [wrap_i64 (by omega) (by omega)]; omega
  by_cases c1 : (i : Int) < (ks.length : Int)
  · obtain ⟨k, hk⟩ : ∃ k, ks[i]? = some k := ⟨ks[i]'(by omega), by simp⟩
    obtain ⟨_, rr, off, rfl, hr1, hr2⟩ := RG.at_ rg1' (i := i) (by omega)
    have ld : ∀ G : AHeap, G.get rr = K2.get rr → ∀ t ti, T.get t = some ti → ti.agg = false → aLoad T t (PA rr (off + i)) G = some (encS k) := fun G hG t ti ht ha => by
      have := (hr2 G hG).2 0 t ti (encS k) ht ha (by simp [hk])
      simpa using this
    have hc1 : (0 ≤ (i : Int) ∧ (i : Int) < (ks.length : Int)) := by omega
    obtain ⟨r, hr, hrk⟩ := mem_keysL.1 (by rw [← hks]; exact List.mem_of_getElem? hk : k ∈ keysL U)
    obtain ⟨q, _, _, qg, _⟩ := getL_is invP.posU ⟨r, hr, hrk⟩
    have hGp : getM P k = (q, true) := by rw [getM, if_pos invP.chk, invP.get, qg]
    have hGq : getM Q k = (q, true) := by rw [getM, if_pos invQ.chk, invQ.get, qg]
    have a3 : g'.get h.next = some (LR P (.slice pb P.base.length pc) (.slice pb' P.deltas.length pc')) := by rw [kk _ (by omega)]; exact a2
    have b3 : g'.get (h.next + 1) = some (LR Q (.slice qb Q.base.length qc) (.slice qb' Q.deltas.length qc')) := by rw [kk _ (by omega)]; exact b2
    have kz : ∀ z, z < g.next → g'.get z = g.get z := fun z hz => by rw [kk z (by omega), k2 z (by omega), k1 z hz]
    have wg := get_c g' P _ _ (p2.mono (Nat.le_refl _) (by omega) (fun z _ hz => kz z hz)).rs (p3.mono (Nat.le_refl _) (by omega) (fun z _ hz => kz z hz)).rs invP.l6.1 invP.l6.2 k
    rw [hGp] at wg
    have wi := is_c (g'.new (.cells q.cs 1)) Q _ _ (q2.mono (Nat.le_refl _) (by simp; omega) (fun z _ hz => by rw [AHeap.get_new_ne (by omega)]; exact kz z hz)).rs (q3.mono (Nat.le_refl _) (by simp; omega) (fun z _ hz => by rw [AHeap.get_new_ne (by omega)]; exact kz z hz)).rs invQ.l6.1 invQ.l6.2 k q hGq
    refine W.seq <| W.seq <| W.reg <| OSuf.aop tyOK rfl sm rfl <| OSuf.aop tyOK rfl sm rfl <| OSuf.aop tyOK rfl (so_len (by simp only [aopnds, lk] <;> rfl) (by simp (disch := first | assumption | omega | (simp only [nx] <;> omega) | fail) only [aLenOf, ty39, hpl, hc1, sb, a3, b3, rcl, Value.cells, places, tb4] <;> rfl)) rfl <| OSuf.aopT tyOK rfl (zb (hv := bi_lss)) (fun _ => rfl) (by first | rfl | assumption | ((simp only [bl, hc1, sb, a3, b3, rcl, Value.cells, places, tb4]) <;> first | done | assumption | omega) | (simp; done) | (simp; omega)) <| OSuf.nil <| SQ.normal ?_
    refine W.yes (by simp only [lk] <;> rfl) <| CWp.skip <| SQ.normal ?_
    refine W.seq <| W.block <| W.seq <| CWp.sql tyOK mixed (ms := [0, 0, 0, 6, 14, 31, 63, 127, 127, 0, 767, 2047]) (by kernel_rfl) (
        .read rfl rfl rfl (zl (hv := by simp (disch := first | assumption | omega | (simp only [nx] <;> omega) | fail) only [aLoad, ty28, rowOf, hpl, hc1, sb, a3, b3, rcl, Value.cells] <;> rfl)) (by first | rfl | (simp [veq, veq1, veqs]; done) | (simp [veq, veq1, veqs, splice]; done)) trivial rfl <| .free rfl rfl rfl sm rfl <| .free rfl rfl rfl sm rfl <| .free rfl rfl rfl (zi (hv := by simp (disch := first | assumption | omega | (simp only [nx] <;> omega) | fail) only [aIndexAddr, ty39, ty9, hpl, hc1, sb, a3, b3, rcl, Value.cells, places, tb4] <;> rfl)) rfl <| .read rfl rfl rfl (zl (hv := ld _ (by first | exact kk _ hr1 | (simp (disch := first | assumption | omega | (simp only [nx] <;> omega) | fail) only [hpl]; exact kk _ hr1)) _ _ ty9 rfl)) (by first | rfl | (simp [veq, veq1, veqs]; done) | (simp [veq, veq1, veqs, splice]; done)) trivial rfl <| .call rfl rfl rfl (fcallO (by simp only [aopnds, lk] <;> rfl) en16 (wg)) rfl ⟨.inl rfl, .inl rfl, trivial⟩ rfl <| .free rfl rfl rfl sm rfl <| .free rfl rfl rfl (ze (hv := by simp (disch := first | assumption | omega | (simp only [nx] <;> omega) | fail) only [aExtract, hpl, hc1, sb, a3, b3, rcl, Value.cells, places, tb4] <;> rfl)) rfl <| .free rfl rfl rfl (so_bw (ze (hv := by simp (disch := first | assumption | omega | (simp only [nx] <;> omega) | fail) only [aExtract, hpl, hc1, sb, a3, b3, rcl, Value.cells, places, tb4] <;> rfl)) (b' := true) (by first | rfl | assumption | ((simp only [bl, hc1, sb, a3, b3, rcl, Value.cells, places, tb4]) <;> first | done | assumption | omega) | (simp; done) | (simp; omega))) rfl <| .late rfl rfl rfl (so_alloc (by simp only [aAlloc, ty33] <;> rfl)) rfl rfl ⟨.inr (zl (hv := ld _ (by first | exact kk _ hr1 | (simp (disch := first | assumption | omega | (simp only [nx] <;> omega) | fail) only [hpl]; exact kk _ hr1)) _ _ ty9 rfl)), .inr (zl (hv := by simp (disch := first | assumption | omega | (simp only [nx] <;> omega) | fail) only [aLoad, ty28, rowOf, hpl, hc1, sb, a3, b3, rcl, Value.cells] <;> rfl)), trivial⟩ rfl <| .change rfl rfl rfl (zs (hv := by simp (disch := first | assumption | omega | (simp only [nx] <;> omega) | fail) only [aStore, ty33, writeRow, hpl, hc1, sb, a3, b3, rcl, Value.cells] <;> rfl)) rfl ⟨.inl rfl, .inl rfl, trivial⟩ rfl <| .free rfl rfl rfl za rfl <| .nil) <| SQ.normal ?_
    refine W.seq <| W.regD tyOK mixed (by kernel_rfl) <| SqW.aopT rfl sm (fun _ => rfl) rfl <| SqW.aopF rfl (so_not (by simp only [lk] <;> rfl)) (fun _ => rfl) rfl <| SqW.aopF rfl sm (fun _ => rfl) rfl <| SqW.aop ag (zl (hv := by simp (disch := first | assumption | omega | (simp only [nx] <;> omega) | fail) only [aLoad, ty28, rowOf, hpl, hc1, sb, a3, b3, rcl, Value.cells] <;> rfl)) rfl <| SqW.aop ag sm rfl <| SqW.aop ag sm rfl <| SqW.aop ag (zi (hv := by simp (disch := first | assumption | omega | (simp only [nx] <;> omega) | fail) only [aIndexAddr, ty39, ty9, hpl, hc1, sb, a3, b3, rcl, Value.cells, places, tb4] <;> rfl)) rfl <| SqW.aop ag (zl (hv := ld _ (by first | exact kk _ hr1 | (simp (disch := first | assumption | omega | (simp only [nx] <;> omega) | fail) only [hpl]; exact kk _ hr1)) _ _ ty9 rfl)) rfl <| SqW.aop ag (zl (hv := by simp (disch := first | assumption | omega | (simp only [nx] <;> omega) | fail) only [aLoad, ty33, rowOf, hpl, hc1, sb, a3, b3, rcl, Value.cells] <;> rfl)) rfl <| SqW.callD ag (by simp only [aopnds, lk] <;> rfl) en13 (wi) rfl <| SqW.aopF ag (so_not (by simp only [lk] <;> rfl)) (fun _ => rfl) rfl <| SqW.aopF rfl (so_pick (by simp only [lk] <;> rfl) (by simp only [lk, cond_true, cond_false] <;> rfl)) (fun _ => rfl) rfl <| SqW.nil <| SQ.normal ?_
    refine W.no (by simp only [lk] <;> rfl) <| CWp.skip <| BQ.normal <| SQ.normal ?_
    refine W.reg <| OSuf.aop tyOK rfl sm rfl <| OSuf.aop tyOK rfl (zb (hv := bi_w bi_add (by first | (simp only [w6] <;> rfl) | rfl))) rfl <| OSuf.aop tyOK rfl za rfl <| OSuf.nil <| ?_
    -- leaf: round
    refine LQ.normal (m := m - 1) (L := [(9, P0 h.next), (10, P0 (h.next + 1)), (14, .slice (some ⟨rr, off, none⟩) ks.length kc), (16, I64 ((i + 1 : Nat) : Int))]) (by omega) ?_ ⟨i + 1, by omega, by simp only [nx]; omega, fun y hy => by simp (disch := first | assumption | omega | (simp only [nx] <;> omega) | fail) only [hpl]; exact kk y hy, rfl⟩
    simp only [HasA, Tr.get_put, Nat.reduceEqDiff, reduceIte, w6, and_self]
  · refine W.seq <| W.seq <| W.reg <| OSuf.aop tyOK rfl sm rfl <| OSuf.aop tyOK rfl sm rfl <| OSuf.aop tyOK rfl (so_len (by simp only [aopnds, lk] <;> rfl) (by simp (disch := first | assumption | omega | (simp only [nx] <;> omega) | fail) only [aLenOf, ty39, hpl] <;> rfl)) rfl <| OSuf.aopF tyOK rfl (zb (hv := bi_lss)) (fun _ => rfl) (by first | rfl | assumption | ((simp only [bl]) <;> first | done | assumption | omega) | (simp; done) | (simp; omega)) <| OSuf.nil <| SQ.normal ?_
    refine W.no (by simp only [lk] <;> rfl) <| CWp.exit <| SQ.exit <| LQ.exit <| BQ.exit <| SQ.normal ?_
    refine W.seq <| W.reg <| OSuf.aopT tyOK rfl za (fun _ => rfl) rfl <| OSuf.nil <| SQ.normal ?_
    refine CWp.ret <| FQ.ret (by simp only [aRet, Try.f4, aResults, aResult, lk, Nat.reduceEqDiff, reduceIte] <;> rfl) ?_
    -- leaf: end
    rfl
end Go.Proofs.Ytebheelmgcggmaa
