/-
  Merged: PgE, PgF, PgG, PgH.
-/
import Derived.Test.YtebheelmgcggmaaGreatMb
set_option linter.unusedSimpArgs false
set_option linter.unusedVariables false
set_option maxRecDepth 10000
set_option maxHeartbeats 8000000
namespace Go.Proofs.YtebheelmgcggmaaGreat
open Go.Ab Go.Sort
structure Rw (h g : AHeap) (os : List AObj) : Prop where
  next : h.next + os.length ≤ g.next
  at_ : ∀ i o, os[i]? = some o → g.get (h.next + i) = some o
  old : ∀ z, z < h.next → g.get z = h.get z
theorem Rw.nil (h : AHeap) : Rw h h [] := ⟨Nat.le_refl _, fun i o ho => by simp at ho, fun _ _ => rfl⟩
theorem Rw.push {h g : AHeap} {os : List AObj} (r : Rw h g os) (o : AObj) (e : g.next = h.next + os.length) : Rw h (g.new o) (os ++ [o]) := by
  refine ⟨by simp; omega, fun i x hx => ?_, fun z hz => by rw [Gn (by omega)]; exact r.old z hz⟩
  rw [List.getElem?_append] at hx
  split at hx
  · rw [Gn (by omega)]; exact r.at_ i x hx
  · have hi : i - os.length = 0 := by
      have := (List.getElem?_eq_some_iff.1 hx).1
      simp at this; omega
    rw [hi] at hx; simp at hx; subst hx
    rw [AHeap.get_new_eq (by omega)]
theorem Rw.new {h g : AHeap} {os : List AObj} (r : Rw h g os) (o : AObj) : Rw h (g.new o) os :=
  ⟨by have := r.next; simp; omega, fun i x hx => by
    have := (List.getElem?_eq_some_iff.1 hx).1
    have := r.next
    rw [Gn (by omega)]; exact r.at_ i x hx, fun z hz => by
    have := r.next
    rw [Gn (by omega)]; exact r.old z hz⟩
theorem Rw.set {h g : AHeap} {os : List AObj} (r : Rw h g os) (i : Nat) (o : AObj) : Rw h (g.set (h.next + i) o) (os.set i o) := by
  refine ⟨by have := r.next; simp; omega, fun j x hx => ?_, fun z hz => by rw [Gs (by omega)]; exact r.old z hz⟩
  by_cases e : j = i
  · subst e
    rw [List.getElem?_set_self (by have := (List.getElem?_eq_some_iff.1 hx).1; simpa using this)] at hx
    cases hx; rw [AHeap.get_set_same]
  · rw [List.getElem?_set_ne (by omega)] at hx
    rw [Gs (by omega)]; exact r.at_ j x hx
theorem Rw.far {h g : AHeap} {os : List AObj} (r : Rw h g os) {z : Nat} (hz : h.next + os.length ≤ z) (o : AObj) : Rw h (g.set z o) os := by
  refine ⟨r.next, fun j x hx => ?_, fun y hy => by rw [Gs (by omega)]; exact r.old y hy⟩
  have := (List.getElem?_eq_some_iff.1 hx).1
  rw [Gs (by omega)]; exact r.at_ j x hx
theorem Rw.keep {h g g' : AHeap} {os : List AObj} (r : Rw h g os) (hn : g.next ≤ g'.next) (hk : ∀ z, z < g.next → g'.get z = g.get z) : Rw h g' os := by
  have := r.next
  refine ⟨by omega, fun j x hx => ?_, fun y hy => by rw [hk y (by omega)]; exact r.old y hy⟩
  have := (List.getElem?_eq_some_iff.1 hx).1
  rw [hk _ (by omega)]; exact r.at_ j x hx
theorem Rw.eq {h g : AHeap} {os os' : List AObj} (r : Rw h g os) (e : os = os') : Rw h g os' := e ▸ r
theorem may'_c (h : AHeap) (p : Lf) (bv dv : Value) (hb : RS h p.base bv) (hd : RS h p.deltas dv) (hlb : p.base.length ≤ 1000000) (hld : p.deltas.length ≤ 1000000) :
    FWp Tryz.prog 37 [LV p bv dv] h fun u h' => u = .bool (chk p) ∧ h' = h := by
  refine FWp.gcs (.flat rfl) ?_
  refine W.enter tyOK Tryz.func37 rfl rfl ?_
  simp only [entry]
  refine Wr <| Oa rfl Zx rfl <| Of rfl za rfl rfl <| On ?_
  refine Wr <| Oa rfl (zl (hv := by simp (disch := first | omega | simp only [nx]; omega) only [aLoad, ty25, rowOf, hpl, Value.cells, ty25] <;> rfl)) rfl <| OSuf.callD rfl (by simp only [aopnds, lk] <;> rfl) en13 (check_c _ p bv dv (hb.mono (by simp) (fun z hz => by simp (disch := first | omega | simp only [nx]; omega) only [hpl])) (hd.mono (by simp) (fun z hz => by simp (disch := first | omega | simp only [nx]; omega) only [hpl])) hlb hld) rfl <| Oa rfl (zb (hv := bi_eql)) rfl <| Oa rfl za rfl <| On ?_
  refine CWp.ret <| FQ.ret (by simp only [aRet, Tryz.f37, aResults, aResult, lk, Nat.reduceEqDiff, reduceIte] <;> rfl) ?_
  refine ⟨?_, fun r o hr ho => by simp (disch := first | omega | simp only [nx]; omega) only [hpl]; exact ho⟩
  cases chk p <;> rfl
end Go.Proofs.YtebheelmgcggmaaGreat
namespace Go.Proofs.YtebheelmgcggmaaGreat
open Go.Ab Go.Sort
theorem ixf_c (h : AHeap) (l : List Rec) (v fv : Value) (P : Rec → Bool) (J : List Rec → AHeap → Prop) (j0 : J [] h) (jr : ∀ pre g, J pre g → RS g l v) (hl : l.length ≤ 1000000)
    (ask : ∀ pre x post, pre ++ x :: post = l → ∀ g, J pre g → VWp Tryz.prog fv [x.V] g fun u g' => u = .bool (P x) ∧ J (pre ++ [x]) g') :
    FWp Tryz.prog 90 [v, fv] h fun u g => (u = I64 (-1) ∧ J l g ∧ ∀ x ∈ l, P x = false) ∨ ∃ pre x post, pre ++ x :: post = l ∧ (∀ y ∈ pre, P y = false) ∧ P x = true ∧ u = I64 pre.length ∧ J (pre ++ [x]) g := by
  obtain ⟨b, c, rfl⟩ := (jr _ _ j0).form
  refine W.enter tyOK Tryz.func90 rfl rfl ?_
  simp only [entry]
  refine Wr <| Oa rfl za rfl <| On ?_
  refine W.seq <| Wr <| Oa rfl sm rfl <| Oa rfl (Zn (hv := by simp (disch := first | omega | simp only [nx]; omega) only [aLenOf, ty23, hpl] <;> rfl)) rfl <| Oa rfl sm rfl <| On ?_
  refine W.block (W.loop (fun m L g => ∃ k : Nat, m + k = l.length ∧ J (l.take k) g ∧ (∀ x ∈ l.take k, P x = false) ∧ L = [(0, .slice b l.length c), (1, fv), (7, I64 l.length), (8, I64 k)]) (n := l.length) ⟨0, rfl, by simpa using j0, by simp, rfl⟩ ?_ ?_)
  · simp [HasA, Tr.get_put]
  rintro m L g ⟨k, hm, hJ, hn, rfl⟩
  simp only [mkA]
  have w2 : IntKind.i64.wrap ((k : Int) + 1) = ((k + 1 : Nat) : Int) := by rw [wrap_i64 (by omega) (by omega)]; omega
  by_cases hk : (k : Int) < (l.length : Int)
  · obtain ⟨x, hx⟩ : ∃ x, l[k]? = some x := ⟨l[k]'(by omega), by simp⟩
    obtain ⟨_, r, off, rfl, hr1, hr2⟩ := RS.at_ (jr _ _ hJ) hx
    have c1 : (0 ≤ (k : Int) ∧ (k : Int) < (l.length : Int)) := by omega
    have htk : l.take (k + 1) = l.take k ++ [x] := by rw [List.take_add_one, hx]; rfl
    have e1 : l.take k ++ x :: l.drop (k + 1) = l := by
      conv => rhs; rw [← List.take_append_drop k l, List.drop_eq_getElem_cons (by omega)]
      rw [(List.getElem?_eq_some_iff.1 hx).2]
    have hv := ask _ _ _ e1 g hJ
    cases hP : P x with
    | true =>
      rw [hP] at hv
      refine Wr <| Ot rfl (zb (hv := bi_lss)) rfl (by first | rfl | assumption | ((simp only [bl, c1, sb]) <;> first | done | assumption | omega) | (simp; done) | (simp; omega)) <| On ?_
      refine W.seq <| Wy <| CWp.skip <| SQ.normal ?_
      refine W.seq <| W.block <| Wr <| Oa rfl sm rfl <| Oa rfl za rfl <| On ?_
      refine Wr <| Oa rfl sm rfl <| Oa rfl sm rfl <| Oa rfl sm rfl <| Oa rfl (zi (hv := by simp (disch := first | omega | simp only [nx]; omega) only [aIndexAddr, ty23, ty27, hpl, c1, sb] <;> rfl)) rfl <| Oa rfl (zl (hv := (hr2 _ rfl).1 _ _ ty27 rfl rfl)) rfl <| OSuf.vcall rfl (by simp only [lk] <;> rfl) (by simp only [aopnds, lk] <;> rfl) (hv) ?_
      rintro _ g2 ⟨rfl, hJ2⟩
      refine ⟨_, rfl, ?_⟩
      refine On ?_
      refine Wy <| Wr <| Oa rfl sm rfl <| Oa rfl za rfl <| On ?_
      refine CWp.ret <| BQ.ret <| SQ.ret <| LQ.ret <| BQ.ret <| SQ.ret <| FQ.ret (by simp only [aRet, Tryz.f90, aResults, aResult, lk, Nat.reduceEqDiff, reduceIte] <;> rfl) ?_
      exact .inr ⟨_, _, _, e1, hn, hP, by rw [List.length_take, Nat.min_eq_left (by omega)], hJ2⟩
    | false =>
      rw [hP] at hv
      refine Wr <| Ot rfl (zb (hv := bi_lss)) rfl (by first | rfl | assumption | ((simp only [bl, c1, sb]) <;> first | done | assumption | omega) | (simp; done) | (simp; omega)) <| On ?_
      refine W.seq <| Wy <| CWp.skip <| SQ.normal ?_
      refine W.seq <| W.block <| Wr <| Oa rfl sm rfl <| Oa rfl za rfl <| On ?_
      refine Wr <| Oa rfl sm rfl <| Oa rfl sm rfl <| Oa rfl sm rfl <| Oa rfl (zi (hv := by simp (disch := first | omega | simp only [nx]; omega) only [aIndexAddr, ty23, ty27, hpl, c1, sb] <;> rfl)) rfl <| Oa rfl (zl (hv := (hr2 _ rfl).1 _ _ ty27 rfl rfl)) rfl <| OSuf.vcall rfl (by simp only [lk] <;> rfl) (by simp only [aopnds, lk] <;> rfl) (hv) ?_
      rintro _ g2 ⟨rfl, hJ2⟩
      refine ⟨_, rfl, ?_⟩
      refine On ?_
      refine Wn <| CWp.skip <| BQ.normal <| SQ.normal ?_
      refine W.reg <| Oa rfl (zb (hv := bi_w bi_add (by first | (simp only [w2, w2] <;> rfl) | rfl))) rfl <| Oa rfl sm rfl <| OSuf.nil <| ?_
      refine LQ.normal (m := m - 1) (L := [(0, .slice (some ⟨r, off, none⟩) l.length c), (1, fv), (7, I64 l.length), (8, I64 ((k + 1 : Nat) : Int))]) (by omega) ?_ ⟨k + 1, by omega, by rw [htk]; exact hJ2, fun y hy => ?_, rfl⟩
      · simp only [HasA, Tr.get_put, Nat.reduceEqDiff, reduceIte, w2, and_self]
      · rw [htk] at hy
        rcases List.mem_append.1 hy with hy | hy
        · exact hn y hy
        · rw [List.mem_singleton.1 hy]; exact hP
  · refine Wr <| Ofb rfl (zb (hv := bi_lss)) rfl <| On ?_
    refine W.seq <| Wn <| CWp.exit <| SQ.exit <| LQ.exit <| BQ.exit <| SQ.normal ?_
    refine Wr <| Oa rfl za rfl <| On ?_
    refine CWp.ret <| FQ.ret (by simp only [aRet, Tryz.f90, aResults, aResult, lk, Nat.reduceEqDiff, reduceIte] <;> rfl) ?_
    rw [List.take_of_length_le (by omega)] at hJ hn
    exact .inl ⟨rfl, hJ, hn⟩
theorem cl_v {h : AHeap} {f q : Nat} {fn : Func} {K : Value → AHeap → Prop} {x : Value} (he : Entered Tryz.prog f fn) (hf : FWp Tryz.prog f [x, P0 q] h K) : VWp Tryz.prog (.func (.func f) #[] #[P0 q]) [x] h K := VWp.func he hf
inductive OS (h : AHeap) (lo : Nat) (l : List Rec) : Value → Prop
  | nil (e : l = []) : OS h lo l (.slice none 0 0)
  | emp {r : Nat} (e : l = []) (h1 : lo ≤ r) (h2 : r < h.next) (h3 : h.get r = some (.cells [] 4)) : OS h lo l (.slice (some ⟨r, 0, none⟩) 0 1)
  | some {r n : Nat} (e : l ≠ []) (hn : n = l.length) (h1 : lo ≤ r) (h2 : r < h.next) (h3 : h.get r = Option.some (.cells (fl l) 4)) : OS h lo l (.slice (Option.some ⟨r, 0, none⟩) n 0)
theorem OS.rs {h : AHeap} {lo : Nat} {l : List Rec} {v : Value} (s : OS h lo l v) : RS h l v := by
  cases s with
  | nil e => subst e; exact ⟨_, _, rfl, .inl ⟨rfl, rfl, rfl⟩⟩
  | emp e _ _ _ => subst e; exact ⟨_, _, rfl, .inr ⟨_, _, rfl, fun h => (h rfl).elim⟩⟩
  | @some r n e hn _ h2 h3 => subst hn; exact ⟨_, _, rfl, .inr ⟨_, _, rfl, fun _ => ⟨h2, _, by simp only [rowOf, h3], cellsOf_all (fl_length l)⟩⟩⟩
structure RSl (h : AHeap) (lo : Nat) (l : List Rec) (v : Value) : Prop where
  rs : RS h l v
  lo : ∀ a n c, v = .slice (some a) n c → lo ≤ a.block
theorem RSl.mono {h h' : AHeap} {lo lo' : Nat} {l : List Rec} {v : Value} (s : RSl h lo l v) (hl : lo' ≤ lo) (hn : h.next ≤ h'.next) (hk : ∀ z, lo ≤ z → z < h.next → h'.get z = h.get z) : RSl h' lo' l v := by
  obtain ⟨⟨b, c, rfl, hr⟩, h2⟩ := s
  refine ⟨⟨b, c, rfl, hr.imp id ?_⟩, fun a n c e => Nat.le_trans hl (h2 a n c e)⟩
  rintro ⟨r, off, rfl, h3⟩
  exact ⟨r, off, rfl, fun h0 => let ⟨h4, vs, h5, h6⟩ := h3 h0; ⟨by omega, vs, by rw [rowOf_eq (hk r (h2 _ _ _ rfl) h4)]; exact h5, h6⟩⟩
theorem OS.rsl {h : AHeap} {lo : Nat} {l : List Rec} {v : Value} (s : OS h lo l v) : RSl h lo l v := ⟨s.rs, fun a n c e => by
  cases s with
  | nil _ => cases e
  | emp _ h1 _ _ => cases e; exact h1
  | some _ _ h1 _ _ => cases e; exact h1⟩
theorem OS.mono {h h' : AHeap} {lo : Nat} {l : List Rec} {v : Value} (s : OS h lo l v) (hn : h.next ≤ h'.next) (hk : ∀ z, lo ≤ z → z < h.next → h'.get z = h.get z) : OS h' lo l v := by
  cases s with
  | nil e => exact .nil e
  | emp e h1 h2 h3 => exact .emp e h1 (by omega) (by rw [hk _ h1 h2]; exact h3)
  | some e hn h1 h2 h3 => exact .some e hn h1 (by omega) (by rw [hk _ h1 h2]; exact h3)
theorem ap_k0 {h : AHeap} {ats : Array TypeId} {A : AppT} {r k : Nat} {x : Value} {new : List Value} (ha : appT T ats = some A) (hl : aLen x = some k) (hx : aCells h A.size k x = some new) (hb : (2 * (0 + k) + 256) * A.bytes ≤ 281474976710656) (hk : ¬ k = 0) :
    aAppend T ats (.slice (some ⟨r, 0, none⟩) 0 1) x h = some (.slice (some ⟨h.next, 0, none⟩) k 0, h.new (.cells new A.size)) := by
  have e1 : Nat.ble k 0 = false := by
    cases e : Nat.ble k 0 with
    | false => rfl
    | true => have := Nat.le_of_ble_eq_true e; omega
  have e2 : Nat.beq (0 * A.size) 0 = true := by rw [Nat.zero_mul]; rfl
  have hs : sCells h A.size (.slice (some ⟨r, 0, none⟩) 0 1) = some [] := by simp only [sCells, aCells, e2, cond_true]
  rw [Nat.zero_add] at hb
  simp only [aAppend, ha, hl, hx, hs, vLen, Nat.zero_add, Nat.ble_eq_true_of_le hb, cond_true, e1, cond_false, List.nil_append]
theorem ap_z {h : AHeap} {ats : Array TypeId} {A : AppT} {r : Nat} {x : Value} (ha : appT T ats = some A) (hl : aLen x = some 0) (hx : aCells h A.size 0 x = some []) (hb : (2 * (0 + 0) + 256) * A.bytes ≤ 281474976710656) :
    aAppend T ats (.slice (some ⟨r, 0, none⟩) 0 1) x h = some (.slice (some ⟨r, 0, none⟩) 0 1, h) := by
  simp only [aAppend, ha, hl, hx, vLen, Nat.ble_eq_true_of_le hb, cond_true]; rfl
theorem sl_nil (t : TypeId) (x y : Operand) {ti : TI} {e : TypeId} (ht : T.get t = some ti) (hu : ti.und = .slice e) : aBin Tryz.prog T .eql t x y (.slice none 0 0) (.slice none 0 0) = some (.bool true) := by
  refine bi_eq rfl rfl rfl ?_
  obtain ⟨_, _, _, _, _, u⟩ := tyOK.ok t ti ht
  rw [hu] at u
  refine equal_run fun d => ?_
  simp only [Op.equalIn, underlying, bind_assoc, pureRun_program, u, pure_bind, pureRun_pure, Option.isNone]
theorem sl_some (t : TypeId) (x y : Operand) {ti : TI} {e : TypeId} {a : Addr} {n c : Nat} (ht : T.get t = some ti) (hu : ti.und = .slice e) : aBin Tryz.prog T .eql t x y (.slice (some a) n c) (.slice none 0 0) = some (.bool false) := by
  simp [aBin, flat, flat1, isCmp, aEq, ht, hu, noGuard]
def nilV : Value → Bool
  | .slice none _ _ => true
  | _ => false
theorem clone_c (h : AHeap) (l : List Rec) (v : Value) (hs : RS h l v) (hl : l.length ≤ 1000000) : ∃ v' H, FWp Tryz.prog 75 [v] h (fun u g => u = v' ∧ g = H) ∧ OS H h.next l v' ∧ nilV v' = nilV v ∧ h.next ≤ H.next ∧ ∀ z, z < h.next → H.get z = h.get z := by
  obtain ⟨b, c, rfl, ⟨rfl, hn, rfl⟩ | ⟨r, off, rfl, hr⟩⟩ := hs.ex
  · refine ⟨_, h, ?_, .nil (List.length_eq_zero_iff.1 hn), rfl, Nat.le_refl _, fun _ _ => rfl⟩
    rw [hn]
    refine W.enter tyOK Tryz.func75 rfl rfl ?_
    simp only [entry]
    refine Wr <| Oa rfl za rfl <| On ?_
    refine W.seq <| Wr <| Oa rfl sm rfl <| Otb rfl (zb (hv := sl_nil _ _ _ ty23 rfl)) rfl <| On ?_
    refine Wy <| Wr <| Oa rfl za rfl <| On ?_
    refine CWp.ret <| SQ.ret <| FQ.ret (by simp only [aRet, Tryz.f75, aResults, aResult, lk, Nat.reduceEqDiff, reduceIte] <;> rfl) ?_
    exact ⟨rfl, rfl⟩
  · by_cases h0 : l.length = 0
    · refine ⟨.slice (some ⟨h.next, 0, none⟩) 0 1, h.new (.cells [] 4), ?_, .emp (List.length_eq_zero_iff.1 h0) (Nat.le_refl _) (by simp) (Gq), rfl, by simp, fun z hz => Gn (by omega)⟩
      rw [h0]
      refine W.enter tyOK Tryz.func75 rfl rfl ?_
      simp only [entry]
      refine Wr <| Oa rfl za rfl <| On ?_
      refine W.seq <| Wr <| Oa rfl sm rfl <| Of rfl (zb (hv := sl_some _ _ _ ty23 rfl)) rfl (by first | rfl | assumption | ((simp only [bl, places, ty23, ty27]) <;> first | done | assumption | omega) | (simp; done) | (simp; omega)) <| On ?_
      refine Wn <| CWp.skip <| SQ.normal ?_
      refine Wr <| Oa rfl (so_buildSlice (by simp only [aparts, lk] <;> rfl) (by simp only [aBuildSlice, ty23, ty27, places, ty23, ty27] <;> rfl)) rfl <| Oa rfl sm rfl <| Oa rfl (so_append (by simp only [aopnds, lk] <;> rfl) (ap_z (by simp only [appT, ty23, ty27] <;> rfl) rfl rfl (by decide))) rfl <| Oa rfl za rfl <| On ?_
      refine CWp.ret <| FQ.ret (by simp only [aRet, Tryz.f75, aResults, aResult, lk, Nat.reduceEqDiff, reduceIte] <;> rfl) ?_
      exact ⟨rfl, rfl⟩
    · obtain ⟨hr1, vs, hr2, hr3⟩ := hr h0
      have e0 : Nat.beq (l.length * 4) 0 = false := by
        cases e : Nat.beq (l.length * 4) 0 with
        | false => rfl
        | true => have := Nat.eq_of_beq_eq_true e; omega
      have hx : aCells (h.new (.cells [] 4)) 4 l.length (.slice (some ⟨r, off, none⟩) l.length c) = some (fl l) := by
        have e2 : rowOf (h.new (.cells [] 4)) r = some vs := by rw [rowOf_eq (Gn (by omega))]; exact hr2
        simp only [aCells, e0, cond_false, Nat.ble_eq_true_of_le (Nat.le_refl l.length), cond_true, e2, hr3]
      refine ⟨.slice (some ⟨h.next + 1, 0, none⟩) l.length 0, (h.new (.cells [] 4)).new (.cells (fl l) 4), ?_, .some (fun e => h0 (by rw [e]; rfl)) rfl (by omega) (by simp) (by simp (disch := first | omega | simp only [nx]; omega) only [hpl]), rfl, by simp only [nx]; omega, fun z hz => by simp (disch := first | omega | simp only [nx]; omega) only [hpl]⟩
      refine W.enter tyOK Tryz.func75 rfl rfl ?_
      simp only [entry]
      refine Wr <| Oa rfl za rfl <| On ?_
      refine W.seq <| Wr <| Oa rfl sm rfl <| Of rfl (zb (hv := sl_some _ _ _ ty23 rfl)) rfl (by first | rfl | assumption | ((simp only [bl, places, ty23, ty27]) <;> first | done | assumption | omega) | (simp; done) | (simp; omega)) <| On ?_
      refine Wn <| CWp.skip <| SQ.normal ?_
      refine Wr <| Oa rfl (so_buildSlice (by simp only [aparts, lk] <;> rfl) (by simp only [aBuildSlice, ty23, ty27, places, ty23, ty27] <;> rfl)) rfl <| Oa rfl sm rfl <| Oa rfl (so_append (by simp only [aopnds, lk] <;> rfl) (ap_k0 (by simp only [appT, ty23, ty27] <;> rfl) rfl hx (by show (2 * (0 + l.length) + 256) * 48 ≤ _; omega) h0)) rfl <| Oa rfl za rfl <| On ?_
      refine CWp.ret <| FQ.ret (by simp only [aRet, Tryz.f75, aResults, aResult, lk, Nat.reduceEqDiff, reduceIte] <;> rfl) ?_
      exact ⟨rfl, rfl⟩
theorem own_c (h : AHeap) (p : Lf) (bv dv : Value) (hb : RS h p.base bv) (hd : RS h p.deltas dv) (hlb : p.base.length ≤ 1000000) (hld : p.deltas.length ≤ 1000000) :
    ∃ bv' dv' H m, FWp Tryz.prog 36 [LV p bv dv] h (fun u g => u = LV p bv' dv' ∧ g = H) ∧ OS H h.next p.base bv' ∧ OS H m p.deltas dv' ∧ (∀ r c n, bv' = .slice (some ⟨r, 0, none⟩) n c → r < m) ∧ (nilV bv' = nilV bv ∧ nilV dv' = nilV dv) ∧ h.next ≤ m ∧ m ≤ H.next ∧ ∀ z, z < h.next → H.get z = h.get z := by
  obtain ⟨b1, c1, rfl⟩ := hb.form
  obtain ⟨b2, c2, rfl⟩ := hd.form
  obtain ⟨v1, H1, w1, o1, f1, n1, k1⟩ := clone_c ((h.new (.cells (lcs p (.slice b1 p.base.length c1) (.slice b2 p.deltas.length c2)) 1)).new (.cells [.string ⟨#[]⟩, .string ⟨#[]⟩, U64 0, .slice none 0 0, .slice none 0 0] 1)) p.base (.slice b1 p.base.length c1) (hb.mono (by simp; omega) (fun z hz => by simp (disch := first | omega | simp only [nx]; omega) only [hpl])) hlb
  obtain ⟨v2, H2, w2, o2, f2, n2, k2⟩ := clone_c H1 p.deltas (.slice b2 p.deltas.length c2) (hd.mono (by simp at n1; omega) (fun z hz => by rw [k1 z (by simp; omega)]; simp (disch := first | omega | simp only [nx]; omega) only [hpl])) hld
  simp only [nx] at n1
  obtain ⟨x1, y1, z1, rfl⟩ : ∃ b n c, v1 = .slice b n c := by cases o1 <;> exact ⟨_, _, _, rfl⟩
  obtain ⟨x2, y2, z2, rfl⟩ : ∃ b n c, v2 = .slice b n c := by cases o2 <;> exact ⟨_, _, _, rfl⟩
  have g0 : H1.get h.next = some (.cells (lcs p (.slice b1 p.base.length c1) (.slice b2 p.deltas.length c2)) 1) := by rw [k1 _ (by simp only [nx]; omega)]; simp (disch := first | omega | simp only [nx]; omega) only [hpl]
  have g1 : H2.get h.next = some (.cells (lcs p (.slice b1 p.base.length c1) (.slice b2 p.deltas.length c2)) 1) := by rw [k2 _ (by omega)]; exact g0
  have g2 : H2.get (h.next + 1) = some (.cells [.string ⟨#[]⟩, .string ⟨#[]⟩, U64 0, .slice none 0 0, .slice none 0 0] 1) := by rw [k2 _ (by omega), k1 _ (by simp only [nx]; omega)]; simp (disch := first | omega | simp only [nx]; omega) only [hpl]
  have key : ∀ H, FWp Tryz.prog 36 [LV p (.slice b1 p.base.length c1) (.slice b2 p.deltas.length c2)] h (fun u g => u = LV p (.slice x1 y1 z1) (.slice x2 y2 z2) ∧ g = H) → (H.next = H2.next ∧ ∀ z, ¬ z = h.next → ¬ z = h.next + 1 → H.get z = H2.get z) → ∃ bv' dv' H m, FWp Tryz.prog 36 [LV p (.slice b1 p.base.length c1) (.slice b2 p.deltas.length c2)] h (fun u g => u = LV p bv' dv' ∧ g = H) ∧ OS H h.next p.base bv' ∧ OS H m p.deltas dv' ∧ (∀ r c n, bv' = .slice (some ⟨r, 0, none⟩) n c → r < m) ∧ (nilV bv' = nilV (.slice b1 p.base.length c1) ∧ nilV dv' = nilV (.slice b2 p.deltas.length c2)) ∧ h.next ≤ m ∧ m ≤ H.next ∧ ∀ z, z < h.next → H.get z = h.get z := by
    rintro H hf ⟨hn, hk⟩
    refine ⟨_, _, H, H1.next, hf, ?_, ?_, ?_, ⟨f1, f2⟩, by omega, by omega, fun z hz => ?_⟩
    · have o1' : OS H2 (h.next + 2) p.base (.slice x1 y1 z1) := o1.mono n2 fun z _ hz => k2 z hz
      have o1'' : OS H (h.next + 2) p.base (.slice x1 y1 z1) := o1'.mono (by omega) fun z hz _ => hk z (by omega) (by omega)
      cases o1'' with
      | nil e => exact .nil e
      | emp e h1 h2 h3 => exact .emp e (by omega) h2 h3
      | some e hn h1 h2 h3 => exact .some e hn (by omega) h2 h3
    · exact o2.mono (by omega) fun z hz _ => hk z (by omega) (by omega)
    · intro r c n e
      cases o1 with
      | nil _ => cases e
      | emp _ _ h2 _ => cases e; exact h2
      | some _ _ _ h2 _ => cases e; exact h2
    · rw [hk z (by omega) (by omega), k2 z (by omega), k1 z (by simp; omega)]; simp (disch := first | omega | simp only [nx]; omega) only [hpl]
  apply key
  · refine W.enter tyOK Tryz.func36 rfl rfl ?_
    simp only [entry]
    refine Wr <| Oa rfl Zx rfl <| Oa rfl (so_alloc (by simp only [aAlloc, ty25] <;> rfl)) rfl <| On ?_
    refine W.seq <| CWp.sqd tyOK mixed (ms := [0, 1, 3, 0, 8, 31, 31, 127, 255, 511]) (by kernel_rfl) (
        .free rfl rfl (zf (hv := fa_ok (k := 3) ty25 rfl rfl ty23 rfl rfl)) rfl <| .read rfl rfl (zl (hv := by simp (disch := first | omega | simp only [nx]; omega) only [aLoad, ty23, rowOf, hpl, g0, g1, g2, Value.cells, ty23, ty25] <;> rfl)) (by first | rfl | (simp [veq, veq1, veqs]; done) | (simp [veq, veq1, veqs, splice]; done)) trivial rfl <| .call rfl rfl (fcallO (by simp only [aopnds, lk] <;> rfl) en75 (w1)) rfl ⟨.inl rfl, trivial⟩ rfl <| .free rfl rfl (zf (hv := fa_ok (k := 4) ty25 rfl rfl ty23 rfl rfl)) rfl <| .read rfl rfl (zl (hv := by simp (disch := first | omega | simp only [nx]; omega) only [aLoad, ty23, rowOf, hpl, g0, g1, g2, Value.cells, ty23, ty25] <;> rfl)) (by first | rfl | (simp [veq, veq1, veqs]; done) | (simp [veq, veq1, veqs, splice]; done)) ⟨.inr (zl (hv := by simp (disch := first | omega | simp only [nx]; omega) only [aLoad, ty23, rowOf, hpl, g0, g1, g2, Value.cells, ty23, ty25] <;> rfl)), trivial⟩ rfl <| .call rfl rfl (fcallO (by simp only [aopnds, lk] <;> rfl) en75 (w2)) rfl ⟨.inl rfl, .inl rfl, trivial⟩ rfl <| .free rfl rfl (zf (hv := fa_ok (k := 3) ty25 rfl rfl ty23 rfl rfl)) rfl <| .change rfl rfl (zs (hv := by simp (disch := first | omega | simp only [nx]; omega) only [aStore, ty23, writeRow, hpl, g0, g1, g2, Value.cells, ty23, ty25] <;> rfl)) rfl ⟨.inl rfl, .inl rfl, trivial⟩ rfl <| .free rfl rfl (zf (hv := fa_ok (k := 4) ty25 rfl rfl ty23 rfl rfl)) rfl <| .change rfl rfl (zs (hv := by simp (disch := first | omega | simp only [nx]; omega) only [aStore, ty23, writeRow, hpl, g0, g1, g2, Value.cells, ty23, ty25] <;> rfl)) rfl ⟨.inl rfl, .inl rfl, trivial⟩ rfl <| .nil) <| SQ.normal ?_
    refine Wr <| Oa rfl (zl (hv := by simp (disch := first | omega | simp only [nx]; omega) only [aLoad, ty25, rowOf, hpl, g0, g1, g2, Value.cells, ty23, ty25] <;> rfl)) rfl <| Oa rfl (zs (hv := by simp (disch := first | omega | simp only [nx]; omega) only [aStore, ty25, writeRow, hpl, g0, g1, g2, Value.cells, ty23, ty25] <;> rfl)) rfl <| On ?_
    refine CWp.ret <| FQ.ret (by simp (disch := first | omega | simp only [nx]; omega) only [aRet, Tryz.f36, aResults, aResult, lk, Nat.reduceEqDiff, reduceIte, aLoad, rowOf, hpl, g0, g1, g2, Value.cells, places, ty23, ty25] <;> rfl) ?_
    exact ⟨rfl, rfl⟩
  · exact ⟨rfl, fun z h1 h2 => by simp (disch := first | omega | simp only [nx]; omega) only [hpl]⟩
end Go.Proofs.YtebheelmgcggmaaGreat
namespace Go.Proofs.YtebheelmgcggmaaGreat
open Go.Ab Go.Sort
theorem OS.form {h : AHeap} {lo : Nat} {l : List Rec} {v : Value} (s : OS h lo l v) : ∃ b c, v = .slice b l.length c := by
  cases s with
  | nil e => subst e; exact ⟨_, _, rfl⟩
  | emp e _ _ _ => subst e; exact ⟨_, _, rfl⟩
  | some e hn _ _ _ => subst hn; exact ⟨_, _, rfl⟩
theorem OS.low {h : AHeap} {lo lo' : Nat} {l : List Rec} {v : Value} (s : OS h lo l v) (hl : lo' ≤ lo) : OS h lo' l v := by
  cases s with
  | nil e => exact .nil e
  | emp e h1 h2 h3 => exact .emp e (by omega) h2 h3
  | some e hn h1 h2 h3 => exact .some e hn (by omega) h2 h3
theorem OS.row {h : AHeap} {lo : Nat} {l : List Rec} {z n c : Nat} (s : OS h lo l (.slice (Option.some ⟨z, 0, none⟩) n c)) : lo ≤ z ∧ z < h.next := by
  cases s with
  | emp _ h1 h2 _ => exact ⟨h1, h2⟩
  | some _ _ h1 h2 _ => exact ⟨h1, h2⟩
end Go.Proofs.YtebheelmgcggmaaGreat
namespace Go.Proofs.YtebheelmgcggmaaGreat
open Go.Ab Go.Sort
def zrec : List Value := [.string ⟨#[]⟩, U64 0, .bool false, .string ⟨#[]⟩]
theorem del_c (h : AHeap) (r : Nat) (l : List Rec) (fv : Value) (P : Rec → Bool) (J : List Rec → AHeap → Prop) (hne : l ≠ []) (hl : l.length ≤ 1000000) (hr : r < h.next) (hg : h.get r = some (.cells (fl l) 4)) (j0 : J [] h)
    (jset : ∀ pre g o, J pre g → J pre (g.set r o)) (jnew : ∀ pre g o, J pre g → J pre (g.new o)) (jn : ∀ pre g, J pre g → h.next ≤ g.next)
    (ask : ∀ pre x post, pre ++ x :: post = l → ∀ g, J pre g → VWp Tryz.prog fv [x.V] g fun u g' => u = .bool (P x) ∧ J (pre ++ [x]) g' ∧ g'.get r = g.get r ∧ ∀ z, h.next ≤ z → z < g.next → g'.get z = g.get z) :
    FWp Tryz.prog 53 [.slice (some ⟨r, 0, none⟩) l.length 0, fv] h fun u g => u = .slice (some ⟨r, 0, none⟩) (l.filter fun x => !P x).length 0 ∧ J l g ∧ ∃ rest, g.get r = some (.cells (fl (l.filter fun x => !P x) ++ rest) 4) := by
  refine W.enter tyOK Tryz.func53 rfl rfl ?_
  simp only [entry]
  have hix := ixf_c h l (.slice (some ⟨r, 0, none⟩) l.length 0) fv P (fun pre g => J pre g ∧ g.get r = h.get r) ⟨j0, rfl⟩ (fun pre g hj => ⟨_, _, rfl, .inr ⟨_, _, rfl, fun _ => ⟨by have := jn _ _ hj.1; omega, _, by simp only [rowOf, hj.2, hg], cellsOf_all (fl_length l)⟩⟩⟩) hl (fun pre x post hp g hj => (ask pre x post hp g hj.1).mono fun u g' hu => ⟨hu.1, hu.2.1, by rw [hu.2.2.1, hj.2]⟩)
  have hix2 : FWp Tryz.prog 90 [.slice (some ⟨r, 0, none⟩) l.length 0, fv] h fun u g => ∃ i : Int, u = I64 i ∧ g.get r = h.get r ∧ ((i = -1 ∧ J l g ∧ ∀ x ∈ l, P x = false) ∨ ∃ pre x post, pre ++ x :: post = l ∧ (∀ y ∈ pre, P y = false) ∧ P x = true ∧ i = pre.length ∧ J (pre ++ [x]) g) := hix.mono fun u g hu => by
    rcases hu with ⟨rfl, hj, hn⟩ | ⟨pre, x, post, e, hn, hP, rfl, hj⟩
    · exact ⟨-1, rfl, hj.2, .inl ⟨rfl, hj.1, hn⟩⟩
    · exact ⟨_, rfl, hj.2, .inr ⟨pre, x, post, e, hn, hP, rfl, hj.1⟩⟩
  refine Wr <| Oa rfl za rfl <| On ?_
  refine Wr <| Oa rfl sm rfl <| Oa rfl sm rfl <| OSuf.call rfl (by simp only [aopnds, lk] <;> rfl) en90 (hix2) ?_
  rintro _ g ⟨i, rfl, hgr, hi⟩
  refine ⟨_, rfl, ?_⟩
  refine Oa rfl za rfl <| On ?_
  refine W.seq <| ?_
  skip
  rw [hg] at hgr
  rcases hi with ⟨rfl, hj, hn⟩ | ⟨pre, x, post, e, hn, hP, rfl, hj⟩
  · have ef : (l.filter fun x => !P x) = l := List.filter_eq_self.2 fun x hx => by rw [hn x hx]; rfl
    refine Wr <| Oa rfl sm rfl <| Otb rfl (zb (hv := bi_eql)) rfl <| On ?_
    refine Wy <| Wr <| Oa rfl sm rfl <| Oa rfl za rfl <| On ?_
    refine CWp.ret <| SQ.ret <| FQ.ret (by simp only [aRet, Tryz.f53, aResults, aResult, lk, Nat.reduceEqDiff, reduceIte] <;> rfl) ?_
    rw [ef]
    exact ⟨rfl, hj, [], by rw [List.append_nil]; exact hgr⟩
  · have hlp : l.length = pre.length + 1 + post.length := by rw [← e]; simp; omega
    have w1 : IntKind.i64.wrap ((pre.length : Int) + 1) = ((pre.length + 1 : Nat) : Int) := by rw [wrap_i64 (by omega) (by omega)]; omega
    have b1 : ((pre.length : Int) == -1) = false := by first | (simp; done) | (simp; omega)
    refine Wr <| Oa rfl sm rfl <| Of rfl (zb (hv := bi_eql)) rfl (b1) <| On ?_
    refine Wn <| CWp.skip <| SQ.normal ?_
    refine W.seq <| Wr <| Oa rfl sm rfl <| Oa rfl (zb (hv := bi_w bi_add (by first | (simp only [w1] <;> rfl) | rfl))) rfl <| Oa rfl za rfl <| On ?_
    have ef : ∀ k, (l.take (pre.length + 1 + k)).filter (fun x => !P x) = pre ++ (post.take k).filter fun x => !P x := fun k => by
      have e1 : l.take (pre.length + 1 + k) = pre ++ (x :: post.take k) := by
        rw [← e, show pre.length + 1 + k = pre.length + (k + 1) by omega, List.take_length_add_append, List.take_succ_cons]
      rw [e1, List.filter_append, List.filter_eq_self.2 (fun y hy => by rw [hn y hy]; rfl), List.filter_cons, hP]; rfl
    have hz0 : l.take (pre.length + 1) = pre ++ [x] := by
      rw [← e, List.take_length_add_append]; rfl
    refine W.cut (fun L g => ∃ R : List Rec, R.length = l.length ∧ R.take (l.filter fun x => !P x).length = (l.filter fun x => !P x) ∧ (l.filter fun x => !P x).length < l.length ∧ J l g ∧ g.get r = some (.cells (fl R) 4) ∧ L = [(0, .slice (some ⟨r, 0, none⟩) l.length 0), (1, fv), (5, I64 (l.filter fun x => !P x).length)]) (W.block (W.loop (fun m L g => ∃ (k : Nat) (R : List Rec), m + k = post.length ∧ R.length = l.length ∧ R.take ((l.take (pre.length + 1 + k)).filter fun x => !P x).length = ((l.take (pre.length + 1 + k)).filter fun x => !P x) ∧ R.drop (pre.length + 1 + k) = l.drop (pre.length + 1 + k) ∧ ((l.take (pre.length + 1 + k)).filter fun x => !P x).length ≤ pre.length + k ∧ J (l.take (pre.length + 1 + k)) g ∧ g.get r = some (.cells (fl R) 4) ∧
        L = [(0, .slice (some ⟨r, 0, none⟩) l.length 0), (1, fv), (5, I64 ((l.take (pre.length + 1 + k)).filter fun x => !P x).length), (6, I64 ((pre.length + 1 + k : Nat) : Int))]) (n := post.length) (L := [(0, .slice (some ⟨r, 0, none⟩) l.length 0), (1, fv), (5, I64 pre.length), (6, I64 ((pre.length + 1 : Nat) : Int))]) ⟨0, l, rfl, rfl, ?_, rfl, ?_, ?_, hgr, ?_⟩ ?_ ?_)) ?_
    · rw [ef 0]; simp [← e]
    · rw [ef 0]; simp
    · rw [Nat.add_zero, hz0]; exact hj
    · rw [ef 0]; simp
    · simp [HasA, Tr.get_put]
    · rintro m L g2 ⟨k, R, hm, hR1, hR2, hR3, hR4, hJ, hrow, rfl⟩
      simp only [mkA]
      obtain ⟨i, hi⟩ : ∃ i, i = ((l.take (pre.length + 1 + k)).filter fun x => !P x).length := ⟨_, rfl⟩
      rw [← hi] at hR2 hR4 ⊢
      have w2 : IntKind.i64.wrap (((pre.length + 1 + k : Nat) : Int) + 1) = ((pre.length + 1 + (k + 1) : Nat) : Int) := by rw [wrap_i64 (by omega) (by omega)]; omega
      have w3 : IntKind.i64.wrap ((i : Int) + 1) = ((i + 1 : Nat) : Int) := by rw [wrap_i64 (by omega) (by omega)]; omega
      by_cases hk : ((pre.length + 1 + k : Nat) : Int) < (l.length : Int)
      · obtain ⟨y, hy⟩ : ∃ y, l[pre.length + 1 + k]? = some y := ⟨l[pre.length + 1 + k]'(by omega), by simp⟩
        have hRy : R[pre.length + 1 + k]? = some y := by
          have := congrArg (fun z : List Rec => z[0]?) hR3
          simp only [List.getElem?_drop, Nat.add_zero] at this
          rw [this, hy]
        have c1 : (0 ≤ ((pre.length + 1 + k : Nat) : Int) ∧ ((pre.length + 1 + k : Nat) : Int) < (l.length : Int)) := by omega
        have hcell := fl_get hRy
        have htk : l.take (pre.length + 1 + (k + 1)) = l.take (pre.length + 1 + k) ++ [y] := by rw [← Nat.add_assoc, List.take_add_one, hy]; rfl
        have e1 : l.take (pre.length + 1 + k) ++ y :: l.drop (pre.length + 1 + k + 1) = l := by
          conv => rhs; rw [← List.take_append_drop (pre.length + 1 + k) l, List.drop_eq_getElem_cons (by omega)]
          rw [(List.getElem?_eq_some_iff.1 hy).2]
        have hv := ask _ _ _ e1 _ (jnew _ _ (.cells y.cs 1) hJ)
        have hg3 : (g2.new (.cells y.cs 1)).get r = some (.cells (fl R) 4) := by
          have := jn _ _ hJ
          rw [Gn (by omega)]; exact hrow
        rw [hg3] at hv
        have hdr : R.drop (pre.length + 1 + (k + 1)) = l.drop (pre.length + 1 + (k + 1)) := by
          have := congrArg (List.drop 1) hR3
          rw [List.drop_drop, List.drop_drop] at this; exact this
        have hgn := jn _ _ hJ
        cases hPy : P y with
        | true =>
          rw [hPy] at hv
          refine W.seq <| Wr <| Oa rfl sm rfl <| Oa rfl sm rfl <| Oa rfl (Zn (hv := by simp (disch := first | omega | simp only [nx]; omega) only [aLenOf, ty23, hpl, hrow, c1, sb, hcell, rcl, Value.cells, ty23, ty27] <;> rfl)) rfl <| Ot rfl (zb (hv := bi_lss)) rfl (by first | rfl | assumption | ((simp only [bl, hrow, c1, sb, hcell, rcl, Option.map_some, Value.cells, ty23, ty27]) <;> first | done | assumption | omega) | (simp; done) | (simp; omega)) <| On ?_
          refine Wy <| CWp.skip <| SQ.normal ?_
          refine W.seq <| W.block <| Wr <| Oa rfl sm rfl <| Oa rfl sm rfl <| Oa rfl (zi (hv := by simp (disch := first | omega | simp only [nx]; omega) only [aIndexAddr, ty23, ty27, hpl, hrow, c1, sb, hcell, rcl, Value.cells, ty23, ty27] <;> rfl)) rfl <| Oa rfl (zl (hv := by simp (disch := first | omega | simp only [nx]; omega) only [aLoad, ty27, rowOf, hpl, hrow, c1, sb, hcell, rcl, Option.map_some, Value.cells, ty23, ty27] <;> rfl)) rfl <| Oa rfl (so_alloc (by simp only [aAlloc, ty27] <;> rfl)) rfl <| Oa rfl (zs (hv := by simp (disch := first | omega | simp only [nx]; omega) only [aStore, ty27, writeRow, hpl, hrow, c1, sb, hcell, rcl, Option.map_some, Value.cells, ty23, ty27] <;> rfl)) rfl <| On ?_
          refine Wr <| Oa rfl sm rfl <| Oa rfl (zl (hv := by simp (disch := first | omega | simp only [nx]; omega) only [aLoad, ty27, rowOf, hpl, hrow, c1, sb, hcell, rcl, Option.map_some, Value.cells, ty23, ty27] <;> rfl)) rfl <| OSuf.vcall rfl (by simp only [lk] <;> rfl) (by simp only [aopnds, lk] <;> rfl) (hv) ?_
          rintro _ g3 ⟨rfl, hJ3, hr3, hk3⟩
          refine ⟨_, rfl, ?_⟩
          refine Of rfl Zt rfl rfl <| On ?_
          refine Wn <| CWp.skip <| BQ.normal <| SQ.normal ?_
          refine W.reg <| Oa rfl sm rfl <| Oa rfl (zb (hv := bi_w bi_add (by first | (simp only [w2, w2] <;> rfl) | rfl))) rfl <| Oa rfl za rfl <| OSuf.nil <| ?_
          have hf : (l.take (pre.length + 1 + (k + 1))).filter (fun x => !P x) = (l.take (pre.length + 1 + k)).filter fun x => !P x := by rw [htk, List.filter_append]; simp [hPy]
          refine LQ.normal (m := m - 1) (L := [(0, .slice (some ⟨r, 0, none⟩) l.length 0), (1, fv), (5, I64 i), (6, I64 ((pre.length + 1 + (k + 1) : Nat) : Int))]) (by omega) ?_ ⟨k + 1, R, by omega, hR1, by rw [hf, ← hi]; exact hR2, hdr, by rw [hf]; omega, by rw [htk]; exact hJ3, hr3, by rw [hf, ← hi]⟩
          simp only [HasA, Tr.get_put, Nat.reduceEqDiff, reduceIte, w2, and_self]
        | false =>
          rw [hPy] at hv
          have c2 : (0 ≤ (i : Int) ∧ (i : Int) < (l.length : Int)) := by omega
          have hy7 : (g2.new (.cells y.cs 1)).get g2.next = some (.cells y.cs 1) := Gq
          have hsp := fl_set (l := R) y (i := i) (by omega)
          have hbl := fl_ble (l := R) (i := i) (by omega)
          refine W.seq <| Wr <| Oa rfl sm rfl <| Oa rfl sm rfl <| Oa rfl (Zn (hv := by simp (disch := first | omega | simp only [nx]; omega) only [aLenOf, ty23, hpl, hrow, c1, sb, hcell, rcl, Value.cells, ty23, ty27] <;> rfl)) rfl <| Ot rfl (zb (hv := bi_lss)) rfl (by first | rfl | assumption | ((simp only [bl, hrow, c1, sb, hcell, rcl, Option.map_some, Value.cells, ty23, ty27]) <;> first | done | assumption | omega) | (simp; done) | (simp; omega)) <| On ?_
          refine Wy <| CWp.skip <| SQ.normal ?_
          refine W.seq <| W.block <| Wr <| Oa rfl sm rfl <| Oa rfl sm rfl <| Oa rfl (zi (hv := by simp (disch := first | omega | simp only [nx]; omega) only [aIndexAddr, ty23, ty27, hpl, hrow, c1, sb, hcell, rcl, Value.cells, ty23, ty27] <;> rfl)) rfl <| Oa rfl (zl (hv := by simp (disch := first | omega | simp only [nx]; omega) only [aLoad, ty27, rowOf, hpl, hrow, c1, sb, hcell, rcl, Option.map_some, Value.cells, ty23, ty27] <;> rfl)) rfl <| Oa rfl (so_alloc (by simp only [aAlloc, ty27] <;> rfl)) rfl <| Oa rfl (zs (hv := by simp (disch := first | omega | simp only [nx]; omega) only [aStore, ty27, writeRow, hpl, hrow, c1, sb, hcell, rcl, Option.map_some, Value.cells, ty23, ty27] <;> rfl)) rfl <| On ?_
          refine Wr <| Oa rfl sm rfl <| Oa rfl (zl (hv := by simp (disch := first | omega | simp only [nx]; omega) only [aLoad, ty27, rowOf, hpl, hrow, c1, sb, hcell, rcl, Option.map_some, Value.cells, ty23, ty27] <;> rfl)) rfl <| OSuf.vcall rfl (by simp only [lk] <;> rfl) (by simp only [aopnds, lk] <;> rfl) (hv) ?_
          rintro _ g3 ⟨rfl, hJ3, hr3, hk3⟩
          have h73 : g3.get g2.next = some (.cells y.cs 1) := (by rw [hk3 _ (by omega) (by simp), hy7])
          refine ⟨_, rfl, ?_⟩
          refine Ot rfl Zt rfl rfl <| On ?_
          refine Wy <| Wr <| Oa rfl sm rfl <| Oa rfl sm rfl <| Oa rfl (zl (hv := by simp (disch := first | omega | simp only [nx]; omega) only [aLoad, ty27, rowOf, hpl, hrow, c1, sb, hcell, rcl, Option.map_some, Value.cells, ty23, ty27, hr3, h73, c2, hsp, hbl, csz, csl, cso, csn, csb] <;> rfl)) rfl <| Oa rfl (zi (hv := by simp (disch := first | omega | simp only [nx]; omega) only [aIndexAddr, ty23, ty27, hpl, hrow, c1, sb, hcell, rcl, Value.cells, ty23, ty27, hr3, h73, c2, hsp, hbl, csz, csl, cso, csn, csb] <;> rfl)) rfl <| Oa rfl (zs (hv := by simp (disch := first | omega | simp only [nx]; omega) only [aStore, ty27, writeRow, hpl, hrow, c1, sb, hcell, rcl, Option.map_some, Value.cells, ty23, ty27, hr3, h73, c2, hsp, hbl, csz, csl, cso, csn, csb] <;> rfl)) rfl <| On ?_
          refine W.reg <| Oa rfl sm rfl <| Oa rfl (zb (hv := bi_w bi_add (by first | (simp only [w2, w2, w3] <;> rfl) | rfl))) rfl <| Oa rfl za rfl <| OSuf.nil <| BQ.normal <| SQ.normal ?_
          refine W.reg <| Oa rfl sm rfl <| Oa rfl (zb (hv := bi_w bi_add (by first | (simp only [w2, w2, w3] <;> rfl) | rfl))) rfl <| Oa rfl za rfl <| OSuf.nil <| ?_
          have hf : (l.take (pre.length + 1 + (k + 1))).filter (fun x => !P x) = ((l.take (pre.length + 1 + k)).filter fun x => !P x) ++ [y] := by rw [htk, List.filter_append]; simp [hPy]
          refine LQ.normal (m := m - 1) (L := [(0, .slice (some ⟨r, 0, none⟩) l.length 0), (1, fv), (5, I64 ((i + 1 : Nat) : Int)), (6, I64 ((pre.length + 1 + (k + 1) : Nat) : Int))]) (by omega) ?_ ⟨k + 1, R.set i y, by omega, by simp [hR1], ?_, ?_, ?_, by rw [htk]; exact jset _ _ _ hJ3, Gp, ?_⟩
          · simp only [HasA, Tr.get_put, Nat.reduceEqDiff, reduceIte, w2, w3, and_self]
          · rw [hf, List.length_append, ← hi, ← hR2]
            show List.take (i + 1) _ = _
            rw [List.take_add_one, List.take_set, List.getElem?_set_self (by omega)]
            rw [List.set_eq_of_length_le (by simp; omega)]; rfl
          · rw [List.drop_set_of_lt (by omega)]; exact hdr
          · rw [hf, List.length_append, ← hi]; simp; omega
          · rw [hf, List.length_append, ← hi]; rfl
      · refine W.seq <| Wr <| Oa rfl sm rfl <| Oa rfl sm rfl <| Oa rfl (Zn (hv := by simp (disch := first | omega | simp only [nx]; omega) only [aLenOf, ty23, hpl] <;> rfl)) rfl <| Ofb rfl (zb (hv := bi_lss)) rfl <| On ?_
        refine Wn <| CWp.exit <| SQ.exit <| LQ.exit <| BQ.exit <| ?_
        have hk2 : pre.length + 1 + k = l.length := by omega
        rw [hk2, List.take_length] at hR2 hJ hi
        refine NQ.normal (L := [(0, .slice (some ⟨r, 0, none⟩) l.length 0), (1, fv), (5, I64 i)]) ?_ ⟨R, hR1, by rw [← hi]; exact hR2, by omega, hJ, hrow, by rw [hi]⟩
        simp only [HasA, Tr.get_put, Nat.reduceEqDiff, reduceIte, and_self]
    rintro L a' g2 ha ⟨R, hR1, hR2, hR3, hJ, hrow, rfl⟩
    obtain ⟨K, hK⟩ : ∃ K, K = l.filter fun x => !P x := ⟨_, rfl⟩
    rw [← hK] at hR2 hR3 ha ⊢
    have hsp : fl R = fl K ++ (fl (R.drop K.length) ++ []) := by rw [List.append_nil, ← fl_app, ← hR2]; congr 1; rw [hR2]; conv => lhs; rw [← List.take_append_drop K.length R, hR2]
    have hrow' := hrow
    rw [hsp] at hrow'
    refine SQ.normal <| CWp.known ha ?_
    simp only [mkA]
    refine Wr <| Oa rfl sm rfl <| Oa rfl sm rfl <| Oa rfl (so_slice (by simp only [lk] <;> rfl) (by simp only [oopnd, lk] <;> rfl) (by simp only [oopnd, lk] <;> rfl) (by simp only [oopnd, lk] <;> rfl) (sl_u ty23 rfl ty27 (bounds_lo (by omega)) hrow)) rfl <| Oa rfl (so_clear (by simp only [aopnds, lk] <;> rfl) (cl_u rfl ty23 rfl ty27 rfl rfl rfl hrow' (by rw [fl_length, Nat.zero_add]) (by rw [fl_length, List.length_drop, hR1]; rfl) (by omega))) rfl <| On ?_
    refine Wr <| Oa rfl sm rfl <| Oa rfl sm rfl <| Oa rfl (so_slice (by simp only [lk] <;> rfl) (by simp only [oopnd, lk] <;> rfl) (by simp only [oopnd, lk] <;> rfl) (by simp only [oopnd, lk] <;> rfl) (sl_u ty23 rfl ty27 (bounds_hi (by omega)) (Gp))) rfl <| Oa rfl za rfl <| On ?_
    refine CWp.ret <| FQ.ret (by simp only [aRet, Tryz.f53, aResults, aResult, lk, Nat.reduceEqDiff, reduceIte] <;> rfl) ?_
    exact ⟨rfl, jset _ _ _ hJ, _, Gp⟩
end Go.Proofs.YtebheelmgcggmaaGreat
