/-
  Merged: PgE, PgF, PgG, PgH.
-/
import Derived.Test.YtebheelmgcggmaaGreatMb
import Derived.Test.YtebheelmgcggmaaGreatMg
set_option linter.unusedSimpArgs false
set_option linter.unusedVariables false
set_option maxRecDepth 10000
set_option maxHeartbeats 8000000
namespace Go.Proofs.YtebheelmgcggmaaGreat
open Go.Ab Go.Sort
structure Rw (h g : AHeap) (os : List AObj) : Prop where
  next : h.next + os.length ≤ g.next
  at_ : ∀ i o, os[i]? = some o → g.get (h.next + i) = some o
  old : ∀ z, z < h.next → g.get z = h.get z
theorem Rw.nil (h : AHeap) : Rw h h [] := ⟨Nat.le_refl _, fun i o ho => by simp at ho, fun _ _ => rfl⟩
theorem Rw.push {h g : AHeap} {os : List AObj} (r : Rw h g os) (o : AObj) (e : g.next = h.next + os.length) : Rw h (g.new o) (os ++ [o]) := by
  refine ⟨by simp; omega, fun i x hx => ?_, fun z hz => by rw [zN xA]; exact r.old z hz⟩
  rw [List.getElem?_append] at hx
  split at hx
  · rw [zN xA]; exact r.at_ i x hx
  · have hi : i - os.length = 0 := by
      have := (List.getElem?_eq_some_iff.1 hx).1
      simp at this; omega
    rw [hi] at hx; simp at hx; subst hx
    rw [AHeap.get_new_eq xA]
theorem Rw.new {h g : AHeap} {os : List AObj} (r : Rw h g os) (o : AObj) : Rw h (g.new o) os :=
  ⟨by have := r.next; simp; omega, fun i x hx => by
    have := (List.getElem?_eq_some_iff.1 hx).1
    have := r.next
    rw [zN xA]; exact r.at_ i x hx, fun z hz => by
    have := r.next
    rw [zN xA]; exact r.old z hz⟩
theorem Rw.set {h g : AHeap} {os : List AObj} (r : Rw h g os) (i : Nat) (o : AObj) : Rw h (g.set (h.next + i) o) (os.set i o) := by
  refine ⟨by have := r.next; simp; omega, fun j x hx => ?_, fun z hz => by rw [zS xA]; exact r.old z hz⟩
  by_cases e : j = i
  · subst e
    rw [List.getElem?_set_self (by have := (List.getElem?_eq_some_iff.1 hx).1; simpa using this)] at hx
    cases hx; rw [AHeap.get_set_same]
  · rw [List.getElem?_set_ne xA] at hx
    rw [zS xA]; exact r.at_ j x hx
theorem Rw.far {h g : AHeap} {os : List AObj} (r : Rw h g os) {z : Nat} (hz : h.next + os.length ≤ z) (o : AObj) : Rw h (g.set z o) os := by
  refine ⟨r.next, fun j x hx => ?_, fun y hy => by rw [zS xA]; exact r.old y hy⟩
  have := (List.getElem?_eq_some_iff.1 hx).1
  rw [zS xA]; exact r.at_ j x hx
theorem Rw.keep {h g g' : AHeap} {os : List AObj} (r : Rw h g os) (hn : g.next ≤ g'.next) (hk : ∀ z, z < g.next → g'.get z = g.get z) : Rw h g' os := by
  have := r.next
  refine ⟨by omega, fun j x hx => ?_, fun y hy => by rw [hk y xA]; exact r.old y hy⟩
  have := (List.getElem?_eq_some_iff.1 hx).1
  rw [hk _ xA]; exact r.at_ j x hx
theorem Rw.eq {h g : AHeap} {os os' : List AObj} (r : Rw h g os) (e : os = os') : Rw h g os' := e ▸ r
theorem may'_c (h : AHeap) (p : Lf) (bv dv : Value) (hb : RS h p.base bv) (hd : RS h p.deltas dv) (hlb : p.base.length ≤ 1000000) (hld : p.deltas.length ≤ 1000000) :
    FWp Tryz.prog 37 [LV p bv dv] h fun u h' => u = .bool (chk p) ∧ h' = h := by
  refine FWp.gcs (.flat rfl) ?_
  refine W.enter tyOK Tryz.func37 rfl rfl ?_
  simp only [entry]
  refine Wr <| ja Zx <| jF za rfl <| On ?_
  have jY := ty25
  refine Wr <| ja Jl <| jk (Jc en13 (check_c _ p bv dv (hb.mono xI (fun z hz => by simp (disch := first | omega | simp only [nx]; omega) only [hpl])) (hd.mono xI (fun z hz => by simp (disch := first | omega | simp only [nx]; omega) only [hpl])) hlb hld)) rfl <| ja Jy <| ja za <| On ?_
  refine CWp.ret <| Jr ?_
  refine ⟨?_, fun r o hr ho => by simp (disch := first | omega | simp only [nx]; omega) only [hpl]; exact ho⟩
  cases chk p <;> rfl
theorem bv_rb {n : Nat} (x : Rec) (b : Bool) : BV n (.tuple #[x.V, .bool b]) :=
  ⟨fun _ => none, _, .tuple (.cons (.agg (.cons (.string _) (.cons (.int _ _) (.cons (.bool _) (.cons (.string _) .nil))))) (.cons (.bool _) .nil))⟩
theorem get_c (h : AHeap) (p : Lf) (bv dv : Value) (hb : RS h p.base bv) (hd : RS h p.deltas dv) (hlb : p.base.length ≤ 1000000) (hld : p.deltas.length ≤ 1000000) (k : List UInt8) :
    FWp Tryz.prog 11 [LV p bv dv, encS k] h fun u h' => u = .tuple #[(getM p k).1.V, .bool (getM p k).2] ∧ h' = h := by
  have tb11 := And.intro ty22 (And.intro ty25 (And.intro ty27 (And.intro ty4 (ty9))))
  refine FWp.gcs (bv_rb _ _) ?_
  refine W.enter tyOK Tryz.func11 rfl rfl ?_
  simp only [entry]
  have hm := fun H : AHeap => fun (hn : h.next ≤ H.next) (hk : ∀ z, z < h.next → H.get z = h.get z) => may'_c H p bv dv (hb.mono hn hk) (hd.mono hn hk) hlb hld
  cases hc : chk p with
  | false =>
    have e : getM p k = (rec0, false) := by simp [getM, hc]
    rw [hc] at hm
    have jY := An ty27 <| An ty4 <| An ty25 <| tb11
    refine Wr <| ja Zx <| ja Zx <| ja Jo <| ja Jo <| On ?_
    refine W.seq <| Wr <| ja Jl <| jk (Jc en37 (hm _ xF (fun z hz => by simp (disch := first | omega | simp only [nx]; omega) only [hpl]))) rfl <| jE Zt rfl <| On ?_
    refine Wy <| Wr <| ja Jl <| jc Js <| jc Js <| On ?_
    refine CWp.ret <| SQ.ret <| Jr ?_
    exact ⟨by rw [e]; rfl, fun r o hr ho => by simp (disch := first | omega | simp only [nx]; omega) only [hpl]; exact ho⟩
  | true =>
    have e : getM p k = getL k p.all := by simp [getM, hc]
    rw [hc] at hm
    have jY := An ty27 <| An ty4 <| ty25
    refine Wr <| ja Zx <| ja Zx <| ja Jo <| ja Jo <| On ?_
    refine W.seq <| Wr <| ja Jl <| jk (Jc en37 (hm _ xF (fun z hz => by simp (disch := first | omega | simp only [nx]; omega) only [hpl]))) rfl <| jF Zt rfl <| On ?_
    refine Wn <| CWp.skip <| SQ.normal ?_
    refine W.seq <| Wr <| ja Jl <| jk (Jc en45 (all_c _ p bv dv)) rfl <| On ?_
    refine W.block (CWp.rangeFunc xR (fun l hl => by cases hl) (VWp.func en86 ?_))
    show FWp _ _ [_, _] _ _
    generalize hLP : (ALoop.mk _ _ _ _ _ _ _ _) = LP
    have hbusy : (LP.state == .busy) = false := by rw [← hLP]; rfl
    have hjn : jumpExit LP.pending = some .normal := by rw [← hLP]; rfl
    obtain ⟨os, hos⟩ : ∃ os : Rec × Bool → ALoop → List AObj, os = fun o lp => [.cells (lcs p bv dv) 1, .cells [encS k] 1, .cells o.1.cs 1, .cells [.bool o.2] 1, .cells (lcs p bv dv) 1, .loop lp, .cells [bv, dv] 1] := ⟨_, rfl⟩
    have hln : ∀ o lp, (os o lp).length = 7 := fun o lp => by rw [hos]; rfl
    refine FWp.mono (all1_c _ p bv dv _ (h.next + 4) xM (fun pre g => Rw h g (os (pre.foldl (gstep k) (rec0, false)) LP)) (fun g => False) ?_ ?_ ?_ hlb hld ?_) ?_
    · rw [hos]
      exact ((((((Rw.nil h).push _ rfl).push _ rfl).push _ rfl).push _ rfl).push _ rfl).push _ rfl |>.push _ rfl
    · intro pre g o hr
      exact hr.new o
    · intro pre g hr
      have hn := hr.next
      rw [hln] at hn
      exact ⟨hb.mono xA hr.old, hd.mono xA hr.old, hr.at_ 6 _ xT⟩
    · rintro pre x post hpx g hr
      obtain ⟨o, ho⟩ : ∃ o, o = pre.foldl (gstep k) (rec0, false) := ⟨_, rfl⟩
      rw [← ho] at hr
      have hfold : (pre ++ [x]).foldl (gstep k) (rec0, false) = gstep k o x := by rw [List.foldl_append, ← ho]; rfl
      have hn := hr.next
      rw [hln] at hn
      have g2 : g.get (h.next + 1) = some (.cells [encS k] 1) := hr.at_ 1 _ xT
      have g3 : g.get (h.next + 2) = some (.cells [encS o.1.key, U64 o.1.lsn, .bool o.1.del, encS o.1.val] 1) := hr.at_ 2 _ xT
      have g4 : g.get (h.next + 3) = some (.cells [.bool o.2] 1) := hr.at_ 3 _ xT
      have hl := hr.at_ 5 _ xT
      rw [← hLP] at hl
      refine .inl (VWp.yield hl rfl ?_)
      have jY := An @rcl <| ty27
      refine W.reg <| ja Jo <| jc Js <| OSuf.nil <| ?_
      refine ⟨rfl, _, by (simp (disch := first | omega | simp only [nx]; omega) only [hpl]; exact hl), rfl, ?_⟩
      have ex : x.cs = [encS x.key, U64 x.lsn, .bool x.del, encS x.val] := rfl
      have jY := An @g2 <| An @g3 <| An @g4 <| An @rcl <| An @Rec.csE <| An ty9 <| An ty22 <| An ty27 <| ty4
      refine W.block <| Wr <| ja J27f0 <| ja Jl <| ja Jl <| OSuf.aopB tyOK rfl (zb (hv := bs_eql)) (fun _ => rfl) (fun h1 => ?_) (fun h1 => ?_)
      · try simp only [bl] at h1
        refine jE sm rfl <| ja J27f1 <| ja Jl <| ja J27f1 <| ja Jl <| OSuf.aopB tyOK ag Jv (fun _ => rfl) (fun h2 => ?_) (fun h2 => ?_)
        · try simp only [bl] at h2
          refine jE Zp rfl <| On ?_
          refine Wy <| W.reg <| ja Jl <| jc Js <| jc Js <| OSuf.nil <| BQ.normal <| ?_
          have hg : gstep k o x = (x, true) := (by simp [sst] at h1; simp [gstep, h1, h2])
          refine ⟨_, by (simp (disch := first | omega | simp only [nx]; omega) only [hpl]; rfl), rfl, Rw.eq (((((hr.new _).set 5 _).set 2 _).set 3 _).set 5 _) ?_⟩
          rw [hfold, hg, hos, ← hLP]; rfl
        · try simp only [bl] at h2
          refine jF Zp rfl <| On ?_
          refine Wn <| CWp.skip <| BQ.normal <| ?_
          have hg : gstep k o x = o := (by simp [gstep]; omega)
          refine ⟨_, by (simp (disch := first | omega | simp only [nx]; omega) only [hpl]; rfl), rfl, Rw.eq (((hr.new _).set 5 _).set 5 _) ?_⟩
          rw [hfold, hg, hos, ← hLP]; rfl
      · try simp only [bl] at h1
        refine jF sm rfl <| jp rfl <| jp rfl <| jp rfl <| jp rfl <| jp rfl <| jF Zp rfl <| On ?_
        refine Wn <| CWp.skip <| BQ.normal <| ?_
        have hg : gstep k o x = o := (by simp [sst] at h1; simp [gstep, h1])
        refine ⟨_, by (simp (disch := first | omega | simp only [nx]; omega) only [hpl]; rfl), rfl, Rw.eq (((hr.new _).set 5 _).set 5 _) ?_⟩
        rw [hfold, hg, hos, ← hLP]; rfl
    · clear hLP
      rintro _ g ⟨rfl, hr | hr⟩
      · have hn := hr.next
        rw [hln] at hn
        obtain ⟨o, ho⟩ : ∃ o, o = p.all.foldl (gstep k) (rec0, false) := ⟨_, rfl⟩
        rw [← ho] at hr
        have g3 : g.get (h.next + 2) = some (.cells [encS o.1.key, U64 o.1.lsn, .bool o.1.del, encS o.1.val] 1) := hr.at_ 2 _ xT
        have g4 : g.get (h.next + 3) = some (.cells [.bool o.2] 1) := hr.at_ 3 _ xT
        have hl := hr.at_ 5 _ xT
        refine ⟨LP, .normal, hl, hbusy, hjn, ?_⟩
        refine BQ.normal <| SQ.normal ?_
        have jY := An @g3 <| An @g4 <| An ty27 <| An ty4 <| tb11
        refine W.seq <| CWp.sqd tyOK mixed (ms := [0, 0, 1, 7]) xJ (
            js Jl <| js Jl <| jt Js rfl <| jt Js rfl <| .nil) <| SQ.normal ?_
        refine CWp.ret <| Jr ?_
        have e2 : getL k p.all = o := ho.symm
        refine ⟨by rw [e, e2]; rfl, fun r o hr' ho' => ?_⟩
        simp (disch := first | omega | simp only [nx]; omega) only [hpl]; rw [hr.old r hr']; exact ho'
      · exact hr.elim
end Go.Proofs.YtebheelmgcggmaaGreat
namespace Go.Proofs.YtebheelmgcggmaaGreat
open Go.Ab Go.Sort
theorem ixf_c (h : AHeap) (l : List Rec) (v fv : Value) (P : Rec → Bool) (J : List Rec → AHeap → Prop) (j0 : J [] h) (jr : ∀ pre g, J pre g → RS g l v) (hl : l.length ≤ 1000000)
    (ask : ∀ pre x post, pre ++ x :: post = l → ∀ g, J pre g → VWp Tryz.prog fv [x.V] g fun u g' => u = .bool (P x) ∧ J (pre ++ [x]) g') :
    FWp Tryz.prog 90 [v, fv] h fun u g => (u = I64 (-1) ∧ J l g ∧ ∀ x ∈ l, P x = false) ∨ ∃ pre x post, pre ++ x :: post = l ∧ (∀ y ∈ pre, P y = false) ∧ P x = true ∧ u = I64 pre.length ∧ J (pre ++ [x]) g := by
  obtain ⟨b, c, rfl⟩ := (jr _ _ j0).form
  refine W.enter tyOK Tryz.func90 rfl rfl ?_
  simp only [entry]
  refine Wr <| ja za <| On ?_
  have jY := ty23
  refine W.seq <| Wr <| ja sm <| ja Jn <| ja sm <| On ?_
  refine W.block (W.loop (fun m L g => ∃ k : Nat, m + k = l.length ∧ J (l.take k) g ∧ (∀ x ∈ l.take k, P x = false) ∧ L = [(0, .slice b l.length c), (1, fv), (7, I64 l.length), (8, I64 k)]) (n := l.length) ⟨0, rfl, by simpa using j0, by simp, rfl⟩ ?_ ?_)
  · simp [HasA, Tr.get_put]
  rintro m L g ⟨k, hm, hJ, hn, rfl⟩
  simp only [mkA]
  have w2 : IntKind.i64.wrap ((k : Int) + 1) = ((k + 1 : Nat) : Int) := by rw [wrap_i64 xA xA]; omega
  by_cases hk : (k : Int) < (l.length : Int)
  · obtain ⟨x, hx⟩ : ∃ x, l[k]? = some x := ⟨l[k]'xA, by simp⟩
    obtain ⟨_, r, off, rfl, hr1, hr2⟩ := RS.at_ (jr _ _ hJ) hx
    have c1 : (0 ≤ (k : Int) ∧ (k : Int) < (l.length : Int)) := by omega
    have htk : l.take (k + 1) = l.take k ++ [x] := by rw [List.take_add_one, hx]; rfl
    have e1 : l.take k ++ x :: l.drop (k + 1) = l := by
      conv => rhs; rw [← List.take_append_drop k l, List.drop_eq_getElem_cons xA]
      rw [(List.getElem?_eq_some_iff.1 hx).2]
    have hv := ask _ _ _ e1 g hJ
    cases hP : P x with
    | true =>
      rw [hP] at hv
      have jY := An @c1 <| An @sb <| An ty23 <| ty27
      refine Wr <| je Jt <| On ?_
      refine W.seq <| Wy <| CWp.skip <| SQ.normal ?_
      refine W.seq <| W.block <| Wr <| ja sm <| ja za <| On ?_
      refine Wr <| ja sm <| ja sm <| ja sm <| ja Ji <| ja (zl (hv := (hr2 _ rfl).1 _ _ ty27 rfl rfl)) <| jm (Jd (hv)) ?_
      rintro _ g2 ⟨rfl, hJ2⟩
      refine ⟨_, rfl, ?_⟩
      refine On ?_
      refine Wy <| Wr <| ja sm <| ja za <| On ?_
      refine CWp.ret <| BQ.ret <| SQ.ret <| LQ.ret <| BQ.ret <| SQ.ret <| Jr ?_
      exact .inr ⟨_, _, _, e1, hn, hP, by rw [List.length_take, Nat.min_eq_left xA], hJ2⟩
    | false =>
      rw [hP] at hv
      have jY := An @c1 <| An @sb <| An ty23 <| ty27
      refine Wr <| je Jt <| On ?_
      refine W.seq <| Wy <| CWp.skip <| SQ.normal ?_
      refine W.seq <| W.block <| Wr <| ja sm <| ja za <| On ?_
      refine Wr <| ja sm <| ja sm <| ja sm <| ja Ji <| ja (zl (hv := (hr2 _ rfl).1 _ _ ty27 rfl rfl)) <| jm (Jd (hv)) ?_
      rintro _ g2 ⟨rfl, hJ2⟩
      refine ⟨_, rfl, ?_⟩
      refine On ?_
      refine Wn <| CWp.skip <| BQ.normal <| SQ.normal ?_
      have jW := @w2
      refine W.reg <| ja Ja <| ja sm <| OSuf.nil <| ?_
      refine LQ.normal (m := m - 1) (L := [(0, .slice (some ⟨r, off, none⟩) l.length c), (1, fv), (7, I64 l.length), (8, I64 ((k + 1 : Nat) : Int))]) xA ?_ ⟨k + 1, by omega, by rw [htk]; exact hJ2, fun y hy => ?_, rfl⟩
      · simp only [HasA, Tr.get_put, Nat.reduceEqDiff, reduceIte, w2, and_self]
      · rw [htk] at hy
        rcases List.mem_append.1 hy with hy | hy
        · exact hn y hy
        · rw [List.mem_singleton.1 hy]; exact hP
  · refine Wr <| jy Jt <| On ?_
    refine W.seq <| Wn <| CWp.exit <| SQ.exit <| LQ.exit <| BQ.exit <| SQ.normal ?_
    refine Wr <| ja za <| On ?_
    refine CWp.ret <| Jr ?_
    rw [List.take_of_length_le xA] at hJ hn
    exact .inl ⟨rfl, hJ, hn⟩
theorem con_c (h : AHeap) (l : List Rec) (v fv : Value) (P : Rec → Bool) (hs : RS h l v) (hl : l.length ≤ 1000000) (ask : ∀ x, VWp Tryz.prog fv [x.V] h fun u g' => u = .bool (P x) ∧ g' = h) :
    FWp Tryz.prog 81 [v, fv] h fun u g => u = .bool (l.any P) ∧ g = h := by
  refine W.enter tyOK Tryz.func81 rfl rfl ?_
  simp only [entry]
  have hix := ixf_c h l v fv P (fun _ g => g = h) rfl (fun pre g hg => by rw [hg]; exact hs) hl (fun pre x post _ g hg => by rw [hg]; exact ask x)
  have hix2 : FWp Tryz.prog 90 [v, fv] h fun u g => ∃ i : Int, u = I64 i ∧ g = h ∧ decide (0 ≤ i) = l.any P := hix.mono fun u g hu => by
    rcases hu with ⟨rfl, rfl, hn⟩ | ⟨pre, x, post, rfl, hn, hP, rfl, rfl⟩
    · refine ⟨-1, rfl, rfl, ?_⟩
      have : l.any P = false := by
        rw [List.any_eq_false]; intro x hx; rw [hn x hx]; simp
      rw [this]; rfl
    · exact ⟨pre.length, rfl, rfl, by simp [hP]⟩
  refine Wr <| jF za rfl <| On ?_
  refine Wr <| ja sm <| ja sm <| jm (Jc en90 (hix2)) ?_
  rintro _ _ ⟨i, rfl, rfl, hi⟩
  refine ⟨_, rfl, ?_⟩
  refine ja Jx <| ja za <| On ?_
  refine CWp.ret <| Jr ?_
  exact ⟨by rw [← hi], rfl⟩
theorem old1_c (h : AHeap) (q : Nat) (r x : Rec) (hq : h.get q = some (.cells r.cs 1)) (hql : q < h.next) : FWp Tryz.prog 79 [x.V, P0 q] h fun u h' => u = .bool (decide (x.key = r.key ∧ r.lsn ≤ x.lsn)) ∧ h' = h := by
  have tb79 := And.intro ty22 (And.intro ty27 (ty9))
  have hq : h.get q = some (.cells [encS r.key, U64 r.lsn, .bool r.del, encS r.val] 1) := hq
  refine FWp.gcs (.flat rfl) ?_
  refine W.enter tyOK Tryz.func79 rfl rfl ?_
  simp only [entry]
  refine Wr <| ja Zx <| jF za rfl <| On ?_
  have jY := An @hq <| An ty9 <| ty22
  refine Wr <| ja J27f0 <| ja Jl <| ja J27f0 <| ja Jl <| OSuf.aopB tyOK rfl (zb (hv := bs_eql)) (fun _ => rfl) (fun h1 => ?_) (fun h1 => ?_)
  · try simp only [bl] at h1
    refine jE sm rfl <| ja J27f1 <| ja Jl <| ja J27f1 <| ja Jl <| ja Jx <| ja Zp <| ja za <| On ?_
    refine CWp.ret <| Jr ?_
    exact ⟨by simp [sst] at h1; simp [h1], fun r o hr ho => by simp (disch := first | omega | simp only [nx]; omega) only [hpl]; exact ho⟩
  · try simp only [bl] at h1
    refine jF sm rfl <| jp rfl <| jp rfl <| jp rfl <| jp rfl <| jp rfl <| jF Zp rfl <| jF za rfl <| On ?_
    refine CWp.ret <| Jr ?_
    exact ⟨by simp [sst] at h1; simp [h1], fun r o hr ho => by simp (disch := first | omega | simp only [nx]; omega) only [hpl]; exact ho⟩
theorem old2_c (h : AHeap) (q : Nat) (r x : Rec) (hq : h.get q = some (.cells r.cs 1)) (hql : q < h.next) : FWp Tryz.prog 80 [x.V, P0 q] h fun u h' => u = .bool (decide (x.lsn = r.lsn)) ∧ h' = h := by
  have hq : h.get q = some (.cells [encS r.key, U64 r.lsn, .bool r.del, encS r.val] 1) := hq
  refine FWp.gcs (.flat rfl) ?_
  refine W.enter tyOK Tryz.func80 rfl rfl ?_
  simp only [entry]
  refine Wr <| ja Zx <| jF za rfl <| On ?_
  have jY := An @hq <| An ty22 <| ty27
  refine Wr <| ja J27f1 <| ja Jl <| ja J27f1 <| ja Jl <| ja Jy <| ja za <| On ?_
  refine CWp.ret <| Jr ?_
  refine ⟨?_, fun r o hr ho => by simp (disch := first | omega | simp only [nx]; omega) only [hpl]; exact ho⟩
  congr 1
theorem cl_v {h : AHeap} {f q : Nat} {fn : Func} {K : Value → AHeap → Prop} {x : Value} (he : Entered Tryz.prog f fn) (hf : FWp Tryz.prog f [x, P0 q] h K) : VWp Tryz.prog (.func (.func f) #[] #[P0 q]) [x] h K := VWp.func he hf
theorem old_c (h : AHeap) (p : Lf) (bv dv : Value) (r : Rec) (hb : RS h p.base bv) (hd : RS h p.deltas dv) (hlb : p.base.length ≤ 1000000) (hld : p.deltas.length ≤ 1000000) :
    FWp Tryz.prog 39 [LV p bv dv, r.V] h fun u h' => u = .bool (oldM p r) ∧ h' = h := by
  have tb39 := And.intro ty22 (And.intro ty23 (And.intro ty25 (ty27)))
  refine FWp.gcs (.flat rfl) ?_
  refine W.enter tyOK Tryz.func39 rfl rfl ?_
  simp only [entry]
  have q1 := con_c ((h.new (.cells (lcs p bv dv) 1)).new (.cells r.cs 1)) p.base bv (.func (.func 79) #[] #[P0 (h.next + 1)]) (fun x => decide (x.key = r.key ∧ r.lsn ≤ x.lsn)) (hb.mono xG (fun z hz => by simp (disch := first | omega | simp only [nx]; omega) only [hpl])) hlb (fun x => cl_v en79 (old1_c _ _ r x xM xI))
  have q2 := con_c ((h.new (.cells (lcs p bv dv) 1)).new (.cells r.cs 1)) p.deltas dv (.func (.func 80) #[] #[P0 (h.next + 1)]) (fun x => decide (x.lsn = r.lsn)) (hd.mono xG (fun z hz => by simp (disch := first | omega | simp only [nx]; omega) only [hpl])) hld (fun x => cl_v en80 (old2_c _ _ r x xM xI))
  cases e1 : p.base.any fun x => decide (x.key = r.key ∧ r.lsn ≤ x.lsn) with
  | true =>
    rw [e1] at q1
    refine Wr <| ja Zx <| ja Zx <| jF za rfl <| On ?_
    refine Wr <| ja (so_makeFunc rfl xD xD) <| ja za <| On ?_
    refine Wr <| ja (so_makeFunc rfl xD xD) <| ja za <| On ?_
    have jY := An ty22 <| ty23
    refine Wr <| ja J27f1 <| ja Jl <| ja J25f2 <| ja Jl <| OSuf.aopB tyOK rfl Ju (fun _ => rfl) (fun h1 => ?_) (fun h1 => ?_)
    · try simp only [bl] at h1
      refine jE sm rfl <| jp rfl <| jp rfl <| jp rfl <| jp rfl <| jE Zp rfl <| jE sm rfl <| jp rfl <| jp rfl <| jp rfl <| jp rfl <| jE Zp rfl <| jE za rfl <| On ?_
      refine CWp.ret <| Jr ?_
      exact ⟨by simp [oldM, h1], fun r o hr ho => by simp (disch := first | omega | simp only [nx]; omega) only [hpl]; exact ho⟩
    · try simp only [bl] at h1
      refine jF sm rfl <| ja J25f3 <| ja Jl <| ja sm <| jk (Jc en81 (q1)) rfl <| jE Zp rfl <| jE sm rfl <| jp rfl <| jp rfl <| jp rfl <| jp rfl <| jE Zp rfl <| jE za rfl <| On ?_
      refine CWp.ret <| Jr ?_
      exact ⟨by simp only [oldM, e1]; simp, fun r o hr ho => by simp (disch := first | omega | simp only [nx]; omega) only [hpl]; exact ho⟩
  | false =>
    rw [e1] at q1
    refine Wr <| ja Zx <| ja Zx <| jF za rfl <| On ?_
    refine Wr <| ja (so_makeFunc rfl xD xD) <| ja za <| On ?_
    refine Wr <| ja (so_makeFunc rfl xD xD) <| ja za <| On ?_
    have jY := An ty22 <| ty23
    refine Wr <| ja J27f1 <| ja Jl <| ja J25f2 <| ja Jl <| OSuf.aopB tyOK rfl Ju (fun _ => rfl) (fun h1 => ?_) (fun h1 => ?_)
    · try simp only [bl] at h1
      refine jE sm rfl <| jp rfl <| jp rfl <| jp rfl <| jp rfl <| jE Zp rfl <| jE sm rfl <| jp rfl <| jp rfl <| jp rfl <| jp rfl <| jE Zp rfl <| jE za rfl <| On ?_
      refine CWp.ret <| Jr ?_
      exact ⟨by simp [oldM, h1], fun r o hr ho => by simp (disch := first | omega | simp only [nx]; omega) only [hpl]; exact ho⟩
    · try simp only [bl] at h1
      refine jF sm rfl <| ja J25f3 <| ja Jl <| ja sm <| jk (Jc en81 (q1)) rfl <| jF Zp rfl <| jF sm rfl <| ja J25f4 <| ja Jl <| ja sm <| jk (Jc en81 (q2)) rfl <| ja Zp <| ja za <| On ?_
      refine CWp.ret <| Jr ?_
      exact ⟨by simp only [oldM, e1]; rw [decide_eq_false xA]; rfl, fun r o hr ho => by simp (disch := first | omega | simp only [nx]; omega) only [hpl]; exact ho⟩
inductive OS (h : AHeap) (lo : Nat) (l : List Rec) : Value → Prop
  | nil (e : l = []) : OS h lo l (.slice none 0 0)
  | emp {r : Nat} (e : l = []) (h1 : lo ≤ r) (h2 : r < h.next) (h3 : h.get r = some (.cells [] 4)) : OS h lo l (.slice (some ⟨r, 0, none⟩) 0 1)
  | some {r n : Nat} (e : l ≠ []) (hn : n = l.length) (h1 : lo ≤ r) (h2 : r < h.next) (h3 : h.get r = Option.some (.cells (fl l) 4)) : OS h lo l (.slice (Option.some ⟨r, 0, none⟩) n 0)
theorem OS.rs {h : AHeap} {lo : Nat} {l : List Rec} {v : Value} (s : OS h lo l v) : RS h l v := by
  cases s with
  | nil e => subst e; exact ⟨_, _, rfl, .inl ⟨rfl, rfl, rfl⟩⟩
  | emp e _ _ _ => subst e; exact ⟨_, _, rfl, .inr ⟨_, _, rfl, fun h => (h rfl).elim⟩⟩
  | @some r n e hn _ h2 h3 => subst hn; exact ⟨_, _, rfl, .inr ⟨_, _, rfl, fun _ => ⟨h2, _, by simp only [rowOf, h3], cellsOf_all (fl_length l)⟩⟩⟩
structure RSl (h : AHeap) (lo : Nat) (l : List Rec) (v : Value) : Prop where
  rs : RS h l v
  lo : ∀ a n c, v = .slice (some a) n c → lo ≤ a.block
theorem RSl.mono {h h' : AHeap} {lo lo' : Nat} {l : List Rec} {v : Value} (s : RSl h lo l v) (hl : lo' ≤ lo) (hn : h.next ≤ h'.next) (hk : ∀ z, lo ≤ z → z < h.next → h'.get z = h.get z) : RSl h' lo' l v := by
  obtain ⟨⟨b, c, rfl, hr⟩, h2⟩ := s
  refine ⟨⟨b, c, rfl, hr.imp id ?_⟩, fun a n c e => Nat.le_trans hl (h2 a n c e)⟩
  rintro ⟨r, off, rfl, h3⟩
  exact ⟨r, off, rfl, fun h0 => let ⟨h4, vs, h5, h6⟩ := h3 h0; ⟨by omega, vs, by rw [rowOf_eq (hk r (h2 _ _ _ rfl) h4)]; exact h5, h6⟩⟩
theorem OS.rsl {h : AHeap} {lo : Nat} {l : List Rec} {v : Value} (s : OS h lo l v) : RSl h lo l v := ⟨s.rs, fun a n c e => by
  cases s with
  | nil _ => cases e
  | emp _ h1 _ _ => cases e; exact h1
  | some _ _ h1 _ _ => cases e; exact h1⟩
theorem OS.mono {h h' : AHeap} {lo : Nat} {l : List Rec} {v : Value} (s : OS h lo l v) (hn : h.next ≤ h'.next) (hk : ∀ z, lo ≤ z → z < h.next → h'.get z = h.get z) : OS h' lo l v := by
  cases s with
  | nil e => exact .nil e
  | emp e h1 h2 h3 => exact .emp e h1 xA (by rw [hk _ h1 h2]; exact h3)
  | some e hn h1 h2 h3 => exact .some e hn h1 xA (by rw [hk _ h1 h2]; exact h3)
theorem ap_k0 {h : AHeap} {ats : Array TypeId} {A : AppT} {r k : Nat} {x : Value} {new : List Value} (ha : appT T ats = some A) (hl : aLen x = some k) (hx : aCells h A.size k x = some new) (hb : (2 * (0 + k) + 256) * A.bytes ≤ 281474976710656) (hk : ¬ k = 0) :
    aAppend T ats (.slice (some ⟨r, 0, none⟩) 0 1) x h = some (.slice (some ⟨h.next, 0, none⟩) k 0, h.new (.cells new A.size)) := by
  have e1 : Nat.ble k 0 = false := by
    cases e : Nat.ble k 0 with
    | false => rfl
    | true => have := Nat.le_of_ble_eq_true e; omega
  have e2 : Nat.beq (0 * A.size) 0 = true := by rw [Nat.zero_mul]; rfl
  have hs : sCells h A.size (.slice (some ⟨r, 0, none⟩) 0 1) = some [] := by simp only [sCells, aCells, e2, cond_true]
  rw [Nat.zero_add] at hb
  simp only [aAppend, ha, hl, hx, hs, vLen, Nat.zero_add, Nat.ble_eq_true_of_le hb, cond_true, e1, cond_false, List.nil_append]
theorem ap_z {h : AHeap} {ats : Array TypeId} {A : AppT} {r : Nat} {x : Value} (ha : appT T ats = some A) (hl : aLen x = some 0) (hx : aCells h A.size 0 x = some []) (hb : (2 * (0 + 0) + 256) * A.bytes ≤ 281474976710656) :
    aAppend T ats (.slice (some ⟨r, 0, none⟩) 0 1) x h = some (.slice (some ⟨r, 0, none⟩) 0 1, h) := by
  simp only [aAppend, ha, hl, hx, vLen, Nat.ble_eq_true_of_le hb, cond_true]; rfl
theorem sl_nil (t : TypeId) (x y : Operand) {ti : TI} {e : TypeId} (ht : T.get t = some ti) (hu : ti.und = .slice e) : aBin Tryz.prog T .eql t x y (.slice none 0 0) (.slice none 0 0) = some (.bool true) := by
  refine bi_eq rfl rfl rfl ?_
  obtain ⟨_, _, _, _, _, u⟩ := tyOK.ok t ti ht
  rw [hu] at u
  refine equal_run fun d => ?_
  simp only [Op.equalIn, underlying, bind_assoc, pureRun_program, u, pure_bind, pureRun_pure, Option.isNone]
theorem sl_some (t : TypeId) (x y : Operand) {ti : TI} {e : TypeId} {a : Addr} {n c : Nat} (ht : T.get t = some ti) (hu : ti.und = .slice e) : aBin Tryz.prog T .eql t x y (.slice (some a) n c) (.slice none 0 0) = some (.bool false) := by
  simp [aBin, flat, flat1, isCmp, aEq, ht, hu, noGuard]
def nilV : Value → Bool
  | .slice none _ _ => true
  | _ => false
theorem clone_c (h : AHeap) (l : List Rec) (v : Value) (hs : RS h l v) (hl : l.length ≤ 1000000) : ∃ v' H, FWp Tryz.prog 75 [v] h (fun u g => u = v' ∧ g = H) ∧ OS H h.next l v' ∧ nilV v' = nilV v ∧ h.next ≤ H.next ∧ ∀ z, z < h.next → H.get z = h.get z := by
  obtain ⟨b, c, rfl, ⟨rfl, hn, rfl⟩ | ⟨r, off, rfl, hr⟩⟩ := hs.ex
  · refine ⟨_, h, ?_, .nil (List.length_eq_zero_iff.1 hn), rfl, Nat.le_refl _, fun _ _ => rfl⟩
    rw [hn]
    refine W.enter tyOK Tryz.func75 rfl rfl ?_
    simp only [entry]
    refine Wr <| ja za <| On ?_
    refine W.seq <| Wr <| ja sm <| jx (zb (hv := sl_nil _ _ _ ty23 rfl)) <| On ?_
    refine Wy <| Wr <| ja za <| On ?_
    refine CWp.ret <| SQ.ret <| Jr ?_
    exact ⟨rfl, rfl⟩
  · by_cases h0 : l.length = 0
    · refine ⟨.slice (some ⟨h.next, 0, none⟩) 0 1, h.new (.cells [] 4), ?_, .emp (List.length_eq_zero_iff.1 h0) (Nat.le_refl _) xI (zQ), rfl, by simp, fun z hz => zN xA⟩
      rw [h0]
      refine W.enter tyOK Tryz.func75 rfl rfl ?_
      simp only [entry]
      refine Wr <| ja za <| On ?_
      have jY := An ty23 <| ty27
      refine W.seq <| Wr <| ja sm <| jf (zb (hv := sl_some _ _ _ ty23 rfl)) <| On ?_
      refine Wn <| CWp.skip <| SQ.normal ?_
      refine Wr <| ja Jh <| ja sm <| ja (so_append xD (ap_z xL rfl rfl xK)) <| ja za <| On ?_
      refine CWp.ret <| Jr ?_
      exact ⟨rfl, rfl⟩
    · obtain ⟨hr1, vs, hr2, hr3⟩ := hr h0
      have e0 : Nat.beq (l.length * 4) 0 = false := by
        cases e : Nat.beq (l.length * 4) 0 with
        | false => rfl
        | true => have := Nat.eq_of_beq_eq_true e; omega
      have hx : aCells (h.new (.cells [] 4)) 4 l.length (.slice (some ⟨r, off, none⟩) l.length c) = some (fl l) := by
        have e2 : rowOf (h.new (.cells [] 4)) r = some vs := by rw [rowOf_eq (zN xA)]; exact hr2
        simp only [aCells, e0, cond_false, Nat.ble_eq_true_of_le (Nat.le_refl l.length), cond_true, e2, hr3]
      refine ⟨.slice (some ⟨h.next + 1, 0, none⟩) l.length 0, (h.new (.cells [] 4)).new (.cells (fl l) 4), ?_, .some (fun e => h0 (by rw [e]; rfl)) rfl xA xI xM, rfl, by simp only [nx]; omega, fun z hz => by simp (disch := first | omega | simp only [nx]; omega) only [hpl]⟩
      refine W.enter tyOK Tryz.func75 rfl rfl ?_
      simp only [entry]
      refine Wr <| ja za <| On ?_
      have jY := An ty23 <| ty27
      refine W.seq <| Wr <| ja sm <| jf (zb (hv := sl_some _ _ _ ty23 rfl)) <| On ?_
      refine Wn <| CWp.skip <| SQ.normal ?_
      refine Wr <| ja Jh <| ja sm <| Oa rfl (so_append xD (ap_k0 xL rfl hx (by show (2 * (0 + l.length) + 256) * 48 ≤ _; omega) h0)) rfl <| ja za <| On ?_
      refine CWp.ret <| Jr ?_
      exact ⟨rfl, rfl⟩
theorem own_c (h : AHeap) (p : Lf) (bv dv : Value) (hb : RS h p.base bv) (hd : RS h p.deltas dv) (hlb : p.base.length ≤ 1000000) (hld : p.deltas.length ≤ 1000000) :
    ∃ bv' dv' H m, FWp Tryz.prog 36 [LV p bv dv] h (fun u g => u = LV p bv' dv' ∧ g = H) ∧ OS H h.next p.base bv' ∧ OS H m p.deltas dv' ∧ (∀ r c n, bv' = .slice (some ⟨r, 0, none⟩) n c → r < m) ∧ (nilV bv' = nilV bv ∧ nilV dv' = nilV dv) ∧ h.next ≤ m ∧ m ≤ H.next ∧ ∀ z, z < h.next → H.get z = h.get z := by
  obtain ⟨b1, c1, rfl⟩ := hb.form
  obtain ⟨b2, c2, rfl⟩ := hd.form
  obtain ⟨v1, H1, w1, o1, f1, n1, k1⟩ := clone_c ((h.new (.cells (lcs p (.slice b1 p.base.length c1) (.slice b2 p.deltas.length c2)) 1)).new (.cells [.string ⟨#[]⟩, .string ⟨#[]⟩, U64 0, .slice none 0 0, .slice none 0 0] 1)) p.base (.slice b1 p.base.length c1) (hb.mono xG (fun z hz => by simp (disch := first | omega | simp only [nx]; omega) only [hpl])) hlb
  obtain ⟨v2, H2, w2, o2, f2, n2, k2⟩ := clone_c H1 p.deltas (.slice b2 p.deltas.length c2) (hd.mono (by simp at n1; omega) (fun z hz => by rw [k1 z xG]; simp (disch := first | omega | simp only [nx]; omega) only [hpl])) hld
  simp only [nx] at n1
  obtain ⟨x1, y1, z1, rfl⟩ : ∃ b n c, v1 = .slice b n c := by cases o1 <;> exact ⟨_, _, _, rfl⟩
  obtain ⟨x2, y2, z2, rfl⟩ : ∃ b n c, v2 = .slice b n c := by cases o2 <;> exact ⟨_, _, _, rfl⟩
  have g0 : H1.get h.next = some (.cells (lcs p (.slice b1 p.base.length c1) (.slice b2 p.deltas.length c2)) 1) := by rw [k1 _ xF]; simp (disch := first | omega | simp only [nx]; omega) only [hpl]
  have g1 : H2.get h.next = some (.cells (lcs p (.slice b1 p.base.length c1) (.slice b2 p.deltas.length c2)) 1) := by rw [k2 _ xA]; exact g0
  have g2 : H2.get (h.next + 1) = some (.cells [.string ⟨#[]⟩, .string ⟨#[]⟩, U64 0, .slice none 0 0, .slice none 0 0] 1) := by rw [k2 _ xA, k1 _ xF]; simp (disch := first | omega | simp only [nx]; omega) only [hpl]
  have key : ∀ H, FWp Tryz.prog 36 [LV p (.slice b1 p.base.length c1) (.slice b2 p.deltas.length c2)] h (fun u g => u = LV p (.slice x1 y1 z1) (.slice x2 y2 z2) ∧ g = H) → (H.next = H2.next ∧ ∀ z, ¬ z = h.next → ¬ z = h.next + 1 → H.get z = H2.get z) → ∃ bv' dv' H m, FWp Tryz.prog 36 [LV p (.slice b1 p.base.length c1) (.slice b2 p.deltas.length c2)] h (fun u g => u = LV p bv' dv' ∧ g = H) ∧ OS H h.next p.base bv' ∧ OS H m p.deltas dv' ∧ (∀ r c n, bv' = .slice (some ⟨r, 0, none⟩) n c → r < m) ∧ (nilV bv' = nilV (.slice b1 p.base.length c1) ∧ nilV dv' = nilV (.slice b2 p.deltas.length c2)) ∧ h.next ≤ m ∧ m ≤ H.next ∧ ∀ z, z < h.next → H.get z = h.get z := by
    rintro H hf ⟨hn, hk⟩
    refine ⟨_, _, H, H1.next, hf, ?_, ?_, ?_, ⟨f1, f2⟩, by omega, by omega, fun z hz => ?_⟩
    · have o1' : OS H2 (h.next + 2) p.base (.slice x1 y1 z1) := o1.mono n2 fun z _ hz => k2 z hz
      have o1'' : OS H (h.next + 2) p.base (.slice x1 y1 z1) := o1'.mono xA fun z hz _ => hk z xA xA
      cases o1'' with
      | nil e => exact .nil e
      | emp e h1 h2 h3 => exact .emp e xA h2 h3
      | some e hn h1 h2 h3 => exact .some e hn xA h2 h3
    · exact o2.mono xA fun z hz _ => hk z xA xA
    · intro r c n e
      cases o1 with
      | nil _ => cases e
      | emp _ _ h2 _ => cases e; exact h2
      | some _ _ _ h2 _ => cases e; exact h2
    · rw [hk z xA xA, k2 z xA, k1 z xG]; simp (disch := first | omega | simp only [nx]; omega) only [hpl]
  apply key
  · refine W.enter tyOK Tryz.func36 rfl rfl ?_
    simp only [entry]
    have jY := ty25
    refine Wr <| ja Zx <| ja Jo <| On ?_
    have jY := An @g0 <| An @g1 <| An @g2 <| An ty23 <| ty25
    refine W.seq <| CWp.sqd tyOK mixed (ms := [0, 1, 3, 0, 8, 31, 31, 127, 255, 511]) xJ (
        jR J25f3 <| js Jl <| ju (Jc en75 (w1)) rfl <| jR J25f4 <| .read rfl rfl Jl xC ⟨.inr Jl, trivial⟩ rfl <| ju (Jc en75 (w2)) rfl <| jR J25f3 <| jt Js rfl <| jR J25f4 <| jt Js rfl <| .nil) <| SQ.normal ?_
    refine Wr <| ja Jl <| jc Js <| On ?_
    refine CWp.ret <| Jr ?_
    exact ⟨rfl, rfl⟩
  · exact ⟨rfl, fun z h1 h2 => by simp (disch := first | omega | simp only [nx]; omega) only [hpl]⟩
end Go.Proofs.YtebheelmgcggmaaGreat
namespace Go.Proofs.YtebheelmgcggmaaGreat
open Go.Ab Go.Sort
theorem OS.form {h : AHeap} {lo : Nat} {l : List Rec} {v : Value} (s : OS h lo l v) : ∃ b c, v = .slice b l.length c := by
  cases s with
  | nil e => subst e; exact ⟨_, _, rfl⟩
  | emp e _ _ _ => subst e; exact ⟨_, _, rfl⟩
  | some e hn _ _ _ => subst hn; exact ⟨_, _, rfl⟩
theorem OS.low {h : AHeap} {lo lo' : Nat} {l : List Rec} {v : Value} (s : OS h lo l v) (hl : lo' ≤ lo) : OS h lo' l v := by
  cases s with
  | nil e => exact .nil e
  | emp e h1 h2 h3 => exact .emp e xA h2 h3
  | some e hn h1 h2 h3 => exact .some e hn xA h2 h3
theorem OS.row {h : AHeap} {lo : Nat} {l : List Rec} {z n c : Nat} (s : OS h lo l (.slice (Option.some ⟨z, 0, none⟩) n c)) : lo ≤ z ∧ z < h.next := by
  cases s with
  | emp _ h1 h2 _ => exact ⟨h1, h2⟩
  | some _ _ h1 h2 _ => exact ⟨h1, h2⟩
theorem fl_one (x : Rec) : oneCells x.cs = true := rfl
theorem os_app {g : AHeap} {lo q : Nat} {l : List Rec} {v : Value} (s : OS g lo l v) (x : Rec) (hq : g.get q = some (.cells x.cs 4)) (hl : l.length ≤ 1000000) :
    ∃ H, (∀ ats A, appT T ats = some A → A.size = 4 → A.bytes ≤ 100 → aAppend T ats v (.slice (some ⟨q, 0, none⟩) 1 2) g = some (.slice (some ⟨g.next, 0, none⟩) (l.length + 1) 0, H)) ∧ H.next = g.next + 1 ∧ H.get g.next = some (.cells (fl (l ++ [x])) 4) ∧ ∀ z, z < g.next → (∀ n c, v ≠ .slice (some ⟨z, 0, none⟩) n c) → H.get z = g.get z := by
  have hx : aCells g 4 1 (.slice (some ⟨q, 0, none⟩) 1 2) = some x.cs := by simp only [aCells, rowOf, hq]; rfl
  cases s with
  | nil e =>
    subst e
    refine ⟨g.new (.cells x.cs 4), fun ats A h1 h2 h3 => ?_, rfl, ?_, fun z hz _ => zN xA⟩
    · have := ap_0 (h := g) (k := 1) h1 rfl (by rw [h2]; exact hx) (by have : (2 * (0 + 1) + 256) * A.bytes ≤ 258 * 100 := Nat.mul_le_mul xA h3; omega) rfl
      rw [h2] at this; exact this
    · rw [AHeap.get_new_same]; simp [fl]
  | @emp r e h1 h2 h3 =>
    subst e
    refine ⟨g.new (.cells x.cs 4), fun ats A k1 k2 k3 => ?_, rfl, ?_, fun z hz _ => zN xA⟩
    · have := ap_k0 (h := g) (r := r) (k := 1) k1 rfl (by rw [k2]; exact hx) (by have : (2 * (0 + 1) + 256) * A.bytes ≤ 258 * 100 := Nat.mul_le_mul xA k3; omega) xA
      rw [k2] at this; exact this
    · rw [AHeap.get_new_same]; simp [fl]
  | @some r n e hn h1 h2 h3 =>
    subst hn
    refine ⟨(g.kill r).new (.cells (fl l ++ x.cs) 4), fun ats A k1 k2 k3 => ?_, rfl, ?_, fun z hz hz2 => by have hz3 : ¬ r = z := fun e => hz2 _ _ (by rw [e]); simp (disch := first | omega | simp only [nx]; omega) only [hpl]⟩
    · have := ap_u (len := l.length) (k := 1) k1 rfl (by rw [k2]; exact hx) (by have : (2 * (l.length + 1) + 256) * A.bytes ≤ 2000260 * 100 := Nat.mul_le_mul xA k3; omega) rfl (by rw [k2]; exact h3) (fl_one x) (by rw [k2]; exact cellsOf_all (fl_length l))
      rw [k2] at this; exact this
    · have e1 : ((g.kill r).new (.cells (fl l ++ x.cs) 4)).get g.next = Option.some (.cells (fl l ++ x.cs) 4) := AHeap.get_new_same (g.kill r) _
      rw [e1, fl_app]; simp [fl]
theorem insL_perm {r : Rec} : ∀ {l : List Rec}, (insL r l).Perm (l ++ [r])
  | [] => .refl _
  | a :: l => by
    simp only [insL]
    split
    · exact (insL_perm (l := l)).cons a
    · exact (List.perm_append_comm (l₁ := [r]) (l₂ := a :: l))
theorem sortR_x (h : AHeap) (y N : Nat) (l k : List Rec) (hy : y < h.next) (hN : l.length = N) (hsz : N < 1000000000) (hg : h.get y = some (.cells (fl l) 4)) (hk : k.Perm l) (hs : k.Pairwise fun a b => ltL a b = true) :
    FWp Tryz.prog 40 [.slice (some ⟨y, 0, none⟩) N 0, SortR.CF] h fun u h' => u = .tuple #[] ∧ h' = h.set y (.cells (fl k) 4) := by
  have hc := SortR.sort_c h y N hy hsz l.toArray (by simpa using hN)
  have e0 : h.set y (SortR.row l.toArray) = h := by rw [AHeap.set_self]; simpa [SortR.row] using hg
  rw [e0] at hc
  refine hc.mono ?_
  rintro u h' ⟨rfl, d', rfl, hp, hso⟩
  refine ⟨rfl, ?_⟩
  have hd : d'.size = N := by rw [hp.1]; simpa using hN
  have hpl : d'.toList.Perm l := by
    have := hp.2.2
    simp only [Array.toList_extract] at this
    have e1 : d'.toList.extract 0 N = d'.toList := by rw [List.extract_eq_take_drop, List.drop_zero, Nat.sub_zero, List.take_of_length_le (by simp [hd])]
    have e2 : l.extract 0 N = l := by rw [List.extract_eq_take_drop, List.drop_zero, Nat.sub_zero, List.take_of_length_le xA]
    simp only [e1, e2] at this
    exact this
  have hso' : d'.toList.Pairwise fun a b => ltL b a = false := by
    rw [List.pairwise_iff_getElem]
    intro i j hi hj hij
    have := hso i j xA hij (by simpa [hd] using hj)
    rw [getElem!_pos _ j (by simpa using hj), getElem!_pos _ i xY] at this
    simpa using this
  have e : d'.toList = k := by
    refine List.Perm.eq_of_pairwise (le := fun a b => ltL b a = false) (fun a b ha hb h3 h4 => ?_) hso' (hs.imp fun {a b} h => by simp only [ltL, decide_eq_true_eq, decide_eq_false_iff_not] at h ⊢; omega) (hpl.trans hk.symm)
    have ha' : a ∈ k := (hpl.trans hk.symm).mem_iff.1 ha
    by_cases hab : a = b
    · exact hab
    · have h5 : ∀ {k : List Rec}, (k.Pairwise fun a b => ltL a b = true) → a ∈ k → b ∈ k → a = b := fun {k} hk => by
        induction k with
        | nil => intro h; cases h
        | cons z k ih =>
          obtain ⟨z1, z2⟩ := List.pairwise_cons.1 hk
          intro ha hb
          simp only [ltL, decide_eq_true_eq, decide_eq_false_iff_not] at h3 h4 z1
          cases ha with
          | head => cases hb with
            | head => rfl
            | tail _ hb => have := z1 b hb; omega
          | tail _ ha => cases hb with
            | head => have := z1 a ha; omega
            | tail _ hb => exact ih z2 ha hb
      exact h5 hs ha' hb
  rw [SortR.row, e]
theorem apply_c (h : AHeap) (p : Lf) (bv dv : Value) (r : Rec) (hb : RS h p.base bv) (hd : RS h p.deltas dv) (hlb : p.base.length ≤ 1000000) (hld : p.deltas.length ≤ 1000000) :
    ∃ bv' dv' H, FWp Tryz.prog 9 [LV p bv dv, r.V] h (fun u g => u = .tuple #[LV (appM p r) bv' dv', .bool (appOK p r)] ∧ g = H) ∧ RSl H h.next p.base bv' ∧ RSl H h.next (appM p r).deltas dv' ∧ h.next ≤ H.next ∧ ∀ z, z < h.next → H.get z = h.get z := by
  have tb9 := And.intro ty23 (And.intro ty25 (ty27))
  obtain ⟨b1, c1, rfl⟩ := hb.form
  obtain ⟨b2, c2, rfl⟩ := hd.form
  obtain ⟨h3, hh3⟩ : ∃ h3, h3 = ((h.new (.cells (lcs p (.slice b1 p.base.length c1) (.slice b2 p.deltas.length c2)) 1)).new (.cells r.cs 1)).new (.cells [.string ⟨#[]⟩, .string ⟨#[]⟩, U64 0, .slice none 0 0, .slice none 0 0] 1) := ⟨_, rfl⟩
  have e3 : h3.next = h.next + 3 := by rw [hh3]; rfl
  have k3 : ∀ z, z < h.next → h3.get z = h.get z := fun z hz => by rw [hh3]; simp (disch := first | omega | simp only [nx]; omega) only [hpl]
  obtain ⟨bv', dv', H1, m, w, ob, od, hsep, _, hm1, hm2, hk⟩ := own_c h3 p _ _ (hb.mono xA k3) (hd.mono xA k3) hlb hld
  rw [e3] at ob hm1 hk
  have q0 : H1.get h.next = some (.cells (lcs p (.slice b1 p.base.length c1) (.slice b2 p.deltas.length c2)) 1) := by rw [hk _ xA, hh3]; simp (disch := first | omega | simp only [nx]; omega) only [hpl]
  have q1 : H1.get (h.next + 1) = some (.cells r.cs 1) := by rw [hk _ xA, hh3]; simp (disch := first | omega | simp only [nx]; omega) only [hpl]
  have q2 : H1.get (h.next + 2) = some (.cells [.string ⟨#[]⟩, .string ⟨#[]⟩, U64 0, .slice none 0 0, .slice none 0 0] 1) := by rw [hk _ xA, hh3]; simp (disch := first | omega | simp only [nx]; omega) only [hpl]
  have kk : ∀ z, z < h.next → H1.get z = h.get z := fun z hz => by rw [hk z xA]; exact k3 z hz
  obtain ⟨x1, y1, rfl⟩ := ob.form
  obtain ⟨x2, y2, rfl⟩ := od.form
  -- what is left to be shown where nothing is put in
  have key : appOK p r = false → ∀ H, FWp Tryz.prog 9 [LV p (.slice b1 p.base.length c1) (.slice b2 p.deltas.length c2), r.V] h (fun u g => u = .tuple #[LV p (.slice x1 p.base.length y1) (.slice x2 p.deltas.length y2), .bool false] ∧ g = H) → (H1.next ≤ H.next ∧ ∀ z, z < H1.next → ¬ z = h.next + 2 → H.get z = H1.get z) → ∃ bv' dv' H, FWp Tryz.prog 9 [LV p (.slice b1 p.base.length c1) (.slice b2 p.deltas.length c2), r.V] h (fun u g => u = .tuple #[LV (appM p r) bv' dv', .bool (appOK p r)] ∧ g = H) ∧ RSl H h.next p.base bv' ∧ RSl H h.next (appM p r).deltas dv' ∧ h.next ≤ H.next ∧ ∀ z, z < h.next → H.get z = h.get z := by
    rintro hno H hf ⟨hn, hkH⟩
    have e : appM p r = p := by simp [appM, hno]
    rw [hno, e]
    exact ⟨_, _, H, hf, ((ob.mono hn fun z h1 h2 => hkH z h2 xA).low xA).rsl, ((od.mono hn fun z h1 h2 => hkH z h2 xA).low xA).rsl, by omega, fun z hz => by rw [hkH z xA xA]; exact kk z hz⟩
  have hmay := fun H : AHeap => fun (hn : h.next ≤ H.next) (hk : ∀ z, z < h.next → H.get z = h.get z) => may'_c H p _ _ (hb.mono hn hk) (hd.mono hn hk) hlb hld
  have hfit := fun H : AHeap => fits_c H p (.slice b1 p.base.length c1) (.slice b2 p.deltas.length c2) r
  have hold := fun H : AHeap => fun (hn : h.next ≤ H.next) (hk : ∀ z, z < h.next → H.get z = h.get z) => old_c H p _ _ r (hb.mono hn hk) (hd.mono hn hk) hlb hld
  have k1 : ∀ o, ∀ z, z < h.next → (H1.new o).get z = h.get z := fun o z hz => by rw [zN xA]; exact kk z hz
  cases f1 : chk p with
  | false =>
    rw [f1] at hmay
    apply key (by simp [appOK, f1])
    · refine W.enter tyOK Tryz.func9 rfl rfl ?_
      simp only [entry]
      have jY := ty25
      refine Wr <| ja Zx <| ja Zx <| ja Jo <| jF za rfl <| On ?_
      have jY := An @q0 <| An @q1 <| An @q2 <| An @rcl <| An ty25 <| tb9
      refine Wr <| ja Jl <| jk (Jc en36 (xX)) rfl <| ja Jo <| jc Js <| On ?_
      refine W.seq <| Wr <| ja Jl <| jk (Jc en37 (hmay _ xF (k1 _))) rfl <| jE Zt rfl <| jE sm rfl <| jp rfl <| jp rfl <| jp rfl <| jp rfl <| jE Zp rfl <| jE sm rfl <| jp rfl <| jp rfl <| jp rfl <| jE Zp rfl <| jE sm rfl <| jp rfl <| jp rfl <| jp rfl <| jp rfl <| jE Zp rfl <| On ?_
      refine Wy <| Wr <| ja Jl <| jc Js <| jF za rfl <| On ?_
      refine CWp.ret <| SQ.ret <| Jr ?_
      exact ⟨rfl, rfl⟩
    · exact ⟨by simp only [nx]; omega, fun z h1 h2 => by simp (disch := first | omega | simp only [nx]; omega) only [hpl]⟩
  | true =>
  rw [f1] at hmay
  cases f2 : fit p.low p.high r with
  | false =>
    rw [f2] at hfit
    apply key (by simp [appOK, f1, f2])
    · refine W.enter tyOK Tryz.func9 rfl rfl ?_
      simp only [entry]
      have jY := ty25
      refine Wr <| ja Zx <| ja Zx <| ja Jo <| jF za rfl <| On ?_
      have jY := An @q0 <| An @q1 <| An @q2 <| An @rcl <| An ty25 <| An ty27 <| tb9
      refine Wr <| ja Jl <| jk (Jc en36 (xX)) rfl <| ja Jo <| jc Js <| On ?_
      refine W.seq <| Wr <| ja Jl <| jk (Jc en37 (hmay _ xF (k1 _))) rfl <| jF Zt rfl <| jF sm rfl <| ja Jl <| ja Jl <| jk (Jc en38 (hfit _)) rfl <| jE Zt rfl <| jE Zp rfl <| jE sm rfl <| jp rfl <| jp rfl <| jp rfl <| jE Zp rfl <| jE sm rfl <| jp rfl <| jp rfl <| jp rfl <| jp rfl <| jE Zp rfl <| On ?_
      refine Wy <| Wr <| ja Jl <| jc Js <| jF za rfl <| On ?_
      refine CWp.ret <| SQ.ret <| Jr ?_
      exact ⟨rfl, rfl⟩
    · exact ⟨by simp only [nx]; omega, fun z h1 h2 => by simp (disch := first | omega | simp only [nx]; omega) only [hpl]⟩
  | true =>
  rw [f2] at hfit
  cases f3 : oldM p r with
  | true =>
    rw [f3] at hold
    apply key (by simp [appOK, f1, f2, f3])
    · refine W.enter tyOK Tryz.func9 rfl rfl ?_
      simp only [entry]
      have jY := ty25
      refine Wr <| ja Zx <| ja Zx <| ja Jo <| jF za rfl <| On ?_
      have jY := An @q0 <| An @q1 <| An @q2 <| An @rcl <| An ty25 <| An ty27 <| tb9
      refine Wr <| ja Jl <| jk (Jc en36 (xX)) rfl <| ja Jo <| jc Js <| On ?_
      refine W.seq <| Wr <| ja Jl <| jk (Jc en37 (hmay _ xF (k1 _))) rfl <| jF Zt rfl <| jF sm rfl <| ja Jl <| ja Jl <| jk (Jc en38 (hfit _)) rfl <| jF Zt rfl <| jF Zp rfl <| jF sm rfl <| ja Jl <| ja Jl <| jk (Jc en39 (hold _ xF (k1 _))) rfl <| jE Zp rfl <| jE sm rfl <| jp rfl <| jp rfl <| jp rfl <| jp rfl <| jE Zp rfl <| On ?_
      refine Wy <| Wr <| ja Jl <| jc Js <| jF za rfl <| On ?_
      refine CWp.ret <| SQ.ret <| Jr ?_
      exact ⟨rfl, rfl⟩
    · exact ⟨by simp only [nx]; omega, fun z h1 h2 => by simp (disch := first | omega | simp only [nx]; omega) only [hpl]⟩
  | false =>
  rw [f3] at hold
  by_cases f4 : (p.deltas.length : Int) ≥ 64
  · apply key (by simp [appOK, f1, f2, f3]; omega)
    · refine W.enter tyOK Tryz.func9 rfl rfl ?_
      simp only [entry]
      have jY := ty25
      refine Wr <| ja Zx <| ja Zx <| ja Jo <| jF za rfl <| On ?_
      have jY := An @q0 <| An @q1 <| An @q2 <| An @rcl <| An ty25 <| An ty27 <| An ty23 <| tb9
      refine Wr <| ja Jl <| jk (Jc en36 (xX)) rfl <| ja Jo <| jc Js <| On ?_
      refine W.seq <| Wr <| ja Jl <| jk (Jc en37 (hmay _ xF (k1 _))) rfl <| jF Zt rfl <| jF sm rfl <| ja Jl <| ja Jl <| jk (Jc en38 (hfit _)) rfl <| jF Zt rfl <| jF Zp rfl <| jF sm rfl <| ja Jl <| ja Jl <| jk (Jc en39 (hold _ xF (k1 _))) rfl <| jF Zp rfl <| jF sm rfl <| ja J25f4 <| ja Jl <| ja Jn <| je Jx <| jE Zp rfl <| On ?_
      refine Wy <| Wr <| ja Jl <| jc Js <| jF za rfl <| On ?_
      refine CWp.ret <| SQ.ret <| Jr ?_
      exact ⟨rfl, rfl⟩
    · exact ⟨by simp only [nx]; omega, fun z h1 h2 => by simp (disch := first | omega | simp only [nx]; omega) only [hpl]⟩
  have ok : appOK p r = true := by simp [appOK, f1, f2, f3]; omega
  have eM : appM p r = { p with deltas := insL r p.deltas } := by simp [appM, ok]
  -- the leaf's copy, and the record in a row of its own
  obtain ⟨G, hG⟩ : ∃ G, G = (H1.new (.cells (lcs p (.slice x1 p.base.length y1) (.slice x2 p.deltas.length y2)) 1)).new (.cells r.cs 4) := ⟨_, rfl⟩
  have nG : G.next = H1.next + 2 := by rw [hG]; rfl
  have kG : ∀ z, z < H1.next → G.get z = H1.get z := fun z hz => by rw [hG]; simp (disch := first | omega | simp only [nx]; omega) only [hpl]
  obtain ⟨A, ap, nA, gA, kA⟩ := os_app (g := G) (od.mono xA fun z _ hz => kG z hz) r (q := H1.next + 1) (by rw [hG]; simp (disch := first | omega | simp only [nx]; omega) only [hpl]) hld
  rw [nG] at nA gA ap
  have kA' : ∀ z, z < H1.next + 2 → (z < m ∨ H1.next ≤ z) → A.get z = G.get z := fun z h1 h2 => kA z xA fun n c e => by
    rw [e] at od
    have := od.row
    omega
  have a0 : A.get H1.next = some (.cells (lcs p (.slice x1 p.base.length y1) (.slice x2 p.deltas.length y2)) 1) := by rw [kA' _ xA xA, hG]; simp (disch := first | omega | simp only [nx]; omega) only [hpl]
  have a1 : A.get (h.next + 2) = some (.cells [.string ⟨#[]⟩, .string ⟨#[]⟩, U64 0, .slice none 0 0, .slice none 0 0] 1) := by rw [kA' _ xA xA, kG _ xA]; exact q2
  have hso := sortR_x (A.set H1.next (.cells (lcs p (.slice x1 p.base.length y1) (.slice (some ⟨H1.next + 2, 0, none⟩) (p.deltas.length + 1) 0)) 1)) (H1.next + 2) (p.deltas.length + 1) (p.deltas ++ [r]) (insL r p.deltas) xF xI xA (by simp (disch := first | omega | simp only [nx]; omega) only [hpl]; exact gA) insL_perm (insL_pw (risB_pw ltL_trans (by simp only [chk, Bool.and_eq_true] at f1; exact f1.2.2.2)) (by
    intro x hx e
    simp only [oldM, Bool.or_eq_false_iff, List.any_eq_false, decide_eq_true_eq] at f3
    exact f3.2.2 x hx e))
  have key2 : ∀ H, FWp Tryz.prog 9 [LV p (.slice b1 p.base.length c1) (.slice b2 p.deltas.length c2), r.V] h (fun u g => u = .tuple #[LV p (.slice x1 p.base.length y1) (.slice (some ⟨H1.next + 2, 0, none⟩) (p.deltas.length + 1) 0), .bool true] ∧ g = H) → (A.next ≤ H.next ∧ H.get (H1.next + 2) = some (.cells (fl (insL r p.deltas)) 4) ∧ ∀ z, z < H1.next → ¬ z = h.next + 2 → H.get z = A.get z) → ∃ bv' dv' H, FWp Tryz.prog 9 [LV p (.slice b1 p.base.length c1) (.slice b2 p.deltas.length c2), r.V] h (fun u g => u = .tuple #[LV (appM p r) bv' dv', .bool (appOK p r)] ∧ g = H) ∧ RSl H h.next p.base bv' ∧ RSl H h.next (appM p r).deltas dv' ∧ h.next ≤ H.next ∧ ∀ z, z < h.next → H.get z = h.get z := by
    rintro H hf ⟨hn, hy, hkH⟩
    have hs : OS H (h.next + 3) p.base (.slice x1 p.base.length y1) := by
      have hz : ∀ z, h.next + 3 ≤ z → z < m → H.get z = H1.get z := fun z h1 h2 => by rw [hkH z xA xA, kA' z xA xA, kG z xA]
      generalize hv : Value.slice x1 p.base.length y1 = v at ob ⊢
      cases ob with
      | nil e => exact .nil e
      | emp e h1 h2 h3 => exact .emp e h1 xA (by rw [hz _ h1 (hsep _ _ _ hv)]; exact h3)
      | some e hn h1 h2 h3 => exact .some e hn h1 xA (by rw [hz _ h1 (hsep _ _ _ hv)]; exact h3)
    rw [ok, eM]
    refine ⟨_, _, H, hf, (hs.low xA).rsl, ⟨⟨_, _, by rw [insL_length], .inr ⟨_, _, rfl, fun _ => ⟨by omega, _, by simp only [rowOf, hy], cellsOf_all (fl_length _)⟩⟩⟩, fun a n c e9 => by cases e9; show h.next ≤ H1.next + 2; omega⟩, by omega, fun z hz => by rw [hkH z xA xA, kA' z xA xA, kG z xA]; exact kk z hz⟩
  rw [hG] at ap
  apply key2
  · refine W.enter tyOK Tryz.func9 rfl rfl ?_
    simp only [entry]
    have jY := ty25
    refine Wr <| ja Zx <| ja Zx <| ja Jo <| jF za rfl <| On ?_
    have jY := An @q0 <| An @q1 <| An @q2 <| An @a0 <| An @a1 <| An @rcl <| An ty25 <| An ty27 <| An ty23 <| tb9
    refine Wr <| ja Jl <| jk (Jc en36 (xX)) rfl <| ja Jo <| jc Js <| On ?_
    refine W.seq <| Wr <| ja Jl <| jk (Jc en37 (hmay _ xF (k1 _))) rfl <| jF Zt rfl <| jF sm rfl <| ja Jl <| ja Jl <| jk (Jc en38 (hfit _)) rfl <| jF Zt rfl <| jF Zp rfl <| jF sm rfl <| ja Jl <| ja Jl <| jk (Jc en39 (hold _ xF (k1 _))) rfl <| jF Zp rfl <| jF sm rfl <| ja J25f4 <| ja Jl <| ja Jn <| jf Jx <| jF Zp rfl <| On ?_
    refine Wn <| CWp.skip <| SQ.normal ?_
    refine Wr <| ja J25f4 <| ja Jl <| ja Jl <| ja Jh <| ja (so_append xD (ap _ _ xL rfl xK)) <| ja J25f4 <| jc Js <| On ?_
    refine Wr <| ja J25f4 <| ja Jl <| jk (Jc en40 (hso)) rfl <| On ?_
    refine Wr <| ja Jl <| jc Js <| jE za rfl <| On ?_
    refine CWp.ret <| Jr ?_
    exact ⟨rfl, rfl⟩
  · refine ⟨by simp only [nx]; omega, by simp (disch := first | omega | simp only [nx]; omega) only [hpl], fun z h1 h2 => by simp (disch := first | omega | simp only [nx]; omega) only [hpl]⟩
end Go.Proofs.YtebheelmgcggmaaGreat
namespace Go.Proofs.YtebheelmgcggmaaGreat
open Go.Ab Go.Sort
def zrec : List Value := [.string ⟨#[]⟩, U64 0, .bool false, .string ⟨#[]⟩]
theorem del_c (h : AHeap) (r : Nat) (l : List Rec) (fv : Value) (P : Rec → Bool) (J : List Rec → AHeap → Prop) (hne : l ≠ []) (hl : l.length ≤ 1000000) (hr : r < h.next) (hg : h.get r = some (.cells (fl l) 4)) (j0 : J [] h)
    (jset : ∀ pre g o, J pre g → J pre (g.set r o)) (jnew : ∀ pre g o, J pre g → J pre (g.new o)) (jn : ∀ pre g, J pre g → h.next ≤ g.next)
    (ask : ∀ pre x post, pre ++ x :: post = l → ∀ g, J pre g → VWp Tryz.prog fv [x.V] g fun u g' => u = .bool (P x) ∧ J (pre ++ [x]) g' ∧ g'.get r = g.get r ∧ ∀ z, h.next ≤ z → z < g.next → g'.get z = g.get z) :
    FWp Tryz.prog 53 [.slice (some ⟨r, 0, none⟩) l.length 0, fv] h fun u g => u = .slice (some ⟨r, 0, none⟩) (l.filter fun x => !P x).length 0 ∧ J l g ∧ ∃ rest, g.get r = some (.cells (fl (l.filter fun x => !P x) ++ rest) 4) := by
  refine W.enter tyOK Tryz.func53 rfl rfl ?_
  simp only [entry]
  have hix := ixf_c h l (.slice (some ⟨r, 0, none⟩) l.length 0) fv P (fun pre g => J pre g ∧ g.get r = h.get r) ⟨j0, rfl⟩ (fun pre g hj => ⟨_, _, rfl, .inr ⟨_, _, rfl, fun _ => ⟨by have := jn _ _ hj.1; omega, _, by simp only [rowOf, hj.2, hg], cellsOf_all (fl_length l)⟩⟩⟩) hl (fun pre x post hp g hj => (ask pre x post hp g hj.1).mono fun u g' hu => ⟨hu.1, hu.2.1, by rw [hu.2.2.1, hj.2]⟩)
  have hix2 : FWp Tryz.prog 90 [.slice (some ⟨r, 0, none⟩) l.length 0, fv] h fun u g => ∃ i : Int, u = I64 i ∧ g.get r = h.get r ∧ ((i = -1 ∧ J l g ∧ ∀ x ∈ l, P x = false) ∨ ∃ pre x post, pre ++ x :: post = l ∧ (∀ y ∈ pre, P y = false) ∧ P x = true ∧ i = pre.length ∧ J (pre ++ [x]) g) := hix.mono fun u g hu => by
    rcases hu with ⟨rfl, hj, hn⟩ | ⟨pre, x, post, e, hn, hP, rfl, hj⟩
    · exact ⟨-1, rfl, hj.2, .inl ⟨rfl, hj.1, hn⟩⟩
    · exact ⟨_, rfl, hj.2, .inr ⟨pre, x, post, e, hn, hP, rfl, hj.1⟩⟩
  refine Wr <| ja za <| On ?_
  refine Wr <| ja sm <| ja sm <| jm (Jc en90 (hix2)) ?_
  rintro _ g ⟨i, rfl, hgr, hi⟩
  refine ⟨_, rfl, ?_⟩
  refine ja za <| On ?_
  refine W.seq <| ?_
  skip
  rw [hg] at hgr
  rcases hi with ⟨rfl, hj, hn⟩ | ⟨pre, x, post, e, hn, hP, rfl, hj⟩
  · have ef : (l.filter fun x => !P x) = l := List.filter_eq_self.2 fun x hx => by rw [hn x hx]; rfl
    refine Wr <| ja sm <| jx Jy <| On ?_
    refine Wy <| Wr <| ja sm <| ja za <| On ?_
    refine CWp.ret <| SQ.ret <| Jr ?_
    rw [ef]
    exact ⟨rfl, hj, [], by rw [List.append_nil]; exact hgr⟩
  · have hlp : l.length = pre.length + 1 + post.length := by rw [← e]; simp; omega
    have w1 : IntKind.i64.wrap ((pre.length : Int) + 1) = ((pre.length + 1 : Nat) : Int) := by rw [wrap_i64 xA xA]; omega
    have b1 : ((pre.length : Int) == -1) = false := by first | (simp; done) | (simp; omega)
    refine Wr <| ja sm <| jF Jy (b1) <| On ?_
    refine Wn <| CWp.skip <| SQ.normal ?_
    have jW := @w1
    refine W.seq <| Wr <| ja sm <| ja Ja <| ja za <| On ?_
    have ef : ∀ k, (l.take (pre.length + 1 + k)).filter (fun x => !P x) = pre ++ (post.take k).filter fun x => !P x := fun k => by
      have e1 : l.take (pre.length + 1 + k) = pre ++ (x :: post.take k) := by
        rw [← e, show pre.length + 1 + k = pre.length + (k + 1) by omega, List.take_length_add_append, List.take_succ_cons]
      rw [e1, List.filter_append, List.filter_eq_self.2 (fun y hy => by rw [hn y hy]; rfl), List.filter_cons, hP]; rfl
    have hz0 : l.take (pre.length + 1) = pre ++ [x] := by
      rw [← e, List.take_length_add_append]; rfl
    refine W.cut (fun L g => ∃ R : List Rec, R.length = l.length ∧ R.take (l.filter fun x => !P x).length = (l.filter fun x => !P x) ∧ (l.filter fun x => !P x).length < l.length ∧ J l g ∧ g.get r = some (.cells (fl R) 4) ∧ L = [(0, .slice (some ⟨r, 0, none⟩) l.length 0), (1, fv), (5, I64 (l.filter fun x => !P x).length)]) (W.block (W.loop (fun m L g => ∃ (k : Nat) (R : List Rec), m + k = post.length ∧ R.length = l.length ∧ R.take ((l.take (pre.length + 1 + k)).filter fun x => !P x).length = ((l.take (pre.length + 1 + k)).filter fun x => !P x) ∧ R.drop (pre.length + 1 + k) = l.drop (pre.length + 1 + k) ∧ ((l.take (pre.length + 1 + k)).filter fun x => !P x).length ≤ pre.length + k ∧ J (l.take (pre.length + 1 + k)) g ∧ g.get r = some (.cells (fl R) 4) ∧
        L = [(0, .slice (some ⟨r, 0, none⟩) l.length 0), (1, fv), (5, I64 ((l.take (pre.length + 1 + k)).filter fun x => !P x).length), (6, I64 ((pre.length + 1 + k : Nat) : Int))]) (n := post.length) (L := [(0, .slice (some ⟨r, 0, none⟩) l.length 0), (1, fv), (5, I64 pre.length), (6, I64 ((pre.length + 1 : Nat) : Int))]) ⟨0, l, rfl, rfl, ?_, rfl, ?_, ?_, hgr, ?_⟩ ?_ ?_)) ?_
    · rw [ef 0]; simp [← e]
    · rw [ef 0]; simp
    · rw [Nat.add_zero, hz0]; exact hj
    · rw [ef 0]; simp
    · simp [HasA, Tr.get_put]
    · rintro m L g2 ⟨k, R, hm, hR1, hR2, hR3, hR4, hJ, hrow, rfl⟩
      simp only [mkA]
      obtain ⟨i, hi⟩ : ∃ i, i = ((l.take (pre.length + 1 + k)).filter fun x => !P x).length := ⟨_, rfl⟩
      rw [← hi] at hR2 hR4 ⊢
      have w2 : IntKind.i64.wrap (((pre.length + 1 + k : Nat) : Int) + 1) = ((pre.length + 1 + (k + 1) : Nat) : Int) := by rw [wrap_i64 xA xA]; omega
      have w3 : IntKind.i64.wrap ((i : Int) + 1) = ((i + 1 : Nat) : Int) := by rw [wrap_i64 xA xA]; omega
      by_cases hk : ((pre.length + 1 + k : Nat) : Int) < (l.length : Int)
      · obtain ⟨y, hy⟩ : ∃ y, l[pre.length + 1 + k]? = some y := ⟨l[pre.length + 1 + k]'xA, by simp⟩
        have hRy : R[pre.length + 1 + k]? = some y := by
          have := congrArg (fun z : List Rec => z[0]?) hR3
          simp only [List.getElem?_drop, Nat.add_zero] at this
          rw [this, hy]
        have c1 : (0 ≤ ((pre.length + 1 + k : Nat) : Int) ∧ ((pre.length + 1 + k : Nat) : Int) < (l.length : Int)) := by omega
        have hcell := fl_get hRy
        have htk : l.take (pre.length + 1 + (k + 1)) = l.take (pre.length + 1 + k) ++ [y] := by rw [← Nat.add_assoc, List.take_add_one, hy]; rfl
        have e1 : l.take (pre.length + 1 + k) ++ y :: l.drop (pre.length + 1 + k + 1) = l := by
          conv => rhs; rw [← List.take_append_drop (pre.length + 1 + k) l, List.drop_eq_getElem_cons xA]
          rw [(List.getElem?_eq_some_iff.1 hy).2]
        have hv := ask _ _ _ e1 _ (jnew _ _ (.cells y.cs 1) hJ)
        have hg3 : (g2.new (.cells y.cs 1)).get r = some (.cells (fl R) 4) := by
          have := jn _ _ hJ
          rw [zN xA]; exact hrow
        rw [hg3] at hv
        have hdr : R.drop (pre.length + 1 + (k + 1)) = l.drop (pre.length + 1 + (k + 1)) := by
          have := congrArg (List.drop 1) hR3
          rw [List.drop_drop, List.drop_drop] at this; exact this
        have hgn := jn _ _ hJ
        cases hPy : P y with
        | true =>
          rw [hPy] at hv
          have jY := An @hrow <| An @c1 <| An @sb <| An @hcell <| An @rcl <| An ty23 <| ty27
          refine W.seq <| Wr <| ja sm <| ja sm <| ja Jn <| jE Jt xW <| On ?_
          refine Wy <| CWp.skip <| SQ.normal ?_
          refine W.seq <| W.block <| Wr <| ja sm <| ja sm <| ja Ji <| ja (zl (hv := by simp (disch := first | omega | simp only [nx]; omega) only [aLoad, ty27, rowOf, hpl, hrow, c1, sb, hcell, rcl, Option.map_some, Value.cells, ty23, ty27] <;> rfl)) <| ja Jo <| Oa rfl (zs (hv := by simp (disch := first | omega | simp only [nx]; omega) only [aStore, ty27, writeRow, hpl, hrow, c1, sb, hcell, rcl, Option.map_some, Value.cells, ty23, ty27] <;> rfl)) rfl <| On ?_
          refine Wr <| ja sm <| ja (zl (hv := by simp (disch := first | omega | simp only [nx]; omega) only [aLoad, ty27, rowOf, hpl, hrow, c1, sb, hcell, rcl, Option.map_some, Value.cells, ty23, ty27] <;> rfl)) <| jm (Jd (hv)) ?_
          rintro _ g3 ⟨rfl, hJ3, hr3, hk3⟩
          refine ⟨_, rfl, ?_⟩
          refine jF Zt rfl <| On ?_
          refine Wn <| CWp.skip <| BQ.normal <| SQ.normal ?_
          have jW := @w2
          refine W.reg <| ja sm <| ja Ja <| ja za <| OSuf.nil <| ?_
          have hf : (l.take (pre.length + 1 + (k + 1))).filter (fun x => !P x) = (l.take (pre.length + 1 + k)).filter fun x => !P x := by rw [htk, List.filter_append]; simp [hPy]
          refine LQ.normal (m := m - 1) (L := [(0, .slice (some ⟨r, 0, none⟩) l.length 0), (1, fv), (5, I64 i), (6, I64 ((pre.length + 1 + (k + 1) : Nat) : Int))]) xA ?_ ⟨k + 1, R, by omega, hR1, by rw [hf, ← hi]; exact hR2, hdr, by rw [hf]; omega, by rw [htk]; exact hJ3, hr3, by rw [hf, ← hi]⟩
          simp only [HasA, Tr.get_put, Nat.reduceEqDiff, reduceIte, w2, and_self]
        | false =>
          rw [hPy] at hv
          have c2 : (0 ≤ (i : Int) ∧ (i : Int) < (l.length : Int)) := by omega
          have hy7 : (g2.new (.cells y.cs 1)).get g2.next = some (.cells y.cs 1) := zQ
          have hsp := fl_set (l := R) y (i := i) xA
          have hbl := fl_ble (l := R) (i := i) xA
          have jY := An @hrow <| An @c1 <| An @sb <| An @hcell <| An @rcl <| An ty23 <| ty27
          refine W.seq <| Wr <| ja sm <| ja sm <| ja Jn <| jE Jt xW <| On ?_
          refine Wy <| CWp.skip <| SQ.normal ?_
          refine W.seq <| W.block <| Wr <| ja sm <| ja sm <| ja Ji <| ja (zl (hv := by simp (disch := first | omega | simp only [nx]; omega) only [aLoad, ty27, rowOf, hpl, hrow, c1, sb, hcell, rcl, Option.map_some, Value.cells, ty23, ty27] <;> rfl)) <| ja Jo <| Oa rfl (zs (hv := by simp (disch := first | omega | simp only [nx]; omega) only [aStore, ty27, writeRow, hpl, hrow, c1, sb, hcell, rcl, Option.map_some, Value.cells, ty23, ty27] <;> rfl)) rfl <| On ?_
          refine Wr <| ja sm <| ja (zl (hv := by simp (disch := first | omega | simp only [nx]; omega) only [aLoad, ty27, rowOf, hpl, hrow, c1, sb, hcell, rcl, Option.map_some, Value.cells, ty23, ty27] <;> rfl)) <| jm (Jd (hv)) ?_
          rintro _ g3 ⟨rfl, hJ3, hr3, hk3⟩
          have h73 : g3.get g2.next = some (.cells y.cs 1) := (by rw [hk3 _ xA xI, hy7])
          refine ⟨_, rfl, ?_⟩
          refine jE Zt rfl <| On ?_
          have jY := An @hrow <| An @c1 <| An @sb <| An @hcell <| An @rcl <| An @hr3 <| An @h73 <| An @c2 <| An @hsp <| An @hbl <| An @csz <| An @csl <| An @cso <| An @csn <| An @csb <| An ty23 <| ty27
          refine Wy <| Wr <| ja sm <| ja sm <| ja (zl (hv := by simp (disch := first | omega | simp only [nx]; omega) only [aLoad, ty27, rowOf, hpl, hrow, c1, sb, hcell, rcl, Option.map_some, Value.cells, ty23, ty27, hr3, h73, c2, hsp, hbl, csz, csl, cso, csn, csb] <;> rfl)) <| ja Ji <| Oa rfl (zs (hv := by simp (disch := first | omega | simp only [nx]; omega) only [aStore, ty27, writeRow, hpl, hrow, c1, sb, hcell, rcl, Option.map_some, Value.cells, ty23, ty27, hr3, h73, c2, hsp, hbl, csz, csl, cso, csn, csb] <;> rfl)) rfl <| On ?_
          have jW := An @w2 <| @w3
          refine W.reg <| ja sm <| ja Ja <| ja za <| OSuf.nil <| BQ.normal <| SQ.normal ?_
          refine W.reg <| ja sm <| ja Ja <| ja za <| OSuf.nil <| ?_
          have hf : (l.take (pre.length + 1 + (k + 1))).filter (fun x => !P x) = ((l.take (pre.length + 1 + k)).filter fun x => !P x) ++ [y] := by rw [htk, List.filter_append]; simp [hPy]
          refine LQ.normal (m := m - 1) (L := [(0, .slice (some ⟨r, 0, none⟩) l.length 0), (1, fv), (5, I64 ((i + 1 : Nat) : Int)), (6, I64 ((pre.length + 1 + (k + 1) : Nat) : Int))]) xA ?_ ⟨k + 1, R.set i y, by omega, by simp [hR1], ?_, ?_, ?_, by rw [htk]; exact jset _ _ _ hJ3, zP, ?_⟩
          · simp only [HasA, Tr.get_put, Nat.reduceEqDiff, reduceIte, w2, w3, and_self]
          · rw [hf, List.length_append, ← hi, ← hR2]
            show List.take (i + 1) _ = _
            rw [List.take_add_one, List.take_set, List.getElem?_set_self xA]
            rw [List.set_eq_of_length_le xG]; rfl
          · rw [List.drop_set_of_lt xA]; exact hdr
          · rw [hf, List.length_append, ← hi]; simp; omega
          · rw [hf, List.length_append, ← hi]; rfl
      · have jY := ty23
        refine W.seq <| Wr <| ja sm <| ja sm <| ja Jn <| jy Jt <| On ?_
        refine Wn <| CWp.exit <| SQ.exit <| LQ.exit <| BQ.exit <| ?_
        have hk2 : pre.length + 1 + k = l.length := by omega
        rw [hk2, List.take_length] at hR2 hJ hi
        refine NQ.normal (L := [(0, .slice (some ⟨r, 0, none⟩) l.length 0), (1, fv), (5, I64 i)]) ?_ ⟨R, hR1, by rw [← hi]; exact hR2, by omega, hJ, hrow, by rw [hi]⟩
        simp only [HasA, Tr.get_put, Nat.reduceEqDiff, reduceIte, and_self]
    rintro L a' g2 ha ⟨R, hR1, hR2, hR3, hJ, hrow, rfl⟩
    obtain ⟨K, hK⟩ : ∃ K, K = l.filter fun x => !P x := ⟨_, rfl⟩
    rw [← hK] at hR2 hR3 ha ⊢
    have hsp : fl R = fl K ++ (fl (R.drop K.length) ++ []) := by rw [List.append_nil, ← fl_app, ← hR2]; congr 1; rw [hR2]; conv => lhs; rw [← List.take_append_drop K.length R, hR2]
    have hrow' := hrow
    rw [hsp] at hrow'
    refine SQ.normal <| CWp.known ha ?_
    simp only [mkA]
    refine Wr <| ja sm <| ja sm <| ja (so_slice xB xE xE xE (sl_u ty23 rfl ty27 (bounds_lo xA) hrow)) <| Oa rfl (so_clear xD (cl_u rfl ty23 rfl ty27 rfl rfl rfl hrow' (by rw [fl_length, Nat.zero_add]) (by rw [fl_length, List.length_drop, hR1]; rfl) xA)) rfl <| On ?_
    refine Wr <| ja sm <| ja sm <| ja (so_slice xB xE xE xE (sl_u ty23 rfl ty27 (bounds_hi xA) (zP))) <| ja za <| On ?_
    refine CWp.ret <| Jr ?_
    exact ⟨rfl, jset _ _ _ hJ, _, zP⟩
end Go.Proofs.YtebheelmgcggmaaGreat
