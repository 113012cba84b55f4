/-
  Merged: OrdKp, OrdAc, OrdEq, OrdKe, OrdKa.
-/
import Derived.Test.YtjenbiohcecfnaaGreatOrdZ
namespace Go.Proofs.YtjenbiohcecfnaaGreat
open Go.Ab
set_option linter.unusedSimpArgs false
set_option linter.unusedVariables false
set_option maxRecDepth 10000
set_option maxHeartbeats 8000000
theorem touchR_all {k : List UInt8} {ts fl : Int} {A : List Rec} (P : Rec → Prop) (h : ∀ x ∈ A, P x) (hu : ∀ x ∈ A, P { x with rts := mx x.rts ts }) (hn : okKey k → P ⟨k, mx fl ts, false, []⟩) : ∀ x ∈ touchR k ts fl A, P x := by
  intro x hx
  rw [touchR] at hx
  split at hx
  · rename_i y hy
    rcases setR_mem hx with h9 | h9
    · rw [h9]; exact hu y (getR_key hy).1
    · exact h x h9
  · split at hx
    · rename_i ho
      rcases setR_mem hx with h9 | h9
      · rw [h9]; exact hn ho
      · exact h x h9
    · exact h x hx
theorem touchR_at {k : List UInt8} {ts fl : Int} {A : List Rec} {x : Rec} (hg : getR k A = some x) : getR k (touchR k ts fl A) = some ⟨x.key, mx x.rts ts, x.here, x.V⟩ := by
  rw [touchR, hg]; simp only; rw [getR_setR, if_pos (getR_key hg).2.symm]
theorem mx_ge (a b : Int) : b ≤ mx a b := by simp only [mx]; split <;> omega
theorem mx_le (a b : Int) : a ≤ mx a b := by simp only [mx]; split <;> omega
theorem nd_le : ∀ (a b : List (List UInt8)), a.Nodup → (∀ x ∈ a, x ∈ b) → a.length ≤ b.length
  | [], b, _, _ => Nat.zero_le _
  | x :: a, b, hn, hs => by
    simp only [List.nodup_cons] at hn
    have hx := hs x List.mem_cons_self
    have h1 := nd_le a (b.erase x) hn.2 fun y hy => (List.mem_erase_of_ne (fun e => hn.1 (by rw [← e]; exact hy))).2 (hs y (List.mem_cons_of_mem _ hy))
    rw [List.length_erase_of_mem hx] at h1
    have := List.length_pos_of_mem hx
    rw [List.length_cons]; omega
structure Kp (g : AHeap) (tr n : Nat) (M : TM) (A : List Rec) (R : List (Nat × AObj)) : Prop where
  tb : TB g tr 0 M A
  v : ∀ x ∈ A, x.V.length ≤ 700 + n ∧ Ris x.V ∧ x.key ∈ K8
  r : ∀ p ∈ R, p.1 < g.next ∧ g.get p.1 = some p.2 ∧ ¬ p.1 = tr ∧ p.1 ∉ M.rows
theorem Kp.step {g g' : AHeap} {tr n n' : Nat} {M M' : TM} {A A' : List Rec} {R : List (Nat × AObj)} (K : Kp g tr n M A R) (t : TB g' tr 0 M' A') (f : FrT g g' tr M M') (hv : ∀ x ∈ A', x.V.length ≤ 700 + n' ∧ Ris x.V ∧ x.key ∈ K8) : Kp g' tr n' M' A' R :=
  ⟨t, hv, fun p hp => by
    obtain ⟨h1, h2, h3, h4⟩ := K.r p hp
    have := f.next
    refine ⟨by omega, by rw [f.old _ h1 h3 h4]; exact h2, h3, fun h9 => ?_⟩
    rcases f.rows _ h9 with h8 | h8
    · exact h4 h8
    · omega⟩
theorem Kp.garb {g g' : AHeap} {tr n : Nat} {M : TM} {A : List Rec} {R : List (Nat × AObj)} (K : Kp g tr n M A R) (hn : g.next ≤ g'.next) (hk : ∀ z, z < g.next → g'.get z = g.get z) : Kp g' tr n M A R :=
  K.step (K.tb.mono hn hk) (.garb hn hk) K.v
theorem Kp.up {g : AHeap} {tr n n' : Nat} {M : TM} {A : List Rec} {R : List (Nat × AObj)} (K : Kp g tr n M A R) (hn : n ≤ n') : Kp g tr n' M A R :=
  ⟨K.tb, fun x hx => ⟨by have := (K.v x hx).1; omega, (K.v x hx).2⟩, K.r⟩
theorem Kp.len {g : AHeap} {tr n : Nat} {M : TM} {A : List Rec} {R : List (Nat × AObj)} (K : Kp g tr n M A R) : A.length ≤ 8 := by
  have h2 := nd_le (A.map Rec.key) K8 K.tb.nodup fun k hk => by
    obtain ⟨x, hx, rfl⟩ := List.mem_map.1 hk
    exact (K.v x hx).2.2
  rw [List.length_map] at h2
  exact h2
theorem Kp.ok {g : AHeap} {tr n : Nat} {M : TM} {A : List Rec} {R : List (Nat × AObj)} (K : Kp g tr n M A R) (hn : n ≤ 300) : OkA A := ⟨by have := K.len; omega, fun x hx => ⟨by have := (K.v x hx).1; omega, (K.v x hx).2.1⟩⟩
theorem Kp.row {g : AHeap} {tr n : Nat} {M : TM} {A : List Rec} {R : List (Nat × AObj)} (K : Kp g tr n M A R) {p : Nat × AObj} (h1 : p.1 < g.next) (h2 : g.get p.1 = some p.2) (h3 : ¬ p.1 = tr) (h4 : p.1 ∉ M.rows) : Kp g tr n M A (p :: R) :=
  ⟨K.tb, K.v, fun q hq => by
    rcases List.mem_cons.1 hq with rfl | hq
    · exact ⟨h1, h2, h3, h4⟩
    · exact K.r q hq⟩
theorem Kp.new {g g' : AHeap} {tr n : Nat} {M : TM} {A : List Rec} {R : List (Nat × AObj)} (K : Kp g tr n M A R) (hn : g.next ≤ g'.next) (hk : ∀ z, z < g.next → g'.get z = g.get z) {p : Nat × AObj} (h0 : g.next ≤ p.1) (h1 : p.1 < g'.next) (h2 : g'.get p.1 = some p.2) : Kp g' tr n M A (p :: R) := by
  refine (K.garb hn hk).row h1 h2 (fun e => ?_) fun h9 => ?_
  · have := K.tb.ta.lt; omega
  · have := (row_of K.tb.ta h9).1; omega
theorem kp_read {g : AHeap} {tr n : Nat} {M : TM} {A : List Rec} {R : List (Nat × AObj)} (K : Kp g tr n M A R) (hn : n ≤ 300) {k : List UInt8} (hk : k ∈ K8) (ts : Int) :
    ∃ x H M', getR k (touchR k ts 0 A) = some x ∧ FWp Tryz.prog 6 [P0 tr, U64 ts, encS k, U64 99] g (fun u h' => u = aggD (readV x ts 99) ∧ h' = H) ∧ Kp H tr n M' (touchR k ts 0 A) R := by
  obtain ⟨x, hx⟩ := touchR_is (ts := ts) (fl := 0) (A := A) (K8_ok hk)
  obtain ⟨H, M', r1, r2, r3⟩ := read_c g tr 0 M A K.tb (K.ok hn) k (K8_ok hk) ts 99 x hx
  exact ⟨x, H, M', hx, r1, K.step r2 r3 (touchR_all _ K.v (fun y hy => K.v y hy) fun _ => ⟨by simp, ris_nil, hk⟩)⟩
theorem kp_write {g : AHeap} {tr sp n : Nat} {M : TM} {A : List Rec} {R : List (Nat × AObj)} (K : Kp g tr n M A R) (hn : n ≤ 300) {k : List UInt8} (hk : k ∈ K8) {m : Int} (hm : MaxAt g sp k m) (ts : Int) (del : Bool) (val : ByteArray) (hd : del = true → val = ⟨#[]⟩) (hsz : val.size ≤ 24) :
    ∃ H M' A' d, FWp Tryz.prog 7 [P0 tr, P0 sp, U64 ts, .agg #[encS k, U64 0, .bool del, .string val]] g (fun u h' => u = aggD d ∧ h' = H) ∧ Kp H tr (n + 1) M' A' R ∧
      ((A' = A ∧ (d.fetch = true ∨ (d.fetch = false ∧ d.err = 14)) ∧ (∀ y, getR k A = some y → y.here = true → conB y ts m = true)) ∨ ∃ y, getR k A = some y ∧ y.here = true ∧ conB y ts m = false ∧ A' = setR ⟨k, y.rts, true, putV ⟨ts, 0, del, val, false⟩ y.V⟩ A ∧ d.fetch = false ∧ d.err = 0) := by
  by_cases hmiss : ∀ x, getR k A = some x → x.here = false
  · obtain ⟨H, r1, r2, r3⟩ := write_miss g tr sp 0 M A K.tb (K.ok hn) k (K8_ok hk) ts del val hmiss
    exact ⟨H, M, A, fetD, r1, (K.step r2 r3 K.v).up (by omega), .inl ⟨rfl, .inl rfl, fun y hy hh => by rw [hmiss y hy] at hh; cases hh⟩⟩
  · obtain ⟨x, hg, hh⟩ : ∃ x, getR k A = some x ∧ x.here = true := by
      refine Classical.byContradiction fun h9 => hmiss fun x hx => ?_
      cases h8 : x.here with
      | false => rfl
      | true => exact absurd ⟨x, hx, h8⟩ h9
    cases hc : conB x ts m with
    | true =>
      obtain ⟨H, r1, r2, r3⟩ := write_con g tr sp 0 M A K.tb (K.ok hn) k (K8_ok hk) ts m del val hm x hg hh hc
      exact ⟨H, M, A, errD 14, r1, (K.step r2 r3 K.v).up (by omega), .inl ⟨rfl, .inr ⟨rfl, rfl⟩, fun y hy _ => by rw [hg] at hy; cases hy; exact hc⟩⟩
    | false =>
      obtain ⟨H, M', r1, r2, r3⟩ := write_put g tr sp 0 M A K.tb (K.ok hn) k (K8_ok hk) ts m del val hm x hg hh hc hd hsz
      have hxv := K.v x (getR_key hg).1
      have hnb : newB ts x.V = false := by
        have hc' := hc
        rw [conB] at hc'
        cases h9 : newB ts x.V with
        | false => rfl
        | true => rw [h9] at hc'; simp at hc'
      have hle := new_le hxv.2.1 hnb
      refine ⟨H, M', _, _, r1, K.step r2 r3 fun z hz => ?_, .inr ⟨x, hg, hh, hc, rfl, rfl, rfl⟩⟩
      rcases setR_mem hz with h9 | h9
      · rw [h9]
        refine ⟨?_, put_ris hxv.2.1 hle, hk⟩
        show (putV ⟨ts, 0, del, val, false⟩ x.V).length ≤ _
        rw [putV, List.length_append]
        have := List.length_filter_le (fun y : Vr => !(y.ts == ts)) x.V
        have := hxv.1
        simp only [List.length_cons, List.length_nil]; omega
      · exact ⟨by have := (K.v z h9).1; omega, (K.v z h9).2⟩
structure Inv (k0 lo : List UInt8) (T : Int) (d0 : Vd) (H0 : List (List UInt8 × Vr)) (A : List Rec) : Prop where
  row : ∃ y, getR k0 A = some y ∧ T ≤ y.rts ∧ readV y T 99 = d0
  hit : hits lo T A = H0
theorem getR_touch_ne {k k0 : List UInt8} {ts fl : Int} {A : List Rec} (h : ¬ k0 = k) : getR k0 (touchR k ts fl A) = getR k0 A := by
  rw [touchR]
  split
  · rename_i x hx
    rw [getR_setR, if_neg (fun e => h (e.trans (getR_key hx).2))]
  · split
    · rw [getR_setR, if_neg h]
    · rfl
theorem Inv.touch {k0 lo : List UInt8} {T : Int} {d0 : Vd} {H0 : List (List UInt8 × Vr)} {A : List Rec} (I : Inv k0 lo T d0 H0 A) (hn : (A.map Rec.key).Nodup) (k : List UInt8) (t fl : Int) : Inv k0 lo T d0 H0 (touchR k t fl A) := by
  obtain ⟨y, h1, h2, h3⟩ := I.row
  refine ⟨?_, by rw [hits_touch hn]; exact I.hit⟩
  by_cases e : k0 = k
  · subst e
    exact ⟨_, touchR_at h1, Int.le_trans h2 (mx_le _ _), h3⟩
  · exact ⟨y, by rw [getR_touch_ne e]; exact h1, h2, h3⟩
theorem readV_above {x : Rec} {k : List UInt8} {T : Int} {w : Vr} (hh : x.here = true) (hw : T < w.ts) : readV ⟨k, x.rts, true, putV w x.V⟩ T 99 = readV x T 99 := by
  rw [readV, readV, hh]
  simp only [if_true]
  rw [lastV_low hw]
theorem Inv.put {k0 lo : List UInt8} {T : Int} {d0 : Vd} {H0 : List (List UInt8 × Vr)} {A : List Rec} (I : Inv k0 lo T d0 H0 A) (hn : (A.map Rec.key).Nodup) {k : List UInt8} {t : Int} {del : Bool} {val : ByteArray} {y : Rec} (hg : getR k A = some y) (hh : y.here = true) (hc : conB y t (if Go.Sort.ltStr k lo then 0 else T) = false) (hne : ¬ t = T) : Inv k0 lo T d0 H0 (setR ⟨k, y.rts, true, putV ⟨t, 0, del, val, false⟩ y.V⟩ A) := by
  have h1 : ¬ t < y.rts := fun h9 => by rw [conB] at hc; simp [h9] at hc
  have h2 : ¬ t < (if Go.Sort.ltStr k lo then 0 else T) := fun h9 => by rw [conB] at hc; simp [h9] at hc
  refine ⟨?_, ?_⟩
  · obtain ⟨x, g1, g2, g3⟩ := I.row
    by_cases e : k0 = k
    · subst e
      rw [hg] at g1
      cases g1
      refine ⟨⟨k0, y.rts, true, _⟩, by rw [getR_setR, if_pos rfl], g2, ?_⟩
      rw [readV_above hh (by show T < t; omega)]; exact g3
    · exact ⟨x, by rw [getR_setR, if_neg e]; exact g1, g2, g3⟩
  · rw [hits_put hn hg hh ?_]
    · exact I.hit
    · cases hl : Go.Sort.ltStr k lo with
      | true => exact .inr (by simp [inR, hl])
      | false =>
        rw [hl] at h2
        simp at h2
        exact .inl (by show T < t; omega)
structure Ac where
  what : Int
  ts : Int
  a : Int
  b : Int
  del : Bool
  val : Int
  sb : Option Addr
  sn : Nat
  st : Int
def Ac.cs (x : Ac) : List Value := [I64 x.what, .int .u8 x.ts, .int .u8 x.a, .int .u8 x.b, .bool x.del, .int .u8 x.val, .slice x.sb x.sn 0, .int .u8 x.st]
def Ac.ok (x : Ac) : Prop := (0 ≤ x.ts ∧ x.ts < 256) ∧ (0 ≤ x.a ∧ x.a < 256) ∧ (0 ≤ x.val ∧ x.val < 256)
def AR (nt : Int) (m : List UInt8 → Int) (A A' : List Rec) : Prop :=
  A' = A ∨ (∃ k t, A' = touchR k t 0 A) ∨ ∃ k t del val y, ¬ t = nt ∧ getR k A = some y ∧ y.here = true ∧ conB y t (m k) = false ∧ A' = setR ⟨k, y.rts, true, putV ⟨t, 0, del, val, false⟩ y.V⟩ A
theorem act_c {g : AHeap} {tr sp n : Nat} {M : TM} {A : List Rec} {R : List (Nat × AObj)} (K : Kp g tr n M A R) (hn : n ≤ 300) {m : List UInt8 → Int} (hm : ∀ g' k, g.next ≤ g'.next → (∀ p ∈ R, g'.get p.1 = some p.2) → MaxAt g' sp k (m k)) (x : Ac) (hx : x.ok) (nt : Int) :
    FWp Tryz.prog 15 [P0 tr, P0 sp, .agg #[I64 x.what, .int .u8 x.ts, .int .u8 x.a, .int .u8 x.b, .bool x.del, .int .u8 x.val, .slice x.sb x.sn 0, .int .u8 x.st], U64 nt] g fun u g' => u = .tuple #[] ∧ ∃ M' A', Kp g' tr (n + 1) M' A' R ∧ AR nt m A A' ∧ g.next ≤ g'.next := by
  have tb15 := And.intro ty27 (And.intro ty3 (And.intro ty33 (And.intro ty4 (And.intro ty5 (ty61)))))
  obtain ⟨⟨t0, t1⟩, ⟨a0, a1⟩, ⟨v0, v1⟩⟩ := hx
  have w1 : IntKind.u64.wrap x.ts = x.ts := wrap_u64 (by omega) (by omega)
  have w2 : IntKind.u64.wrap (1 + x.ts) = 1 + x.ts := wrap_u64 (by omega) (by omega)
  obtain ⟨box, hbox⟩ : ∃ box, box = AObj.cells [I64 x.what, .int .u8 x.ts, .int .u8 x.a, .int .u8 x.b, .bool x.del, .int .u8 x.val, .slice x.sb x.sn 0, .int .u8 x.st] 1 := ⟨_, rfl⟩
  have K1 : Kp (g.new box) tr n M A ((g.next, box) :: R) := K.new (by simp) (fun z hz => AHeap.get_new_ne (by omega)) (Nat.le_refl _) (by simp) (AHeap.get_new_same _ _)
  have KR : ∀ {H : AHeap} {n' : Nat} {M' : TM} {A' : List Rec}, Kp H tr n' M' A' ((g.next, box) :: R) → Kp H tr n' M' A' R := fun Kx => ⟨Kx.tb, Kx.v, fun p hp => Kx.r p (List.mem_cons_of_mem _ hp)⟩
  refine W.enter tyOK Tryz.func15 rfl rfl ?_
  simp only [entry]
  by_cases ht : 1 + x.ts = nt
  · have d1 : (1 + x.ts == nt) = true := by simp [ht]
    subst hbox
    refine W.seq <| W.reg <| OSuf.aop tyOK rfl (so_box (by simp only [lk] <;> rfl)) rfl <| OSuf.nil <| SQ.normal ?_
    refine W.seq <| W.reg <| OSuf.aop tyOK rfl (zf (hv := fa_ok (k := 1) ty61 rfl rfl ty5 rfl rfl)) rfl <| OSuf.aop tyOK rfl (zl (hv := by simp (disch := first | assumption | omega | (simp only [nx] <;> omega) | fail) only [aLoad, ty5, rowOf, hpl, Value.cells] <;> rfl)) rfl <| OSuf.aop tyOK rfl (so_conw (so_conv tyOK (by simp only [lk] <;> rfl) ty5 ⟨_, rfl⟩ ty27 rfl) (by first | (simp only [w1, w2] <;> rfl) | rfl)) rfl <| OSuf.aop tyOK rfl (zb (hv := bi_w bi_add (by first | (simp only [w1, w2] <;> rfl) | rfl))) rfl <| OSuf.aop tyOK rfl za rfl <| OSuf.nil <| SQ.normal ?_
    refine W.seq <| W.seq <| W.reg <| OSuf.aop tyOK rfl sm rfl <| OSuf.aop tyOK rfl sm rfl <| OSuf.aopT tyOK rfl (zb (hv := bi_eql)) (fun _ => rfl) (d1) <| OSuf.nil <| SQ.normal ?_
    refine W.yes (by simp only [lk] <;> rfl) <| CWp.ret <| SQ.ret <| FQ.ret (by simp only [aRet, Tryz.f15, aResults, aResult, lk, Nat.reduceEqDiff, reduceIte] <;> rfl) ?_
    -- leaf: end
    exact ⟨rfl, M, A, (KR K1).up (by omega), .inl rfl, by simp⟩
  · have d1 : (1 + x.ts == nt) = false := by simp [ht]
    by_cases hw : x.what < 2
    · obtain ⟨y, H, M', r0, r1, r2⟩ := kp_read K1 hn (keyL_mem x.a) (1 + x.ts)
      have hnx := (r2.r (g.next, box) List.mem_cons_self).1
      simp only at hnx
      subst hbox
      refine W.seq <| W.reg <| OSuf.aop tyOK rfl (so_box (by simp only [lk] <;> rfl)) rfl <| OSuf.nil <| SQ.normal ?_
      refine W.seq <| W.reg <| OSuf.aop tyOK rfl (zf (hv := fa_ok (k := 1) ty61 rfl rfl ty5 rfl rfl)) rfl <| OSuf.aop tyOK rfl (zl (hv := by simp (disch := first | assumption | omega | (simp only [nx] <;> omega) | fail) only [aLoad, ty5, rowOf, hpl, Value.cells] <;> rfl)) rfl <| OSuf.aop tyOK rfl (so_conw (so_conv tyOK (by simp only [lk] <;> rfl) ty5 ⟨_, rfl⟩ ty27 rfl) (by first | (simp only [w1, w2] <;> rfl) | rfl)) rfl <| OSuf.aop tyOK rfl (zb (hv := bi_w bi_add (by first | (simp only [w1, w2] <;> rfl) | rfl))) rfl <| OSuf.aop tyOK rfl za rfl <| OSuf.nil <| SQ.normal ?_
      refine W.seq <| W.seq <| W.reg <| OSuf.aop tyOK rfl sm rfl <| OSuf.aop tyOK rfl sm rfl <| OSuf.aopF tyOK rfl (zb (hv := bi_eql)) (fun _ => rfl) (d1) <| OSuf.nil <| SQ.normal ?_
      refine W.no (by simp only [lk] <;> rfl) <| CWp.skip <| SQ.normal ?_
      refine W.seq <| W.seq <| W.reg <| OSuf.aop tyOK rfl (zf (hv := fa_ok (k := 0) ty61 rfl rfl ty3 rfl rfl)) rfl <| OSuf.aop tyOK rfl (zl (hv := by simp (disch := first | assumption | omega | (simp only [nx] <;> omega) | fail) only [aLoad, ty3, rowOf, hpl, Value.cells] <;> rfl)) rfl <| OSuf.aopT tyOK rfl (zb (hv := bi_lss)) (fun _ => rfl) (decide_eq_true hw) <| OSuf.nil <| SQ.normal ?_
      refine W.yes (by simp only [lk] <;> rfl) <| W.seq <| W.reg <| OSuf.aop tyOK rfl sm rfl <| OSuf.aop tyOK rfl sm rfl <| OSuf.aop tyOK rfl (zf (hv := fa_ok (k := 2) ty61 rfl rfl ty5 rfl rfl)) rfl <| OSuf.aop tyOK rfl (zl (hv := by simp (disch := first | assumption | omega | (simp only [nx] <;> omega) | fail) only [aLoad, ty5, rowOf, hpl, Value.cells] <;> rfl)) rfl <| OSuf.callD rfl (by simp only [aopnds, lk] <;> rfl) en16 (key_c _ x.a a0 a1) rfl <| OSuf.callD rfl (by simp only [aopnds, lk] <;> rfl) en6 (r1) rfl <| OSuf.nil <| SQ.normal ?_
      refine CWp.ret <| SQ.ret <| FQ.ret (by simp only [aRet, Tryz.f15, aResults, aResult, lk, Nat.reduceEqDiff, reduceIte] <;> rfl) ?_
      -- leaf: end
      exact ⟨rfl, M', _, (KR r2).up (by omega), .inr (.inl ⟨_, _, rfl⟩), by omega⟩
    · have hmx := hm (g.new box) (keyL x.a) (by simp) (fun p hp => (K1.r p (List.mem_cons_of_mem _ hp)).2.1)
      obtain ⟨H, M', A', d, r1, r2, r3⟩ := kp_write K1 hn (keyL_mem x.a) hmx (1 + x.ts) x.del (valB x.val x.del) (fun e => valB_del e) (valB_size _ _)
      obtain ⟨hnx, hb9, _, _⟩ := r2.r (g.next, box) List.mem_cons_self
      simp only at hnx hb9
      have fin : AR nt m A A' := by
        rcases r3 with ⟨h1, _⟩ | ⟨y, h1, h2, h3, h4, _⟩
        · exact .inl h1
        · exact .inr (.inr ⟨_, _, _, _, y, ht, h1, h2, h3, h4⟩)
      subst hbox
      refine W.seq <| W.reg <| OSuf.aop tyOK rfl (so_box (by simp only [lk] <;> rfl)) rfl <| OSuf.nil <| SQ.normal ?_
      refine W.seq <| W.reg <| OSuf.aop tyOK rfl (zf (hv := fa_ok (k := 1) ty61 rfl rfl ty5 rfl rfl)) rfl <| OSuf.aop tyOK rfl (zl (hv := by simp (disch := first | assumption | omega | (simp only [nx] <;> omega) | fail) only [aLoad, ty5, rowOf, hpl, hb9, Value.cells] <;> rfl)) rfl <| OSuf.aop tyOK rfl (so_conw (so_conv tyOK (by simp only [lk] <;> rfl) ty5 ⟨_, rfl⟩ ty27 rfl) (by first | (simp only [w1, w2] <;> rfl) | rfl)) rfl <| OSuf.aop tyOK rfl (zb (hv := bi_w bi_add (by first | (simp only [w1, w2] <;> rfl) | rfl))) rfl <| OSuf.aop tyOK rfl za rfl <| OSuf.nil <| SQ.normal ?_
      refine W.seq <| W.seq <| W.reg <| OSuf.aop tyOK rfl sm rfl <| OSuf.aop tyOK rfl sm rfl <| OSuf.aopF tyOK rfl (zb (hv := bi_eql)) (fun _ => rfl) (d1) <| OSuf.nil <| SQ.normal ?_
      refine W.no (by simp only [lk] <;> rfl) <| CWp.skip <| SQ.normal ?_
      refine W.seq <| W.seq <| W.reg <| OSuf.aop tyOK rfl (zf (hv := fa_ok (k := 0) ty61 rfl rfl ty3 rfl rfl)) rfl <| OSuf.aop tyOK rfl (zl (hv := by simp (disch := first | assumption | omega | (simp only [nx] <;> omega) | fail) only [aLoad, ty3, rowOf, hpl, hb9, Value.cells] <;> rfl)) rfl <| OSuf.aopF tyOK rfl (zb (hv := bi_lss)) (fun _ => rfl) (decide_eq_false hw) <| OSuf.nil <| SQ.normal ?_
      refine W.no (by simp only [lk] <;> rfl) <| CWp.skip <| SQ.normal ?_
      refine CWp.sqd tyOK mixed (ms := [0, 0, 0, 0, 8, 24, 0, 64, 0, 256, 0, 1024, 3896, 8184, 16383]) (by kernel_rfl) (
          .free rfl rfl sm rfl <| .free rfl rfl sm rfl <| .free rfl rfl sm rfl <| .free rfl rfl (zf (hv := fa_ok (k := 2) ty61 rfl rfl ty5 rfl rfl)) rfl <| .read rfl rfl (zl (hv := by simp (disch := first | assumption | omega | (simp only [nx] <;> omega) | fail) only [aLoad, ty5, rowOf, hpl, hb9, Value.cells] <;> rfl)) (by first | rfl | (simp [veq, veq1, veqs]; done) | (simp [veq, veq1, veqs, splice]; done)) trivial rfl <| .call rfl rfl (fcallO (by simp only [aopnds, lk] <;> rfl) en16 (key_c _ x.a a0 a1)) rfl ⟨.inl rfl, trivial⟩ rfl <| .free rfl rfl (zf (hv := fa_ok (k := 4) ty61 rfl rfl ty4 rfl rfl)) rfl <| .read rfl rfl (zl (hv := by simp (disch := first | assumption | omega | (simp only [nx] <;> omega) | fail) only [aLoad, ty4, rowOf, hpl, hb9, Value.cells] <;> rfl)) (by first | rfl | (simp [veq, veq1, veqs]; done) | (simp [veq, veq1, veqs, splice]; done)) ⟨.inr (zl (hv := by simp (disch := first | assumption | omega | (simp only [nx] <;> omega) | fail) only [aLoad, ty4, rowOf, hpl, hb9, Value.cells] <;> rfl)), trivial⟩ rfl <| .free rfl rfl (zf (hv := fa_ok (k := 5) ty61 rfl rfl ty5 rfl rfl)) rfl <| .read rfl rfl (zl (hv := by simp (disch := first | assumption | omega | (simp only [nx] <;> omega) | fail) only [aLoad, ty5, rowOf, hpl, hb9, Value.cells] <;> rfl)) (by first | rfl | (simp [veq, veq1, veqs]; done) | (simp [veq, veq1, veqs, splice]; done)) ⟨.inr (zl (hv := by simp (disch := first | assumption | omega | (simp only [nx] <;> omega) | fail) only [aLoad, ty5, rowOf, hpl, hb9, Value.cells] <;> rfl)), trivial⟩ rfl <| .free rfl rfl (zf (hv := fa_ok (k := 4) ty61 rfl rfl ty4 rfl rfl)) rfl <| .read rfl rfl (zl (hv := by simp (disch := first | assumption | omega | (simp only [nx] <;> omega) | fail) only [aLoad, ty4, rowOf, hpl, hb9, Value.cells] <;> rfl)) (by first | rfl | (simp [veq, veq1, veqs]; done) | (simp [veq, veq1, veqs, splice]; done)) ⟨.inr (zl (hv := by simp (disch := first | assumption | omega | (simp only [nx] <;> omega) | fail) only [aLoad, ty4, rowOf, hpl, hb9, Value.cells] <;> rfl)), trivial⟩ rfl <| .call rfl rfl (fcallO (by simp only [aopnds, lk] <;> rfl) en46 (val_c _ x.val v0 v1 x.del)) rfl ⟨.inl rfl, .inl rfl, .inr (zl (hv := by simp (disch := first | assumption | omega | (simp only [nx] <;> omega) | fail) only [aLoad, ty4, rowOf, hpl, hb9, Value.cells] <;> rfl)), .inl rfl, trivial⟩ rfl <| .free rfl rfl (so_build (by simp only [aparts, lk] <;> rfl) (by simp only [aBuild, ty33, hb9, Value.cells, places, tb15] <;> rfl)) rfl <| .call rfl rfl (fcallO (by simp only [aopnds, lk] <;> rfl) en7 (r1)) rfl ⟨.inl rfl, .inl rfl, .inl rfl, .inl rfl, trivial⟩ rfl <| .nil) <| FQ.normal (by simp only [aRet, Tryz.f15, aResults, aResult, lk, Nat.reduceEqDiff, reduceIte] <;> rfl) ?_
      -- leaf: end
      exact ⟨rfl, M', A', KR r2, fin, by omega⟩
theorem ba_self (s : ByteArray) : (s == s) = true := by
  obtain ⟨⟨l⟩⟩ := s
  show ((ByteArray.mk ⟨l⟩) == ⟨⟨l⟩⟩) = true
  rw [beq_str]; simp
def eqDb (x y : Vd) : Bool := x.fetch == y.fetch && (x.err == y.err && (x.found == y.found && (x.val == y.val && (x.hang == y.hang && (x.need == y.need && (x.over == y.over && true))))))
theorem eqDb_self (x : Vd) : eqDb x x = true := by simp [eqDb, ba_self]
theorem eqD {p q : Operand} (x y : Vd) : aBin Tryz.prog T .neq 29 p q (.agg #[.bool x.fetch, I64 x.err, .bool x.found, .string x.val, U64 x.hang, U64 x.need, U64 x.over]) (.agg #[.bool y.fetch, I64 y.err, .bool y.found, .string y.val, U64 y.hang, U64 y.need, U64 y.over]) = some (.bool (!eqDb x y)) := by
  refine bi_sne rfl (by kernel_rfl) (seq_equal Tryz.underlying29 (by kernel_rfl) ?_)
  refine .cons (by decide) (x := .bool x.fetch) (y := .bool y.fetch) (by kernel_rfl) (by kernel_rfl) (eq_bool Tryz.underlying4) ?_
  refine .cons (by decide) (x := I64 x.err) (y := I64 y.err) (by kernel_rfl) (by kernel_rfl) (eq_int Tryz.underlying26) ?_
  refine .cons (by decide) (x := .bool x.found) (y := .bool y.found) (by kernel_rfl) (by kernel_rfl) (eq_bool Tryz.underlying4) ?_
  refine .cons (by decide) (x := .string x.val) (y := .string y.val) (by kernel_rfl) (by kernel_rfl) (eq_str Tryz.underlying9) ?_
  refine .cons (by decide) (x := U64 x.hang) (y := U64 y.hang) (by kernel_rfl) (by kernel_rfl) (eq_int Tryz.underlying27) ?_
  refine .cons (by decide) (x := U64 x.need) (y := U64 y.need) (by kernel_rfl) (by kernel_rfl) (eq_int Tryz.underlying27) ?_
  refine .cons (by decide) (x := U64 x.over) (y := U64 y.over) (by kernel_rfl) (by kernel_rfl) (eq_int Tryz.underlying27) ?_
  exact .nil
def eqPb (x y : List UInt8 × Vr) : Bool := ((⟨⟨x.1⟩⟩ : ByteArray) == ⟨⟨y.1⟩⟩) && (x.2.val == y.2.val && true)
theorem eqPb_self (x : List UInt8 × Vr) : eqPb x x = true := by simp [eqPb, ba_self]
theorem eqP {p q : Operand} (x y : List UInt8 × Vr) : aBin Tryz.prog T .neq 45 p q (.agg #[encS x.1, .string x.2.val]) (.agg #[encS y.1, .string y.2.val]) = some (.bool (!eqPb x y)) := by
  refine bi_sne rfl (by kernel_rfl) (seq_equal Tryz.underlying45 (by kernel_rfl) ?_)
  refine .cons (by decide) (x := encS x.1) (y := encS y.1) (by kernel_rfl) (by kernel_rfl) (eq_str Tryz.underlying9) ?_
  refine .cons (by decide) (x := .string x.2.val) (y := .string y.2.val) (by kernel_rfl) (by kernel_rfl) (eq_str Tryz.underlying9) ?_
  exact .nil
theorem flatPr_drop : ∀ {F : List (List UInt8 × Vr)} {i : Nat} {p : List UInt8 × Vr}, F[i]? = some p → ((flatPr F).drop (i * 2)).take 2 = [encS p.1, .string p.2.val]
  | [], i, x, h => by simp at h
  | y :: l, 0, x, h => by simp at h; subst h; rfl
  | y :: l, i + 1, x, h => by
    have e : (i + 1) * 2 = i * 2 + 2 := by omega
    simp only [List.getElem?_cons_succ] at h
    rw [e]
    show (([encS y.1, Value.string y.2.val] ++ flatPr l).drop (i * 2 + 2)).take 2 = _
    rw [Nat.add_comm, ← List.drop_drop]
    exact flatPr_drop h
theorem flatPr_cell {F : List (List UInt8 × Vr)} {i : Nat} {p : List UInt8 × Vr} (hp : F[i]? = some p) : cellsOf (flatPr F) (i * 2) 2 = some [encS p.1, .string p.2.val] := by
  have hi := (List.getElem?_eq_some_iff.1 hp).1
  rw [cellsOf_mk (by rw [flatPr_length]; omega), flatPr_drop hp]
theorem inv_ar {k0 lo : List UInt8} {T : Int} {d0 : Vd} {H0 : List (List UInt8 × Vr)} {A A' : List Rec} (I : Inv k0 lo T d0 H0 A) (hn : (A.map Rec.key).Nodup) (h : AR T (fun k => if Go.Sort.ltStr k lo then 0 else T) A A') : Inv k0 lo T d0 H0 A' := by
  rcases h with rfl | ⟨k, t, rfl⟩ | ⟨k, t, del, val, y, h1, h2, h3, h4, rfl⟩
  · exact I
  · exact I.touch hn k t 0
  · exact I.put hn h2 h3 h4 h1
def flatAc (l : List Ac) : List Value := (l.map Ac.cs).flatten
structure AcAt (h : AHeap) (b : Option Addr) (l : List Ac) : Prop where
  len : l.length ≤ maxLen
  ok : ∀ x ∈ l, x.ok
  at_ : l ≠ [] → ∃ r, b = some ⟨r, 0, none⟩ ∧ r < h.next ∧ h.get r = some (.ro (flatAc l))
theorem flatAc_get {l : List Ac} {i j : Nat} {x : Ac} (hx : l[i]? = some x) (hj : j < 8) : (flatAc l)[i * 8 + j]? = x.cs[j]? :=
  flatten_get (fun y hy => by obtain ⟨z, _, rfl⟩ := List.mem_map.1 hy; rfl) (by simp [hx]) hj
theorem flatAc_length (l : List Ac) : (flatAc l).length = l.length * 8 := by
  induction l with
  | nil => rfl
  | cons a l ih =>
    simp only [flatAc, List.map_cons, List.flatten_cons, List.length_append, List.length_cons] at ih ⊢
    rw [ih]; simp [Ac.cs]; omega
theorem flatAc_drop : ∀ {l : List Ac} {i : Nat} {x : Ac}, l[i]? = some x → ((flatAc l).drop (i * 8)).take 8 = x.cs
  | [], i, x, h => by simp at h
  | y :: l, 0, x, h => by simp at h; subst h; rfl
  | y :: l, i + 1, x, h => by
    have e : (i + 1) * 8 = i * 8 + 8 := by omega
    simp only [List.getElem?_cons_succ] at h
    rw [e]
    show ((y.cs ++ flatAc l).drop (i * 8 + 8)).take 8 = x.cs
    rw [Nat.add_comm, ← List.drop_drop]
    exact flatAc_drop h
theorem flatAc_cell {l : List Ac} {i : Nat} {x : Ac} (hx : l[i]? = some x) : cellsOf (flatAc l) (i * 8) 8 = some x.cs := by
  have hi := (List.getElem?_eq_some_iff.1 hx).1
  rw [cellsOf_mk (by rw [flatAc_length]; omega), flatAc_drop hx]
def roOf (b : Option Addr) (l : List Ac) : List (Nat × AObj) := match b, l with
  | some a, x :: l => [(a.block, .ro (flatAc (x :: l)))]
  | _, _ => []
theorem roOf_mem {h : AHeap} {b : Option Addr} {l : List Ac} (hb : AcAt h b l) (hn : l ≠ []) : ∃ r, b = some ⟨r, 0, none⟩ ∧ (r, AObj.ro (flatAc l)) ∈ roOf b l := by
  obtain ⟨r, rfl, _, _⟩ := hb.at_ hn
  cases l with
  | nil => exact absurd rfl hn
  | cons x l => exact ⟨r, rfl, List.mem_singleton.2 rfl⟩
theorem roOf_at {h : AHeap} {b : Option Addr} {l : List Ac} (hb : AcAt h b l) : ∀ p ∈ roOf b l, p.1 < h.next ∧ h.get p.1 = some p.2 := by
  intro p hp
  cases l with
  | nil => cases b <;> cases hp
  | cons x l =>
    obtain ⟨r, rfl, h1, h2⟩ := hb.at_ (by simp)
    rw [List.mem_singleton.1 hp]; exact ⟨h1, h2⟩
theorem Kp.mod {g g' : AHeap} {tr n p : Nat} {M : TM} {A : List Rec} {R R' : List (Nat × AObj)} {w : List Value} (K : Kp g tr n M A R) (hp : p < g.next) (ho : g.get p = some (.cells w 1)) (h3 : ¬ p = tr) (h4 : p ∉ M.rows) (hn : g.next ≤ g'.next) (hk : ∀ z, z < g.next → ¬ z = p → g'.get z = g.get z) (hR : ∀ q ∈ R', q ∈ R ∧ ¬ q.1 = p) : Kp g' tr n M A R' := by
  have hl := K.tb.ta.lt
  refine ⟨⟨K.tb.ta.keep hn (hk tr hl (fun e => h3 e.symm)) (fun z hz => hk z (row_of K.tb.ta hz).1 fun e => h4 (by rw [← e]; exact hz)) (fun y w' hy hg => hk y hy fun e => by (rw [e, ho] at hg; simp at hg)), K.tb.perm⟩, K.v, fun q hq => ?_⟩
  obtain ⟨h8, h9⟩ := hR q hq
  obtain ⟨q1, q2, q3, q4⟩ := K.r q h8
  exact ⟨by omega, by rw [hk _ q1 h9]; exact q2, q3, q4⟩
theorem Kp.sub {g : AHeap} {tr n : Nat} {M : TM} {A : List Rec} {R R' : List (Nat × AObj)} (K : Kp g tr n M A R) (hR : ∀ q ∈ R', q ∈ R) : Kp g tr n M A R' := ⟨K.tb, K.v, fun q hq => K.r q (hR q hq)⟩
theorem OldAt.mono {h h' : AHeap} {b : Option Addr} {l : List Old} (s : OldAt h b l) (hn : h.next ≤ h'.next) (hk : ∀ z, z < h.next → h'.get z = h.get z) : OldAt h' b l :=
  ⟨s.len, fun x hx => ⟨(s.ok x hx).1, (s.ok x hx).2.1, (s.ok x hx).2.2.mono hn hk⟩, fun hne => by obtain ⟨r, h1, h2, h3⟩ := s.at_ hne; exact ⟨r, h1, by omega, by rw [hk _ h2]; exact h3⟩⟩
theorem kept_c (h : AHeap) (b : Option Addr) (l : List Old) (hb : OldAt h b l) (b0 b1 : Option Addr) (l0 l1 : List Ac) (hb0 : AcAt h b0 l0) (hb1 : AcAt h b1 l1) (x0 x1 x2 : Int) (hx0 : 0 ≤ x0 ∧ x0 < 256) (hx1 : 0 ≤ x1 ∧ x1 < 256) (hx2 : 0 ≤ x2 ∧ x2 < 256) :
    FWp Tryz.prog 4 [.slice b l.length 0, .agg #[.slice b0 l0.length 0, .slice b1 l1.length 0], .agg #[.int .u8 x0, .int .u8 x1, .int .u8 x2]] h fun u h' => u = .bool true := by
  have tb4 := And.intro ty22 (And.intro ty23 (And.intro ty26 (And.intro ty27 (And.intro ty29 (And.intro ty3 (And.intro ty33 (And.intro ty39 (And.intro ty4 (And.intro ty40 (And.intro ty45 (And.intro ty5 (And.intro ty52 (And.intro ty53 (And.intro ty54 (ty61)))))))))))))))
  obtain ⟨B4, hB4⟩ : ∃ B4, B4 = AObj.cells [.slice b0 l0.length 0, .slice b1 l1.length 0] 1 := ⟨_, rfl⟩
  obtain ⟨B5, hB5⟩ : ∃ B5, B5 = AObj.cells [.int .u8 x0, .int .u8 x1, .int .u8 x2] 1 := ⟨_, rfl⟩
  have hbg : OldAt ((h.new B4).new B5) b l := hb.mono (by simp only [nx]; omega) fun z hz => by simp (disch := first | assumption | omega | (simp only [nx] <;> omega) | fail) only [hpl]
  have hl0 : l0.length ≤ 9223372036854775807 := by have := hb0.len; simp only [maxLen] at this; omega
  have hl1 : l1.length ≤ 9223372036854775807 := by have := hb1.len; simp only [maxLen] at this; omega
  have hbeg := begun_c _ b l hbg
  refine W.enter tyOK Tryz.func4 rfl rfl ?_
  simp only [entry]
  rw [hB4, hB5] at hbeg
  refine W.seq <| W.reg <| OSuf.aop tyOK rfl (so_box (by simp only [lk] <;> rfl)) rfl <| OSuf.aop tyOK rfl (so_box (by simp only [lk] <;> rfl)) rfl <| OSuf.aopF tyOK rfl za (fun _ => rfl) rfl <| OSuf.nil <| SQ.normal ?_
  refine W.seq <| W.reg <| OSuf.aop tyOK rfl sm rfl <| OSuf.call rfl (by simp only [aopnds, lk] <;> rfl) en13 (hbeg) ?_
  rintro _ g ⟨tr, pr, i0, M, A, X, v, hi, rfl, B⟩
  refine ⟨_, rfl, ?_⟩
  refine OSuf.aop tyOK rfl sm rfl <| OSuf.aop tyOK rfl (ze (hv := by simp (disch := first | assumption | omega | (simp only [nx] <;> omega) | fail) only [aExtract, hpl, sb, Value.cells, places, tb4, sb, Value.cells, places, tb4] <;> rfl)) rfl <| OSuf.aop tyOK rfl (ze (hv := by simp (disch := first | assumption | omega | (simp only [nx] <;> omega) | fail) only [aExtract, hpl, sb, Value.cells, places, tb4, sb, Value.cells, places, tb4] <;> rfl)) rfl <| OSuf.aop tyOK rfl za rfl <| OSuf.aop tyOK rfl za rfl <| OSuf.nil <| SQ.normal ?_
  refine W.seq <| W.reg <| OSuf.callD rfl (by simp only [aopnds, lk] <;> rfl) en14 (spannew_c _ 100 (by omega)) rfl <| OSuf.aop tyOK rfl za rfl <| OSuf.nil <| SQ.normal ?_
  refine W.seq <| W.seq <| W.reg <| OSuf.aop tyOK rfl sm rfl <| OSuf.aopF tyOK rfl (zb (hv := bi_nil ⟨_, _, ty22, rfl⟩)) (fun _ => rfl) rfl <| OSuf.aopF tyOK rfl sm (fun _ => rfl) rfl <| OSuf.aop tyOK ag sm rfl <| OSuf.aopF tyOK ag (zb (hv := bi_nil ⟨_, _, ty23, rfl⟩)) (fun _ => rfl) rfl <| OSuf.aopF tyOK rfl (so_pick (by simp only [lk] <;> rfl) (by simp only [lk, cond_true, cond_false] <;> rfl)) (fun _ => rfl) rfl <| OSuf.nil <| SQ.normal ?_
  refine W.no (by simp only [lk] <;> rfl) <| CWp.skip <| SQ.normal ?_
  refine W.seq <| W.seq <| W.reg <| OSuf.aop tyOK rfl za rfl <| OSuf.nil <| SQ.normal ?_
  -- leaf: loop
  rw [← hB4, ← hB5] at B
  obtain ⟨Rb, hRb⟩ : ∃ Rb, Rb = (h.next, B4) :: (h.next + 1, B5) :: (roOf b0 l0 ++ roOf b1 l1) := ⟨_, rfl⟩
  obtain ⟨S0, hS0⟩ : ∃ S0, S0 = AObj.cells [I64 100, .slice none 0 0] 1 := ⟨_, rfl⟩
  have hBn := B.next
  simp only [nx] at hBn
  have hold : ∀ z, z < h.next + 2 → g.get z = ((h.new B4).new B5).get z := fun z hz => B.old z (by simp only [nx]; omega)
  have htrh := B.trh
  simp only [nx] at htrh
  have K0 : Kp g tr 0 M A Rb := by
    refine ⟨B.tb, fun x hx => B.av x hx, fun p hp => ?_⟩
    have key : p.1 < h.next + 2 ∧ g.get p.1 = some p.2 := by
      rw [hRb] at hp
      simp only [List.mem_cons, List.mem_append] at hp
      rcases hp with rfl | rfl | hp | hp
      · exact ⟨by show h.next < _; omega, by rw [hold _ (by show h.next < _; omega)]; simp (disch := first | assumption | omega | (simp only [nx] <;> omega) | fail) only [hpl]⟩
      · exact ⟨by show h.next + 1 < _; omega, by rw [hold _ (by show h.next + 1 < _; omega)]; simp (disch := first | assumption | omega | (simp only [nx] <;> omega) | fail) only [hpl]⟩
      · obtain ⟨p1, p2⟩ := roOf_at hb0 p hp
        exact ⟨by omega, by rw [hold _ (by omega)]; simp (disch := first | assumption | omega | (simp only [nx] <;> omega) | fail) only [hpl]; exact p2⟩
      · obtain ⟨p1, p2⟩ := roOf_at hb1 p hp
        exact ⟨by omega, by rw [hold _ (by omega)]; simp (disch := first | assumption | omega | (simp only [nx] <;> omega) | fail) only [hpl]; exact p2⟩
    refine ⟨by omega, key.2, by omega, fun h9 => ?_⟩
    have h8 := B.mh _ h9
    simp only [nx] at h8
    omega
  have hRb2 : ∀ q ∈ Rb, q.1 < h.next + 2 := fun p hp => by
    rw [hRb] at hp
    simp only [List.mem_cons, List.mem_append] at hp
    rcases hp with rfl | rfl | hp | hp
    · show h.next < _; omega
    · show h.next + 1 < _; omega
    · have := (roOf_at hb0 p hp).1; omega
    · have := (roOf_at hb1 p hp).1; omega
  obtain ⟨sp, hsp⟩ : ∃ sp, sp = g.next := ⟨_, rfl⟩
  have hsp9 : h.next + 2 ≤ sp := by omega
  have K1 : Kp (g.new S0) tr 0 M A ((sp, S0) :: Rb) := K0.new (by simp) (fun z hz => AHeap.get_new_ne (by omega)) (by rw [hsp]; exact Nat.le_refl _) (by rw [hsp]; simp) (by rw [hsp]; exact AHeap.get_new_same _ _)
  have hspn : sp < (g.new S0).next := by rw [hsp]; simp
  have hR4 : ∀ q, q ∈ Rb → q ∈ (sp, S0) :: Rb := fun q hq => List.mem_cons_of_mem _ hq
  have m4 : (h.next, B4) ∈ Rb := by rw [hRb]; exact List.mem_cons_self
  have m5 : (h.next + 1, B5) ∈ Rb := by rw [hRb]; exact List.mem_cons_of_mem _ List.mem_cons_self
  have mr0 : ∀ q, q ∈ roOf b0 l0 → q ∈ Rb := fun q hq => by rw [hRb]; exact List.mem_cons_of_mem _ (List.mem_cons_of_mem _ (List.mem_append.2 (.inl hq)))
  have mr1 : ∀ q, q ∈ roOf b1 l1 → q ∈ Rb := fun q hq => by rw [hRb]; exact List.mem_cons_of_mem _ (List.mem_cons_of_mem _ (List.mem_append.2 (.inr hq)))
  rw [hS0] at K1 hspn
  rw [← hsp]
  clear B K0 hbg hold htrh hBn
  refine W.cut (fun L g' => ∃ i M A, i ≤ 30 ∧ sp < g'.next ∧ Kp g' tr i M A ((sp, S0) :: Rb) ∧ L = [(4, P0 h.next), (5, P0 (h.next + 1)), (7, P0 tr), (9, P0 sp)]) (W.block (W.loop (fun q L g' => ∃ i M A, q + i = 30 ∧ sp < g'.next ∧ Kp g' tr i M A ((sp, S0) :: Rb) ∧ L = [(4, P0 h.next), (5, P0 (h.next + 1)), (7, P0 tr), (9, P0 sp), (10, I64 i)]) (n := 30) ⟨0, M, A, by omega, hspn, by rw [hS0]; exact K1, rfl⟩ ?_ ?_)) ?_
  · simp [HasA, Tr.get_put]
  · clear K1
    rintro q L g1 ⟨i, M1, A1, hq, hsp1, K, rfl⟩
    simp only [mkA]
    have w2 : IntKind.i64.wrap ((i : Int) + 1) = ((i + 1 : Nat) : Int) := by rw [wrap_i64 (by omega) (by omega)]; omega
    have b4 : g1.get h.next = some (.cells [.slice b0 l0.length 0, .slice b1 l1.length 0] 1) := by rw [← hB4]; exact (K.r _ (hR4 _ m4)).2.1
    by_cases hlt : (i : Int) < (l0.length : Int)
    · by_cases h30 : (i : Int) < 30
      · obtain ⟨x, hx⟩ : ∃ x, l0[i]? = some x := ⟨l0[i]'(by omega), by simp⟩
        obtain ⟨r0, rfl, hr0⟩ := roOf_mem hb0 (fun e => by rw [e] at hx; simp at hx)
        have hg0 := (K.r _ (hR4 _ (mr0 _ hr0))).2.1
        simp only at hg0
        have hc : (0 ≤ (i : Int) ∧ (i : Int) < (l0.length : Int)) := by omega
        have hcell := flatAc_cell hx
        rw [Ac.cs] at hcell
        have e1 : [I64 x.what, .int .u8 x.ts, .int .u8 x.a, .int .u8 x.b, .bool x.del, .int .u8 x.val, .slice x.sb x.sn 0, .int .u8 x.st].toArray = #[I64 x.what, .int .u8 x.ts, .int .u8 x.a, .int .u8 x.b, .bool x.del, .int .u8 x.val, .slice x.sb x.sn 0, .int .u8 x.st] := rfl
        have hac := act_c K (by omega) (sp := sp) (m := fun _ => 0) (fun g' k q1 q2 g'' q3 q4 => spanmax_c g'' sp 100 k (by omega) (by rw [q4 sp (by omega), q2 (sp, S0) List.mem_cons_self, hS0])) x (hb0.ok x (List.mem_of_getElem? hx)) 0
        refine W.seq <| W.seq <| W.reg <| OSuf.aop tyOK rfl sm rfl <| OSuf.aop tyOK rfl (zi (hv := by simp (disch := first | assumption | omega | (simp only [nx] <;> omega) | fail) only [aIndexAddr, ty53, ty52, hpl, b4, hg0, hc, sb, hcell, e1, cond_true, Value.cells, places, tb4] <;> rfl)) rfl <| OSuf.aop tyOK rfl (zl (hv := by simp (disch := first | assumption | omega | (simp only [nx] <;> omega) | fail) only [aLoad, ty52, rowOf, hpl, b4, hg0, hc, sb, hcell, e1, Option.map_some, cond_true, Value.cells] <;> rfl)) rfl <| OSuf.aop tyOK rfl (so_len (by simp only [aopnds, lk] <;> rfl) (by simp (disch := first | assumption | omega | (simp only [nx] <;> omega) | fail) only [aLenOf, ty52, hpl, b4, hg0, hc, sb, hcell, e1, cond_true, Value.cells, places, tb4] <;> rfl)) rfl <| OSuf.aopT tyOK rfl (zb (hv := bi_lss)) (fun _ => rfl) (decide_eq_true hlt) <| OSuf.aopT tyOK rfl sm (fun _ => rfl) rfl <| OSuf.aop tyOK ag sm rfl <| OSuf.aopT tyOK ag (zb (hv := bi_lss)) (fun _ => rfl) (decide_eq_true h30) <| OSuf.aopT tyOK rfl (so_pick (by simp only [lk] <;> rfl) (by simp only [lk, cond_true, cond_false] <;> rfl)) (fun _ => rfl) rfl <| OSuf.nil <| SQ.normal ?_
        refine W.yes (by simp only [lk] <;> rfl) <| CWp.skip <| SQ.normal ?_
        refine W.seq <| W.block <| W.reg <| OSuf.aop tyOK rfl sm rfl <| OSuf.aop tyOK rfl sm rfl <| OSuf.aop tyOK rfl (zi (hv := by simp (disch := first | assumption | omega | (simp only [nx] <;> omega) | fail) only [aIndexAddr, ty53, ty52, hpl, b4, hg0, hc, sb, hcell, e1, cond_true, Value.cells, places, tb4] <;> rfl)) rfl <| OSuf.aop tyOK rfl (zl (hv := by simp (disch := first | assumption | omega | (simp only [nx] <;> omega) | fail) only [aLoad, ty52, rowOf, hpl, b4, hg0, hc, sb, hcell, e1, Option.map_some, cond_true, Value.cells] <;> rfl)) rfl <| OSuf.aop tyOK rfl sm rfl <| OSuf.aop tyOK rfl (zi (hv := by simp (disch := first | assumption | omega | (simp only [nx] <;> omega) | fail) only [aIndexAddr, ty52, ty61, hpl, b4, hg0, hc, sb, hcell, e1, cond_true, Value.cells, places, tb4] <;> rfl)) rfl <| OSuf.aop tyOK rfl (zl (hv := by simp (disch := first | assumption | omega | (simp only [nx] <;> omega) | fail) only [aLoad, ty61, rowOf, hpl, b4, hg0, hc, sb, hcell, e1, Option.map_some, cond_true, Value.cells] <;> rfl)) rfl <| OSuf.call rfl (by simp only [aopnds, lk] <;> rfl) en15 (hac) ?_
        rintro _ g2 ⟨rfl, M2, A2, K2, _, hn2⟩
        refine ⟨_, rfl, ?_⟩
        refine OSuf.nil <| BQ.normal <| SQ.normal ?_
        refine W.reg <| OSuf.aop tyOK rfl sm rfl <| OSuf.aop tyOK rfl (zb (hv := bi_w bi_add (by first | (simp only [w2, w2] <;> rfl) | rfl))) rfl <| OSuf.aop tyOK rfl za rfl <| OSuf.nil <| ?_
        -- leaf: round
        refine LQ.normal (m := q - 1) (L := [(4, P0 h.next), (5, P0 (h.next + 1)), (7, P0 tr), (9, P0 sp), (10, I64 ((i + 1 : Nat) : Int))]) (by omega) ?_ ⟨i + 1, M2, A2, by omega, by omega, K2, rfl⟩
        simp only [HasA, Tr.get_put, Nat.reduceEqDiff, reduceIte, w2, and_self]
      · refine W.seq <| W.seq <| W.reg <| OSuf.aop tyOK rfl sm rfl <| OSuf.aop tyOK rfl (zi (hv := by simp (disch := first | assumption | omega | (simp only [nx] <;> omega) | fail) only [aIndexAddr, ty53, ty52, hpl, b4, sb, cond_true, Value.cells, places, tb4] <;> rfl)) rfl <| OSuf.aop tyOK rfl (zl (hv := by simp (disch := first | assumption | omega | (simp only [nx] <;> omega) | fail) only [aLoad, ty52, rowOf, hpl, b4, sb, Option.map_some, cond_true, Value.cells] <;> rfl)) rfl <| OSuf.aop tyOK rfl (so_len (by simp only [aopnds, lk] <;> rfl) (by simp (disch := first | assumption | omega | (simp only [nx] <;> omega) | fail) only [aLenOf, ty52, hpl, b4, sb, cond_true, Value.cells, places, tb4] <;> rfl)) rfl <| OSuf.aopT tyOK rfl (zb (hv := bi_lss)) (fun _ => rfl) (decide_eq_true hlt) <| OSuf.aopT tyOK rfl sm (fun _ => rfl) rfl <| OSuf.aop tyOK ag sm rfl <| OSuf.aopF tyOK ag (zb (hv := bi_lss)) (fun _ => rfl) (decide_eq_false h30) <| OSuf.aopF tyOK rfl (so_pick (by simp only [lk] <;> rfl) (by simp only [lk, cond_true, cond_false] <;> rfl)) (fun _ => rfl) rfl <| OSuf.nil <| SQ.normal ?_
        refine W.no (by simp only [lk] <;> rfl) <| CWp.exit <| SQ.exit <| LQ.exit <| BQ.exit <| ?_
        -- leaf: cut
        refine NQ.normal (L := [(4, P0 h.next), (5, P0 (h.next + 1)), (7, P0 tr), (9, P0 sp)]) ?_ ⟨i, M1, A1, by omega, hsp1, K, rfl⟩
        simp only [HasA, Tr.get_put, Nat.reduceEqDiff, reduceIte, and_self]
    · refine W.seq <| W.seq <| W.reg <| OSuf.aop tyOK rfl sm rfl <| OSuf.aop tyOK rfl (zi (hv := by simp (disch := first | assumption | omega | (simp only [nx] <;> omega) | fail) only [aIndexAddr, ty53, ty52, hpl, b4, sb, cond_true, Value.cells, places, tb4] <;> rfl)) rfl <| OSuf.aop tyOK rfl (zl (hv := by simp (disch := first | assumption | omega | (simp only [nx] <;> omega) | fail) only [aLoad, ty52, rowOf, hpl, b4, sb, Option.map_some, cond_true, Value.cells] <;> rfl)) rfl <| OSuf.aop tyOK rfl (so_len (by simp only [aopnds, lk] <;> rfl) (by simp (disch := first | assumption | omega | (simp only [nx] <;> omega) | fail) only [aLenOf, ty52, hpl, b4, sb, cond_true, Value.cells, places, tb4] <;> rfl)) rfl <| OSuf.aopF tyOK rfl (zb (hv := bi_lss)) (fun _ => rfl) (decide_eq_false hlt) <| OSuf.aopF tyOK rfl sm (fun _ => rfl) rfl <| OSuf.pass ag rfl <| OSuf.pass ag rfl <| OSuf.aopF tyOK rfl (so_pick (by simp only [lk] <;> rfl) (by simp only [lk, cond_true, cond_false] <;> rfl)) (fun _ => rfl) rfl <| OSuf.nil <| SQ.normal ?_
      refine W.no (by simp only [lk] <;> rfl) <| CWp.exit <| SQ.exit <| LQ.exit <| BQ.exit <| ?_
      -- leaf: cut
      refine NQ.normal (L := [(4, P0 h.next), (5, P0 (h.next + 1)), (7, P0 tr), (9, P0 sp)]) ?_ ⟨i, M1, A1, by omega, hsp1, K, rfl⟩
      simp only [HasA, Tr.get_put, Nat.reduceEqDiff, reduceIte, and_self]
  clear K1
  rintro L a2 g2 ha2 ⟨i, M2, A2, hi30, hsp2, K2, rfl⟩
  have ha := ha2
  clear hbeg ha2
  have b5 : g2.get (h.next + 1) = some (.cells [.int .u8 x0, .int .u8 x1, .int .u8 x2] 1) := by rw [← hB5]; exact (K2.r _ (hR4 _ m5)).2.1
  obtain ⟨T, hT⟩ : ∃ T, T = 1 + x0 := ⟨_, rfl⟩
  have w1 : IntKind.u64.wrap x0 = x0 := wrap_u64 (by omega) (by omega)
  have w2 : IntKind.u64.wrap (1 + x0) = T := by rw [wrap_u64 (by omega) (by omega)]; exact hT.symm
  obtain ⟨y, H, M3, hy, r1, K3⟩ := kp_read K2 (by omega) (keyL_mem x1) T
  obtain ⟨A3, hA3⟩ : ∃ A3, A3 = touchR (keyL x1) T 0 A2 := ⟨_, rfl⟩
  rw [← hA3] at hy K3
  have hyT : T ≤ y.rts := by
    have h9 : ∃ r, y.rts = mx r T := by
      rw [hA3, touchR] at hy
      cases h8 : getR (keyL x1) A2 with
      | some z =>
        rw [h8] at hy
        simp only at hy
        rw [getR_setR, if_pos (getR_key h8).2.symm] at hy
        cases hy; exact ⟨_, rfl⟩
      | none =>
        rw [h8] at hy
        simp only [if_pos (K8_ok (keyL_mem x1))] at hy
        rw [getR_setR, if_pos rfl] at hy
        cases hy; exact ⟨_, rfl⟩
    obtain ⟨r, h9⟩ := h9
    rw [h9]; exact mx_ge _ _
  obtain ⟨d0, hd0⟩ : ∃ d0, d0 = readV y T 99 := ⟨_, rfl⟩
  rw [← hd0] at r1
  obtain ⟨D0, hD0⟩ : ∃ D0, D0 = AObj.cells [.bool d0.fetch, I64 d0.err, .bool d0.found, .string d0.val, U64 d0.hang, U64 d0.need, U64 d0.over] 1 := ⟨_, rfl⟩
  obtain ⟨G2, hG2⟩ : ∃ G2, G2 = (H.new (.cells [.bool false, I64 0, .bool false, .string ⟨#[]⟩, U64 0, U64 0, U64 0] 1)).set H.next D0 := ⟨_, rfl⟩
  have nG2 : G2.next = H.next + 1 := by rw [hG2]; rfl
  have oG2 : ∀ z, z < H.next → G2.get z = H.get z := fun z hz => by rw [hG2]; simp (disch := first | assumption | omega | (simp only [nx] <;> omega) | fail) only [hpl]
  have hspH := (K3.r (sp, S0) List.mem_cons_self).1
  simp only at hspH
  have K4 := K3.new (g' := G2) (p := (H.next, D0)) (by omega) oG2 (Nat.le_refl _) (by show H.next < G2.next; omega) (by rw [hG2]; exact AHeap.get_set_same _ _ _)
  obtain ⟨s1, s2, s3, s4⟩ := K4.r (sp, S0) (List.mem_cons_of_mem _ List.mem_cons_self)
  simp only at s1 s2 s3 s4
  have hlo0 : (keyL x2).length < 9223372036854775808 := by have := (K8_ok (keyL_mem x2)).2; omega
  obtain ⟨H3, q1, q2, q3, q4, q5⟩ := spanread_c G2 sp 100 (keyL x2) T s1 (by rw [s2, hS0]) (by omega) (by omega)
  obtain ⟨qn, hqn⟩ : ∃ qn, qn = G2.next + 2 := ⟨_, rfl⟩
  rw [← hqn] at q2 q3
  obtain ⟨S1, hS1⟩ : ∃ S1, S1 = AObj.cells [I64 100, .slice (some ⟨qn, 0, none⟩) 1 0] 1 := ⟨_, rfl⟩
  obtain ⟨S2, hS2⟩ : ∃ S2, S2 = AObj.cells [encS (keyL x2), encS [], U64 T] 3 := ⟨_, rfl⟩
  rw [← hS1] at q2
  rw [← hS2] at q3
  have hlt4 := K4.tb.ta.lt
  have K5 := K4.mod (g' := H3) (p := sp) (R' := (H.next, D0) :: Rb) s1 (by rw [s2, hS0]) s3 s4 (by omega) q5 fun q hq => by
    rcases List.mem_cons.1 hq with rfl | hq
    · exact ⟨List.mem_cons_self, by show ¬ H.next = sp; omega⟩
    · exact ⟨List.mem_cons_of_mem _ (List.mem_cons_of_mem _ hq), by have := hRb2 q hq; omega⟩
  have K6 := (K5.row (p := (sp, S1)) (by show sp < H3.next; omega) q2 s3 s4).row (p := (qn, S2)) (by show qn < H3.next; omega) q3 (by show ¬ qn = tr; omega) (fun h9 => by have := (row_of K4.tb.ta h9).1; simp only at this; omega)
  have hqn3 : qn < H3.next := by omega
  have hsp3 : sp < H3.next := by omega
  have hkk : ∀ x ∈ A3, okKey x.key := fun x hx => K8_ok (K6.v x hx).2.2
  have hsc := scan_c H3 tr 0 M3 A3 K6.tb (K6.ok (by omega)) (by have := K6.len; omega) hkk (keyL x2) T 99
  subst hG2
  rw [hD0] at q1
  refine SQ.normal <| CWp.known ha ?_
  simp only [mkA]
  refine W.seq <| W.reg <| OSuf.aop tyOK rfl (zi (hv := by simp (disch := first | assumption | omega | (simp only [nx] <;> omega) | fail) only [aIndexAddr, ty54, ty5, hpl, b5, sb, aggD, cond_true, Value.cells, places, tb4] <;> rfl)) rfl <| OSuf.aop tyOK rfl (zl (hv := by simp (disch := first | assumption | omega | (simp only [nx] <;> omega) | fail) only [aLoad, ty5, rowOf, hpl, b5, sb, aggD, Option.map_some, cond_true, Value.cells] <;> rfl)) rfl <| OSuf.aop tyOK rfl (so_conw (so_conv tyOK (by simp only [lk] <;> rfl) ty5 ⟨_, rfl⟩ ty27 rfl) (by first | (simp only [w1, w2] <;> rfl) | rfl)) rfl <| OSuf.aop tyOK rfl (zb (hv := bi_w bi_add (by first | (simp only [w1, w2] <;> rfl) | rfl))) rfl <| OSuf.aop tyOK rfl za rfl <| OSuf.nil <| SQ.normal ?_
  refine W.seq <| CWp.sqd tyOK mixed (ms := [0, 1, 3, 0, 8, 31, 63, 127]) (by kernel_rfl) (
      .free rfl rfl (zi (hv := by simp (disch := first | assumption | omega | (simp only [nx] <;> omega) | fail) only [aIndexAddr, ty54, ty5, hpl, b5, sb, aggD, cond_true, Value.cells, places, tb4] <;> rfl)) rfl <| .read rfl rfl (zl (hv := by simp (disch := first | assumption | omega | (simp only [nx] <;> omega) | fail) only [aLoad, ty5, rowOf, hpl, b5, sb, aggD, Option.map_some, cond_true, Value.cells] <;> rfl)) (by first | rfl | (simp [veq, veq1, veqs]; done) | (simp [veq, veq1, veqs, splice]; done)) trivial rfl <| .call rfl rfl (fcallO (by simp only [aopnds, lk] <;> rfl) en16 (key_c _ x1 hx1.1 hx1.2)) rfl ⟨.inl rfl, trivial⟩ rfl <| .free rfl rfl (zi (hv := by simp (disch := first | assumption | omega | (simp only [nx] <;> omega) | fail) only [aIndexAddr, ty54, ty5, hpl, b5, sb, aggD, cond_true, Value.cells, places, tb4] <;> rfl)) rfl <| .read rfl rfl (zl (hv := by simp (disch := first | assumption | omega | (simp only [nx] <;> omega) | fail) only [aLoad, ty5, rowOf, hpl, b5, sb, aggD, Option.map_some, cond_true, Value.cells] <;> rfl)) (by first | rfl | (simp [veq, veq1, veqs]; done) | (simp [veq, veq1, veqs, splice]; done)) ⟨.inr (zl (hv := by simp (disch := first | assumption | omega | (simp only [nx] <;> omega) | fail) only [aLoad, ty5, rowOf, hpl, b5, sb, aggD, Option.map_some, cond_true, Value.cells] <;> rfl)), trivial⟩ rfl <| .call rfl rfl (fcallO (by simp only [aopnds, lk] <;> rfl) en16 (key_c _ x2 hx2.1 hx2.2)) rfl ⟨.inl rfl, .inl rfl, trivial⟩ rfl <| .free rfl rfl za rfl <| .free rfl rfl za rfl <| .nil) <| SQ.normal ?_
  refine W.seq <| W.reg <| OSuf.aop tyOK rfl sm rfl <| OSuf.aop tyOK rfl sm rfl <| OSuf.aop tyOK rfl sm rfl <| OSuf.callD rfl (by simp only [aopnds, lk] <;> rfl) en6 (r1) rfl <| OSuf.aop tyOK rfl (so_alloc (by simp only [aAlloc, ty29] <;> rfl)) rfl <| OSuf.aop tyOK rfl (zs (hv := by simp (disch := first | assumption | omega | (simp only [nx] <;> omega) | fail) only [aStore, ty29, writeRow, hpl, b5, sb, aggD, Option.map_some, cond_true, Value.cells] <;> rfl)) rfl <| OSuf.nil <| SQ.normal ?_
  refine W.seq <| W.reg <| OSuf.aop tyOK rfl sm rfl <| OSuf.aop tyOK rfl sm rfl <| OSuf.aop tyOK rfl sm rfl <| OSuf.callD rfl (by simp only [aopnds, lk] <;> rfl) en10 (q1) rfl <| OSuf.nil <| SQ.normal ?_
  refine W.seq <| W.reg <| OSuf.aop tyOK rfl sm rfl <| OSuf.aop tyOK rfl sm rfl <| OSuf.aop tyOK rfl sm rfl <| OSuf.call rfl (by simp only [aopnds, lk] <;> rfl) en9 (hsc) ?_
  rintro _ H4 ⟨pr, hb9, nn, rfl, n1, o1, sv⟩
  refine ⟨_, rfl, ?_⟩
  refine OSuf.aop tyOK rfl sm rfl <| OSuf.aop tyOK rfl (ze (hv := by simp (disch := first | assumption | omega | (simp only [nx] <;> omega) | fail) only [aExtract, hpl, b5, sb, aggD, cond_true, Value.cells, places, tb4] <;> rfl)) rfl <| OSuf.aop tyOK rfl (ze (hv := by simp (disch := first | assumption | omega | (simp only [nx] <;> omega) | fail) only [aExtract, hpl, b5, sb, aggD, cond_true, Value.cells, places, tb4] <;> rfl)) rfl <| OSuf.aop tyOK rfl (ze (hv := by simp (disch := first | assumption | omega | (simp only [nx] <;> omega) | fail) only [aExtract, hpl, b5, sb, aggD, cond_true, Value.cells, places, tb4] <;> rfl)) rfl <| OSuf.aop tyOK rfl za rfl <| OSuf.aop tyOK rfl za rfl <| OSuf.aop tyOK rfl za rfl <| OSuf.nil <| SQ.normal ?_
  refine W.seq <| W.seq <| W.reg <| OSuf.aop tyOK rfl za rfl <| OSuf.nil <| SQ.normal ?_
  -- leaf: loop
  obtain ⟨F0, hF0⟩ : ∃ F0, F0 = fnd (scanL (keyL x2) T A3) := ⟨_, rfl⟩
  obtain ⟨HG, hHG⟩ : ∃ HG, HG = hgN T (scanL (keyL x2) T A3) := ⟨_, rfl⟩
  rw [← hF0] at sv
  rw [← hHG]
  obtain ⟨pb, hpb, hpl0, hpr⟩ := sv.form
  have hvl : vLen pr = F0.length := by have := flatPr_length F0; omega
  rw [hvl] at hpb
  obtain ⟨Rp, K7, hRp⟩ : ∃ Rp, Kp H4 tr i M3 A3 (Rp ++ (qn, S2) :: (sp, S1) :: (H.next, D0) :: Rb) ∧ (F0 ≠ [] → ∃ y, pb = some ⟨y, 0, none⟩ ∧ (y, AObj.cells (flatPr F0) 2) ∈ Rp) := by
    by_cases hFe : F0 = []
    · exact ⟨[], K6.garb n1 o1, fun h9 => absurd hFe h9⟩
    · obtain ⟨y9, e9, _, y91, y92, y93⟩ := hpr (fun e => hFe (List.length_eq_zero_iff.1 (by have := flatPr_length F0; rw [e] at this; simp at this; omega)))
      exact ⟨[(y9, AObj.cells (flatPr F0) 2)], K6.new n1 o1 y91 y92 y93, fun _ => ⟨y9, e9, List.mem_singleton.2 rfl⟩⟩
  subst hpb
  obtain ⟨R3, hR3⟩ : ∃ R3, R3 = Rp ++ (qn, S2) :: (sp, S1) :: (H.next, D0) :: Rb := ⟨_, rfl⟩
  rw [← hR3] at K7
  have t1 : ∀ q, q ∈ Rp → q ∈ R3 := fun q hq => by rw [hR3]; exact List.mem_append.2 (.inl hq)
  have t2 : (qn, S2) ∈ R3 := by rw [hR3]; exact List.mem_append.2 (.inr List.mem_cons_self)
  have t3 : (sp, S1) ∈ R3 := by rw [hR3]; exact List.mem_append.2 (.inr (List.mem_cons_of_mem _ List.mem_cons_self))
  have t4 : (H.next, D0) ∈ R3 := by rw [hR3]; exact List.mem_append.2 (.inr (List.mem_cons_of_mem _ (List.mem_cons_of_mem _ List.mem_cons_self)))
  have t5 : ∀ q, q ∈ Rb → q ∈ R3 := fun q hq => by rw [hR3]; exact List.mem_append.2 (.inr (List.mem_cons_of_mem _ (List.mem_cons_of_mem _ (List.mem_cons_of_mem _ hq))))
  have hmx : ∀ g' k, sp < g'.next → qn < g'.next → g'.get sp = some S1 → g'.get qn = some S2 → MaxAt g' sp k (if Go.Sort.ltStr k (keyL x2) then 0 else T) := fun g' k e1 e2 e3 e4 => max_one (by rw [e3, hS1]) (by rw [e4, hS2]) e1 e2 (by omega)
  have I0 : Inv (keyL x1) (keyL x2) T d0 (hits (keyL x2) T A3) A3 := ⟨⟨y, hy, hyT, hd0.symm⟩, rfl⟩
  have hnd3 := K7.tb.nodup
  have hlen3 := K7.len
  have hF8 : F0.length ≤ 8 := by
    have h1 := (scanL_perm (lo := keyL x2) (ts := T) hnd3).length_eq
    have h2 : (hits (keyL x2) T A3).length ≤ A3.length := List.length_filterMap_le (hitF (keyL x2) T) A3
    have h3 := List.length_filter_le (fun p : List UInt8 × Vr => !p.2.del) (scanL (keyL x2) T A3)
    rw [hF0]
    show ((scanL (keyL x2) T A3).filter _).length ≤ 8
    omega
  obtain ⟨H0, hH0⟩ : ∃ H0, H0 = hits (keyL x2) T A3 := ⟨_, rfl⟩
  rw [← hH0] at I0
  have hqH4 : sp < H4.next ∧ qn < H4.next := ⟨by omega, by omega⟩
  clear hsc K2 K3 K4 K5 K6 q1 q2 q3 q4 q5 s1 s2 s3 s4 r1 b5 sv hpr o1 hkk hy ha oG2 hpl0 hvl nG2 hlt4
  refine W.cut (fun L g' => L = []) (W.block (W.loop (fun q L g' => ∃ j M A, q + j = 30 ∧ Kp g' tr (40 + 3 * j) M A R3 ∧ Inv (keyL x1) (keyL x2) T d0 H0 A ∧ L = [(4, P0 h.next), (5, P0 (h.next + 1)), (7, P0 tr), (9, P0 sp), (11, U64 T), (12, encS (keyL x1)), (13, encS (keyL x2)), (14, P0 H.next), (15, .slice pb F0.length 0), (16, .slice hb9 HG 0), (18, I64 j)]) (n := 30) ⟨0, M3, A3, by omega, K7.up (by omega), I0, rfl⟩ ?_ ?_)) ?_
  · simp [HasA, Tr.get_put]
  · clear K7 I0
    rintro q L g5 ⟨j, M5, A5, hq, K, I, rfl⟩
    simp only [mkA]
    have w3 : IntKind.i64.wrap ((j : Int) + 1) = ((j + 1 : Nat) : Int) := by rw [wrap_i64 (by omega) (by omega)]; omega
    have b4 : g5.get h.next = some (.cells [.slice b0 l0.length 0, .slice b1 l1.length 0] 1) := by rw [← hB4]; exact (K.r _ (t5 _ m4)).2.1
    by_cases hlt : (j : Int) < (l1.length : Int)
    · by_cases h30 : (j : Int) < 30
      · obtain ⟨x, hx⟩ : ∃ x, l1[j]? = some x := ⟨l1[j]'(by omega), by simp⟩
        obtain ⟨r0, rfl, hr0⟩ := roOf_mem hb1 (fun e => by rw [e] at hx; simp at hx)
        have hg0 := (K.r _ (t5 _ (mr1 _ hr0))).2.1
        simp only at hg0
        have hc : (0 ≤ (j : Int) ∧ (j : Int) < (l1.length : Int)) := by omega
        have hcell := flatAc_cell hx
        rw [Ac.cs] at hcell
        have hxo := hb1.ok x (List.mem_of_getElem? hx)
        have c0 : (flatAc l1)[j * 8]? = some (I64 x.what) := flatAc_get (j := 0) hx (by omega)
        have c1 : (flatAc l1)[j * 8 + 1]? = some (.int .u8 x.ts) := flatAc_get (j := 1) hx (by omega)
        have e1 : [I64 x.what, .int .u8 x.ts, .int .u8 x.a, .int .u8 x.b, .bool x.del, .int .u8 x.val, .slice x.sb x.sn 0, .int .u8 x.st].toArray = #[I64 x.what, .int .u8 x.ts, .int .u8 x.a, .int .u8 x.b, .bool x.del, .int .u8 x.val, .slice x.sb x.sn 0, .int .u8 x.st] := rfl
        have hspg := (K.r _ t3).1
        have hqng := (K.r _ t2).1
        simp only at hspg hqng
        have hac := act_c K (by omega) (sp := sp) (m := fun k => if Go.Sort.ltStr k (keyL x2) then 0 else T) (fun g' k q1 q2 => hmx g' k (by omega) (by omega) (q2 _ t3) (q2 _ t2)) x hxo T
        refine W.seq <| W.seq <| W.reg <| OSuf.aop tyOK rfl sm rfl <| OSuf.aop tyOK rfl (zi (hv := by simp (disch := first | assumption | omega | (simp only [nx] <;> omega) | fail) only [aIndexAddr, ty53, ty52, hpl, b4, hg0, hc, sb, hcell, e1, cond_true, Value.cells, places, tb4] <;> rfl)) rfl <| OSuf.aop tyOK rfl (zl (hv := by simp (disch := first | assumption | omega | (simp only [nx] <;> omega) | fail) only [aLoad, ty52, rowOf, hpl, b4, hg0, hc, sb, hcell, e1, Option.map_some, cond_true, Value.cells] <;> rfl)) rfl <| OSuf.aop tyOK rfl (so_len (by simp only [aopnds, lk] <;> rfl) (by simp (disch := first | assumption | omega | (simp only [nx] <;> omega) | fail) only [aLenOf, ty52, hpl, b4, hg0, hc, sb, hcell, e1, cond_true, Value.cells, places, tb4] <;> rfl)) rfl <| OSuf.aopT tyOK rfl (zb (hv := bi_lss)) (fun _ => rfl) (decide_eq_true hlt) <| OSuf.aopT tyOK rfl sm (fun _ => rfl) rfl <| OSuf.aop tyOK ag sm rfl <| OSuf.aopT tyOK ag (zb (hv := bi_lss)) (fun _ => rfl) (decide_eq_true h30) <| OSuf.aopT tyOK rfl (so_pick (by simp only [lk] <;> rfl) (by simp only [lk, cond_true, cond_false] <;> rfl)) (fun _ => rfl) rfl <| OSuf.nil <| SQ.normal ?_
        refine W.yes (by simp only [lk] <;> rfl) <| CWp.skip <| SQ.normal ?_
        refine W.seq <| W.block <| W.seq <| W.reg <| OSuf.aop tyOK rfl sm rfl <| OSuf.aop tyOK rfl sm rfl <| OSuf.aop tyOK rfl (zi (hv := by simp (disch := first | assumption | omega | (simp only [nx] <;> omega) | fail) only [aIndexAddr, ty53, ty52, hpl, b4, hg0, hc, sb, hcell, e1, cond_true, Value.cells, places, tb4] <;> rfl)) rfl <| OSuf.aop tyOK rfl (zl (hv := by simp (disch := first | assumption | omega | (simp only [nx] <;> omega) | fail) only [aLoad, ty52, rowOf, hpl, b4, hg0, hc, sb, hcell, e1, Option.map_some, cond_true, Value.cells] <;> rfl)) rfl <| OSuf.aop tyOK rfl sm rfl <| OSuf.aop tyOK rfl (zi (hv := by simp (disch := first | assumption | omega | (simp only [nx] <;> omega) | fail) only [aIndexAddr, ty52, ty61, hpl, b4, hg0, hc, sb, hcell, e1, cond_true, Value.cells, places, tb4] <;> rfl)) rfl <| OSuf.aop tyOK rfl (zl (hv := by simp (disch := first | assumption | omega | (simp only [nx] <;> omega) | fail) only [aLoad, ty61, rowOf, hpl, b4, hg0, hc, sb, hcell, e1, Option.map_some, cond_true, Value.cells] <;> rfl)) rfl <| OSuf.aop tyOK rfl sm rfl <| OSuf.call rfl (by simp only [aopnds, lk] <;> rfl) en15 (hac) ?_
        rintro _ g6 ⟨rfl, M6, A6, K6, har, hn6⟩
        refine ⟨_, rfl, ?_⟩
        refine OSuf.nil <| SQ.normal ?_
        refine W.seq <| ?_
        -- leaf: upto
        have I6 := inv_ar I K.tb.nodup har
        clear hac har K I b4 hg0
        have b4 : g6.get h.next = some (.cells [.slice b0 l0.length 0, .slice (some ⟨r0, 0, none⟩) l1.length 0] 1) := by rw [← hB4]; exact (K6.r _ (t5 _ m4)).2.1
        have hg0 := (K6.r _ (t5 _ (mr1 _ hr0))).2.1
        simp only at hg0
        have u1 : IntKind.u64.wrap x.ts = x.ts := wrap_u64 (by have := hxo.1; omega) (by have := hxo.1; omega)
        obtain ⟨tt, htt⟩ : ∃ tt, tt = 1 + x.ts := ⟨_, rfl⟩
        have u2 : IntKind.u64.wrap (1 + x.ts) = tt := by rw [wrap_u64 (by have := hxo.1; omega) (by have := hxo.1; omega)]; exact htt.symm
        refine W.cut (fun L g' => ∃ M A, Kp g' tr (40 + 3 * j + 3) M A R3 ∧ Inv (keyL x1) (keyL x2) T d0 H0 A ∧ L = [(4, P0 h.next), (5, P0 (h.next + 1)), (7, P0 tr), (9, P0 sp), (11, U64 T), (12, encS (keyL x1)), (13, encS (keyL x2)), (14, P0 H.next), (15, .slice pb F0.length 0), (16, .slice hb9 HG 0), (18, I64 j)]) ?_ ?_
        · by_cases hw1 : x.what > 1
          · by_cases hw2 : tt < T
            · have hsp6 := (K6.r _ t3).1
              have hqn6 := (K6.r _ t2).1
              simp only at hsp6 hqn6
              obtain ⟨Ha, Ma, Aa, dw, f1, Ka, f2⟩ := kp_write K6 (by omega) (keyL_mem x1) (hmx g6 (keyL x1) hsp6 hqn6 (K6.r _ t3).2.1 (K6.r _ t2).2.1) tt false ⟨#[113]⟩ (fun e => by cases e) (by decide)
              obtain ⟨rfl, hdw⟩ : Aa = A6 ∧ (dw.fetch = true ∨ (dw.fetch = false ∧ dw.err = 14)) := by
                rcases f2 with ⟨z1, z2, _⟩ | ⟨z, z1, z2, z3, _⟩
                · exact ⟨z1, z2⟩
                · exfalso
                  obtain ⟨y2, y3, y4, _⟩ := I6.row
                  rw [z1] at y3
                  cases y3
                  rw [conB] at z3
                  have : decide (tt < z.rts) = true := decide_eq_true (by omega)
                  rw [this] at z3; simp at z3
              obtain ⟨DW, hDW⟩ : ∃ DW, DW = AObj.cells [.bool dw.fetch, I64 dw.err, .bool dw.found, .string dw.val, U64 dw.hang, U64 dw.need, U64 dw.over] 1 := ⟨_, rfl⟩
              obtain ⟨Gb, hGb⟩ : ∃ Gb, Gb = (Ha.new (.cells [.bool false, I64 0, .bool false, .string ⟨#[]⟩, U64 0, U64 0, U64 0] 1)).set Ha.next DW := ⟨_, rfl⟩
              have nGb : Gb.next = Ha.next + 1 := by rw [hGb]; rfl
              have oGb : ∀ z, z < Ha.next → Gb.get z = Ha.get z := fun z hz => by rw [hGb]; simp (disch := first | assumption | omega | (simp only [nx] <;> omega) | fail) only [hpl]
              have Kb := Ka.new (g' := Gb) (p := (Ha.next, DW)) (by omega) oGb (Nat.le_refl _) (by show Ha.next < Gb.next; omega) (by rw [hGb]; exact AHeap.get_set_same _ _ _)
              obtain ⟨z2, hz2⟩ : ∃ z2, z2 = IntKind.u8.wrap (x2 + 1) := ⟨_, rfl⟩
              have hz0 : 0 ≤ z2 ∧ z2 < 256 := by
                rw [hz2]
                by_cases h9 : x2 + 1 < 256
                · rw [wrap_u8 (by omega) h9]; omega
                · have e9 : x2 = 255 := by omega
                  rw [e9]; decide
              have hz3 : IntKind.u8.wrap (x2 + 1) = z2 := hz2.symm
              have mb : ∀ q, q ∈ R3 → q ∈ (Ha.next, DW) :: R3 := fun q hq => List.mem_cons_of_mem _ hq
              have hspb := (Kb.r _ (mb _ t3)).1
              have hqnb := (Kb.r _ (mb _ t2)).1
              simp only at hspb hqnb
              obtain ⟨Hc, Mc, Ac', dv, f3, Kc, f4⟩ := kp_write Kb (by omega) (keyL_mem z2) (hmx Gb (keyL z2) hspb hqnb (Kb.r _ (mb _ t3)).2.1 (Kb.r _ (mb _ t2)).2.1) tt false ⟨#[113]⟩ (fun e => by cases e) (by decide)
              have Ic : Inv (keyL x1) (keyL x2) T d0 H0 Ac' := by
                rcases f4 with ⟨z1, _⟩ | ⟨z, z1, z2, z3, z4, _⟩
                · rw [z1]; exact I6
                · rw [z4]; exact I6.put Kb.tb.nodup z1 z2 z3 (by omega)
              have hdv : Go.Sort.ltStr (keyL z2) (keyL x2) = true ∨ (Go.Sort.ltStr (keyL z2) (keyL x2) = false ∧ (dv.fetch = true ∨ (dv.fetch = false ∧ dv.err = 14))) := by
                cases hl9 : Go.Sort.ltStr (keyL z2) (keyL x2) with
                | true => exact .inl rfl
                | false =>
                  rcases f4 with ⟨_, z2, _⟩ | ⟨z, z1, z2, z3, _⟩
                  · exact .inr ⟨rfl, z2⟩
                  · exfalso
                    rw [conB, hl9] at z3
                    have : decide (tt < T) = true := decide_eq_true hw2
                    simp [this] at z3
              obtain ⟨DV, hDV⟩ : ∃ DV, DV = AObj.cells [.bool dv.fetch, I64 dv.err, .bool dv.found, .string dv.val, U64 dv.hang, U64 dv.need, U64 dv.over] 1 := ⟨_, rfl⟩
              obtain ⟨Gd, hGd⟩ : ∃ Gd, Gd = (Hc.new (.cells [.bool false, I64 0, .bool false, .string ⟨#[]⟩, U64 0, U64 0, U64 0] 1)).set Hc.next DV := ⟨_, rfl⟩
              have nGd : Gd.next = Hc.next + 1 := by rw [hGd]; rfl
              have oGd : ∀ z, z < Hc.next → Gd.get z = Hc.get z := fun z hz => by rw [hGd]; simp (disch := first | assumption | omega | (simp only [nx] <;> omega) | fail) only [hpl]
              have Kd := Kc.new (g' := Gd) (p := (Hc.next, DV)) (by omega) oGd (Nat.le_refl _) (by show Hc.next < Gd.next; omega) (by rw [hGd]; exact AHeap.get_set_same _ _ _)
              have md : ∀ q, q ∈ R3 → q ∈ (Hc.next, DV) :: (Ha.next, DW) :: R3 := fun q hq => List.mem_cons_of_mem _ (mb q hq)
              have Ke := Kd.sub (R' := R3) md
              -- what is read on the way
              have b4b : Gb.get h.next = some (.cells [.slice b0 l0.length 0, .slice (some ⟨r0, 0, none⟩) l1.length 0] 1) := by rw [← hB4]; exact (Kb.r _ (mb _ (t5 _ m4))).2.1
              have b5b : Gb.get (h.next + 1) = some (.cells [.int .u8 x0, .int .u8 x1, .int .u8 x2] 1) := by rw [← hB5]; exact (Kb.r _ (mb _ (t5 _ m5))).2.1
              have g0b := (Kb.r _ (mb _ (t5 _ (mr1 _ hr0)))).2.1
              have b4c : Hc.get h.next = some (.cells [.slice b0 l0.length 0, .slice (some ⟨r0, 0, none⟩) l1.length 0] 1) := by rw [← hB4]; exact (Kc.r _ (mb _ (t5 _ m4))).2.1
              have b5c : Hc.get (h.next + 1) = some (.cells [.int .u8 x0, .int .u8 x1, .int .u8 x2] 1) := by rw [← hB5]; exact (Kc.r _ (mb _ (t5 _ m5))).2.1
              have g0c := (Kc.r _ (mb _ (t5 _ (mr1 _ hr0)))).2.1
              have b5d : Gd.get (h.next + 1) = some (.cells [.int .u8 x0, .int .u8 x1, .int .u8 x2] 1) := by rw [← hB5]; exact (Ke.r _ (t5 _ m5)).2.1
              have dwc : Hc.get Ha.next = some (.cells [.bool dw.fetch, I64 dw.err, .bool dw.found, .string dw.val, U64 dw.hang, U64 dw.need, U64 dw.over] 1) := by rw [← hDW]; exact (Kc.r _ List.mem_cons_self).2.1
              have dwd : Gd.get Ha.next = some (.cells [.bool dw.fetch, I64 dw.err, .bool dw.found, .string dw.val, U64 dw.hang, U64 dw.need, U64 dw.over] 1) := by rw [← hDW]; exact (Kd.r _ (List.mem_cons_of_mem _ List.mem_cons_self)).2.1
              have hac9 := (Kc.r _ List.mem_cons_self).1
              have b5h := (Kc.r _ (mb _ (t5 _ m5))).1
              have b4h := (Ka.r _ (t5 _ m4)).1
              have b4a : Ha.get h.next = some (.cells [.slice b0 l0.length 0, .slice (some ⟨r0, 0, none⟩) l1.length 0] 1) := by rw [← hB4]; exact (Ka.r _ (t5 _ m4)).2.1
              have b5a : Ha.get (h.next + 1) = some (.cells [.int .u8 x0, .int .u8 x1, .int .u8 x2] 1) := by rw [← hB5]; exact (Ka.r _ (t5 _ m5)).2.1
              have g0a := (Ka.r _ (t5 _ (mr1 _ hr0))).2.1
              have b5i := (Ka.r _ (t5 _ m5)).1
              have r0i := (Ka.r _ (t5 _ (mr1 _ hr0))).1
              have r0c := (Kc.r _ (mb _ (t5 _ (mr1 _ hr0)))).1
              have b4i := (Kc.r _ (mb _ (t5 _ m4))).1
              simp only at g0b g0c g0a hac9 b5h b4h b5i r0i r0c b4i
              subst hGd hGb hDW hDV
              refine W.seq <| W.reg <| OSuf.aop tyOK rfl (zi (hv := by simp (disch := first | assumption | omega | (simp only [nx] <;> omega) | fail) only [aIndexAddr, ty53, ty52, hpl, b4, b4a, b4b, b4c, b5a, b5b, b5c, hg0, g0a, g0b, g0c, hc, sb, c0, c1, aggD, cond_true, Value.cells, places, tb4] <;> rfl)) rfl <| OSuf.aop tyOK rfl (zl (hv := by simp (disch := first | assumption | omega | (simp only [nx] <;> omega) | fail) only [aLoad, ty52, rowOf, hpl, b4, b4a, b4b, b4c, b5a, b5b, b5c, hg0, g0a, g0b, g0c, hc, sb, c0, c1, aggD, Option.map_some, cond_true, Value.cells] <;> rfl)) rfl <| OSuf.aop tyOK rfl sm rfl <| OSuf.aop tyOK rfl (zi (hv := by simp (disch := first | assumption | omega | (simp only [nx] <;> omega) | fail) only [aIndexAddr, ty52, ty61, hpl, b4, b4a, b4b, b4c, b5a, b5b, b5c, hg0, g0a, g0b, g0c, hc, sb, c0, c1, aggD, cond_true, Value.cells, places, tb4] <;> rfl)) rfl <| OSuf.aop tyOK rfl (zf (hv := fa_ok (k := 0) ty61 rfl rfl ty3 rfl rfl)) rfl <| OSuf.aop tyOK rfl (zl (hv := by simp (disch := first | assumption | omega | (simp only [nx] <;> omega) | fail) only [aLoad, ty3, rowOf, hpl, b4, b4a, b4b, b4c, b5a, b5b, b5c, hg0, g0a, g0b, g0c, hc, sb, c0, c1, aggD, Option.map_some, cond_true, Value.cells] <;> rfl)) rfl <| OSuf.aopT tyOK rfl (zb (hv := bi_gtr)) (fun _ => rfl) (decide_eq_true hw1) <| OSuf.aopT tyOK rfl sm (fun _ => rfl) rfl <| OSuf.aop tyOK ag (zi (hv := by simp (disch := first | assumption | omega | (simp only [nx] <;> omega) | fail) only [aIndexAddr, ty53, ty52, hpl, b4, b4a, b4b, b4c, b5a, b5b, b5c, hg0, g0a, g0b, g0c, hc, sb, c0, c1, aggD, cond_true, Value.cells, places, tb4] <;> rfl)) rfl <| OSuf.aop tyOK ag (zl (hv := by simp (disch := first | assumption | omega | (simp only [nx] <;> omega) | fail) only [aLoad, ty52, rowOf, hpl, b4, b4a, b4b, b4c, b5a, b5b, b5c, hg0, g0a, g0b, g0c, hc, sb, c0, c1, aggD, Option.map_some, cond_true, Value.cells] <;> rfl)) rfl <| OSuf.aop tyOK ag sm rfl <| OSuf.aop tyOK ag (zi (hv := by simp (disch := first | assumption | omega | (simp only [nx] <;> omega) | fail) only [aIndexAddr, ty52, ty61, hpl, b4, b4a, b4b, b4c, b5a, b5b, b5c, hg0, g0a, g0b, g0c, hc, sb, c0, c1, aggD, cond_true, Value.cells, places, tb4] <;> rfl)) rfl <| OSuf.aop tyOK ag (zf (hv := fa_ok (k := 1) ty61 rfl rfl ty5 rfl rfl)) rfl <| OSuf.aop tyOK ag (zl (hv := by simp (disch := first | assumption | omega | (simp only [nx] <;> omega) | fail) only [aLoad, ty5, rowOf, hpl, b4, b4a, b4b, b4c, b5a, b5b, b5c, hg0, g0a, g0b, g0c, hc, sb, c0, c1, aggD, Option.map_some, cond_true, Value.cells] <;> rfl)) rfl <| OSuf.aop tyOK ag (so_conw (so_conv tyOK (by simp only [lk] <;> rfl) ty5 ⟨_, rfl⟩ ty27 rfl) (by first | (simp only [u1, u2, hz3] <;> rfl) | rfl)) rfl <| OSuf.aop tyOK ag (zb (hv := bi_w bi_add (by first | (simp only [u1, u2, hz3] <;> rfl) | rfl))) rfl <| OSuf.aop tyOK ag sm rfl <| OSuf.aopT tyOK ag (zb (hv := bi_lss)) (fun _ => rfl) (decide_eq_true hw2) <| OSuf.aopT tyOK rfl (so_pick (by simp only [lk] <;> rfl) (by simp only [lk, cond_true, cond_false] <;> rfl)) (fun _ => rfl) rfl <| OSuf.nil <| SQ.normal ?_
              refine W.yes (by simp only [lk] <;> rfl) <| W.seq <| W.reg <| OSuf.aop tyOK rfl sm rfl <| OSuf.aop tyOK rfl sm rfl <| OSuf.aop tyOK rfl (zi (hv := by simp (disch := first | assumption | omega | (simp only [nx] <;> omega) | fail) only [aIndexAddr, ty53, ty52, hpl, b4, b4a, b4b, b4c, b5a, b5b, b5c, hg0, g0a, g0b, g0c, hc, sb, c0, c1, aggD, cond_true, Value.cells, places, tb4] <;> rfl)) rfl <| OSuf.aop tyOK rfl (zl (hv := by simp (disch := first | assumption | omega | (simp only [nx] <;> omega) | fail) only [aLoad, ty52, rowOf, hpl, b4, b4a, b4b, b4c, b5a, b5b, b5c, hg0, g0a, g0b, g0c, hc, sb, c0, c1, aggD, Option.map_some, cond_true, Value.cells] <;> rfl)) rfl <| OSuf.aop tyOK rfl sm rfl <| OSuf.aop tyOK rfl (zi (hv := by simp (disch := first | assumption | omega | (simp only [nx] <;> omega) | fail) only [aIndexAddr, ty52, ty61, hpl, b4, b4a, b4b, b4c, b5a, b5b, b5c, hg0, g0a, g0b, g0c, hc, sb, c0, c1, aggD, cond_true, Value.cells, places, tb4] <;> rfl)) rfl <| OSuf.aop tyOK rfl (zf (hv := fa_ok (k := 1) ty61 rfl rfl ty5 rfl rfl)) rfl <| OSuf.aop tyOK rfl (zl (hv := by simp (disch := first | assumption | omega | (simp only [nx] <;> omega) | fail) only [aLoad, ty5, rowOf, hpl, b4, b4a, b4b, b4c, b5a, b5b, b5c, hg0, g0a, g0b, g0c, hc, sb, c0, c1, aggD, Option.map_some, cond_true, Value.cells] <;> rfl)) rfl <| OSuf.aop tyOK rfl (so_conw (so_conv tyOK (by simp only [lk] <;> rfl) ty5 ⟨_, rfl⟩ ty27 rfl) (by first | (simp only [u1, u2, hz3] <;> rfl) | rfl)) rfl <| OSuf.aop tyOK rfl (zb (hv := bi_w bi_add (by first | (simp only [u1, u2, hz3] <;> rfl) | rfl))) rfl <| OSuf.aop tyOK rfl sm rfl <| OSuf.aop tyOK rfl (so_build (by simp only [aparts, lk] <;> rfl) (by simp only [aBuild, ty33, b4, b4a, b4b, b4c, b5a, b5b, b5c, hg0, g0a, g0b, g0c, hc, sb, c0, c1, aggD, cond_true, Value.cells, places, tb4] <;> rfl)) rfl <| OSuf.callD rfl (by simp only [aopnds, lk] <;> rfl) en7 (f1) rfl <| OSuf.aop tyOK rfl (so_alloc (by simp only [aAlloc, ty29] <;> rfl)) rfl <| OSuf.aop tyOK rfl (zs (hv := by simp (disch := first | assumption | omega | (simp only [nx] <;> omega) | fail) only [aStore, ty29, writeRow, hpl, b4, b4a, b4b, b4c, b5a, b5b, b5c, hg0, g0a, g0b, g0c, hc, sb, c0, c1, aggD, Option.map_some, cond_true, Value.cells] <;> rfl)) rfl <| OSuf.nil <| SQ.normal ?_
              refine W.seq <| CWp.sql tyOK mixed (ms := [0, 0, 0, 4, 0, 28, 60, 124, 252, 508, 0, 1024, 3072, 7168, 15360, 32767, 0, 131071]) (by kernel_rfl) (
                  .free rfl rfl rfl sm rfl <| .free rfl rfl rfl sm rfl <| .free rfl rfl rfl (zi (hv := by simp (disch := first | assumption | omega | (simp only [nx] <;> omega) | fail) only [aIndexAddr, ty53, ty52, hpl, b4, b4a, b4b, b4c, b5a, b5b, b5c, hg0, g0a, g0b, g0c, hc, sb, c0, c1, aggD, cond_true, Value.cells, places, tb4] <;> rfl)) rfl <| .read rfl rfl rfl (zl (hv := by simp (disch := first | assumption | omega | (simp only [nx] <;> omega) | fail) only [aLoad, ty52, rowOf, hpl, b4, b4a, b4b, b4c, b5a, b5b, b5c, hg0, g0a, g0b, g0c, hc, sb, c0, c1, aggD, Option.map_some, cond_true, Value.cells] <;> rfl)) (by first | rfl | (simp [veq, veq1, veqs]; done) | (simp [veq, veq1, veqs, splice]; done)) trivial rfl <| .free rfl rfl rfl sm rfl <| .free rfl rfl rfl (zi (hv := by simp (disch := first | assumption | omega | (simp only [nx] <;> omega) | fail) only [aIndexAddr, ty52, ty61, hpl, b4, b4a, b4b, b4c, b5a, b5b, b5c, hg0, g0a, g0b, g0c, hc, sb, c0, c1, aggD, cond_true, Value.cells, places, tb4] <;> rfl)) rfl <| .free rfl rfl rfl (zf (hv := fa_ok (k := 1) ty61 rfl rfl ty5 rfl rfl)) rfl <| .read rfl rfl rfl (zl (hv := by simp (disch := first | assumption | omega | (simp only [nx] <;> omega) | fail) only [aLoad, ty5, rowOf, hpl, b4, b4a, b4b, b4c, b5a, b5b, b5c, hg0, g0a, g0b, g0c, hc, sb, c0, c1, aggD, Option.map_some, cond_true, Value.cells] <;> rfl)) (by first | rfl | (simp [veq, veq1, veqs]; done) | (simp [veq, veq1, veqs, splice]; done)) trivial rfl <| .read rfl rfl (by kernel_rfl) (so_conw (so_conv tyOK (by simp only [lk] <;> rfl) ty5 ⟨_, rfl⟩ ty27 rfl) (by first | (simp only [u1, u2, hz3] <;> rfl) | rfl)) (by first | rfl | (simp [veq, veq1, veqs]; done) | (simp [veq, veq1, veqs, splice]; done)) trivial rfl <| .free rfl rfl rfl (zb (hv := bi_w bi_add (by first | (simp only [u1, u2, hz3] <;> rfl) | rfl))) rfl <| .free rfl rfl rfl (zi (hv := by simp (disch := first | assumption | omega | (simp only [nx] <;> omega) | fail) only [aIndexAddr, ty54, ty5, hpl, b4, b4a, b4b, b4c, b5a, b5b, b5c, hg0, g0a, g0b, g0c, hc, sb, c0, c1, aggD, cond_true, Value.cells, places, tb4] <;> rfl)) rfl <| .read rfl rfl rfl (zl (hv := by simp (disch := first | assumption | omega | (simp only [nx] <;> omega) | fail) only [aLoad, ty5, rowOf, hpl, b4, b4a, b4b, b4c, b5a, b5b, b5c, hg0, g0a, g0b, g0c, hc, sb, c0, c1, aggD, Option.map_some, cond_true, Value.cells] <;> rfl)) (by first | rfl | (simp [veq, veq1, veqs]; done) | (simp [veq, veq1, veqs, splice]; done)) trivial rfl <| .free rfl rfl rfl (zb (hv := bi_w bi_add (by first | (simp only [u1, u2, hz3] <;> rfl) | rfl))) rfl <| .call rfl rfl rfl (fcallO (by simp only [aopnds, lk] <;> rfl) en16 (key_c _ z2 hz0.1 hz0.2)) rfl ⟨.inl rfl, .inr (so_conw (so_conv tyOK (by simp only [lk] <;> rfl) ty5 ⟨_, rfl⟩ ty27 rfl) (by first | (simp only [u1, u2, hz3] <;> rfl) | rfl)), .inr (zl (hv := by simp (disch := first | assumption | omega | (simp only [nx] <;> omega) | fail) only [aLoad, ty5, rowOf, hpl, b4, b4a, b4b, b4c, b5a, b5b, b5c, hg0, g0a, g0b, g0c, hc, sb, c0, c1, aggD, Option.map_some, cond_true, Value.cells] <;> rfl)), .inr (zl (hv := by simp (disch := first | assumption | omega | (simp only [nx] <;> omega) | fail) only [aLoad, ty52, rowOf, hpl, b4, b4a, b4b, b4c, b5a, b5b, b5c, hg0, g0a, g0b, g0c, hc, sb, c0, c1, aggD, Option.map_some, cond_true, Value.cells] <;> rfl)), trivial⟩ rfl <| .free rfl rfl rfl (so_build (by simp only [aparts, lk] <;> rfl) (by simp only [aBuild, ty33, b4, b4a, b4b, b4c, b5a, b5b, b5c, hg0, g0a, g0b, g0c, hc, sb, c0, c1, aggD, cond_true, Value.cells, places, tb4] <;> rfl)) rfl <| .call rfl rfl rfl (fcallO (by simp only [aopnds, lk] <;> rfl) en7 (f3)) rfl ⟨.inl rfl, .inl rfl, .inl rfl, .inl rfl, trivial⟩ rfl <| .late rfl rfl rfl (so_alloc (by simp only [aAlloc, ty29] <;> rfl)) rfl rfl ⟨.inr (zl (hv := by simp (disch := first | assumption | omega | (simp only [nx] <;> omega) | fail) only [aLoad, ty5, rowOf, hpl, b4, b4a, b4b, b4c, b5a, b5b, b5c, hg0, g0a, g0b, g0c, hc, sb, c0, c1, aggD, Option.map_some, cond_true, Value.cells] <;> rfl)), .inr (so_conw (so_conv tyOK (by simp only [lk] <;> rfl) ty5 ⟨_, rfl⟩ ty27 rfl) (by first | (simp only [u1, u2, hz3] <;> rfl) | rfl)), .inr (zl (hv := by simp (disch := first | assumption | omega | (simp only [nx] <;> omega) | fail) only [aLoad, ty5, rowOf, hpl, b4, b4a, b4b, b4c, b5a, b5b, b5c, hg0, g0a, g0b, g0c, hc, sb, c0, c1, aggD, Option.map_some, cond_true, Value.cells] <;> rfl)), .inr (zl (hv := by simp (disch := first | assumption | omega | (simp only [nx] <;> omega) | fail) only [aLoad, ty52, rowOf, hpl, b4, b4a, b4b, b4c, b5a, b5b, b5c, hg0, g0a, g0b, g0c, hc, sb, c0, c1, aggD, Option.map_some, cond_true, Value.cells] <;> rfl)), trivial⟩ rfl <| .change rfl rfl rfl (zs (hv := by simp (disch := first | assumption | omega | (simp only [nx] <;> omega) | fail) only [aStore, ty29, writeRow, hpl, b4, b4a, b4b, b4c, b5a, b5b, b5c, hg0, g0a, g0b, g0c, hc, sb, c0, c1, aggD, Option.map_some, cond_true, Value.cells] <;> rfl)) rfl ⟨.inl rfl, .inl rfl, .inl rfl, .inl rfl, trivial⟩ rfl <| .nil) <| SQ.normal ?_
              -- leaf: upto
              rcases hdw with hwf | ⟨hwf, hwe⟩
              · rcases hdv with hk2 | ⟨hk2, hvf | ⟨hvf, hve⟩⟩
                · have gg : (!Op.bytesLess (ByteArray.toList ⟨⟨keyL z2⟩⟩) (ByteArray.toList ⟨⟨keyL x2⟩⟩)) = false := by rw [str_lt, hk2]; rfl
                  refine W.seq <| W.reg <| OSuf.aop tyOK rfl (zf (hv := fa_ok (k := 0) ty29 rfl rfl ty4 rfl rfl)) rfl <| OSuf.aopT tyOK rfl (zl (hv := by simp (disch := first | assumption | omega | (simp only [nx] <;> omega) | fail) only [aLoad, ty4, rowOf, hpl, dwc, b5c, sb, Option.map_some, cond_true, Value.cells] <;> rfl)) (fun _ => rfl) (hwf) <| OSuf.aopF tyOK rfl (so_not (by simp only [lk] <;> rfl)) (fun _ => rfl) rfl <| OSuf.aopF tyOK rfl sm (fun _ => rfl) rfl <| OSuf.pass ag rfl <| OSuf.pass ag rfl <| OSuf.pass ag rfl <| OSuf.aopF tyOK rfl (so_pick (by simp only [lk] <;> rfl) (by simp only [lk, cond_true, cond_false] <;> rfl)) (fun _ => rfl) rfl <| OSuf.aopF tyOK rfl sm (fun _ => rfl) rfl <| OSuf.aop tyOK ag (zi (hv := by simp (disch := first | assumption | omega | (simp only [nx] <;> omega) | fail) only [aIndexAddr, ty54, ty5, hpl, dwc, b5c, sb, cond_true, Value.cells, places, tb4] <;> rfl)) rfl <| OSuf.aop tyOK ag (zl (hv := by simp (disch := first | assumption | omega | (simp only [nx] <;> omega) | fail) only [aLoad, ty5, rowOf, hpl, dwc, b5c, sb, Option.map_some, cond_true, Value.cells] <;> rfl)) rfl <| OSuf.aop tyOK ag (zb (hv := bi_w bi_add (by first | (simp only [hz3] <;> rfl) | rfl))) rfl <| OSuf.callD ag (by simp only [aopnds, lk] <;> rfl) en16 (key_c _ z2 hz0.1 hz0.2) rfl <| OSuf.aop tyOK ag sm rfl <| OSuf.aopF tyOK ag (zb (hv := bs_geq)) (fun _ => rfl) (gg) <| OSuf.aopF tyOK ag sm (fun _ => rfl) rfl <| OSuf.pass ag rfl <| OSuf.pass ag rfl <| OSuf.pass ag rfl <| OSuf.aopF tyOK ag (so_pick (by simp only [lk] <;> rfl) (by simp only [lk, cond_true, cond_false] <;> rfl)) (fun _ => rfl) rfl <| OSuf.aopF tyOK ag sm (fun _ => rfl) rfl <| OSuf.pass ag rfl <| OSuf.pass ag rfl <| OSuf.pass ag rfl <| OSuf.aopF tyOK ag (so_pick (by simp only [lk] <;> rfl) (by simp only [lk, cond_true, cond_false] <;> rfl)) (fun _ => rfl) rfl <| OSuf.aopF tyOK rfl (so_pick (by simp only [lk] <;> rfl) (by simp only [lk, cond_true, cond_false] <;> rfl)) (fun _ => rfl) rfl <| OSuf.nil <| SQ.normal ?_
                  refine W.no (by simp only [lk] <;> rfl) <| CWp.skip <| ?_
                  -- leaf: cut
                  refine NQ.normal (L := [(4, P0 h.next), (5, P0 (h.next + 1)), (7, P0 tr), (9, P0 sp), (11, U64 T), (12, encS (keyL x1)), (13, encS (keyL x2)), (14, P0 H.next), (15, .slice pb F0.length 0), (16, .slice hb9 HG 0), (18, I64 j)]) ?_ ⟨Mc, Ac', Ke.up (by omega), Ic, rfl⟩
                  simp only [HasA, Tr.get_put, Nat.reduceEqDiff, reduceIte, and_self] <;> first | done | trivial | exact ⟨rfl, trivial⟩ | exact ⟨rfl, rfl, trivial⟩
                · have gg : (!Op.bytesLess (ByteArray.toList ⟨⟨keyL z2⟩⟩) (ByteArray.toList ⟨⟨keyL x2⟩⟩)) = true := by rw [str_lt, hk2]; rfl
                  refine W.seq <| W.reg <| OSuf.aop tyOK rfl (zf (hv := fa_ok (k := 0) ty29 rfl rfl ty4 rfl rfl)) rfl <| OSuf.aopT tyOK rfl (zl (hv := by simp (disch := first | assumption | omega | (simp only [nx] <;> omega) | fail) only [aLoad, ty4, rowOf, hpl, dwc, b5c, sb, Option.map_some, cond_true, Value.cells] <;> rfl)) (fun _ => rfl) (hwf) <| OSuf.aopF tyOK rfl (so_not (by simp only [lk] <;> rfl)) (fun _ => rfl) rfl <| OSuf.aopF tyOK rfl sm (fun _ => rfl) rfl <| OSuf.pass ag rfl <| OSuf.pass ag rfl <| OSuf.pass ag rfl <| OSuf.aopF tyOK rfl (so_pick (by simp only [lk] <;> rfl) (by simp only [lk, cond_true, cond_false] <;> rfl)) (fun _ => rfl) rfl <| OSuf.aopF tyOK rfl sm (fun _ => rfl) rfl <| OSuf.aop tyOK ag (zi (hv := by simp (disch := first | assumption | omega | (simp only [nx] <;> omega) | fail) only [aIndexAddr, ty54, ty5, hpl, dwc, b5c, sb, cond_true, Value.cells, places, tb4] <;> rfl)) rfl <| OSuf.aop tyOK ag (zl (hv := by simp (disch := first | assumption | omega | (simp only [nx] <;> omega) | fail) only [aLoad, ty5, rowOf, hpl, dwc, b5c, sb, Option.map_some, cond_true, Value.cells] <;> rfl)) rfl <| OSuf.aop tyOK ag (zb (hv := bi_w bi_add (by first | (simp only [hz3] <;> rfl) | rfl))) rfl <| OSuf.callD ag (by simp only [aopnds, lk] <;> rfl) en16 (key_c _ z2 hz0.1 hz0.2) rfl <| OSuf.aop tyOK ag sm rfl <| OSuf.aopT tyOK ag (zb (hv := bs_geq)) (fun _ => rfl) (gg) <| OSuf.aopT tyOK ag sm (fun _ => rfl) rfl <| OSuf.aop tyOK ag (zf (hv := fa_ok (k := 0) ty29 rfl rfl ty4 rfl rfl)) rfl <| OSuf.aopT tyOK ag (zl (hv := by simp (disch := first | assumption | omega | (simp only [nx] <;> omega) | fail) only [aLoad, ty4, rowOf, hpl, dwc, b5c, sb, Option.map_some, cond_true, Value.cells] <;> rfl)) (fun _ => rfl) (hvf) <| OSuf.aopF tyOK ag (so_not (by simp only [lk] <;> rfl)) (fun _ => rfl) rfl <| OSuf.aopF tyOK ag (so_pick (by simp only [lk] <;> rfl) (by simp only [lk, cond_true, cond_false] <;> rfl)) (fun _ => rfl) rfl <| OSuf.aopF tyOK ag sm (fun _ => rfl) rfl <| OSuf.pass ag rfl <| OSuf.pass ag rfl <| OSuf.pass ag rfl <| OSuf.aopF tyOK ag (so_pick (by simp only [lk] <;> rfl) (by simp only [lk, cond_true, cond_false] <;> rfl)) (fun _ => rfl) rfl <| OSuf.aopF tyOK rfl (so_pick (by simp only [lk] <;> rfl) (by simp only [lk, cond_true, cond_false] <;> rfl)) (fun _ => rfl) rfl <| OSuf.nil <| SQ.normal ?_
                  refine W.no (by simp only [lk] <;> rfl) <| CWp.skip <| ?_
                  -- leaf: cut
                  refine NQ.normal (L := [(4, P0 h.next), (5, P0 (h.next + 1)), (7, P0 tr), (9, P0 sp), (11, U64 T), (12, encS (keyL x1)), (13, encS (keyL x2)), (14, P0 H.next), (15, .slice pb F0.length 0), (16, .slice hb9 HG 0), (18, I64 j)]) ?_ ⟨Mc, Ac', Ke.up (by omega), Ic, rfl⟩
                  simp only [HasA, Tr.get_put, Nat.reduceEqDiff, reduceIte, and_self] <;> first | done | trivial | exact ⟨rfl, trivial⟩ | exact ⟨rfl, rfl, trivial⟩
                · have gg : (!Op.bytesLess (ByteArray.toList ⟨⟨keyL z2⟩⟩) (ByteArray.toList ⟨⟨keyL x2⟩⟩)) = true := by rw [str_lt, hk2]; rfl
                  have ve : (dv.err != 14) = false := by rw [hve]; rfl
                  refine W.seq <| W.reg <| OSuf.aop tyOK rfl (zf (hv := fa_ok (k := 0) ty29 rfl rfl ty4 rfl rfl)) rfl <| OSuf.aopT tyOK rfl (zl (hv := by simp (disch := first | assumption | omega | (simp only [nx] <;> omega) | fail) only [aLoad, ty4, rowOf, hpl, dwc, b5c, sb, Option.map_some, cond_true, Value.cells] <;> rfl)) (fun _ => rfl) (hwf) <| OSuf.aopF tyOK rfl (so_not (by simp only [lk] <;> rfl)) (fun _ => rfl) rfl <| OSuf.aopF tyOK rfl sm (fun _ => rfl) rfl <| OSuf.pass ag rfl <| OSuf.pass ag rfl <| OSuf.pass ag rfl <| OSuf.aopF tyOK rfl (so_pick (by simp only [lk] <;> rfl) (by simp only [lk, cond_true, cond_false] <;> rfl)) (fun _ => rfl) rfl <| OSuf.aopF tyOK rfl sm (fun _ => rfl) rfl <| OSuf.aop tyOK ag (zi (hv := by simp (disch := first | assumption | omega | (simp only [nx] <;> omega) | fail) only [aIndexAddr, ty54, ty5, hpl, dwc, b5c, sb, cond_true, Value.cells, places, tb4] <;> rfl)) rfl <| OSuf.aop tyOK ag (zl (hv := by simp (disch := first | assumption | omega | (simp only [nx] <;> omega) | fail) only [aLoad, ty5, rowOf, hpl, dwc, b5c, sb, Option.map_some, cond_true, Value.cells] <;> rfl)) rfl <| OSuf.aop tyOK ag (zb (hv := bi_w bi_add (by first | (simp only [hz3] <;> rfl) | rfl))) rfl <| OSuf.callD ag (by simp only [aopnds, lk] <;> rfl) en16 (key_c _ z2 hz0.1 hz0.2) rfl <| OSuf.aop tyOK ag sm rfl <| OSuf.aopT tyOK ag (zb (hv := bs_geq)) (fun _ => rfl) (gg) <| OSuf.aopT tyOK ag sm (fun _ => rfl) rfl <| OSuf.aop tyOK ag (zf (hv := fa_ok (k := 0) ty29 rfl rfl ty4 rfl rfl)) rfl <| OSuf.aopF tyOK ag (zl (hv := by simp (disch := first | assumption | omega | (simp only [nx] <;> omega) | fail) only [aLoad, ty4, rowOf, hpl, dwc, b5c, sb, Option.map_some, cond_true, Value.cells] <;> rfl)) (fun _ => rfl) (hvf) <| OSuf.aopT tyOK ag (so_not (by simp only [lk] <;> rfl)) (fun _ => rfl) rfl <| OSuf.aopT tyOK ag (so_pick (by simp only [lk] <;> rfl) (by simp only [lk, cond_true, cond_false] <;> rfl)) (fun _ => rfl) rfl <| OSuf.aopT tyOK ag sm (fun _ => rfl) rfl <| OSuf.aop tyOK ag (zf (hv := fa_ok (k := 1) ty29 rfl rfl ty26 rfl rfl)) rfl <| OSuf.aop tyOK ag (zl (hv := by simp (disch := first | assumption | omega | (simp only [nx] <;> omega) | fail) only [aLoad, ty26, rowOf, hpl, dwc, b5c, sb, Option.map_some, cond_true, Value.cells] <;> rfl)) rfl <| OSuf.aopF tyOK ag (zb (hv := bi_neq)) (fun _ => rfl) (ve) <| OSuf.aopF tyOK ag (so_pick (by simp only [lk] <;> rfl) (by simp only [lk, cond_true, cond_false] <;> rfl)) (fun _ => rfl) rfl <| OSuf.aopF tyOK rfl (so_pick (by simp only [lk] <;> rfl) (by simp only [lk, cond_true, cond_false] <;> rfl)) (fun _ => rfl) rfl <| OSuf.nil <| SQ.normal ?_
                  refine W.no (by simp only [lk] <;> rfl) <| CWp.skip <| ?_
                  -- leaf: cut
                  refine NQ.normal (L := [(4, P0 h.next), (5, P0 (h.next + 1)), (7, P0 tr), (9, P0 sp), (11, U64 T), (12, encS (keyL x1)), (13, encS (keyL x2)), (14, P0 H.next), (15, .slice pb F0.length 0), (16, .slice hb9 HG 0), (18, I64 j)]) ?_ ⟨Mc, Ac', Ke.up (by omega), Ic, rfl⟩
                  simp only [HasA, Tr.get_put, Nat.reduceEqDiff, reduceIte, and_self] <;> first | done | trivial | exact ⟨rfl, trivial⟩ | exact ⟨rfl, rfl, trivial⟩
              · have we : (dw.err != 14) = false := by rw [hwe]; rfl
                rcases hdv with hk2 | ⟨hk2, hvf | ⟨hvf, hve⟩⟩
                · have gg : (!Op.bytesLess (ByteArray.toList ⟨⟨keyL z2⟩⟩) (ByteArray.toList ⟨⟨keyL x2⟩⟩)) = false := by rw [str_lt, hk2]; rfl
                  refine W.seq <| W.reg <| OSuf.aop tyOK rfl (zf (hv := fa_ok (k := 0) ty29 rfl rfl ty4 rfl rfl)) rfl <| OSuf.aopF tyOK rfl (zl (hv := by simp (disch := first | assumption | omega | (simp only [nx] <;> omega) | fail) only [aLoad, ty4, rowOf, hpl, dwc, b5c, sb, Option.map_some, cond_true, Value.cells] <;> rfl)) (fun _ => rfl) (hwf) <| OSuf.aopT tyOK rfl (so_not (by simp only [lk] <;> rfl)) (fun _ => rfl) rfl <| OSuf.aopT tyOK rfl sm (fun _ => rfl) rfl <| OSuf.aop tyOK ag (zf (hv := fa_ok (k := 1) ty29 rfl rfl ty26 rfl rfl)) rfl <| OSuf.aop tyOK ag (zl (hv := by simp (disch := first | assumption | omega | (simp only [nx] <;> omega) | fail) only [aLoad, ty26, rowOf, hpl, dwc, b5c, sb, Option.map_some, cond_true, Value.cells] <;> rfl)) rfl <| OSuf.aopF tyOK ag (zb (hv := bi_neq)) (fun _ => rfl) (we) <| OSuf.aopF tyOK rfl (so_pick (by simp only [lk] <;> rfl) (by simp only [lk, cond_true, cond_false] <;> rfl)) (fun _ => rfl) rfl <| OSuf.aopF tyOK rfl sm (fun _ => rfl) rfl <| OSuf.aop tyOK ag (zi (hv := by simp (disch := first | assumption | omega | (simp only [nx] <;> omega) | fail) only [aIndexAddr, ty54, ty5, hpl, dwc, b5c, sb, cond_true, Value.cells, places, tb4] <;> rfl)) rfl <| OSuf.aop tyOK ag (zl (hv := by simp (disch := first | assumption | omega | (simp only [nx] <;> omega) | fail) only [aLoad, ty5, rowOf, hpl, dwc, b5c, sb, Option.map_some, cond_true, Value.cells] <;> rfl)) rfl <| OSuf.aop tyOK ag (zb (hv := bi_w bi_add (by first | (simp only [hz3] <;> rfl) | rfl))) rfl <| OSuf.callD ag (by simp only [aopnds, lk] <;> rfl) en16 (key_c _ z2 hz0.1 hz0.2) rfl <| OSuf.aop tyOK ag sm rfl <| OSuf.aopF tyOK ag (zb (hv := bs_geq)) (fun _ => rfl) (gg) <| OSuf.aopF tyOK ag sm (fun _ => rfl) rfl <| OSuf.pass ag rfl <| OSuf.pass ag rfl <| OSuf.pass ag rfl <| OSuf.aopF tyOK ag (so_pick (by simp only [lk] <;> rfl) (by simp only [lk, cond_true, cond_false] <;> rfl)) (fun _ => rfl) rfl <| OSuf.aopF tyOK ag sm (fun _ => rfl) rfl <| OSuf.pass ag rfl <| OSuf.pass ag rfl <| OSuf.pass ag rfl <| OSuf.aopF tyOK ag (so_pick (by simp only [lk] <;> rfl) (by simp only [lk, cond_true, cond_false] <;> rfl)) (fun _ => rfl) rfl <| OSuf.aopF tyOK rfl (so_pick (by simp only [lk] <;> rfl) (by simp only [lk, cond_true, cond_false] <;> rfl)) (fun _ => rfl) rfl <| OSuf.nil <| SQ.normal ?_
                  refine W.no (by simp only [lk] <;> rfl) <| CWp.skip <| ?_
                  -- leaf: cut
                  refine NQ.normal (L := [(4, P0 h.next), (5, P0 (h.next + 1)), (7, P0 tr), (9, P0 sp), (11, U64 T), (12, encS (keyL x1)), (13, encS (keyL x2)), (14, P0 H.next), (15, .slice pb F0.length 0), (16, .slice hb9 HG 0), (18, I64 j)]) ?_ ⟨Mc, Ac', Ke.up (by omega), Ic, rfl⟩
                  simp only [HasA, Tr.get_put, Nat.reduceEqDiff, reduceIte, and_self] <;> first | done | trivial | exact ⟨rfl, trivial⟩ | exact ⟨rfl, rfl, trivial⟩
                · have gg : (!Op.bytesLess (ByteArray.toList ⟨⟨keyL z2⟩⟩) (ByteArray.toList ⟨⟨keyL x2⟩⟩)) = true := by rw [str_lt, hk2]; rfl
                  refine W.seq <| W.reg <| OSuf.aop tyOK rfl (zf (hv := fa_ok (k := 0) ty29 rfl rfl ty4 rfl rfl)) rfl <| OSuf.aopF tyOK rfl (zl (hv := by simp (disch := first | assumption | omega | (simp only [nx] <;> omega) | fail) only [aLoad, ty4, rowOf, hpl, dwc, b5c, sb, Option.map_some, cond_true, Value.cells] <;> rfl)) (fun _ => rfl) (hwf) <| OSuf.aopT tyOK rfl (so_not (by simp only [lk] <;> rfl)) (fun _ => rfl) rfl <| OSuf.aopT tyOK rfl sm (fun _ => rfl) rfl <| OSuf.aop tyOK ag (zf (hv := fa_ok (k := 1) ty29 rfl rfl ty26 rfl rfl)) rfl <| OSuf.aop tyOK ag (zl (hv := by simp (disch := first | assumption | omega | (simp only [nx] <;> omega) | fail) only [aLoad, ty26, rowOf, hpl, dwc, b5c, sb, Option.map_some, cond_true, Value.cells] <;> rfl)) rfl <| OSuf.aopF tyOK ag (zb (hv := bi_neq)) (fun _ => rfl) (we) <| OSuf.aopF tyOK rfl (so_pick (by simp only [lk] <;> rfl) (by simp only [lk, cond_true, cond_false] <;> rfl)) (fun _ => rfl) rfl <| OSuf.aopF tyOK rfl sm (fun _ => rfl) rfl <| OSuf.aop tyOK ag (zi (hv := by simp (disch := first | assumption | omega | (simp only [nx] <;> omega) | fail) only [aIndexAddr, ty54, ty5, hpl, dwc, b5c, sb, cond_true, Value.cells, places, tb4] <;> rfl)) rfl <| OSuf.aop tyOK ag (zl (hv := by simp (disch := first | assumption | omega | (simp only [nx] <;> omega) | fail) only [aLoad, ty5, rowOf, hpl, dwc, b5c, sb, Option.map_some, cond_true, Value.cells] <;> rfl)) rfl <| OSuf.aop tyOK ag (zb (hv := bi_w bi_add (by first | (simp only [hz3] <;> rfl) | rfl))) rfl <| OSuf.callD ag (by simp only [aopnds, lk] <;> rfl) en16 (key_c _ z2 hz0.1 hz0.2) rfl <| OSuf.aop tyOK ag sm rfl <| OSuf.aopT tyOK ag (zb (hv := bs_geq)) (fun _ => rfl) (gg) <| OSuf.aopT tyOK ag sm (fun _ => rfl) rfl <| OSuf.aop tyOK ag (zf (hv := fa_ok (k := 0) ty29 rfl rfl ty4 rfl rfl)) rfl <| OSuf.aopT tyOK ag (zl (hv := by simp (disch := first | assumption | omega | (simp only [nx] <;> omega) | fail) only [aLoad, ty4, rowOf, hpl, dwc, b5c, sb, Option.map_some, cond_true, Value.cells] <;> rfl)) (fun _ => rfl) (hvf) <| OSuf.aopF tyOK ag (so_not (by simp only [lk] <;> rfl)) (fun _ => rfl) rfl <| OSuf.aopF tyOK ag (so_pick (by simp only [lk] <;> rfl) (by simp only [lk, cond_true, cond_false] <;> rfl)) (fun _ => rfl) rfl <| OSuf.aopF tyOK ag sm (fun _ => rfl) rfl <| OSuf.pass ag rfl <| OSuf.pass ag rfl <| OSuf.pass ag rfl <| OSuf.aopF tyOK ag (so_pick (by simp only [lk] <;> rfl) (by simp only [lk, cond_true, cond_false] <;> rfl)) (fun _ => rfl) rfl <| OSuf.aopF tyOK rfl (so_pick (by simp only [lk] <;> rfl) (by simp only [lk, cond_true, cond_false] <;> rfl)) (fun _ => rfl) rfl <| OSuf.nil <| SQ.normal ?_
                  refine W.no (by simp only [lk] <;> rfl) <| CWp.skip <| ?_
                  -- leaf: cut
                  refine NQ.normal (L := [(4, P0 h.next), (5, P0 (h.next + 1)), (7, P0 tr), (9, P0 sp), (11, U64 T), (12, encS (keyL x1)), (13, encS (keyL x2)), (14, P0 H.next), (15, .slice pb F0.length 0), (16, .slice hb9 HG 0), (18, I64 j)]) ?_ ⟨Mc, Ac', Ke.up (by omega), Ic, rfl⟩
                  simp only [HasA, Tr.get_put, Nat.reduceEqDiff, reduceIte, and_self] <;> first | done | trivial | exact ⟨rfl, trivial⟩ | exact ⟨rfl, rfl, trivial⟩
                · have gg : (!Op.bytesLess (ByteArray.toList ⟨⟨keyL z2⟩⟩) (ByteArray.toList ⟨⟨keyL x2⟩⟩)) = true := by rw [str_lt, hk2]; rfl
                  have ve : (dv.err != 14) = false := by rw [hve]; rfl
                  refine W.seq <| W.reg <| OSuf.aop tyOK rfl (zf (hv := fa_ok (k := 0) ty29 rfl rfl ty4 rfl rfl)) rfl <| OSuf.aopF tyOK rfl (zl (hv := by simp (disch := first | assumption | omega | (simp only [nx] <;> omega) | fail) only [aLoad, ty4, rowOf, hpl, dwc, b5c, sb, Option.map_some, cond_true, Value.cells] <;> rfl)) (fun _ => rfl) (hwf) <| OSuf.aopT tyOK rfl (so_not (by simp only [lk] <;> rfl)) (fun _ => rfl) rfl <| OSuf.aopT tyOK rfl sm (fun _ => rfl) rfl <| OSuf.aop tyOK ag (zf (hv := fa_ok (k := 1) ty29 rfl rfl ty26 rfl rfl)) rfl <| OSuf.aop tyOK ag (zl (hv := by simp (disch := first | assumption | omega | (simp only [nx] <;> omega) | fail) only [aLoad, ty26, rowOf, hpl, dwc, b5c, sb, Option.map_some, cond_true, Value.cells] <;> rfl)) rfl <| OSuf.aopF tyOK ag (zb (hv := bi_neq)) (fun _ => rfl) (we) <| OSuf.aopF tyOK rfl (so_pick (by simp only [lk] <;> rfl) (by simp only [lk, cond_true, cond_false] <;> rfl)) (fun _ => rfl) rfl <| OSuf.aopF tyOK rfl sm (fun _ => rfl) rfl <| OSuf.aop tyOK ag (zi (hv := by simp (disch := first | assumption | omega | (simp only [nx] <;> omega) | fail) only [aIndexAddr, ty54, ty5, hpl, dwc, b5c, sb, cond_true, Value.cells, places, tb4] <;> rfl)) rfl <| OSuf.aop tyOK ag (zl (hv := by simp (disch := first | assumption | omega | (simp only [nx] <;> omega) | fail) only [aLoad, ty5, rowOf, hpl, dwc, b5c, sb, Option.map_some, cond_true, Value.cells] <;> rfl)) rfl <| OSuf.aop tyOK ag (zb (hv := bi_w bi_add (by first | (simp only [hz3] <;> rfl) | rfl))) rfl <| OSuf.callD ag (by simp only [aopnds, lk] <;> rfl) en16 (key_c _ z2 hz0.1 hz0.2) rfl <| OSuf.aop tyOK ag sm rfl <| OSuf.aopT tyOK ag (zb (hv := bs_geq)) (fun _ => rfl) (gg) <| OSuf.aopT tyOK ag sm (fun _ => rfl) rfl <| OSuf.aop tyOK ag (zf (hv := fa_ok (k := 0) ty29 rfl rfl ty4 rfl rfl)) rfl <| OSuf.aopF tyOK ag (zl (hv := by simp (disch := first | assumption | omega | (simp only [nx] <;> omega) | fail) only [aLoad, ty4, rowOf, hpl, dwc, b5c, sb, Option.map_some, cond_true, Value.cells] <;> rfl)) (fun _ => rfl) (hvf) <| OSuf.aopT tyOK ag (so_not (by simp only [lk] <;> rfl)) (fun _ => rfl) rfl <| OSuf.aopT tyOK ag (so_pick (by simp only [lk] <;> rfl) (by simp only [lk, cond_true, cond_false] <;> rfl)) (fun _ => rfl) rfl <| OSuf.aopT tyOK ag sm (fun _ => rfl) rfl <| OSuf.aop tyOK ag (zf (hv := fa_ok (k := 1) ty29 rfl rfl ty26 rfl rfl)) rfl <| OSuf.aop tyOK ag (zl (hv := by simp (disch := first | assumption | omega | (simp only [nx] <;> omega) | fail) only [aLoad, ty26, rowOf, hpl, dwc, b5c, sb, Option.map_some, cond_true, Value.cells] <;> rfl)) rfl <| OSuf.aopF tyOK ag (zb (hv := bi_neq)) (fun _ => rfl) (ve) <| OSuf.aopF tyOK ag (so_pick (by simp only [lk] <;> rfl) (by simp only [lk, cond_true, cond_false] <;> rfl)) (fun _ => rfl) rfl <| OSuf.aopF tyOK rfl (so_pick (by simp only [lk] <;> rfl) (by simp only [lk, cond_true, cond_false] <;> rfl)) (fun _ => rfl) rfl <| OSuf.nil <| SQ.normal ?_
                  refine W.no (by simp only [lk] <;> rfl) <| CWp.skip <| ?_
                  -- leaf: cut
                  refine NQ.normal (L := [(4, P0 h.next), (5, P0 (h.next + 1)), (7, P0 tr), (9, P0 sp), (11, U64 T), (12, encS (keyL x1)), (13, encS (keyL x2)), (14, P0 H.next), (15, .slice pb F0.length 0), (16, .slice hb9 HG 0), (18, I64 j)]) ?_ ⟨Mc, Ac', Ke.up (by omega), Ic, rfl⟩
                  simp only [HasA, Tr.get_put, Nat.reduceEqDiff, reduceIte, and_self] <;> first | done | trivial | exact ⟨rfl, trivial⟩ | exact ⟨rfl, rfl, trivial⟩
            · refine W.seq <| W.reg <| OSuf.aop tyOK rfl (zi (hv := by simp (disch := first | assumption | omega | (simp only [nx] <;> omega) | fail) only [aIndexAddr, ty53, ty52, hpl, b4, hg0, hc, sb, c0, c1, cond_true, Value.cells, places, tb4] <;> rfl)) rfl <| OSuf.aop tyOK rfl (zl (hv := by simp (disch := first | assumption | omega | (simp only [nx] <;> omega) | fail) only [aLoad, ty52, rowOf, hpl, b4, hg0, hc, sb, c0, c1, Option.map_some, cond_true, Value.cells] <;> rfl)) rfl <| OSuf.aop tyOK rfl sm rfl <| OSuf.aop tyOK rfl (zi (hv := by simp (disch := first | assumption | omega | (simp only [nx] <;> omega) | fail) only [aIndexAddr, ty52, ty61, hpl, b4, hg0, hc, sb, c0, c1, cond_true, Value.cells, places, tb4] <;> rfl)) rfl <| OSuf.aop tyOK rfl (zf (hv := fa_ok (k := 0) ty61 rfl rfl ty3 rfl rfl)) rfl <| OSuf.aop tyOK rfl (zl (hv := by simp (disch := first | assumption | omega | (simp only [nx] <;> omega) | fail) only [aLoad, ty3, rowOf, hpl, b4, hg0, hc, sb, c0, c1, Option.map_some, cond_true, Value.cells] <;> rfl)) rfl <| OSuf.aopT tyOK rfl (zb (hv := bi_gtr)) (fun _ => rfl) (decide_eq_true hw1) <| OSuf.aopT tyOK rfl sm (fun _ => rfl) rfl <| OSuf.aop tyOK ag (zi (hv := by simp (disch := first | assumption | omega | (simp only [nx] <;> omega) | fail) only [aIndexAddr, ty53, ty52, hpl, b4, hg0, hc, sb, c0, c1, cond_true, Value.cells, places, tb4] <;> rfl)) rfl <| OSuf.aop tyOK ag (zl (hv := by simp (disch := first | assumption | omega | (simp only [nx] <;> omega) | fail) only [aLoad, ty52, rowOf, hpl, b4, hg0, hc, sb, c0, c1, Option.map_some, cond_true, Value.cells] <;> rfl)) rfl <| OSuf.aop tyOK ag sm rfl <| OSuf.aop tyOK ag (zi (hv := by simp (disch := first | assumption | omega | (simp only [nx] <;> omega) | fail) only [aIndexAddr, ty52, ty61, hpl, b4, hg0, hc, sb, c0, c1, cond_true, Value.cells, places, tb4] <;> rfl)) rfl <| OSuf.aop tyOK ag (zf (hv := fa_ok (k := 1) ty61 rfl rfl ty5 rfl rfl)) rfl <| OSuf.aop tyOK ag (zl (hv := by simp (disch := first | assumption | omega | (simp only [nx] <;> omega) | fail) only [aLoad, ty5, rowOf, hpl, b4, hg0, hc, sb, c0, c1, Option.map_some, cond_true, Value.cells] <;> rfl)) rfl <| OSuf.aop tyOK ag (so_conw (so_conv tyOK (by simp only [lk] <;> rfl) ty5 ⟨_, rfl⟩ ty27 rfl) (by first | (simp only [u1, u2] <;> rfl) | rfl)) rfl <| OSuf.aop tyOK ag (zb (hv := bi_w bi_add (by first | (simp only [u1, u2] <;> rfl) | rfl))) rfl <| OSuf.aop tyOK ag sm rfl <| OSuf.aopF tyOK ag (zb (hv := bi_lss)) (fun _ => rfl) (decide_eq_false hw2) <| OSuf.aopF tyOK rfl (so_pick (by simp only [lk] <;> rfl) (by simp only [lk, cond_true, cond_false] <;> rfl)) (fun _ => rfl) rfl <| OSuf.nil <| SQ.normal ?_
              refine W.no (by simp only [lk] <;> rfl) <| CWp.skip <| ?_
              -- leaf: cut
              refine NQ.normal (L := [(4, P0 h.next), (5, P0 (h.next + 1)), (7, P0 tr), (9, P0 sp), (11, U64 T), (12, encS (keyL x1)), (13, encS (keyL x2)), (14, P0 H.next), (15, .slice pb F0.length 0), (16, .slice hb9 HG 0), (18, I64 j)]) ?_ ⟨M6, A6, K6.up (by omega), I6, rfl⟩
              simp only [HasA, Tr.get_put, Nat.reduceEqDiff, reduceIte, and_self] <;> first | done | trivial | exact ⟨rfl, trivial⟩ | exact ⟨rfl, rfl, trivial⟩
          · refine W.seq <| W.reg <| OSuf.aop tyOK rfl (zi (hv := by simp (disch := first | assumption | omega | (simp only [nx] <;> omega) | fail) only [aIndexAddr, ty53, ty52, hpl, b4, hg0, hc, sb, c0, c1, cond_true, Value.cells, places, tb4] <;> rfl)) rfl <| OSuf.aop tyOK rfl (zl (hv := by simp (disch := first | assumption | omega | (simp only [nx] <;> omega) | fail) only [aLoad, ty52, rowOf, hpl, b4, hg0, hc, sb, c0, c1, Option.map_some, cond_true, Value.cells] <;> rfl)) rfl <| OSuf.aop tyOK rfl sm rfl <| OSuf.aop tyOK rfl (zi (hv := by simp (disch := first | assumption | omega | (simp only [nx] <;> omega) | fail) only [aIndexAddr, ty52, ty61, hpl, b4, hg0, hc, sb, c0, c1, cond_true, Value.cells, places, tb4] <;> rfl)) rfl <| OSuf.aop tyOK rfl (zf (hv := fa_ok (k := 0) ty61 rfl rfl ty3 rfl rfl)) rfl <| OSuf.aop tyOK rfl (zl (hv := by simp (disch := first | assumption | omega | (simp only [nx] <;> omega) | fail) only [aLoad, ty3, rowOf, hpl, b4, hg0, hc, sb, c0, c1, Option.map_some, cond_true, Value.cells] <;> rfl)) rfl <| OSuf.aopF tyOK rfl (zb (hv := bi_gtr)) (fun _ => rfl) (decide_eq_false hw1) <| OSuf.aopF tyOK rfl sm (fun _ => rfl) rfl <| OSuf.pass ag rfl <| OSuf.pass ag rfl <| OSuf.pass ag rfl <| OSuf.pass ag rfl <| OSuf.pass ag rfl <| OSuf.pass ag rfl <| OSuf.pass ag rfl <| OSuf.pass ag rfl <| OSuf.pass ag rfl <| OSuf.pass ag rfl <| OSuf.aopF tyOK rfl (so_pick (by simp only [lk] <;> rfl) (by simp only [lk, cond_true, cond_false] <;> rfl)) (fun _ => rfl) rfl <| OSuf.nil <| SQ.normal ?_
            refine W.no (by simp only [lk] <;> rfl) <| CWp.skip <| ?_
            -- leaf: cut
            refine NQ.normal (L := [(4, P0 h.next), (5, P0 (h.next + 1)), (7, P0 tr), (9, P0 sp), (11, U64 T), (12, encS (keyL x1)), (13, encS (keyL x2)), (14, P0 H.next), (15, .slice pb F0.length 0), (16, .slice hb9 HG 0), (18, I64 j)]) ?_ ⟨M6, A6, K6.up (by omega), I6, rfl⟩
            simp only [HasA, Tr.get_put, Nat.reduceEqDiff, reduceIte, and_self] <;> first | done | trivial | exact ⟨rfl, trivial⟩ | exact ⟨rfl, rfl, trivial⟩
        clear K6 I6 b4 hg0 u1 u2 hn6 c0 c1 e1 hcell
        rintro L a7 g7 ha7 ⟨M7, A7, K7, I7, rfl⟩
        have ha := ha7
        obtain ⟨z, Hr, Mr, hz, f1, Kr⟩ := kp_read K7 (by omega) (keyL_mem x1) T
        have I8 := I7.touch K7.tb.nodup (keyL x1) T 0
        obtain ⟨A8, hA8⟩ : ∃ A8, A8 = touchR (keyL x1) T 0 A7 := ⟨_, rfl⟩
        rw [← hA8] at hz Kr I8
        have hzd : readV z T 99 = d0 := by
          obtain ⟨y2, y3, _, y4⟩ := I8.row
          rw [hz] at y3
          cases y3
          exact y4
        rw [hzd] at f1
        obtain ⟨Gr, hGr⟩ : ∃ Gr, Gr = (Hr.new (.cells [.bool false, I64 0, .bool false, .string ⟨#[]⟩, U64 0, U64 0, U64 0] 1)).set Hr.next D0 := ⟨_, rfl⟩
        have nGr : Gr.next = Hr.next + 1 := by rw [hGr]; rfl
        have oGr : ∀ z, z < Hr.next → Gr.get z = Hr.get z := fun z hz => by rw [hGr]; simp (disch := first | assumption | omega | (simp only [nx] <;> omega) | fail) only [hpl]
        have Ks := Kr.new (g' := Gr) (p := (Hr.next, D0)) (by omega) oGr (Nat.le_refl _) (by show Hr.next < Gr.next; omega) (by rw [hGr]; exact AHeap.get_set_same _ _ _)
        have hsc := scan_c Gr tr 0 Mr A8 Ks.tb (Ks.ok (by omega)) (by have := Ks.len; omega) (fun x hx => K8_ok (Ks.v x hx).2.2) (keyL x2) T 99
        have hse : scanL (keyL x2) T A8 = scanL (keyL x2) T A3 := scanL_eq (I8.hit.trans hH0) Ks.tb.nodup hnd3
        rw [hse, ← hF0, ← hHG] at hsc
        have q1 : (!eqDb d0 d0) = false := by rw [eqDb_self]; rfl
        have q2 : ((F0.length : Int) != (F0.length : Int)) = false := by simp
        have q3 : ((HG : Int) != (HG : Int)) = false := by simp
        have hsc' : FWp Tryz.prog 9 [P0 tr, U64 T, encS (keyL x2), encS [], .slice none 0 0, U64 99] Gr fun u h' => ∃ pb2 hb2 n, u = .tuple #[.slice pb2 F0.length 0, .slice hb2 HG 0, U64 n] ∧ Kp h' tr (40 + 3 * j + 3) Mr A8 R3 ∧ h'.get Hr.next = some D0 ∧ h'.get H.next = some D0 ∧ (F0 ≠ [] → ∃ y2, pb2 = some ⟨y2, 0, none⟩ ∧ h'.get y2 = some (.cells (flatPr F0) 2)) := by
          refine hsc.mono ?_
          rintro u h' ⟨pr2, hb2, n, rfl, n1, o1, sv⟩
          obtain ⟨pb2, hpb2, hpl2, hpr2⟩ := sv.form
          have hvl2 : vLen pr2 = F0.length := by have := flatPr_length F0; omega
          rw [hvl2] at hpb2
          have Kt := Ks.garb n1 o1
          refine ⟨pb2, hb2, n, by rw [hpb2], Kt.sub fun q hq => List.mem_cons_of_mem _ hq, (Kt.r _ List.mem_cons_self).2.1, (Kt.r _ (List.mem_cons_of_mem _ t4)).2.1, fun hne => ?_⟩
          obtain ⟨y9, e9, _, _, _, y93⟩ := hpr2 (fun e => hne (List.length_eq_zero_iff.1 (by have := flatPr_length F0; rw [e] at this; simp at this; omega)))
          exact ⟨y9, e9, y93⟩
        rw [hD0] at hsc' hGr
        clear hsc Ks Kr K7 I7 ha7
        subst hGr
        refine SQ.normal <| CWp.known ha ?_
        simp only [mkA]
        refine W.seq <| W.reg <| OSuf.aop tyOK rfl sm rfl <| OSuf.aop tyOK rfl sm rfl <| OSuf.aop tyOK rfl sm rfl <| OSuf.callD rfl (by simp only [aopnds, lk] <;> rfl) en6 (f1) rfl <| OSuf.aop tyOK rfl (so_alloc (by simp only [aAlloc, ty29] <;> rfl)) rfl <| OSuf.aop tyOK rfl (zs (hv := by simp (disch := first | assumption | omega | (simp only [nx] <;> omega) | fail) only [aStore, ty29, writeRow, hpl, sb, aggD, Option.map_some, cond_true, Value.cells] <;> rfl)) rfl <| OSuf.nil <| SQ.normal ?_
        refine W.seq <| W.reg <| OSuf.aop tyOK rfl sm rfl <| OSuf.aop tyOK rfl sm rfl <| OSuf.aop tyOK rfl sm rfl <| OSuf.call rfl (by simp only [aopnds, lk] <;> rfl) en9 (hsc') ?_
        rintro _ Gt ⟨pb2, hb2, nn2, rfl, Kt, dr, dh, hpr2⟩
        refine ⟨_, rfl, ?_⟩
        refine OSuf.aop tyOK rfl sm rfl <| OSuf.aop tyOK rfl (ze (hv := by simp (disch := first | assumption | omega | (simp only [nx] <;> omega) | fail) only [aExtract, hpl, sb, aggD, cond_true, Value.cells, places, tb4, dr, dh, sb, aggD, cond_true, Value.cells, places, tb4] <;> rfl)) rfl <| OSuf.aop tyOK rfl (ze (hv := by simp (disch := first | assumption | omega | (simp only [nx] <;> omega) | fail) only [aExtract, hpl, sb, aggD, cond_true, Value.cells, places, tb4, dr, dh, sb, aggD, cond_true, Value.cells, places, tb4] <;> rfl)) rfl <| OSuf.aop tyOK rfl (ze (hv := by simp (disch := first | assumption | omega | (simp only [nx] <;> omega) | fail) only [aExtract, hpl, sb, aggD, cond_true, Value.cells, places, tb4, dr, dh, sb, aggD, cond_true, Value.cells, places, tb4] <;> rfl)) rfl <| OSuf.aop tyOK rfl za rfl <| OSuf.aop tyOK rfl za rfl <| OSuf.aop tyOK rfl za rfl <| OSuf.nil <| SQ.normal ?_
        refine W.seq <| W.seq <| W.reg <| OSuf.aop tyOK rfl (zl (hv := by simp (disch := first | assumption | omega | (simp only [nx] <;> omega) | fail) only [aLoad, ty29, rowOf, hpl, sb, aggD, Option.map_some, cond_true, Value.cells, dr, dh, sb, aggD, Option.map_some, cond_true, Value.cells] <;> rfl)) rfl <| OSuf.aop tyOK rfl (zl (hv := by simp (disch := first | assumption | omega | (simp only [nx] <;> omega) | fail) only [aLoad, ty29, rowOf, hpl, sb, aggD, Option.map_some, cond_true, Value.cells, dr, dh, sb, aggD, Option.map_some, cond_true, Value.cells] <;> rfl)) rfl <| OSuf.aopF tyOK rfl (zb (hv := eqD d0 d0)) (fun _ => rfl) (q1) <| OSuf.aopF tyOK rfl sm (fun _ => rfl) rfl <| OSuf.aop tyOK ag sm rfl <| OSuf.aop tyOK ag (so_len (by simp only [aopnds, lk] <;> rfl) (by simp (disch := first | assumption | omega | (simp only [nx] <;> omega) | fail) only [aLenOf, ty39, hpl, sb, aggD, cond_true, Value.cells, places, tb4, dr, dh, sb, aggD, cond_true, Value.cells, places, tb4] <;> rfl)) rfl <| OSuf.aop tyOK ag sm rfl <| OSuf.aop tyOK ag (so_len (by simp only [aopnds, lk] <;> rfl) (by simp (disch := first | assumption | omega | (simp only [nx] <;> omega) | fail) only [aLenOf, ty39, hpl, sb, aggD, cond_true, Value.cells, places, tb4, dr, dh, sb, aggD, cond_true, Value.cells, places, tb4] <;> rfl)) rfl <| OSuf.aopF tyOK ag (zb (hv := bi_neq)) (fun _ => rfl) (q2) <| OSuf.aopF tyOK rfl (so_pick (by simp only [lk] <;> rfl) (by simp only [lk, cond_true, cond_false] <;> rfl)) (fun _ => rfl) rfl <| OSuf.aopF tyOK rfl sm (fun _ => rfl) rfl <| OSuf.aop tyOK ag sm rfl <| OSuf.aop tyOK ag (so_len (by simp only [aopnds, lk] <;> rfl) (by simp (disch := first | assumption | omega | (simp only [nx] <;> omega) | fail) only [aLenOf, ty40, hpl, sb, aggD, cond_true, Value.cells, places, tb4, dr, dh, sb, aggD, cond_true, Value.cells, places, tb4] <;> rfl)) rfl <| OSuf.aop tyOK ag sm rfl <| OSuf.aop tyOK ag (so_len (by simp only [aopnds, lk] <;> rfl) (by simp (disch := first | assumption | omega | (simp only [nx] <;> omega) | fail) only [aLenOf, ty40, hpl, sb, aggD, cond_true, Value.cells, places, tb4, dr, dh, sb, aggD, cond_true, Value.cells, places, tb4] <;> rfl)) rfl <| OSuf.aopF tyOK ag (zb (hv := bi_neq)) (fun _ => rfl) (q3) <| OSuf.aopF tyOK rfl (so_pick (by simp only [lk] <;> rfl) (by simp only [lk, cond_true, cond_false] <;> rfl)) (fun _ => rfl) rfl <| OSuf.nil <| SQ.normal ?_
        refine W.no (by simp only [lk] <;> rfl) <| CWp.skip <| SQ.normal ?_
        refine W.seq <| W.reg <| OSuf.aop tyOK rfl za rfl <| OSuf.nil <| SQ.normal ?_
        -- leaf: loop
        refine W.cut (fun L g' => g' = Gt ∧ L = [(4, P0 h.next), (5, P0 (h.next + 1)), (7, P0 tr), (9, P0 sp), (11, U64 T), (12, encS (keyL x1)), (13, encS (keyL x2)), (14, P0 H.next), (15, .slice pb F0.length 0), (16, .slice hb9 HG 0), (18, I64 j)]) (W.block (W.loop (fun m L g' => ∃ c : Nat, m + c = F0.length ∧ g' = Gt ∧ L = [(4, P0 h.next), (5, P0 (h.next + 1)), (7, P0 tr), (9, P0 sp), (11, U64 T), (12, encS (keyL x1)), (13, encS (keyL x2)), (14, P0 H.next), (15, .slice pb F0.length 0), (16, .slice hb9 HG 0), (18, I64 j), (22, .slice pb2 F0.length 0), (25, I64 c)]) (n := F0.length) ⟨0, by omega, rfl, rfl⟩ ?_ ?_)) ?_
        · simp [HasA, Tr.get_put]
        · rintro m L g' ⟨c, hm, rfl, rfl⟩
          simp only [mkA]
          have w4 : IntKind.i64.wrap ((c : Int) + 1) = ((c + 1 : Nat) : Int) := by rw [wrap_i64 (by omega) (by omega)]; omega
          by_cases hlc : (c : Int) < (F0.length : Int)
          · obtain ⟨p, hp⟩ : ∃ p, F0[c]? = some p := ⟨F0[c]'(by omega), by simp⟩
            have hne : F0 ≠ [] := fun e => by rw [e] at hp; simp at hp
            obtain ⟨y1, rfl, hy1⟩ := hRp hne
            obtain ⟨y2, rfl, hy2⟩ := hpr2 hne
            have hy3 := (Kt.r _ (t1 _ hy1)).2.1
            simp only at hy3
            have hbc : (0 ≤ (c : Int) ∧ (c : Int) < (F0.length : Int)) := by omega
            have hcl := flatPr_cell hp
            have e2 : [encS p.1, .string p.2.val].toArray = #[encS p.1, .string p.2.val] := rfl
            have q4 : (!eqPb p p) = false := by rw [eqPb_self]; rfl
            refine W.seq <| W.seq <| W.reg <| OSuf.aop tyOK rfl sm rfl <| OSuf.aop tyOK rfl sm rfl <| OSuf.aop tyOK rfl (so_len (by simp only [aopnds, lk] <;> rfl) (by simp (disch := first | assumption | omega | (simp only [nx] <;> omega) | fail) only [aLenOf, ty39, hpl, hy2, hy3, hbc, sb, hcl, e2, cond_true, Value.cells, places, tb4] <;> rfl)) rfl <| OSuf.aopT tyOK rfl (zb (hv := bi_lss)) (fun _ => rfl) (decide_eq_true hlc) <| OSuf.nil <| SQ.normal ?_
            refine W.yes (by simp only [lk] <;> rfl) <| CWp.skip <| SQ.normal ?_
            refine W.seq <| W.block <| W.seq <| W.regD tyOK mixed (by kernel_rfl) <| SqW.aop rfl sm rfl <| SqW.aop rfl sm rfl <| SqW.aop rfl (zi (hv := by simp (disch := first | assumption | omega | (simp only [nx] <;> omega) | fail) only [aIndexAddr, ty39, ty45, hpl, hy2, hy3, hbc, sb, hcl, e2, cond_true, Value.cells, places, tb4] <;> rfl)) rfl <| SqW.aop rfl (zl (hv := by simp (disch := first | assumption | omega | (simp only [nx] <;> omega) | fail) only [aLoad, ty45, rowOf, hpl, hy2, hy3, hbc, sb, hcl, e2, Option.map_some, cond_true, Value.cells] <;> rfl)) rfl <| SqW.aop rfl sm rfl <| SqW.aop rfl sm rfl <| SqW.aop rfl (zi (hv := by simp (disch := first | assumption | omega | (simp only [nx] <;> omega) | fail) only [aIndexAddr, ty39, ty45, hpl, hy2, hy3, hbc, sb, hcl, e2, cond_true, Value.cells, places, tb4] <;> rfl)) rfl <| SqW.aop rfl (zl (hv := by simp (disch := first | assumption | omega | (simp only [nx] <;> omega) | fail) only [aLoad, ty45, rowOf, hpl, hy2, hy3, hbc, sb, hcl, e2, Option.map_some, cond_true, Value.cells] <;> rfl)) rfl <| SqW.aopF rfl (zb (hv := eqP p p)) (fun _ => rfl) (q4) <| SqW.nil <| SQ.normal ?_
            refine W.no (by simp only [lk] <;> rfl) <| CWp.skip <| BQ.normal <| SQ.normal ?_
            refine W.reg <| OSuf.aop tyOK rfl sm rfl <| OSuf.aop tyOK rfl (zb (hv := bi_w bi_add (by first | (simp only [w4] <;> rfl) | rfl))) rfl <| OSuf.aop tyOK rfl za rfl <| OSuf.nil <| ?_
            -- leaf: round
            refine LQ.normal (m := m - 1) (L := [(4, P0 h.next), (5, P0 (h.next + 1)), (7, P0 tr), (9, P0 sp), (11, U64 T), (12, encS (keyL x1)), (13, encS (keyL x2)), (14, P0 H.next), (15, .slice (some ⟨y1, 0, none⟩) F0.length 0), (16, .slice hb9 HG 0), (18, I64 j), (22, .slice (some ⟨y2, 0, none⟩) F0.length 0), (25, I64 ((c + 1 : Nat) : Int))]) (by omega) ?_ ⟨c + 1, by omega, rfl, rfl⟩
            simp only [HasA, Tr.get_put, Nat.reduceEqDiff, reduceIte, w4, and_self]
          · refine W.seq <| W.seq <| W.reg <| OSuf.aop tyOK rfl sm rfl <| OSuf.aop tyOK rfl sm rfl <| OSuf.aop tyOK rfl (so_len (by simp only [aopnds, lk] <;> rfl) (by simp (disch := first | assumption | omega | (simp only [nx] <;> omega) | fail) only [aLenOf, ty39, hpl, tb4] <;> rfl)) rfl <| OSuf.aopF tyOK rfl (zb (hv := bi_lss)) (fun _ => rfl) (decide_eq_false hlc) <| OSuf.nil <| SQ.normal ?_
            refine W.no (by simp only [lk] <;> rfl) <| CWp.exit <| SQ.exit <| LQ.exit <| BQ.exit <| ?_
            -- leaf: cut
            refine NQ.normal (L := [(4, P0 h.next), (5, P0 (h.next + 1)), (7, P0 tr), (9, P0 sp), (11, U64 T), (12, encS (keyL x1)), (13, encS (keyL x2)), (14, P0 H.next), (15, .slice pb F0.length 0), (16, .slice hb9 HG 0), (18, I64 j)]) ?_ ⟨rfl, rfl⟩
            simp only [HasA, Tr.get_put, Nat.reduceEqDiff, reduceIte, and_self]
        clear ha
        rintro L aa gg haa ⟨rfl, rfl⟩
        have ha := haa
        refine BQ.normal <| SQ.normal <| CWp.known ha ?_
        simp only [mkA]
        refine W.reg <| OSuf.aop tyOK rfl sm rfl <| OSuf.aop tyOK rfl (zb (hv := bi_w bi_add (by first | (simp only [w3] <;> rfl) | rfl))) rfl <| OSuf.aop tyOK rfl za rfl <| OSuf.nil <| ?_
        -- leaf: round
        refine LQ.normal (m := q - 1) (L := [(4, P0 h.next), (5, P0 (h.next + 1)), (7, P0 tr), (9, P0 sp), (11, U64 T), (12, encS (keyL x1)), (13, encS (keyL x2)), (14, P0 H.next), (15, .slice pb F0.length 0), (16, .slice hb9 HG 0), (18, I64 ((j + 1 : Nat) : Int))]) (by omega) ?_ ⟨j + 1, Mr, A8, by omega, Kt.up (by omega), I8, rfl⟩
        simp only [HasA, Tr.get_put, Nat.reduceEqDiff, reduceIte, w3, and_self]
      · refine W.seq <| W.seq <| W.reg <| OSuf.aop tyOK rfl sm rfl <| OSuf.aop tyOK rfl (zi (hv := by simp (disch := first | assumption | omega | (simp only [nx] <;> omega) | fail) only [aIndexAddr, ty53, ty52, hpl, b4, sb, cond_true, Value.cells, places, tb4] <;> rfl)) rfl <| OSuf.aop tyOK rfl (zl (hv := by simp (disch := first | assumption | omega | (simp only [nx] <;> omega) | fail) only [aLoad, ty52, rowOf, hpl, b4, sb, Option.map_some, cond_true, Value.cells] <;> rfl)) rfl <| OSuf.aop tyOK rfl (so_len (by simp only [aopnds, lk] <;> rfl) (by simp (disch := first | assumption | omega | (simp only [nx] <;> omega) | fail) only [aLenOf, ty52, hpl, b4, sb, cond_true, Value.cells, places, tb4] <;> rfl)) rfl <| OSuf.aopT tyOK rfl (zb (hv := bi_lss)) (fun _ => rfl) (decide_eq_true hlt) <| OSuf.aopT tyOK rfl sm (fun _ => rfl) rfl <| OSuf.aop tyOK ag sm rfl <| OSuf.aopF tyOK ag (zb (hv := bi_lss)) (fun _ => rfl) (decide_eq_false h30) <| OSuf.aopF tyOK rfl (so_pick (by simp only [lk] <;> rfl) (by simp only [lk, cond_true, cond_false] <;> rfl)) (fun _ => rfl) rfl <| OSuf.nil <| SQ.normal ?_
        refine W.no (by simp only [lk] <;> rfl) <| CWp.exit <| SQ.exit <| LQ.exit <| BQ.exit <| ?_
        -- leaf: cut
        exact NQ.normal (L := []) trivial rfl
    · refine W.seq <| W.seq <| W.reg <| OSuf.aop tyOK rfl sm rfl <| OSuf.aop tyOK rfl (zi (hv := by simp (disch := first | assumption | omega | (simp only [nx] <;> omega) | fail) only [aIndexAddr, ty53, ty52, hpl, b4, sb, cond_true, Value.cells, places, tb4] <;> rfl)) rfl <| OSuf.aop tyOK rfl (zl (hv := by simp (disch := first | assumption | omega | (simp only [nx] <;> omega) | fail) only [aLoad, ty52, rowOf, hpl, b4, sb, Option.map_some, cond_true, Value.cells] <;> rfl)) rfl <| OSuf.aop tyOK rfl (so_len (by simp only [aopnds, lk] <;> rfl) (by simp (disch := first | assumption | omega | (simp only [nx] <;> omega) | fail) only [aLenOf, ty52, hpl, b4, sb, cond_true, Value.cells, places, tb4] <;> rfl)) rfl <| OSuf.aopF tyOK rfl (zb (hv := bi_lss)) (fun _ => rfl) (decide_eq_false hlt) <| OSuf.aopF tyOK rfl sm (fun _ => rfl) rfl <| OSuf.pass ag rfl <| OSuf.pass ag rfl <| OSuf.aopF tyOK rfl (so_pick (by simp only [lk] <;> rfl) (by simp only [lk, cond_true, cond_false] <;> rfl)) (fun _ => rfl) rfl <| OSuf.nil <| SQ.normal ?_
      refine W.no (by simp only [lk] <;> rfl) <| CWp.exit <| SQ.exit <| LQ.exit <| BQ.exit <| ?_
      -- leaf: cut
      exact NQ.normal (L := []) trivial rfl
  rintro L a9 g9 ha9 rfl
  have ha := ha9
  refine SQ.normal <| CWp.known ha ?_
  simp only [mkA]
  refine W.seq <| W.reg <| OSuf.callD rfl (by simp only [aopnds, lk] <;> rfl) en12 (works_c _) rfl <| OSuf.aopT tyOK rfl za (fun _ => rfl) rfl <| OSuf.nil <| SQ.normal ?_
  refine CWp.ret <| FQ.ret (by simp only [aRet, Tryz.f4, aResults, aResult, lk, Nat.reduceEqDiff, reduceIte] <;> rfl) ?_
  -- leaf: end
  rfl
theorem RdV.steps {h : AHeap} {n : Nat} {v : Value} (hr : RdV Tryz.prog h (n + 3) 113 v) : ∃ (b : Option Addr) (l : List Stp), v = .slice b l.length 0 ∧ StpAt h b l := by
  obtain ⟨b, vss, rfl, h1, h2, h3⟩ := RdV.recs Tryz.underlying113 hr
  have key : ∃ l : List Stp, vss = l.map Stp.cs ∧ ∀ x ∈ l, x.ok := by
    clear h1 h3 hr
    induction vss with
    | nil => exact ⟨[], rfl, by simp⟩
    | cons v vss ih =>
      obtain ⟨l, e1, e2⟩ := ih fun x hx => h2 x (List.mem_cons_of_mem _ hx)
      obtain ⟨_, g⟩ := h2 v List.mem_cons_self
      obtain ⟨fss, g1, g2, g3⟩ := Rd.fields Tryz.underlying140 g
      match fss, g2 with
      | [a, b, c, d, e], _ =>
        obtain ⟨_, x1⟩ := g3 0 _ a rfl rfl
        obtain ⟨_, x2⟩ := g3 1 _ b rfl rfl
        obtain ⟨_, x3⟩ := g3 2 _ c rfl rfl
        obtain ⟨_, x4⟩ := g3 3 _ d rfl rfl
        obtain ⟨_, x5⟩ := g3 4 _ e rfl rfl
        obtain ⟨i, rfl, w1⟩ := Rd.int Tryz.underlying5 x1
        obtain ⟨j, rfl, w2⟩ := Rd.int Tryz.underlying5 x2
        obtain ⟨o, rfl⟩ := Rd.bool Tryz.underlying4 x3
        obtain ⟨s, rfl, w4⟩ := Rd.int Tryz.underlying5 x4
        obtain ⟨p, rfl⟩ := Rd.bool Tryz.underlying4 x5
        have u1 := Ab.lit_u8 w1
        have u2 := Ab.lit_u8 w2
        have u4 := Ab.lit_u8 w4
        refine ⟨⟨i, j, o, s, p⟩ :: l, by rw [g1, e1]; rfl, fun x hx => ?_⟩
        cases hx with
        | head => exact ⟨⟨u1.1, by show i < 256; omega⟩, ⟨u2.1, by show j < 256; omega⟩, ⟨u4.1, by show s < 256; omega⟩⟩
        | tail _ hx => exact e2 x hx
  obtain ⟨l, rfl, h4⟩ := key
  exact ⟨b, l, by simp, by simpa using h1, h4, fun hn => h3 (by simpa using hn)⟩
theorem RdV.olds {h : AHeap} {n : Nat} {v : Value} (hr : RdV Tryz.prog h (n + 6) 51 v) : ∃ (b : Option Addr) (l : List Old), v = .slice b l.length 0 ∧ OldAt h b l := by
  obtain ⟨b, vss, rfl, h1, h2, h3⟩ := RdV.recs Tryz.underlying51 hr
  have key : ∃ l : List Old, vss = l.map Old.cs ∧ ∀ x ∈ l, (0 ≤ x.key ∧ x.key < 256) ∧ (0 ≤ x.rts ∧ x.rts < 256) ∧ StpAt h x.b x.S := by
    clear h1 h3 hr
    induction vss with
    | nil => exact ⟨[], rfl, by simp⟩
    | cons v vss ih =>
      obtain ⟨l, e1, e2⟩ := ih fun x hx => h2 x (List.mem_cons_of_mem _ hx)
      obtain ⟨_, g⟩ := h2 v List.mem_cons_self
      obtain ⟨fss, g1, g2, g3⟩ := Rd.fields Tryz.underlying115 g
      match fss, g2 with
      | [a, b, c, d], _ =>
        obtain ⟨_, x1⟩ := g3 0 _ a rfl rfl
        obtain ⟨_, x2⟩ := g3 1 _ b rfl rfl
        obtain ⟨_, x3⟩ := g3 2 _ c rfl rfl
        obtain ⟨hel, x4⟩ := g3 3 _ d rfl rfl
        obtain ⟨i, rfl, w1⟩ := Rd.int Tryz.underlying5 x1
        obtain ⟨j, rfl, w2⟩ := Rd.int Tryz.underlying5 x2
        obtain ⟨o, rfl⟩ := Rd.bool Tryz.underlying4 x3
        have u1 := Ab.lit_u8 w1
        have u2 := Ab.lit_u8 w2
        have hel1 : d.length = 1 := hel.trans (by kernel_rfl)
        match d, hel1 with
        | [w], _ =>
          have hw : RdV Tryz.prog h (n + 1 + 3) 113 w := by
            unfold RdV
            rw [Tryz.underlying113]
            exact x4
          obtain ⟨vb, S, rfl, hS⟩ := RdV.steps hw
          refine ⟨⟨i, j, o, vb, S⟩ :: l, by rw [g1, e1]; rfl, fun x hx => ?_⟩
          cases hx with
          | head => exact ⟨⟨u1.1, by show i < 256; omega⟩, ⟨u2.1, by show j < 256; omega⟩, hS⟩
          | tail _ hx => exact e2 x hx
  obtain ⟨l, rfl, h4⟩ := key
  exact ⟨b, l, by simp, by simpa using h1, h4, fun hn => h3 (by simpa using hn)⟩
theorem RdV.acts {h : AHeap} {n : Nat} {v : Value} (hr : RdV Tryz.prog h (n + 7) 52 v) : ∃ (b : Option Addr) (l : List Ac), v = .slice b l.length 0 ∧ AcAt h b l := by
  obtain ⟨b, vss, rfl, h1, h2, h3⟩ := RdV.recs Tryz.underlying52 hr
  have key : ∃ l : List Ac, vss = l.map Ac.cs ∧ ∀ x ∈ l, x.ok := by
    clear h1 h3 hr
    induction vss with
    | nil => exact ⟨[], rfl, by simp⟩
    | cons v vss ih =>
      obtain ⟨l, e1, e2⟩ := ih fun x hx => h2 x (List.mem_cons_of_mem _ hx)
      obtain ⟨_, g⟩ := h2 v List.mem_cons_self
      obtain ⟨fss, g1, g2, g3⟩ := Rd.fields Tryz.underlying61 g
      match fss, g2 with
      | [a, b, c, d, e, f, k, m], _ =>
        obtain ⟨_, x1⟩ := g3 0 _ a rfl rfl
        obtain ⟨_, x2⟩ := g3 1 _ b rfl rfl
        obtain ⟨_, x3⟩ := g3 2 _ c rfl rfl
        obtain ⟨_, x4⟩ := g3 3 _ d rfl rfl
        obtain ⟨_, x5⟩ := g3 4 _ e rfl rfl
        obtain ⟨_, x6⟩ := g3 5 _ f rfl rfl
        obtain ⟨hel, x7⟩ := g3 6 _ k rfl rfl
        obtain ⟨_, x8⟩ := g3 7 _ m rfl rfl
        obtain ⟨i1, rfl, _⟩ := Rd.int Tryz.underlying3 x1
        obtain ⟨i2, rfl, w2⟩ := Rd.int Tryz.underlying5 x2
        obtain ⟨i3, rfl, w3⟩ := Rd.int Tryz.underlying5 x3
        obtain ⟨i4, rfl, w4⟩ := Rd.int Tryz.underlying5 x4
        obtain ⟨i5, rfl⟩ := Rd.bool Tryz.underlying4 x5
        obtain ⟨i6, rfl, w6⟩ := Rd.int Tryz.underlying5 x6
        obtain ⟨i8, rfl, w8⟩ := Rd.int Tryz.underlying5 x8
        have hel1 : k.length = 1 := hel.trans (by kernel_rfl)
        match k, hel1 with
        | [w], _ =>
          have hw : RdV Tryz.prog h (n + 2 + 3) 43 w := by
            unfold RdV
            rw [Tryz.underlying43]
            exact x7
          obtain ⟨sb, ss, rfl, _⟩ := RdV.recs Tryz.underlying43 hw
          refine ⟨⟨i1, i2, i3, i4, i5, i6, sb, ss.length, i8⟩ :: l, by rw [g1, e1]; rfl, fun x hx => ?_⟩
          cases hx with
          | head => exact ⟨Ab.lit_u8 w2, Ab.lit_u8 w3, Ab.lit_u8 w6⟩
          | tail _ hx => exact e2 x hx
  obtain ⟨l, rfl, h4⟩ := key
  exact ⟨b, l, by simp, by simpa using h1, h4, fun hn => h3 (by simpa using hn)⟩
theorem RdV.two {h : AHeap} {n : Nat} {v : Value} (hr : RdV Tryz.prog h (n + 8) 53 v) : ∃ (b0 b1 : Option Addr) (l0 l1 : List Ac), v = .agg #[.slice b0 l0.length 0, .slice b1 l1.length 0] ∧ AcAt h b0 l0 ∧ AcAt h b1 l1 := by
  unfold RdV at hr
  rw [Tryz.underlying53] at hr
  obtain ⟨vs, rfl, h1⟩ := hr
  unfold Rd at h1
  rw [Tryz.underlying53] at h1
  obtain ⟨vss, rfl, h2, h3⟩ := h1
  match vss, h2 with
  | [x, y], _ =>
    obtain ⟨p1, p2⟩ := h3 x (by simp)
    obtain ⟨q1, q2⟩ := h3 y (by simp)
    have p3 : x.length = 1 := p1.trans (by kernel_rfl)
    have q3 : y.length = 1 := q1.trans (by kernel_rfl)
    match x, p3, y, q3 with
    | [w], _, [u], _ =>
      have hw : RdV Tryz.prog h (n + 7) 52 w := by
        unfold RdV
        rw [Tryz.underlying52]
        exact p2
      have hu : RdV Tryz.prog h (n + 7) 52 u := by
        unfold RdV
        rw [Tryz.underlying52]
        exact q2
      obtain ⟨b0, l0, rfl, a0⟩ := RdV.acts hw
      obtain ⟨b1, l1, rfl, a1⟩ := RdV.acts hu
      exact ⟨b0, b1, l0, l1, rfl, a0, a1⟩
end Go.Proofs.YtjenbiohcecfnaaGreat
