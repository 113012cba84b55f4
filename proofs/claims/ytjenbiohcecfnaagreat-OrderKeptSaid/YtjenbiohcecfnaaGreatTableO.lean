/-
  Merged: TableF, TableG, TableH, TableO.
-/
import Derived.Test.YtjenbiohcecfnaaGreatTableE
namespace Go.Proofs.YtjenbiohcecfnaaGreat
open Go.Ab
set_option linter.unusedSimpArgs false
set_option linter.unusedVariables false
set_option maxRecDepth 10000
set_option maxHeartbeats 4000000
def mx (a b : Int) : Int := if b > a then b else a
def evFl (fl : Int) (k : List UInt8) (A : List Rec) : Int := match getR k A with
  | some x => mx fl x.rts
  | none => fl
def evCode (k : List UInt8) (A : List Rec) : Int := match getR k A with
  | some _ => 0
  | none => 5
theorem site_none {h : AHeap} {r : Nat} {fl : Int} {M : TM} {A : List Rec} (hB : TB h r fl M A) {k : List UInt8} (hg : getR k A = none) : ∀ l ∈ M.all, ¬ l.key = k := by
  rcases site hB.ta k with h1 | ⟨c, pre, l, post, hs⟩
  · exact h1
  · rw [getR_some hB hs] at hg; cases hg
theorem site_some {h : AHeap} {r : Nat} {fl : Int} {M : TM} {A : List Rec} (hB : TB h r fl M A) {k : List UInt8} {x : Rec} (hg : getR k A = some x) : ∃ c pre l post, Site M k c pre l post ∧ l.rc = x := by
  rcases site hB.ta k with h1 | ⟨c, pre, l, post, hs⟩
  · rw [getR_none hB h1] at hg; cases hg
  · exact ⟨c, pre, l, post, hs, by rw [getR_some hB hs] at hg; cases hg; rfl⟩
theorem set_eq_self {α : Type} {l : List α} {i : Nat} {x : α} (h : l[i]? = some x) : l.set i x = l := by
  obtain ⟨A, B, e1, e2, e3⟩ := ch_split h
  rw [e3, ← e1]
def okKey (k : List UInt8) : Prop := 1 ≤ k.length ∧ k.length ≤ 16
instance (k : List UInt8) : Decidable (okKey k) := inferInstanceAs (Decidable (_ ∧ _))
theorem may_key (h : AHeap) (k : List UInt8) : FWp Tryz.prog 41 [encS k] h fun u h' => u = .bool (decide (okKey k)) ∧ h' = h := by
  have e0 : (ByteArray.mk ⟨k⟩).size = k.length := rfl
  refine W.enter tyOK Tryz.func41 rfl rfl ?_
  simp only [entry]
  by_cases h1 : (k.length : Int) ≥ 1
  · have e1 : decide ((k.length : Int) ≥ 1) = true := decide_eq_true h1
    have e2 : decide ((k.length : Int) ≤ 16) = decide (okKey k) := by
      rw [decide_eq_decide]; exact ⟨fun h9 => ⟨by omega, by omega⟩, fun h9 => by have := h9.2; omega⟩
    refine W.seq <| W.reg <| OSuf.aopF tyOK rfl za (fun _ => rfl) rfl <| OSuf.nil <| SQ.normal ?_
    refine W.seq <| W.reg <| OSuf.aop tyOK rfl sm rfl <| OSuf.aop tyOK rfl (so_len (by simp only [aopnds, lk] <;> rfl) (by simp (disch := first | assumption | omega | (simp only [nx] <;> omega) | fail) only [aLenOf, ty9, hpl, e0] <;> rfl)) rfl <| OSuf.aopT tyOK rfl (zb (hv := bi_geq)) (fun _ => rfl) (e1) <| OSuf.aopT tyOK rfl sm (fun _ => rfl) rfl <| OSuf.aop tyOK ag sm rfl <| OSuf.aop tyOK ag (so_len (by simp only [aopnds, lk] <;> rfl) (by simp (disch := first | assumption | omega | (simp only [nx] <;> omega) | fail) only [aLenOf, ty9, hpl, e0] <;> rfl)) rfl <| OSuf.aop tyOK ag (zb (hv := bi_leq)) rfl <| OSuf.aop tyOK rfl (so_pick (by simp only [lk] <;> rfl) (by simp only [lk, cond_true, cond_false] <;> rfl)) rfl <| OSuf.aop tyOK rfl za rfl <| OSuf.nil <| SQ.normal ?_
    refine CWp.ret <| FQ.ret (by simp only [aRet, Tryz.f41, aResults, aResult, lk, Nat.reduceEqDiff, reduceIte] <;> rfl) ?_
    -- leaf: end
    exact ⟨by rw [← e2], rfl⟩
  · have e1 : decide ((k.length : Int) ≥ 1) = false := decide_eq_false h1
    have e2 : decide (okKey k) = false := decide_eq_false (fun h9 => h1 (by have := h9.1; omega))
    refine W.seq <| W.reg <| OSuf.aopF tyOK rfl za (fun _ => rfl) rfl <| OSuf.nil <| SQ.normal ?_
    refine W.seq <| W.reg <| OSuf.aop tyOK rfl sm rfl <| OSuf.aop tyOK rfl (so_len (by simp only [aopnds, lk] <;> rfl) (by simp (disch := first | assumption | omega | (simp only [nx] <;> omega) | fail) only [aLenOf, ty9, hpl, e0] <;> rfl)) rfl <| OSuf.aopF tyOK rfl (zb (hv := bi_geq)) (fun _ => rfl) (e1) <| OSuf.aopF tyOK rfl sm (fun _ => rfl) rfl <| OSuf.pass ag rfl <| OSuf.pass ag rfl <| OSuf.pass ag rfl <| OSuf.aopF tyOK rfl (so_pick (by simp only [lk] <;> rfl) (by simp only [lk, cond_true, cond_false] <;> rfl)) (fun _ => rfl) rfl <| OSuf.aopF tyOK rfl za (fun _ => rfl) rfl <| OSuf.nil <| SQ.normal ?_
    refine CWp.ret <| FQ.ret (by simp only [aRet, Tryz.f41, aResults, aResult, lk, Nat.reduceEqDiff, reduceIte] <;> rfl) ?_
    -- leaf: end
    exact ⟨by rw [e2], rfl⟩
theorem avs_mono {h h' : AHeap} {V : List Vr} {v : Value} (a : AVs h V v) (hn : h.next ≤ h'.next) (hk : ∀ z, z < h.next → h'.get z = h.get z) : AVs h' V v := by
  cases a with
  | nil => exact .nil
  | emp => exact .emp
  | some hne hy hg hc => exact .some hne (by omega) (by simp only [rowOf] at hg ⊢; rw [hk _ hy]; exact hg) hc
theorem avs_form {h : AHeap} {V : List Vr} {v : Value} (a : AVs h V v) : ∃ b c, v = .slice b V.length c := by cases a <;> exact ⟨_, _, rfl⟩
theorem set_arg (h : AHeap) (r : Nat) (k : List UInt8) (rts : Int) (here : Bool) (V : List Vr) (v : Value) (hv : AVs h V v) (hl : V.length ≤ 1000000) (hbad : ¬ (okKey k ∧ Ris V)) :
    FWp Tryz.prog 11 [P0 r, .agg #[encS k, U64 rts, .bool here, v]] h fun u h' => u = I64 2 ∧ h' = h := by
  have tb11 := And.intro ty107 (And.intro ty22 (And.intro ty3 (And.intro ty34 (And.intro ty36 (And.intro ty75 (And.intro ty77 (And.intro ty79 (ty9))))))))
  obtain ⟨a, c, rfl⟩ := avs_form hv
  refine FWp.gcs (.flat rfl) (W.enter tyOK Tryz.func11 rfl rfl ?_)
  simp only [entry]
  by_cases hk : okKey k
  · have hr : ¬ Ris V := fun e => hbad ⟨hk, e⟩
    have hm := may_key (h.new (.cells [encS k, U64 rts, .bool here, .slice a V.length c] 1)) k
    rw [decide_eq_true hk] at hm
    have hve := versions_c (h.new (.cells [encS k, U64 rts, .bool here, .slice a V.length c] 1)) V _ (avs_mono hv (by simp) fun z hz => AHeap.get_new_ne (by omega)) hl false (by simp [hr])
    refine W.seq <| W.reg <| OSuf.aop tyOK rfl (so_box (by simp only [lk] <;> rfl)) rfl <| OSuf.aop tyOK rfl za rfl <| OSuf.nil <| SQ.normal ?_
    refine W.seq <| W.block <| W.seq <| W.reg <| OSuf.aop tyOK rfl sm rfl <| OSuf.aopF tyOK rfl (zb (hv := bi_nil ⟨_, _, ty22, rfl⟩)) (fun _ => rfl) rfl <| OSuf.aopF tyOK rfl za (fun _ => rfl) rfl <| OSuf.nil <| SQ.normal ?_
    refine W.no (by simp only [lk] <;> rfl) <| W.seq <| W.reg <| OSuf.aop tyOK rfl (zf (hv := fa_ok (k := 0) ty36 rfl rfl ty9 rfl rfl)) rfl <| OSuf.aop tyOK rfl (zl (hv := by simp (disch := first | assumption | omega | (simp only [nx] <;> omega) | fail) only [aLoad, ty9, rowOf, hpl, Value.cells] <;> rfl)) rfl <| OSuf.callD rfl (by simp only [aopnds, lk] <;> rfl) en41 (hm) rfl <| OSuf.aopF tyOK rfl (so_not (by simp only [lk] <;> rfl)) (fun _ => rfl) rfl <| OSuf.aopF tyOK rfl sm (fun _ => rfl) rfl <| OSuf.aop tyOK ag (zf (hv := fa_ok (k := 3) ty36 rfl rfl ty34 rfl rfl)) rfl <| OSuf.aop tyOK ag (zl (hv := by simp (disch := first | assumption | omega | (simp only [nx] <;> omega) | fail) only [aLoad, ty34, rowOf, hpl, Value.cells] <;> rfl)) rfl <| OSuf.callD ag (by simp only [aopnds, lk] <;> rfl) en42 (hve) rfl <| OSuf.aopT tyOK ag (so_not (by simp only [lk] <;> rfl)) (fun _ => rfl) rfl <| OSuf.aopT tyOK rfl (so_pick (by simp only [lk] <;> rfl) (by simp only [lk, cond_true, cond_false] <;> rfl)) (fun _ => rfl) rfl <| OSuf.aopT tyOK rfl za (fun _ => rfl) rfl <| OSuf.nil <| SQ.normal ?_
    refine W.yes (by simp only [lk] <;> rfl) <| W.seq <| W.reg <| OSuf.aop tyOK rfl za rfl <| OSuf.nil <| SQ.normal ?_
    refine CWp.ret <| BQ.ret <| SQ.ret <| FQ.ret (by simp only [aRet, Tryz.f11, aResults, aResult, lk, Nat.reduceEqDiff, reduceIte] <;> rfl) ?_
    -- leaf: end
    refine ⟨rfl, fun z o hz ho => ?_⟩
    simp (disch := first | assumption | omega | (simp only [nx] <;> omega) | fail) only [hpl]; exact ho
  · have hm := may_key (h.new (.cells [encS k, U64 rts, .bool here, .slice a V.length c] 1)) k
    rw [decide_eq_false hk] at hm
    refine W.seq <| W.reg <| OSuf.aop tyOK rfl (so_box (by simp only [lk] <;> rfl)) rfl <| OSuf.aop tyOK rfl za rfl <| OSuf.nil <| SQ.normal ?_
    refine W.seq <| W.block <| W.seq <| W.reg <| OSuf.aop tyOK rfl sm rfl <| OSuf.aopF tyOK rfl (zb (hv := bi_nil ⟨_, _, ty22, rfl⟩)) (fun _ => rfl) rfl <| OSuf.aopF tyOK rfl za (fun _ => rfl) rfl <| OSuf.nil <| SQ.normal ?_
    refine W.no (by simp only [lk] <;> rfl) <| W.seq <| W.reg <| OSuf.aop tyOK rfl (zf (hv := fa_ok (k := 0) ty36 rfl rfl ty9 rfl rfl)) rfl <| OSuf.aop tyOK rfl (zl (hv := by simp (disch := first | assumption | omega | (simp only [nx] <;> omega) | fail) only [aLoad, ty9, rowOf, hpl, Value.cells] <;> rfl)) rfl <| OSuf.callD rfl (by simp only [aopnds, lk] <;> rfl) en41 (hm) rfl <| OSuf.aopT tyOK rfl (so_not (by simp only [lk] <;> rfl)) (fun _ => rfl) rfl <| OSuf.aopT tyOK rfl sm (fun _ => rfl) rfl <| OSuf.pass ag rfl <| OSuf.pass ag rfl <| OSuf.pass ag rfl <| OSuf.pass ag rfl <| OSuf.aopT tyOK rfl (so_pick (by simp only [lk] <;> rfl) (by simp only [lk, cond_true, cond_false] <;> rfl)) (fun _ => rfl) rfl <| OSuf.aopT tyOK rfl za (fun _ => rfl) rfl <| OSuf.nil <| SQ.normal ?_
    refine W.yes (by simp only [lk] <;> rfl) <| W.seq <| W.reg <| OSuf.aop tyOK rfl za rfl <| OSuf.nil <| SQ.normal ?_
    refine CWp.ret <| BQ.ret <| SQ.ret <| FQ.ret (by simp only [aRet, Tryz.f11, aResults, aResult, lk, Nat.reduceEqDiff, reduceIte] <;> rfl) ?_
    -- leaf: end
    refine ⟨rfl, fun z o hz ho => ?_⟩
    simp (disch := first | assumption | omega | (simp only [nx] <;> omega) | fail) only [hpl]; exact ho
theorem set_c (h : AHeap) (r : Nat) (fl : Int) (M : TM) (A : List Rec) (hB : TB h r fl M A) (k : List UInt8) (rts : Int) (here : Bool) (V : List Vr) (v : Value) (hv : AVs h V v) (hl : V.length ≤ 1000000) (hk : okKey k) (hr : Ris V) (hsz : A.length ≤ 1000000) :
    ∃ H M', FWp Tryz.prog 11 [P0 r, .agg #[encS k, U64 rts, .bool here, v]] h (fun u h' => u = I64 0 ∧ h' = H) ∧ TB H r fl M' (setR ⟨k, rts, here, V⟩ A) ∧ FrT h H r M M' := by
  have tb11 := And.intro ty107 (And.intro ty22 (And.intro ty3 (And.intro ty34 (And.intro ty36 (And.intro ty75 (And.intro ty77 (And.intro ty79 (ty9))))))))
  obtain ⟨a, c0, rfl⟩ := avs_form hv
  have hA := hB.ta
  have hrow := hA.row
  have hsrow := hA.srow
  have hrs := hA.rs
  have hrs' : ¬ M.s = r := fun e => hrs e.symm
  have hlt := hA.lt
  have hslt := hA.slt
  have hk9 : k.length < 9223372036854775808 := by have := hk.2; omega
  have hm := may_key (h.new (.cells [encS k, U64 rts, .bool here, .slice a V.length c0] 1)) k
  rw [decide_eq_true hk] at hm
  have hv1 : AVs (h.new (.cells [encS k, U64 rts, .bool here, .slice a V.length c0] 1)) V (.slice a V.length c0) := avs_mono hv (by simp) fun z hz => AHeap.get_new_ne (by omega)
  have hve := versions_c (h.new (.cells [encS k, U64 rts, .bool here, .slice a V.length c0] 1)) V _ hv1 hl true (by simp [hr])
  obtain ⟨v', H1, hcl, hcv, hcn, hck, _⟩ := clone_c _ V _ hv1 hl
  obtain ⟨a2, c2, rfl⟩ := avo_form hcv
  have hcn' : h.next + 1 ≤ H1.next := by simpa using hcn
  have z1 : H1.get h.next = some (.cells [encS k, U64 rts, .bool here, .slice a V.length c0] 1) := by rw [hck _ (by simp)]; exact AHeap.get_new_same _ _
  have hold1 : ∀ z, z < h.next → H1.get z = h.get z := fun z hz => by rw [hck z (by simp; omega)]; exact AHeap.get_new_ne (by omega)
  obtain ⟨H2, hH2⟩ : ∃ H2, H2 = H1.set h.next (.cells [encS k, U64 rts, .bool here, .slice a2 V.length c2] 1) := ⟨_, rfl⟩
  have n2 : h.next + 1 ≤ H2.next := by rw [hH2]; exact hcn'
  have z2 : H2.get h.next = some (.cells [encS k, U64 rts, .bool here, .slice a2 V.length c2] 1) := by rw [hH2]; exact AHeap.get_set_same _ _ _
  have hold2 : ∀ z, z < h.next → H2.get z = h.get z := fun z hz => by rw [hH2, AHeap.get_set_ne (by omega)]; exact hold1 z hz
  have hav2 : AVo H2 V (.slice a2 V.length c2) := avo_mono hcv (by rw [hH2]; simp) fun y w hy hg => by
    have : ¬ h.next = y := fun e => by rw [← e, z1] at hg; simp at hg
    rw [hH2, AHeap.get_set_ne this]
  have hB2 : TB H2 r fl M A := hB.mono (by omega) hold2
  have e5 : cellsOf [encS k, U64 rts, .bool here, .slice a2 V.length c2] 0 4 = some [encS k, U64 rts, .bool here, .slice a2 V.length c2] := rfl
  have hrow1 : H1.get r = _ := (hold1 r hlt).trans hrow
  have hsrow1 : H1.get M.s = _ := (hold1 M.s hslt).trans hsrow
  have hrow2 : H2.get r = _ := (hold2 r hlt).trans hrow
  have hsrow2 : H2.get M.s = _ := (hold2 M.s hslt).trans hsrow
  cases hg : getR k A with
  | none =>
    have hno := site_none hB hg
    have hf := find_none H2 r fl M hB2.ta k hk9 hno
    have hsl := slice_c H2 r M.s M.n (U64 fl) (I64 M.all.length) k (by omega) (by omega) hA.pos hA.small hk9 hrow2
    have hi : ix k M.n < M.ch.length := by rw [hA.len]; exact ix_lt k hA.pos
    obtain ⟨c, hc⟩ : ∃ c, M.ch[ix k M.n]? = some c := ⟨M.ch[ix k M.n], by simp [hi]⟩
    have hcm := List.mem_of_getElem? hc
    obtain ⟨nd1, nd2, nd3⟩ := hA.chain_nd hc
    have hlp : (M.put (ix k M.n) ((⟨H2.next, k, rts, here, .slice a2 V.length c2, V⟩ : Lk) :: c)).all.length = M.all.length + 1 := by
      have := len_put (M := M) (c' := (⟨H2.next, k, rts, here, .slice a2 V.length c2, V⟩ : Lk) :: c) hc
      simp at this; omega
    have hlen : M.all.length = A.length := by rw [← List.length_map (f := Lk.rc)]; exact hB.perm.length_eq
    have w1 : IntKind.i64.wrap ((M.all.length : Int) + 1) = (((M.put (ix k M.n) ((⟨H2.next, k, rts, here, .slice a2 V.length c2, V⟩ : Lk) :: c)).all.length : Nat) : Int) := by rw [hlp, wrap_i64 (by omega) (by omega)]; omega
    have hperm := ins_perm hB (l := ⟨H2.next, k, rts, here, .slice a2 V.length c2, V⟩) hc hno rfl
    have hbl : Nat.ble (ix k M.n + 1) (M.ch.map headV).length = true := Nat.ble_eq_true_of_le (by simp; omega)
    obtain ⟨b, hhv⟩ : ∃ b, headV c = .pointer b := by cases c <;> exact ⟨_, rfl⟩
    have hp2 : (M.ch.map headV)[ix k M.n]? = some (.pointer b) := by rw [List.getElem?_map, hc]; simp [hhv]
    refine ⟨((H2.new (.cells [encS k, U64 rts, .bool here, .slice a2 V.length c2, .pointer b] 1)).set M.s (.cells (splice (M.ch.map headV) (ix k M.n) [P0 H2.next]) 1)).set r (.cells [.slice (some ⟨M.s, 0, none⟩) M.n (M.n + 1), U64 fl, I64 (M.put (ix k M.n) ((⟨H2.next, k, rts, here, .slice a2 V.length c2, V⟩ : Lk) :: c)).all.length] 1), M.put (ix k M.n) ((⟨H2.next, k, rts, here, .slice a2 V.length c2, V⟩ : Lk) :: c), ?_, ⟨TA.put hA hc (by simp only [nx]; omega) ?_ ?_ ?_ ?_ ?_ ?_ ?_ ?_ ?_, hperm⟩, ⟨by simp only [nx]; omega, ?_, ?_⟩⟩
    · subst hH2
      refine W.enter tyOK Tryz.func11 rfl rfl ?_
      simp only [entry]
      refine W.seq <| W.reg <| OSuf.aop tyOK rfl (so_box (by simp only [lk] <;> rfl)) rfl <| OSuf.aop tyOK rfl za rfl <| OSuf.nil <| SQ.normal ?_
      refine W.seq <| W.block <| W.seq <| W.reg <| OSuf.aop tyOK rfl sm rfl <| OSuf.aopF tyOK rfl (zb (hv := bi_nil ⟨_, _, ty22, rfl⟩)) (fun _ => rfl) rfl <| OSuf.aopF tyOK rfl za (fun _ => rfl) rfl <| OSuf.nil <| SQ.normal ?_
      refine W.no (by simp only [lk] <;> rfl) <| W.seq <| W.reg <| OSuf.aop tyOK rfl (zf (hv := fa_ok (k := 0) ty36 rfl rfl ty9 rfl rfl)) rfl <| OSuf.aop tyOK rfl (zl (hv := by simp (disch := first | assumption | omega | (simp only [nx] <;> omega) | fail) only [aLoad, ty9, rowOf, hpl, Value.cells, z1, e5, Option.map_some, cond_true, hrow1, hsrow1, hp2, hbl, List.length_cons, List.length_nil, sb] <;> rfl)) rfl <| OSuf.callD rfl (by simp only [aopnds, lk] <;> rfl) en41 (hm) rfl <| OSuf.aopF tyOK rfl (so_not (by simp only [lk] <;> rfl)) (fun _ => rfl) rfl <| OSuf.aopF tyOK rfl sm (fun _ => rfl) rfl <| OSuf.aop tyOK ag (zf (hv := fa_ok (k := 3) ty36 rfl rfl ty34 rfl rfl)) rfl <| OSuf.aop tyOK ag (zl (hv := by simp (disch := first | assumption | omega | (simp only [nx] <;> omega) | fail) only [aLoad, ty34, rowOf, hpl, Value.cells, z1, e5, Option.map_some, cond_true, hrow1, hsrow1, hp2, hbl, List.length_cons, List.length_nil, sb] <;> rfl)) rfl <| OSuf.callD ag (by simp only [aopnds, lk] <;> rfl) en42 (hve) rfl <| OSuf.aopF tyOK ag (so_not (by simp only [lk] <;> rfl)) (fun _ => rfl) rfl <| OSuf.aopF tyOK rfl (so_pick (by simp only [lk] <;> rfl) (by simp only [lk, cond_true, cond_false] <;> rfl)) (fun _ => rfl) rfl <| OSuf.aopF tyOK rfl za (fun _ => rfl) rfl <| OSuf.nil <| SQ.normal ?_
      refine W.no (by simp only [lk] <;> rfl) <| CWp.skip <| BQ.normal <| SQ.normal ?_
      refine W.seq <| W.reg <| OSuf.aop tyOK rfl (zf (hv := fa_ok (k := 3) ty36 rfl rfl ty34 rfl rfl)) rfl <| OSuf.aop tyOK rfl (zl (hv := by simp (disch := first | assumption | omega | (simp only [nx] <;> omega) | fail) only [aLoad, ty34, rowOf, hpl, Value.cells, z1, e5, Option.map_some, cond_true, hrow1, hsrow1, hp2, hbl, List.length_cons, List.length_nil, sb] <;> rfl)) rfl <| OSuf.callD rfl (by simp only [aopnds, lk] <;> rfl) en31 (hcl) rfl <| OSuf.aop tyOK rfl (zf (hv := fa_ok (k := 3) ty36 rfl rfl ty34 rfl rfl)) rfl <| OSuf.aop tyOK rfl (zs (hv := by simp (disch := first | assumption | omega | (simp only [nx] <;> omega) | fail) only [aStore, ty34, writeRow, hpl, Value.cells, z1, e5, Option.map_some, cond_true, hrow1, hsrow1, hp2, hbl, List.length_cons, List.length_nil, sb] <;> rfl)) rfl <| OSuf.nil <| SQ.normal ?_
      refine W.seq <| W.seq <| W.reg <| OSuf.aop tyOK rfl sm rfl <| OSuf.aop tyOK rfl (zf (hv := fa_ok (k := 0) ty36 rfl rfl ty9 rfl rfl)) rfl <| OSuf.aop tyOK rfl (zl (hv := by simp (disch := first | assumption | omega | (simp only [nx] <;> omega) | fail) only [aLoad, ty9, rowOf, hpl, Value.cells, z1, e5, Option.map_some, cond_true, hrow1, hsrow1, hp2, hbl, List.length_cons, List.length_nil, sb] <;> rfl)) rfl <| OSuf.callD rfl (by simp only [aopnds, lk] <;> rfl) en30 (hf) rfl <| OSuf.aop tyOK rfl za rfl <| OSuf.nil <| SQ.normal ?_
      refine W.seq <| W.reg <| OSuf.aop tyOK rfl sm rfl <| OSuf.aopF tyOK rfl (zb (hv := bi_nnil0 tyOK ⟨_, _, ty75, rfl⟩)) (fun _ => rfl) rfl <| OSuf.nil <| SQ.normal ?_
      refine W.no (by simp only [lk] <;> rfl) <| CWp.skip <| SQ.normal ?_
      refine W.seq <| W.reg <| OSuf.aop tyOK rfl sm rfl <| OSuf.aop tyOK rfl (zf (hv := fa_ok (k := 0) ty36 rfl rfl ty9 rfl rfl)) rfl <| OSuf.aop tyOK rfl (zl (hv := by simp (disch := first | assumption | omega | (simp only [nx] <;> omega) | fail) only [aLoad, ty9, rowOf, hpl, Value.cells, z1, e5, Option.map_some, cond_true, hrow1, hsrow1, hp2, hbl, List.length_cons, List.length_nil, sb] <;> rfl)) rfl <| OSuf.callD rfl (by simp only [aopnds, lk] <;> rfl) en43 (hsl) rfl <| OSuf.aop tyOK rfl za rfl <| OSuf.nil <| SQ.normal ?_
      refine W.seq <| W.regD tyOK mixed (by kernel_rfl) <| SqW.aop rfl sm rfl <| SqW.aop rfl (zl (hv := by simp (disch := first | assumption | omega | (simp only [nx] <;> omega) | fail) only [aLoad, ty36, rowOf, hpl, Value.cells, z1, e5, Option.map_some, cond_true, hrow1, hsrow1, hp2, hbl, List.length_cons, List.length_nil, sb] <;> rfl)) rfl <| SqW.aop rfl sm rfl <| SqW.aop rfl (so_nilCheck (by simp only [lk] <;> rfl)) rfl <| SqW.aop rfl (zl (hv := by simp (disch := first | assumption | omega | (simp only [nx] <;> omega) | fail) only [aLoad, ty77, rowOf, hpl, Value.cells, z1, e5, Option.map_some, cond_true, hrow1, hsrow1, hp2, hbl, List.length_cons, List.length_nil, sb] <;> rfl)) rfl <| SqW.aop rfl (so_build (by simp only [aparts, lk] <;> rfl) (by simp only [aBuild, ty79, Value.cells, places, tb11, z1, e5, cond_true, hrow1, hsrow1, hp2, hbl, List.length_cons, List.length_nil, sb] <;> rfl)) rfl <| SqW.aop rfl (so_box (by simp only [lk] <;> rfl)) rfl <| SqW.aop rfl (so_nilCheck (by simp only [lk] <;> rfl)) rfl <| SqW.aop rfl (zs (hv := by simp (disch := first | assumption | omega | (simp only [nx] <;> omega) | fail) only [aStore, ty77, writeRow, hpl, Value.cells, z1, e5, Option.map_some, cond_true, hrow1, hsrow1, hp2, hbl, List.length_cons, List.length_nil, sb] <;> rfl)) rfl <| SqW.nil <| SQ.normal ?_
      refine W.seq <| W.reg <| OSuf.aop tyOK rfl sm rfl <| OSuf.aop tyOK rfl (so_nilCheck (by simp only [lk] <;> rfl)) rfl <| OSuf.aop tyOK rfl (zf (hv := fa_ok (k := 2) ty107 rfl rfl ty3 rfl rfl)) rfl <| OSuf.aop tyOK rfl (zl (hv := by simp (disch := first | assumption | omega | (simp only [nx] <;> omega) | fail) only [aLoad, ty3, rowOf, hpl, Value.cells, z1, e5, Option.map_some, cond_true, hrow1, hsrow1, hp2, hbl, List.length_cons, List.length_nil, sb] <;> rfl)) rfl <| OSuf.aop tyOK rfl (zb (hv := bi_w bi_add (by first | (simp only [w1] <;> rfl) | rfl))) rfl <| OSuf.aop tyOK rfl (so_nilCheck (by simp only [lk] <;> rfl)) rfl <| OSuf.aop tyOK rfl (zf (hv := fa_ok (k := 2) ty107 rfl rfl ty3 rfl rfl)) rfl <| OSuf.aop tyOK rfl (zs (hv := by simp (disch := first | assumption | omega | (simp only [nx] <;> omega) | fail) only [aStore, ty3, writeRow, hpl, Value.cells, z1, e5, Option.map_some, cond_true, hrow1, hsrow1, hp2, hbl, List.length_cons, List.length_nil, sb] <;> rfl)) rfl <| OSuf.nil <| SQ.normal ?_
      refine W.seq <| W.reg <| OSuf.aop tyOK rfl za rfl <| OSuf.nil <| SQ.normal ?_
      refine CWp.ret <| FQ.ret (by simp only [aRet, Tryz.f11, aResults, aResult, lk, Nat.reduceEqDiff, reduceIte] <;> rfl) ?_
      -- leaf: end
      exact ⟨rfl, rfl⟩
    · simp (disch := first | assumption | omega | (simp only [nx] <;> omega) | fail) only [hpl]
    · simp (disch := first | assumption | omega | (simp only [nx] <;> omega) | fail) only [hpl]
      rw [splice_one (by simp; omega)]; rfl
    · refine ⟨by simp only [nx]; omega, ?_, (hA.chn c hcm).mono (by simp only [nx]; omega) fun y hy => ?_⟩
      · have q1 : ¬ r = H2.next := by omega
        have q2 : ¬ M.s = H2.next := by omega
        simp (disch := first | assumption | omega | (simp only [nx] <;> omega) | fail) only [hpl]
        show _ = some (AObj.cells [_, _, _, _, headV c] 1)
        rw [hhv]
      · obtain ⟨y1, y2, y3, y4⟩ := nd3 y hy
        have q1 : ¬ r = y.row := fun e => y1 e.symm
        have q2 : ¬ M.s = y.row := fun e => y2 e.symm
        simp (disch := first | assumption | omega | (simp only [nx] <;> omega) | fail) only [hpl]
        exact hold2 _ y3
    · intro z hz hzr hzs _
      have q1 : ¬ r = z := fun e => hzr e.symm
      have q2 : ¬ M.s = z := fun e => hzs e.symm
      simp (disch := first | assumption | omega | (simp only [nx] <;> omega) | fail) only [hpl]
      exact hold2 z hz
    · intro y hy
      cases hy with
      | head => exact .inr (by simp only; omega)
      | tail _ h9 => exact .inl ⟨y, h9, rfl⟩
    · simp only [List.map_cons, List.nodup_cons]
      refine ⟨fun h9 => ?_, nd1⟩
      obtain ⟨y, hy, e⟩ := List.mem_map.1 h9
      have := (nd3 y hy).2.2.1
      omega
    · simp only [List.map_cons, List.nodup_cons]
      refine ⟨fun h9 => ?_, nd2⟩
      obtain ⟨y, hy, e⟩ := List.mem_map.1 h9
      exact hno y (chn_sub hA hcm y hy) e
    · intro y hy
      cases hy with
      | head => rfl
      | tail _ h9 => exact hA.hash _ c hc y h9
    · intro y hy
      have hfin : ∀ z w, z < H2.next → H2.get z = some (.cells w 5) → (((H2.new (.cells [encS k, U64 rts, .bool here, .slice a2 V.length c2, .pointer b] 1)).set M.s (.cells (splice (M.ch.map headV) (ix k M.n) [P0 H2.next]) 1)).set r (.cells [.slice (some ⟨M.s, 0, none⟩) M.n (M.n + 1), U64 fl, I64 (M.put (ix k M.n) ((⟨H2.next, k, rts, here, .slice a2 V.length c2, V⟩ : Lk) :: c)).all.length] 1)).get z = H2.get z := fun z w hz h9 => by
        have q1 : ¬ r = z := fun e => by (rw [← e, hrow2] at h9; simp at h9)
        have q2 : ¬ M.s = z := fun e => by (rw [← e, hsrow2] at h9; simp at h9)
        simp (disch := first | assumption | omega | (simp only [nx] <;> omega) | fail) only [hpl]
      cases hy with
      | head => exact avo_mono hav2 (by simp only [nx]; omega) hfin
      | tail _ h9 => exact avo_mono (hB2.ta.av y (chn_sub hA hcm y h9)) (by simp only [nx]; omega) hfin
    · intro z hz hzr hzm
      have q1 : ¬ r = z := fun e => hzr e.symm
      have q2 : ¬ M.s = z := fun e => hzm (by rw [← e]; exact List.mem_cons_self)
      simp (disch := first | assumption | omega | (simp only [nx] <;> omega) | fail) only [hpl]
      exact hold2 z hz
    · intro z hz
      rcases rows_put hc hz with h9 | h9
      · exact .inl h9
      · obtain ⟨y, hy, rfl⟩ := List.mem_map.1 h9
        cases hy with
        | head => exact .inr (by simp only; omega)
        | tail _ h8 => exact .inl (nd3 y h8).2.2.2
  | some x =>
    obtain ⟨c, pre, l, post, hs, hlx⟩ := site_some hB hg
    have hcm := List.mem_of_getElem? hs.at_
    obtain ⟨nd1, nd2, nd3⟩ := hA.chain_nd hs.at_
    have hlm : l ∈ c := by rw [hs.split]; simp
    obtain ⟨nl1, nl2, nl3, nl4⟩ := nd3 l hlm
    have nl1' : ¬ r = l.row := fun e => nl1 e.symm
    have hlg : h.get l.row = some (.cells [encS l.key, U64 l.rts, .bool l.here, l.vers, headV post] 1) := chn_full (by rw [← hs.split]; exact hA.chn c hcm)
    have hlg1 : H1.get l.row = _ := (hold1 l.row nl3).trans hlg
    have hlg2 : H2.get l.row = _ := (hold2 l.row nl3).trans hlg
    have hf := find_some H2 r fl M hB2.ta k hk9 c pre post l hs.at_ hs.split hs.pre hs.key
    have at0 : At h (PA M.s (ix k M.n)) (headV c) := ⟨_, _, _, rfl, hA.slt, hA.srow, by simp [hs.at_]⟩
    obtain ⟨q, o, vs, q1, q2, q3, q4⟩ := at_plc (pre := pre) (post := l :: post) (by rw [← hs.split]; exact at0) (by rw [← hs.split]; exact hA.chn c hcm)
    have q4' : vs[o]? = some (P0 l.row) := q4
    have q31 : H1.get q = some (.cells vs 1) := (hold1 q q2).trans q3
    have hqn : ¬ h.next = q := by omega
    rw [q1] at hf
    obtain ⟨B, b1, b2, b3, b4⟩ := hB.rest hs
    have hperm : ((M.put (ix k M.n) (pre ++ ⟨l.row, k, rts, here, .slice a2 V.length c2, V⟩ :: post)).all.map Lk.rc).Perm (setR ⟨k, rts, here, V⟩ A) :=
      (b3 ⟨l.row, k, rts, here, .slice a2 V.length c2, V⟩).trans (setR_perm (x := ⟨k, rts, here, V⟩) hB.nodup b1 hs.key b2)
    have hlp : (M.put (ix k M.n) (pre ++ ⟨l.row, k, rts, here, .slice a2 V.length c2, V⟩ :: post)).all.length = M.all.length := by
      have := len_put (M := M) (c' := pre ++ ⟨l.row, k, rts, here, .slice a2 V.length c2, V⟩ :: post) hs.at_
      rw [hs.split] at this; simp at this; omega
    have hne : ∀ y ∈ pre ++ post, ¬ y.row = l.row := nd_mid (by rw [← hs.split]; exact nd1)
    have hsub : ∀ y ∈ pre ++ post, y ∈ c := fun y hy => by rw [hs.split]; simp at hy ⊢; rcases hy with h9 | h9 <;> simp [h9]
    have hmem : ∀ y ∈ pre ++ (⟨l.row, k, rts, here, .slice a2 V.length c2, V⟩ : Lk) :: post, y ∈ pre ++ post ∨ y = ⟨l.row, k, rts, here, .slice a2 V.length c2, V⟩ := fun y hy => by
      simp only [List.mem_append, List.mem_cons] at hy ⊢
      rcases hy with h9 | h9 | h9
      · exact .inl (.inl h9)
      · exact .inr h9
      · exact .inl (.inr h9)
    refine ⟨H2.set l.row (.cells [encS k, U64 rts, .bool here, .slice a2 V.length c2, headV post] 1), M.put (ix k M.n) (pre ++ ⟨l.row, k, rts, here, .slice a2 V.length c2, V⟩ :: post), ?_, ⟨TA.put hA hs.at_ (by simp only [nx]; omega) ?_ ?_ ?_ ?_ ?_ ?_ ?_ ?_ ?_, hperm⟩, ⟨by simp only [nx]; omega, ?_, ?_⟩⟩
    · subst hH2
      refine W.enter tyOK Tryz.func11 rfl rfl ?_
      simp only [entry]
      refine W.seq <| W.reg <| OSuf.aop tyOK rfl (so_box (by simp only [lk] <;> rfl)) rfl <| OSuf.aop tyOK rfl za rfl <| OSuf.nil <| SQ.normal ?_
      refine W.seq <| W.block <| W.seq <| W.reg <| OSuf.aop tyOK rfl sm rfl <| OSuf.aopF tyOK rfl (zb (hv := bi_nil ⟨_, _, ty22, rfl⟩)) (fun _ => rfl) rfl <| OSuf.aopF tyOK rfl za (fun _ => rfl) rfl <| OSuf.nil <| SQ.normal ?_
      refine W.no (by simp only [lk] <;> rfl) <| W.seq <| W.reg <| OSuf.aop tyOK rfl (zf (hv := fa_ok (k := 0) ty36 rfl rfl ty9 rfl rfl)) rfl <| OSuf.aop tyOK rfl (zl (hv := by simp (disch := first | assumption | omega | (simp only [nx] <;> omega) | fail) only [aLoad, ty9, rowOf, hpl, Value.cells, z1, e5, Option.map_some, cond_true, hrow1, hsrow1, q31, q4', hlg1, List.length_cons, List.length_nil, sb] <;> rfl)) rfl <| OSuf.callD rfl (by simp only [aopnds, lk] <;> rfl) en41 (hm) rfl <| OSuf.aopF tyOK rfl (so_not (by simp only [lk] <;> rfl)) (fun _ => rfl) rfl <| OSuf.aopF tyOK rfl sm (fun _ => rfl) rfl <| OSuf.aop tyOK ag (zf (hv := fa_ok (k := 3) ty36 rfl rfl ty34 rfl rfl)) rfl <| OSuf.aop tyOK ag (zl (hv := by simp (disch := first | assumption | omega | (simp only [nx] <;> omega) | fail) only [aLoad, ty34, rowOf, hpl, Value.cells, z1, e5, Option.map_some, cond_true, hrow1, hsrow1, q31, q4', hlg1, List.length_cons, List.length_nil, sb] <;> rfl)) rfl <| OSuf.callD ag (by simp only [aopnds, lk] <;> rfl) en42 (hve) rfl <| OSuf.aopF tyOK ag (so_not (by simp only [lk] <;> rfl)) (fun _ => rfl) rfl <| OSuf.aopF tyOK rfl (so_pick (by simp only [lk] <;> rfl) (by simp only [lk, cond_true, cond_false] <;> rfl)) (fun _ => rfl) rfl <| OSuf.aopF tyOK rfl za (fun _ => rfl) rfl <| OSuf.nil <| SQ.normal ?_
      refine W.no (by simp only [lk] <;> rfl) <| CWp.skip <| BQ.normal <| SQ.normal ?_
      refine W.seq <| W.reg <| OSuf.aop tyOK rfl (zf (hv := fa_ok (k := 3) ty36 rfl rfl ty34 rfl rfl)) rfl <| OSuf.aop tyOK rfl (zl (hv := by simp (disch := first | assumption | omega | (simp only [nx] <;> omega) | fail) only [aLoad, ty34, rowOf, hpl, Value.cells, z1, e5, Option.map_some, cond_true, hrow1, hsrow1, q31, q4', hlg1, List.length_cons, List.length_nil, sb] <;> rfl)) rfl <| OSuf.callD rfl (by simp only [aopnds, lk] <;> rfl) en31 (hcl) rfl <| OSuf.aop tyOK rfl (zf (hv := fa_ok (k := 3) ty36 rfl rfl ty34 rfl rfl)) rfl <| OSuf.aop tyOK rfl (zs (hv := by simp (disch := first | assumption | omega | (simp only [nx] <;> omega) | fail) only [aStore, ty34, writeRow, hpl, Value.cells, z1, e5, Option.map_some, cond_true, hrow1, hsrow1, q31, q4', hlg1, List.length_cons, List.length_nil, sb] <;> rfl)) rfl <| OSuf.nil <| SQ.normal ?_
      refine W.seq <| W.seq <| W.reg <| OSuf.aop tyOK rfl sm rfl <| OSuf.aop tyOK rfl (zf (hv := fa_ok (k := 0) ty36 rfl rfl ty9 rfl rfl)) rfl <| OSuf.aop tyOK rfl (zl (hv := by simp (disch := first | assumption | omega | (simp only [nx] <;> omega) | fail) only [aLoad, ty9, rowOf, hpl, Value.cells, z1, e5, Option.map_some, cond_true, hrow1, hsrow1, q31, q4', hlg1, List.length_cons, List.length_nil, sb] <;> rfl)) rfl <| OSuf.callD rfl (by simp only [aopnds, lk] <;> rfl) en30 (hf) rfl <| OSuf.aop tyOK rfl za rfl <| OSuf.nil <| SQ.normal ?_
      refine W.seq <| W.reg <| OSuf.aop tyOK rfl sm rfl <| OSuf.aopT tyOK rfl (zb (hv := bi_nnil ⟨_, _, ty75, rfl⟩)) (fun _ => rfl) rfl <| OSuf.nil <| SQ.normal ?_
      refine W.yes (by simp only [lk] <;> rfl) <| W.seq <| W.regD tyOK mixed (by kernel_rfl) <| SqW.aop rfl sm rfl <| SqW.aop rfl (so_nilCheck (by simp only [lk] <;> rfl)) rfl <| SqW.aop rfl (zl (hv := by simp (disch := first | assumption | omega | (simp only [nx] <;> omega) | fail) only [aLoad, ty77, rowOf, hpl, Value.cells, z1, e5, Option.map_some, cond_true, hrow1, hsrow1, q31, q4', hlg1, List.length_cons, List.length_nil, sb] <;> rfl)) rfl <| SqW.aop rfl (zl (hv := by simp (disch := first | assumption | omega | (simp only [nx] <;> omega) | fail) only [aLoad, ty36, rowOf, hpl, Value.cells, z1, e5, Option.map_some, cond_true, hrow1, hsrow1, q31, q4', hlg1, List.length_cons, List.length_nil, sb] <;> rfl)) rfl <| SqW.aop rfl (so_nilCheck (by simp only [lk] <;> rfl)) rfl <| SqW.aop rfl (zf (hv := fa_ok (k := 0) ty79 rfl rfl ty36 rfl rfl)) rfl <| SqW.aop rfl (zs (hv := by simp (disch := first | assumption | omega | (simp only [nx] <;> omega) | fail) only [aStore, ty36, writeRow, hpl, Value.cells, z1, e5, Option.map_some, cond_true, hrow1, hsrow1, q31, q4', hlg1, List.length_cons, List.length_nil, sb] <;> rfl)) rfl <| SqW.nil <| SQ.normal ?_
      refine W.seq <| W.reg <| OSuf.aop tyOK rfl za rfl <| OSuf.nil <| SQ.normal ?_
      refine CWp.ret <| SQ.ret <| FQ.ret (by simp only [aRet, Tryz.f11, aResults, aResult, lk, Nat.reduceEqDiff, reduceIte] <;> rfl) ?_
      -- leaf: end
      exact ⟨rfl, rfl⟩
    · rw [hlp]; simp (disch := first | assumption | omega | (simp only [nx] <;> omega) | fail) only [hpl]; exact hrow2
    · have q5 : ¬ l.row = M.s := nl2
      simp (disch := first | assumption | omega | (simp only [nx] <;> omega) | fail) only [hpl]
      rw [hsrow2, set_eq_self]
      rw [List.getElem?_map, hs.at_, hs.split]
      exact congrArg some (head_app pre l _ post post rfl)
    · refine chn_upd (l := l) (l' := ⟨l.row, k, rts, here, .slice a2 V.length c2, V⟩) rfl (pre := pre) (by rw [← hs.split]; exact hA.chn c hcm) ?_ (fun y hy => ?_) ?_
      · simp only [nx]; omega
      · have q5 : ¬ l.row = y.row := fun e => hne y hy e.symm
        simp (disch := first | assumption | omega | (simp only [nx] <;> omega) | fail) only [hpl]
        exact hold2 _ (nd3 y (hsub y hy)).2.2.1
      · simp (disch := first | assumption | omega | (simp only [nx] <;> omega) | fail) only [hpl]; rfl
    · intro z hz hzr hzs hzc
      have q5 : ¬ l.row = z := fun e => hzc l hlm e.symm
      simp (disch := first | assumption | omega | (simp only [nx] <;> omega) | fail) only [hpl]
      exact hold2 z hz
    · intro y hy
      rcases hmem y hy with h9 | h9
      · exact .inl ⟨y, hsub y h9, rfl⟩
      · exact .inl ⟨l, hlm, by rw [h9]⟩
    · rw [hs.split] at nd1
      simpa using nd1
    · rw [hs.split] at nd2
      have := hs.key
      simp only [List.map_append, List.map_cons] at nd2 ⊢
      rw [this] at nd2; exact nd2
    · intro y hy
      rcases hmem y hy with h9 | h9
      · exact hA.hash _ c hs.at_ y (hsub y h9)
      · rw [h9]
    · intro y hy
      have hfin : ∀ z w, z < H2.next → H2.get z = some (.cells w 5) → (H2.set l.row (.cells [encS k, U64 rts, .bool here, .slice a2 V.length c2, headV post] 1)).get z = H2.get z := fun z w hz h9 => by
        have q5 : ¬ l.row = z := fun e => by (rw [← e, hlg2] at h9; simp at h9)
        simp (disch := first | assumption | omega | (simp only [nx] <;> omega) | fail) only [hpl]
      rcases hmem y hy with h9 | h9
      · exact avo_mono (hB2.ta.av y (chn_sub hA hcm y (hsub y h9))) (by simp only [nx]; omega) hfin
      · rw [h9]; exact avo_mono hav2 (by simp only [nx]; omega) hfin
    · intro z hz hzr hzm
      have q5 : ¬ l.row = z := fun e => hzm (by rw [← e]; exact nl4)
      simp (disch := first | assumption | omega | (simp only [nx] <;> omega) | fail) only [hpl]
      exact hold2 z hz
    · intro z hz
      rcases rows_put hs.at_ hz with h9 | h9
      · exact .inl h9
      · obtain ⟨y, hy, rfl⟩ := List.mem_map.1 h9
        rcases hmem y hy with h8 | h8
        · exact .inl (nd3 y (hsub y h8)).2.2.2
        · rw [h8]; exact .inl nl4
theorem TB.upd {h H : AHeap} {r : Nat} {fl : Int} {M : TM} {A : List Rec} (hB : TB h r fl M A) {k : List UInt8} {c pre post : List Lk} {l : Lk} (hs : Site M k c pre l post) (l' : Lk) (e1 : l'.row = l.row) (e2 : l'.key = k)
    (hn : h.next ≤ H.next) (hget : H.get l.row = some (.cells (l'.cs post) 1)) (hold : ∀ z, z < h.next → ¬ z = l.row → H.get z = h.get z) (hav : AVo H l'.V l'.vers) :
    TB H r fl (M.put (ix k M.n) (pre ++ l' :: post)) (setR l'.rc A) ∧ FrT h H r M (M.put (ix k M.n) (pre ++ l' :: post)) := by
  have hA := hB.ta
  have hrow := hA.row
  have hsrow := hA.srow
  have hcm := List.mem_of_getElem? hs.at_
  obtain ⟨nd1, nd2, nd3⟩ := hA.chain_nd hs.at_
  have hlm : l ∈ c := by rw [hs.split]; simp
  obtain ⟨nl1, nl2, nl3, nl4⟩ := nd3 l hlm
  have nl1' : ¬ r = l.row := fun e => nl1 e.symm
  have hlg : h.get l.row = some (.cells [encS l.key, U64 l.rts, .bool l.here, l.vers, headV post] 1) := chn_full (by rw [← hs.split]; exact hA.chn c hcm)
  obtain ⟨B, b1, b2, b3, b4⟩ := hB.rest hs
  have hperm : ((M.put (ix k M.n) (pre ++ l' :: post)).all.map Lk.rc).Perm (setR l'.rc A) :=
    (b3 l').trans (setR_perm (x := l'.rc) hB.nodup b1 (by show l.key = l'.key; rw [e2, hs.key]) (by show ∀ z ∈ B, ¬ z.key = l'.key; rw [e2]; exact b2))
  have hlp : (M.put (ix k M.n) (pre ++ l' :: post)).all.length = M.all.length := by
    have := len_put (M := M) (c' := pre ++ l' :: post) hs.at_
    rw [hs.split] at this; simp at this; omega
  have hne : ∀ y ∈ pre ++ post, ¬ y.row = l.row := nd_mid (by rw [← hs.split]; exact nd1)
  have hsub : ∀ y ∈ pre ++ post, y ∈ c := fun y hy => by rw [hs.split]; simp at hy ⊢; rcases hy with h9 | h9 <;> simp [h9]
  have hmem : ∀ y ∈ pre ++ l' :: post, y ∈ pre ++ post ∨ y = l' := fun y hy => by
    simp only [List.mem_append, List.mem_cons] at hy ⊢
    rcases hy with h9 | h9 | h9
    · exact .inl (.inl h9)
    · exact .inr h9
    · exact .inl (.inr h9)
  refine ⟨⟨TA.put hA hs.at_ hn ?_ ?_ ?_ ?_ ?_ ?_ ?_ ?_ ?_, hperm⟩, ⟨hn, ?_, ?_⟩⟩
  · rw [hlp, hold r hA.lt nl1']; exact hrow
  · rw [hold M.s hA.slt (fun e => nl2 e.symm), hsrow, set_eq_self]
    rw [List.getElem?_map, hs.at_, hs.split]
    exact congrArg some (head_app pre l _ post post e1.symm)
  · exact chn_upd (l := l) (l' := l') e1 (pre := pre) (by rw [← hs.split]; exact hA.chn c hcm) hn (fun y hy => hold _ (nd3 y (hsub y hy)).2.2.1 (hne y hy)) hget
  · exact fun z hz hzr hzs hzc => hold z hz fun e => hzc l hlm e
  · intro y hy
    rcases hmem y hy with h9 | h9
    · exact .inl ⟨y, hsub y h9, rfl⟩
    · exact .inl ⟨l, hlm, by rw [h9, e1]⟩
  · rw [hs.split] at nd1
    simp only [List.map_append, List.map_cons, e1] at nd1 ⊢; exact nd1
  · rw [hs.split] at nd2
    have := hs.key
    simp only [List.map_append, List.map_cons, e2] at nd2 ⊢
    rw [this] at nd2; exact nd2
  · intro y hy
    rcases hmem y hy with h9 | h9
    · exact hA.hash _ c hs.at_ y (hsub y h9)
    · rw [h9, e2]
  · intro y hy
    rcases hmem y hy with h9 | h9
    · exact avo_mono (hA.av y (chn_sub hA hcm y (hsub y h9))) hn fun z w hz h8 => hold z hz fun e => by (rw [e, hlg] at h8; simp at h8)
    · rw [h9]; exact hav
  · exact fun z hz hzr hzm => hold z hz fun e => hzm (by rw [e]; exact nl4)
  · intro z hz
    rcases rows_put hs.at_ hz with h9 | h9
    · exact .inl h9
    · obtain ⟨y, hy, rfl⟩ := List.mem_map.1 h9
      rcases hmem y hy with h8 | h8
      · exact .inl (nd3 y (hsub y h8)).2.2.2
      · rw [h8, e1]; exact .inl nl4
def touchR (k : List UInt8) (ts fl : Int) (A : List Rec) : List Rec := match getR k A with
  | some x => setR { x with rts := mx x.rts ts } A
  | none => if okKey k then setR ⟨k, mx fl ts, false, []⟩ A else A
theorem ris_nil : Ris [] := fun i x y h => by simp at h
theorem touch_c (h : AHeap) (r : Nat) (fl : Int) (M : TM) (A : List Rec) (hB : TB h r fl M A) (k : List UInt8) (hk9 : k.length < 9223372036854775808) (ts : Int) (hsz : A.length ≤ 1000000) :
    ∃ H M', FWp Tryz.prog 18 [P0 r, encS k, U64 ts] h (fun u h' => u = .tuple #[] ∧ h' = H) ∧ TB H r fl M' (touchR k ts fl A) ∧ FrT h H r M M' := by
  have tb18 := And.intro ty107 (And.intro ty22 (And.intro ty27 (And.intro ty36 (And.intro ty75 (And.intro ty77 (ty79))))))
  have hA := hB.ta
  have hrow := hA.row
  cases hg : getR k A with
  | none =>
    have hno := site_none hB hg
    by_cases hk : okKey k
    · have e : touchR k ts fl A = setR ⟨k, mx fl ts, false, []⟩ A := by rw [touchR, hg]; simp only [if_pos hk]
      rw [e]
      obtain ⟨H, M', h1, h2, h3⟩ := set_c h r fl M A hB k (mx fl ts) false [] (.slice none 0 0) .nil (by simp) hk ris_nil hsz
      refine ⟨H, M', ?_, h2, h3⟩
      refine W.enter tyOK Tryz.func18 rfl rfl ?_
      simp only [entry]
      refine W.seq <| W.seq <| W.reg <| OSuf.aop tyOK rfl sm rfl <| OSuf.aopF tyOK rfl (zb (hv := bi_nil ⟨_, _, ty22, rfl⟩)) (fun _ => rfl) rfl <| OSuf.nil <| SQ.normal ?_
      refine W.no (by simp only [lk] <;> rfl) <| CWp.skip <| SQ.normal ?_
      refine W.seq <| W.seq <| W.reg <| OSuf.aop tyOK rfl sm rfl <| OSuf.aop tyOK rfl sm rfl <| OSuf.callD rfl (by simp only [aopnds, lk] <;> rfl) en30 (find_none h r fl M hA k hk9 hno) rfl <| OSuf.aop tyOK rfl za rfl <| OSuf.nil <| SQ.normal ?_
      refine W.seq <| W.reg <| OSuf.aop tyOK rfl sm rfl <| OSuf.aopF tyOK rfl (zb (hv := bi_nnil0 tyOK ⟨_, _, ty75, rfl⟩)) (fun _ => rfl) rfl <| OSuf.nil <| SQ.normal ?_
      refine W.no (by simp only [lk] <;> rfl) <| CWp.skip <| SQ.normal ?_
      refine W.reg <| OSuf.aop tyOK rfl sm rfl <| OSuf.aop tyOK rfl sm rfl <| OSuf.aop tyOK rfl sm rfl <| OSuf.aop tyOK rfl (so_nilCheck (by simp only [lk] <;> rfl)) rfl <| OSuf.aop tyOK rfl (zf (hv := fa_ok (k := 1) ty107 rfl rfl ty27 rfl rfl)) rfl <| OSuf.aop tyOK rfl (zl (hv := by simp (disch := first | assumption | omega | (simp only [nx] <;> omega) | fail) only [aLoad, ty27, rowOf, hpl, Value.cells, hrow] <;> rfl)) rfl <| OSuf.aop tyOK rfl sm rfl <| OSuf.aop tyOK rfl (so_max (by simp only [aopnds, lk] <;> rfl)) rfl <| OSuf.aop tyOK rfl (so_build (by simp only [aparts, lk] <;> rfl) (by simp only [aBuild, ty36, Value.cells, places, tb18, hrow] <;> rfl)) rfl <| OSuf.callD rfl (by simp only [aopnds, lk] <;> rfl) en11 (h1) rfl <| OSuf.nil <| FQ.normal (by simp only [aRet, Tryz.f18, aResults, aResult, lk, Nat.reduceEqDiff, reduceIte] <;> rfl) ?_
      -- leaf: end
      exact ⟨rfl, rfl⟩
    · have e : touchR k ts fl A = A := by rw [touchR, hg]; simp only [if_neg hk]
      rw [e]
      have h1 := set_arg h r k (mx fl ts) false [] (.slice none 0 0) .nil (by simp) (fun h9 => hk h9.1)
      refine ⟨h, M, ?_, hB, FrT.refl _ _ _⟩
      refine W.enter tyOK Tryz.func18 rfl rfl ?_
      simp only [entry]
      refine W.seq <| W.seq <| W.reg <| OSuf.aop tyOK rfl sm rfl <| OSuf.aopF tyOK rfl (zb (hv := bi_nil ⟨_, _, ty22, rfl⟩)) (fun _ => rfl) rfl <| OSuf.nil <| SQ.normal ?_
      refine W.no (by simp only [lk] <;> rfl) <| CWp.skip <| SQ.normal ?_
      refine W.seq <| W.seq <| W.reg <| OSuf.aop tyOK rfl sm rfl <| OSuf.aop tyOK rfl sm rfl <| OSuf.callD rfl (by simp only [aopnds, lk] <;> rfl) en30 (find_none h r fl M hA k hk9 hno) rfl <| OSuf.aop tyOK rfl za rfl <| OSuf.nil <| SQ.normal ?_
      refine W.seq <| W.reg <| OSuf.aop tyOK rfl sm rfl <| OSuf.aopF tyOK rfl (zb (hv := bi_nnil0 tyOK ⟨_, _, ty75, rfl⟩)) (fun _ => rfl) rfl <| OSuf.nil <| SQ.normal ?_
      refine W.no (by simp only [lk] <;> rfl) <| CWp.skip <| SQ.normal ?_
      refine W.reg <| OSuf.aop tyOK rfl sm rfl <| OSuf.aop tyOK rfl sm rfl <| OSuf.aop tyOK rfl sm rfl <| OSuf.aop tyOK rfl (so_nilCheck (by simp only [lk] <;> rfl)) rfl <| OSuf.aop tyOK rfl (zf (hv := fa_ok (k := 1) ty107 rfl rfl ty27 rfl rfl)) rfl <| OSuf.aop tyOK rfl (zl (hv := by simp (disch := first | assumption | omega | (simp only [nx] <;> omega) | fail) only [aLoad, ty27, rowOf, hpl, Value.cells, hrow] <;> rfl)) rfl <| OSuf.aop tyOK rfl sm rfl <| OSuf.aop tyOK rfl (so_max (by simp only [aopnds, lk] <;> rfl)) rfl <| OSuf.aop tyOK rfl (so_build (by simp only [aparts, lk] <;> rfl) (by simp only [aBuild, ty36, Value.cells, places, tb18, hrow] <;> rfl)) rfl <| OSuf.callD rfl (by simp only [aopnds, lk] <;> rfl) en11 (h1) rfl <| OSuf.nil <| FQ.normal (by simp only [aRet, Tryz.f18, aResults, aResult, lk, Nat.reduceEqDiff, reduceIte] <;> rfl) ?_
      -- leaf: end
      exact ⟨rfl, rfl⟩
  | some x =>
    obtain ⟨c, pre, l, post, hs, hlx⟩ := site_some hB hg
    have hcm := List.mem_of_getElem? hs.at_
    have hlm : l ∈ c := by rw [hs.split]; simp
    have hlg : h.get l.row = some (.cells [encS l.key, U64 l.rts, .bool l.here, l.vers, headV post] 1) := chn_full (by rw [← hs.split]; exact hA.chn c hcm)
    have hf := find_some h r fl M hB.ta k hk9 c pre post l hs.at_ hs.split hs.pre hs.key
    have at0 : At h (PA M.s (ix k M.n)) (headV c) := ⟨_, _, _, rfl, hA.slt, hA.srow, by simp [hs.at_]⟩
    obtain ⟨q, o, vs, q1, q2, q3, q4⟩ := at_plc (pre := pre) (post := l :: post) (by rw [← hs.split]; exact at0) (by rw [← hs.split]; exact hA.chn c hcm)
    have q4' : vs[o]? = some (P0 l.row) := q4
    rw [q1] at hf
    have e : touchR k ts fl A = setR (Lk.rc ⟨l.row, k, mx l.rts ts, l.here, l.vers, l.V⟩) A := by
      rw [touchR, hg]
      simp only [← hlx, Lk.rc, hs.key]
    have hget : (h.set l.row (.cells [encS l.key, U64 (mx l.rts ts), .bool l.here, l.vers, headV post] 1)).get l.row = some (.cells (Lk.cs ⟨l.row, k, mx l.rts ts, l.here, l.vers, l.V⟩ post) 1) := by
      rw [AHeap.get_set_same, hs.key]; rfl
    obtain ⟨g1, g2⟩ := hB.upd (H := h.set l.row (.cells [encS l.key, U64 (mx l.rts ts), .bool l.here, l.vers, headV post] 1)) hs ⟨l.row, k, mx l.rts ts, l.here, l.vers, l.V⟩ rfl rfl (by simp) hget (fun z hz hzl => AHeap.get_set_ne fun e => hzl e.symm) (avo_mono (hA.av l (chn_sub hA hcm l hlm)) (by simp) fun z w hz h8 => AHeap.get_set_ne fun e => by (rw [← e, hlg] at h8; simp at h8))
    rw [e]
    refine ⟨_, _, ?_, g1, g2⟩
    refine W.enter tyOK Tryz.func18 rfl rfl ?_
    simp only [entry]
    refine W.seq <| W.seq <| W.reg <| OSuf.aop tyOK rfl sm rfl <| OSuf.aopF tyOK rfl (zb (hv := bi_nil ⟨_, _, ty22, rfl⟩)) (fun _ => rfl) rfl <| OSuf.nil <| SQ.normal ?_
    refine W.no (by simp only [lk] <;> rfl) <| CWp.skip <| SQ.normal ?_
    refine W.seq <| W.seq <| W.reg <| OSuf.aop tyOK rfl sm rfl <| OSuf.aop tyOK rfl sm rfl <| OSuf.callD rfl (by simp only [aopnds, lk] <;> rfl) en30 (hf) rfl <| OSuf.aop tyOK rfl za rfl <| OSuf.nil <| SQ.normal ?_
    refine W.seq <| W.reg <| OSuf.aop tyOK rfl sm rfl <| OSuf.aopT tyOK rfl (zb (hv := bi_nnil ⟨_, _, ty75, rfl⟩)) (fun _ => rfl) rfl <| OSuf.nil <| SQ.normal ?_
    refine W.yes (by simp only [lk] <;> rfl) <| W.seq <| W.regD tyOK mixed (by kernel_rfl) <| SqW.aop rfl sm rfl <| SqW.aop rfl (so_nilCheck (by simp only [lk] <;> rfl)) rfl <| SqW.aop rfl (zl (hv := by simp (disch := first | assumption | omega | (simp only [nx] <;> omega) | fail) only [aLoad, ty77, rowOf, hpl, Value.cells, hrow, q3, q4', hlg] <;> rfl)) rfl <| SqW.aop rfl sm rfl <| SqW.aop rfl (so_nilCheck (by simp only [lk] <;> rfl)) rfl <| SqW.aop rfl (zl (hv := by simp (disch := first | assumption | omega | (simp only [nx] <;> omega) | fail) only [aLoad, ty77, rowOf, hpl, Value.cells, hrow, q3, q4', hlg] <;> rfl)) rfl <| SqW.aop rfl (so_nilCheck (by simp only [lk] <;> rfl)) rfl <| SqW.aop rfl (zf (hv := fa_ok (k := 0) ty79 rfl rfl ty36 rfl rfl)) rfl <| SqW.aop rfl (zf (hv := fa_ok (k := 1) ty36 rfl rfl ty27 rfl rfl)) rfl <| SqW.aop rfl (zl (hv := by simp (disch := first | assumption | omega | (simp only [nx] <;> omega) | fail) only [aLoad, ty27, rowOf, hpl, Value.cells, hrow, q3, q4', hlg] <;> rfl)) rfl <| SqW.aop rfl sm rfl <| SqW.aop rfl (so_max (by simp only [aopnds, lk] <;> rfl)) rfl <| SqW.aop rfl (so_nilCheck (by simp only [lk] <;> rfl)) rfl <| SqW.aop rfl (zf (hv := fa_ok (k := 0) ty79 rfl rfl ty36 rfl rfl)) rfl <| SqW.aop rfl (zf (hv := fa_ok (k := 1) ty36 rfl rfl ty27 rfl rfl)) rfl <| SqW.aop rfl (zs (hv := by simp (disch := first | assumption | omega | (simp only [nx] <;> omega) | fail) only [aStore, ty27, writeRow, hpl, Value.cells, hrow, q3, q4', hlg] <;> rfl)) rfl <| SqW.nil <| SQ.normal ?_
    refine CWp.ret <| SQ.ret <| FQ.ret (by simp only [aRet, Tryz.f18, aResults, aResult, lk, Nat.reduceEqDiff, reduceIte] <;> rfl) ?_
    -- leaf: end
    exact ⟨rfl, rfl⟩
theorem getR_key {k : List UInt8} {A : List Rec} {x : Rec} (h : getR k A = some x) : x ∈ A ∧ x.key = k :=
  ⟨List.mem_of_find?_eq_some h, by have := List.find?_some h; simpa using this⟩
theorem getR_map {x : Rec} {k : List UInt8} : ∀ {A : List Rec}, getR k (A.map fun y => if y.key = x.key then x else y) = if k = x.key then (getR k A).map (fun _ => x) else getR k A
  | [] => by simp [getR]
  | y :: A => by
    have ih := getR_map (x := x) (k := k) (A := A)
    simp only [getR] at ih ⊢
    rw [List.map_cons]
    by_cases h1 : y.key = x.key
    · rw [if_pos h1]
      by_cases h2 : k = x.key
      · rw [if_pos h2, List.find?_cons_of_pos (by simp [h2]), List.find?_cons_of_pos (by simp [h1, h2])]; rfl
      · rw [if_neg h2, List.find?_cons_of_neg (by simp; exact fun e => h2 e.symm), List.find?_cons_of_neg (by simp; exact fun e => h2 (by rw [← e, h1])), ih, if_neg h2]
    · rw [if_neg h1]
      by_cases h3 : y.key = k
      · have h2 : ¬ k = x.key := fun e => h1 (by rw [h3, e])
        rw [if_neg h2, List.find?_cons_of_pos (by simp [h3]), List.find?_cons_of_pos (by simp [h3])]
      · rw [List.find?_cons_of_neg (by simp [h3]), List.find?_cons_of_neg (by simp [h3]), ih]
theorem getR_setR (x : Rec) (A : List Rec) (k : List UInt8) : getR k (setR x A) = if k = x.key then some x else getR k A := by
  cases hg : getR x.key A with
  | some y =>
    rw [setR, hg]; simp only
    rw [getR_map]
    by_cases h2 : k = x.key
    · rw [if_pos h2, if_pos h2, h2, hg]; rfl
    · rw [if_neg h2, if_neg h2]
  | none =>
    rw [setR, hg]; simp only
    by_cases h2 : k = x.key
    · rw [if_pos h2, getR, List.find?_cons_of_pos (by simp [h2])]
    · rw [if_neg h2, getR, List.find?_cons_of_neg (by simp; exact fun e => h2 e.symm)]; rfl
theorem setR_mem {x y : Rec} {A : List Rec} (h : y ∈ setR x A) : y = x ∨ y ∈ A := by
  cases hg : getR x.key A with
  | some z =>
    rw [setR, hg] at h; simp only at h
    obtain ⟨w, hw, e⟩ := List.mem_map.1 h
    split at e
    · exact .inl e.symm
    · exact .inr (by rw [← e]; exact hw)
  | none =>
    rw [setR, hg] at h; simp only at h
    rcases List.mem_cons.1 h with h9 | h9
    · exact .inl h9
    · exact .inr h9
def rtsR (k : List UInt8) (fl : Int) (A : List Rec) : Int := match getR k A with
  | some x => x.rts
  | none => fl
end Go.Proofs.YtjenbiohcecfnaaGreat
