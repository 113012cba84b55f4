/-
  Contracts of the package table: Evict, Set, Touch.
-/
import Derived.Test.YtldhcjfhlfgleaaTableE
namespace Go.Proofs.Ytldhcjfhlfgleaa
open Go.Ab
set_option linter.unusedSimpArgs false
set_option linter.unusedVariables false
set_option maxRecDepth 10000
set_option maxHeartbeats 4000000

/-- The greater one, as the model has it. -/
def mx (a b : Int) : Int := if b > a then b else a
theorem mx_max (a b : Int) : mx a b = max a b := by simp only [mx]; split <;> omega
def evFl (fl : Int) (k : List UInt8) (A : List Rec) : Int := match getR k A with
  | some x => mx fl x.rts
  | none => fl
def evCode (k : List UInt8) (A : List Rec) : Int := match getR k A with
  | some _ => 0
  | none => 5
theorem site_none {h : AHeap} {r : Nat} {fl : Int} {M : TM} {A : List Rec} (hB : TB h r fl M A) {k : List UInt8} (hg : getR k A = none) : ∀ l ∈ M.all, ¬ l.key = k := by
  rcases site hB.ta k with h1 | ⟨c, pre, l, post, hs⟩
  · exact h1
  · rw [getR_some hB hs] at hg; cases hg
theorem site_some {h : AHeap} {r : Nat} {fl : Int} {M : TM} {A : List Rec} (hB : TB h r fl M A) {k : List UInt8} {x : Rec} (hg : getR k A = some x) : ∃ c pre l post, Site M k c pre l post ∧ l.rc = x := by
  rcases site hB.ta k with h1 | ⟨c, pre, l, post, hs⟩
  · rw [getR_none hB h1] at hg; cases hg
  · exact ⟨c, pre, l, post, hs, by rw [getR_some hB hs] at hg; cases hg; rfl⟩
/-- The place of a link. -/
theorem place_of {h : AHeap} {r : Nat} {fl : Int} {M : TM} (hA : TA h r fl M) {k : List UInt8} {c pre post : List Lk} {l : Lk} (hs : Site M k c pre l post) :
    (pre = [] ∧ plc (PA M.s (ix k M.n)) pre = PA M.s (ix k M.n) ∧ (M.ch.map headV)[ix k M.n]? = some (P0 l.row)) ∨
    ∃ pre' x, pre = pre' ++ [x] ∧ plc (PA M.s (ix k M.n)) pre = PA x.row 4 ∧ h.get x.row = some (.cells [encS x.key, U64 x.rts, .bool x.here, x.vers, P0 l.row] 1) := by
  rcases List.eq_nil_or_concat pre with rfl | ⟨pre', x, rfl⟩
  · refine .inl ⟨rfl, rfl, ?_⟩
    rw [List.getElem?_map, hs.at_, hs.split]; rfl
  · refine .inr ⟨pre', x, by simp, by rw [List.concat_eq_append, plc_snoc], ?_⟩
    have := hA.chn c (List.mem_of_getElem? hs.at_)
    rw [hs.split, List.concat_eq_append, List.append_assoc] at this
    exact chn_full this
theorem set_eq_self {α : Type} {l : List α} {i : Nat} {x : α} (h : l[i]? = some x) : l.set i x = l := by
  obtain ⟨A, B, e1, e2, e3⟩ := ch_split h
  rw [e3, ← e1]
theorem evict_none (h : AHeap) (r : Nat) (fl : Int) (M : TM) (A : List Rec) (hB : TB h r fl M A) (k : List UInt8) (hk : k.length < 9223372036854775807) (hg : getR k A = none) :
    FWp Try.prog 12 [P0 r, encS k] h fun u h' => u = I64 5 ∧ h' = h := by
  refine W.enter tyOK Try.func12 rfl rfl ?_
  simp only [entry]
  refine W.seq <| W.reg <| OSuf.aop tyOK rfl (so_assign (by simp only [lk] <;> rfl)) rfl <| OSuf.nil <| SQ.normal ?_
  refine W.seq <| W.seq <| W.reg <| OSuf.aop tyOK rfl sm rfl <| OSuf.aopF tyOK rfl (so_bin (by simp only [lk] <;> rfl) (by simp only [lk] <;> rfl) (bi_nil ⟨_, _, ty23, rfl⟩)) (fun _ => rfl) rfl <| OSuf.nil <| SQ.normal ?_
  refine W.no (by simp only [lk] <;> rfl) <| CWp.skip <| SQ.normal ?_
  refine W.seq <| W.reg <| OSuf.aop tyOK rfl sm rfl <| OSuf.aop tyOK rfl sm rfl <| OSuf.callD rfl (by simp only [aopnds, lk] <;> rfl) en24 (find_none _ r fl M hB.ta k hk (site_none hB hg)) rfl <| OSuf.aop tyOK rfl (so_assign (by simp only [lk] <;> rfl)) rfl <| OSuf.nil <| SQ.normal ?_
  refine W.seq <| W.seq <| W.reg <| OSuf.aop tyOK rfl sm rfl <| OSuf.aopT tyOK rfl (so_bin (by simp only [lk] <;> rfl) (by simp only [lk] <;> rfl) (bi_nil0 tyOK ⟨_, _, ty68, rfl⟩)) (fun _ => rfl) rfl <| OSuf.nil <| SQ.normal ?_
  refine W.yes (by simp only [lk] <;> rfl) <| W.seq <| W.reg <| OSuf.aop tyOK rfl (so_assign (by simp only [lk] <;> rfl)) rfl <| OSuf.nil <| SQ.normal ?_
  refine CWp.ret <| SQ.ret <| FQ.ret (by simp only [aRet, Try.f12, aResults, aResult, lk, Nat.reduceEqDiff, reduceIte] <;> rfl) ?_
  -- leaf: end
  exact ⟨rfl, rfl⟩
theorem evict_some (h : AHeap) (r : Nat) (fl : Int) (M : TM) (A : List Rec) (hB : TB h r fl M A) (k : List UInt8) (hk : k.length < 9223372036854775807) (x : Rec) (hg : getR k A = some x) (hsz : A.length ≤ 1000000) :
    ∃ H M', FWp Try.prog 12 [P0 r, encS k] h (fun u h' => u = I64 0 ∧ h' = H) ∧ TB H r (mx fl x.rts) M' (delR k A) ∧ FrT h H r M M' := by
  obtain ⟨c, pre, l, post, hs, hlx⟩ := site_some hB hg
  have hA := hB.ta
  have hcm := List.mem_of_getElem? hs.at_
  obtain ⟨nd1, nd2, nd3⟩ := hA.chain_nd hs.at_
  have hlm : l ∈ c := by rw [hs.split]; simp
  obtain ⟨nl1, nl2, nl3, nl4⟩ := nd3 l hlm
  have nl1' : ¬ r = l.row := fun e => nl1 e.symm
  have hrow := hA.row
  have hsrow := hA.srow
  have hrs := hA.rs
  have hrs' : ¬ M.s = r := fun e => hrs e.symm
  have hlt := hA.lt
  have hslt := hA.slt
  have hlen : M.all.length = A.length := by rw [← List.length_map (f := Lk.rc)]; exact hB.perm.length_eq
  have hlg : h.get l.row = some (.cells [encS l.key, U64 l.rts, .bool l.here, l.vers, headV post] 1) := chn_full (by rw [← hs.split]; exact hA.chn c hcm)
  have hf := find_some h r fl M hA k hk c pre post l hs.at_ hs.split hs.pre hs.key
  have hlp : (M.put (ix k M.n) (pre ++ post)).all.length + 1 = M.all.length := by
    have := len_put (M := M) (c' := pre ++ post) hs.at_
    rw [hs.split] at this; simp at this; omega
  have w1 : IntKind.i64.wrap ((M.all.length : Int) - 1) = (((M.put (ix k M.n) (pre ++ post)).all.length : Nat) : Int) := by rw [wrap_i64 (by omega) (by omega)]; omega
  obtain ⟨B, b1, b2, b3, b4⟩ := hB.rest hs
  have hperm : ((M.put (ix k M.n) (pre ++ post)).all.map Lk.rc).Perm (delR k A) := b4.trans (delR_perm b1 hs.key b2)
  have hmx : mx fl x.rts = if l.rts > fl then l.rts else fl := by rw [← hlx]; rfl
  rw [hmx]
  obtain ⟨b, hhv⟩ : ∃ b, headV post = .pointer b := by cases post <;> exact ⟨_, rfl⟩
  rw [hhv] at hlg
  have hnr : ((pre ++ post).map Lk.row).Nodup := by
    rw [hs.split] at nd1
    refine List.Nodup.sublist (List.Sublist.map _ ?_) nd1
    exact List.Sublist.append (List.Sublist.refl _) (List.sublist_cons_self _ _)
  have hnk : ((pre ++ post).map Lk.key).Nodup := by
    rw [hs.split] at nd2
    refine List.Nodup.sublist (List.Sublist.map _ ?_) nd2
    exact List.Sublist.append (List.Sublist.refl _) (List.sublist_cons_self _ _)
  have hsub : ∀ y ∈ pre ++ post, y ∈ c := fun y hy => by rw [hs.split]; simp at hy ⊢; rcases hy with h9 | h9 <;> simp [h9]
  have hne : ∀ y ∈ pre ++ post, ¬ y.row = l.row := nd_mid (by rw [← hs.split]; exact nd1)
  have hixn := ix_lt k hA.pos
  have hal := hA.len
  rcases place_of hA hs with ⟨rfl, hp1, hp2⟩ | ⟨pre', y, hpe, hp1, hp2⟩
  · rw [hp1] at hf
    have hbl : Nat.ble (ix k M.n + 1) (M.ch.map headV).length = true := Nat.ble_eq_true_of_le (by simp; omega)
    refine ⟨((h.set r (.cells [.slice (some ⟨M.s, 0, none⟩) M.n (M.n + 1), U64 (if l.rts > fl then l.rts else fl), I64 M.all.length] 1)).set M.s (.cells (splice (M.ch.map headV) (ix k M.n) [.pointer b]) 1)).set r (.cells [.slice (some ⟨M.s, 0, none⟩) M.n (M.n + 1), U64 (if l.rts > fl then l.rts else fl), I64 (M.put (ix k M.n) ([] ++ post)).all.length] 1), M.put (ix k M.n) ([] ++ post), ?_, ⟨TA.put hA hs.at_ (by simp) ?_ ?_ ?_ ?_ ?_ hnr hnk ?_ ?_, hperm⟩, ⟨by simp, ?_, ?_⟩⟩
    · refine W.enter tyOK Try.func12 rfl rfl ?_
      simp only [entry]
      refine W.seq <| W.reg <| OSuf.aop tyOK rfl (so_assign (by simp only [lk] <;> rfl)) rfl <| OSuf.nil <| SQ.normal ?_
      refine W.seq <| W.seq <| W.reg <| OSuf.aop tyOK rfl sm rfl <| OSuf.aopF tyOK rfl (so_bin (by simp only [lk] <;> rfl) (by simp only [lk] <;> rfl) (bi_nil ⟨_, _, ty23, rfl⟩)) (fun _ => rfl) rfl <| OSuf.nil <| SQ.normal ?_
      refine W.no (by simp only [lk] <;> rfl) <| CWp.skip <| SQ.normal ?_
      refine W.seq <| W.reg <| OSuf.aop tyOK rfl sm rfl <| OSuf.aop tyOK rfl sm rfl <| OSuf.callD rfl (by simp only [aopnds, lk] <;> rfl) en24 (hf) rfl <| OSuf.aop tyOK rfl (so_assign (by simp only [lk] <;> rfl)) rfl <| OSuf.nil <| SQ.normal ?_
      refine W.seq <| W.seq <| W.reg <| OSuf.aop tyOK rfl sm rfl <| OSuf.aopF tyOK rfl (so_bin (by simp only [lk] <;> rfl) (by simp only [lk] <;> rfl) (bi_nil ⟨_, _, ty68, rfl⟩)) (fun _ => rfl) rfl <| OSuf.nil <| SQ.normal ?_
      refine W.no (by simp only [lk] <;> rfl) <| CWp.skip <| SQ.normal ?_
      refine W.seq <| W.regD tyOK mixed (by kernel_rfl) <| SqW.aop rfl sm rfl <| SqW.aop rfl sm rfl <| SqW.aop rfl (so_nilCheck (by simp only [lk] <;> rfl)) rfl <| SqW.aop rfl (so_fieldAddr (by simp only [lk] <;> rfl) (fa_ok (k := 1) ty67 rfl rfl ty27 rfl rfl)) rfl <| SqW.aop rfl (so_load (by simp only [lk] <;> rfl) (by simp (disch := first | assumption | omega | (simp only [nx] <;> omega) | fail) only [aLoad, ty27, rowOf, hpl, Value.cells, places, ty23, ty27, ty3, ty39, ty67, ty68, ty70, ty72, hrow, hsrow, hlg, hp2, hbl, List.length_cons, List.length_nil, sb] <;> rfl)) rfl <| SqW.aop rfl sm rfl <| SqW.aop rfl (so_nilCheck (by simp only [lk] <;> rfl)) rfl <| SqW.aop rfl (so_load (by simp only [lk] <;> rfl) (by simp (disch := first | assumption | omega | (simp only [nx] <;> omega) | fail) only [aLoad, ty70, rowOf, hpl, Value.cells, places, ty23, ty27, ty3, ty39, ty67, ty68, ty70, ty72, hrow, hsrow, hlg, hp2, hbl, List.length_cons, List.length_nil, sb] <;> rfl)) rfl <| SqW.aop rfl (so_nilCheck (by simp only [lk] <;> rfl)) rfl <| SqW.aop rfl (so_fieldAddr (by simp only [lk] <;> rfl) (fa_ok (k := 0) ty72 rfl rfl ty39 rfl rfl)) rfl <| SqW.aop rfl (so_fieldAddr (by simp only [lk] <;> rfl) (fa_ok (k := 1) ty39 rfl rfl ty27 rfl rfl)) rfl <| SqW.aop rfl (so_load (by simp only [lk] <;> rfl) (by simp (disch := first | assumption | omega | (simp only [nx] <;> omega) | fail) only [aLoad, ty27, rowOf, hpl, Value.cells, places, ty23, ty27, ty3, ty39, ty67, ty68, ty70, ty72, hrow, hsrow, hlg, hp2, hbl, List.length_cons, List.length_nil, sb] <;> rfl)) rfl <| SqW.aop rfl (so_max (by simp only [aopnds, lk] <;> rfl)) rfl <| SqW.aop rfl (so_nilCheck (by simp only [lk] <;> rfl)) rfl <| SqW.aop rfl (so_fieldAddr (by simp only [lk] <;> rfl) (fa_ok (k := 1) ty67 rfl rfl ty27 rfl rfl)) rfl <| SqW.aop rfl (so_store (by simp only [lk] <;> rfl) (by simp only [lk] <;> rfl) (by simp (disch := first | assumption | omega | (simp only [nx] <;> omega) | fail) only [aStore, ty27, writeRow, hpl, Value.cells, places, ty23, ty27, ty3, ty39, ty67, ty68, ty70, ty72, hrow, hsrow, hlg, hp2, hbl, List.length_cons, List.length_nil, sb] <;> rfl)) rfl <| SqW.nil <| SQ.normal ?_
      refine W.seq <| W.reg <| OSuf.aop tyOK rfl sm rfl <| OSuf.aop tyOK rfl sm rfl <| OSuf.aop tyOK rfl (so_nilCheck (by simp only [lk] <;> rfl)) rfl <| OSuf.aop tyOK rfl (so_load (by simp only [lk] <;> rfl) (by simp (disch := first | assumption | omega | (simp only [nx] <;> omega) | fail) only [aLoad, ty70, rowOf, hpl, Value.cells, places, ty23, ty27, ty3, ty39, ty67, ty68, ty70, ty72, hrow, hsrow, hlg, hp2, hbl, List.length_cons, List.length_nil, sb] <;> rfl)) rfl <| OSuf.aop tyOK rfl (so_nilCheck (by simp only [lk] <;> rfl)) rfl <| OSuf.aop tyOK rfl (so_fieldAddr (by simp only [lk] <;> rfl) (fa_ok (k := 4) ty72 rfl rfl ty70 rfl rfl)) rfl <| OSuf.aop tyOK rfl (so_load (by simp only [lk] <;> rfl) (by simp (disch := first | assumption | omega | (simp only [nx] <;> omega) | fail) only [aLoad, ty70, rowOf, hpl, Value.cells, places, ty23, ty27, ty3, ty39, ty67, ty68, ty70, ty72, hrow, hsrow, hlg, hp2, hbl, List.length_cons, List.length_nil, sb] <;> rfl)) rfl <| OSuf.aop tyOK rfl (so_nilCheck (by simp only [lk] <;> rfl)) rfl <| OSuf.aop tyOK rfl (so_store (by simp only [lk] <;> rfl) (by simp only [lk] <;> rfl) (by simp (disch := first | assumption | omega | (simp only [nx] <;> omega) | fail) only [aStore, ty70, writeRow, hpl, Value.cells, places, ty23, ty27, ty3, ty39, ty67, ty68, ty70, ty72, hrow, hsrow, hlg, hp2, hbl, List.length_cons, List.length_nil, sb] <;> rfl)) rfl <| OSuf.nil <| SQ.normal ?_
      refine W.seq <| W.reg <| OSuf.aop tyOK rfl sm rfl <| OSuf.aop tyOK rfl (so_nilCheck (by simp only [lk] <;> rfl)) rfl <| OSuf.aop tyOK rfl (so_fieldAddr (by simp only [lk] <;> rfl) (fa_ok (k := 2) ty67 rfl rfl ty3 rfl rfl)) rfl <| OSuf.aop tyOK rfl (so_load (by simp only [lk] <;> rfl) (by simp (disch := first | assumption | omega | (simp only [nx] <;> omega) | fail) only [aLoad, ty3, rowOf, hpl, Value.cells, places, ty23, ty27, ty3, ty39, ty67, ty68, ty70, ty72, hrow, hsrow, hlg, hp2, hbl, List.length_cons, List.length_nil, sb] <;> rfl)) rfl <| OSuf.aop tyOK rfl (so_bin (by simp only [lk] <;> rfl) (by simp only [lk] <;> rfl) (bi_w bi_sub (by first | (simp only [w1] <;> rfl) | rfl))) rfl <| OSuf.aop tyOK rfl (so_nilCheck (by simp only [lk] <;> rfl)) rfl <| OSuf.aop tyOK rfl (so_fieldAddr (by simp only [lk] <;> rfl) (fa_ok (k := 2) ty67 rfl rfl ty3 rfl rfl)) rfl <| OSuf.aop tyOK rfl (so_store (by simp only [lk] <;> rfl) (by simp only [lk] <;> rfl) (by simp (disch := first | assumption | omega | (simp only [nx] <;> omega) | fail) only [aStore, ty3, writeRow, hpl, Value.cells, places, ty23, ty27, ty3, ty39, ty67, ty68, ty70, ty72, hrow, hsrow, hlg, hp2, hbl, List.length_cons, List.length_nil, sb] <;> rfl)) rfl <| OSuf.nil <| SQ.normal ?_
      refine W.seq <| W.reg <| OSuf.aop tyOK rfl (so_assign (by simp only [lk] <;> rfl)) rfl <| OSuf.nil <| SQ.normal ?_
      refine CWp.ret <| FQ.ret (by simp only [aRet, Try.f12, aResults, aResult, lk, Nat.reduceEqDiff, reduceIte] <;> rfl) ?_
      -- leaf: end
      exact ⟨rfl, rfl⟩
    · simp (disch := first | assumption | omega | (simp only [nx] <;> omega) | fail) only [hpl]
    · simp (disch := first | assumption | omega | (simp only [nx] <;> omega) | fail) only [hpl]
      rw [splice_one (by simp; omega)]
      show _ = some (AObj.cells ((M.ch.map headV).set (ix k M.n) (headV post)) 1)
      rw [hhv]
    · have h9 := hA.chn c hcm
      rw [hs.split] at h9
      refine h9.2.2.mono (by simp) fun y hy => ?_
      have hyc := nd3 y (hsub y hy)
      have z1 : ¬ r = y.row := fun e => hyc.1 e.symm
      have z2 : ¬ M.s = y.row := fun e => hyc.2.1 e.symm
      simp (disch := first | assumption | omega | (simp only [nx] <;> omega) | fail) only [hpl]
    · intro z hz hzr hzs _
      have z1 : ¬ r = z := fun e => hzr e.symm
      have z2 : ¬ M.s = z := fun e => hzs e.symm
      simp (disch := first | assumption | omega | (simp only [nx] <;> omega) | fail) only [hpl]
    · exact fun y hy => .inl ⟨y, hsub y hy, rfl⟩
    · exact fun y hy => hA.hash _ c hs.at_ y (hsub y hy)
    · intro y hy
      refine avo_mono (hA.av y (chn_sub hA hcm y (hsub y hy))) (by simp) fun z w hz hg => ?_
      have z1 : ¬ r = z := fun e => by (rw [← e, hrow] at hg; simp at hg)
      have z2 : ¬ M.s = z := fun e => by rw [← e, hsrow] at hg; cases hg
      simp (disch := first | assumption | omega | (simp only [nx] <;> omega) | fail) only [hpl]
    · intro z hz hzr hzm
      have z1 : ¬ r = z := fun e => hzr e.symm
      have z2 : ¬ M.s = z := fun e => hzm (by rw [← e]; exact List.mem_cons_self)
      simp (disch := first | assumption | omega | (simp only [nx] <;> omega) | fail) only [hpl]
    · intro z hz
      rcases rows_put hs.at_ hz with h9 | h9
      · exact .inl h9
      · obtain ⟨y, hy, rfl⟩ := List.mem_map.1 h9
        exact .inl (nd3 y (hsub y hy)).2.2.2
  · have hyc : y ∈ c := by rw [hs.split, hpe]; simp
    obtain ⟨ny1, ny2, ny3, ny4⟩ := nd3 y hyc
    have ny1' : ¬ r = y.row := fun e => ny1 e.symm
    have hyl : ¬ y.row = l.row := hne y (by rw [hpe]; simp)
    have hyl' : ¬ l.row = y.row := fun e => hyl e.symm
    rw [hp1] at hf
    refine ⟨((h.set r (.cells [.slice (some ⟨M.s, 0, none⟩) M.n (M.n + 1), U64 (if l.rts > fl then l.rts else fl), I64 M.all.length] 1)).set y.row (.cells [encS y.key, U64 y.rts, .bool y.here, y.vers, .pointer b] 1)).set r (.cells [.slice (some ⟨M.s, 0, none⟩) M.n (M.n + 1), U64 (if l.rts > fl then l.rts else fl), I64 (M.put (ix k M.n) (pre ++ post)).all.length] 1), M.put (ix k M.n) (pre ++ post), ?_, ⟨TA.put hA hs.at_ (by simp) ?_ ?_ ?_ ?_ ?_ hnr hnk ?_ ?_, hperm⟩, ⟨by simp, ?_, ?_⟩⟩
    · refine W.enter tyOK Try.func12 rfl rfl ?_
      simp only [entry]
      refine W.seq <| W.reg <| OSuf.aop tyOK rfl (so_assign (by simp only [lk] <;> rfl)) rfl <| OSuf.nil <| SQ.normal ?_
      refine W.seq <| W.seq <| W.reg <| OSuf.aop tyOK rfl sm rfl <| OSuf.aopF tyOK rfl (so_bin (by simp only [lk] <;> rfl) (by simp only [lk] <;> rfl) (bi_nil ⟨_, _, ty23, rfl⟩)) (fun _ => rfl) rfl <| OSuf.nil <| SQ.normal ?_
      refine W.no (by simp only [lk] <;> rfl) <| CWp.skip <| SQ.normal ?_
      refine W.seq <| W.reg <| OSuf.aop tyOK rfl sm rfl <| OSuf.aop tyOK rfl sm rfl <| OSuf.callD rfl (by simp only [aopnds, lk] <;> rfl) en24 (hf) rfl <| OSuf.aop tyOK rfl (so_assign (by simp only [lk] <;> rfl)) rfl <| OSuf.nil <| SQ.normal ?_
      refine W.seq <| W.seq <| W.reg <| OSuf.aop tyOK rfl sm rfl <| OSuf.aopF tyOK rfl (so_bin (by simp only [lk] <;> rfl) (by simp only [lk] <;> rfl) (bi_nil ⟨_, _, ty68, rfl⟩)) (fun _ => rfl) rfl <| OSuf.nil <| SQ.normal ?_
      refine W.no (by simp only [lk] <;> rfl) <| CWp.skip <| SQ.normal ?_
      refine W.seq <| W.regD tyOK mixed (by kernel_rfl) <| SqW.aop rfl sm rfl <| SqW.aop rfl sm rfl <| SqW.aop rfl (so_nilCheck (by simp only [lk] <;> rfl)) rfl <| SqW.aop rfl (so_fieldAddr (by simp only [lk] <;> rfl) (fa_ok (k := 1) ty67 rfl rfl ty27 rfl rfl)) rfl <| SqW.aop rfl (so_load (by simp only [lk] <;> rfl) (by simp (disch := first | assumption | omega | (simp only [nx] <;> omega) | fail) only [aLoad, ty27, rowOf, hpl, Value.cells, places, ty23, ty27, ty3, ty39, ty67, ty68, ty70, ty72, hrow, hsrow, hlg, hp2] <;> rfl)) rfl <| SqW.aop rfl sm rfl <| SqW.aop rfl (so_nilCheck (by simp only [lk] <;> rfl)) rfl <| SqW.aop rfl (so_load (by simp only [lk] <;> rfl) (by simp (disch := first | assumption | omega | (simp only [nx] <;> omega) | fail) only [aLoad, ty70, rowOf, hpl, Value.cells, places, ty23, ty27, ty3, ty39, ty67, ty68, ty70, ty72, hrow, hsrow, hlg, hp2] <;> rfl)) rfl <| SqW.aop rfl (so_nilCheck (by simp only [lk] <;> rfl)) rfl <| SqW.aop rfl (so_fieldAddr (by simp only [lk] <;> rfl) (fa_ok (k := 0) ty72 rfl rfl ty39 rfl rfl)) rfl <| SqW.aop rfl (so_fieldAddr (by simp only [lk] <;> rfl) (fa_ok (k := 1) ty39 rfl rfl ty27 rfl rfl)) rfl <| SqW.aop rfl (so_load (by simp only [lk] <;> rfl) (by simp (disch := first | assumption | omega | (simp only [nx] <;> omega) | fail) only [aLoad, ty27, rowOf, hpl, Value.cells, places, ty23, ty27, ty3, ty39, ty67, ty68, ty70, ty72, hrow, hsrow, hlg, hp2] <;> rfl)) rfl <| SqW.aop rfl (so_max (by simp only [aopnds, lk] <;> rfl)) rfl <| SqW.aop rfl (so_nilCheck (by simp only [lk] <;> rfl)) rfl <| SqW.aop rfl (so_fieldAddr (by simp only [lk] <;> rfl) (fa_ok (k := 1) ty67 rfl rfl ty27 rfl rfl)) rfl <| SqW.aop rfl (so_store (by simp only [lk] <;> rfl) (by simp only [lk] <;> rfl) (by simp (disch := first | assumption | omega | (simp only [nx] <;> omega) | fail) only [aStore, ty27, writeRow, hpl, Value.cells, places, ty23, ty27, ty3, ty39, ty67, ty68, ty70, ty72, hrow, hsrow, hlg, hp2] <;> rfl)) rfl <| SqW.nil <| SQ.normal ?_
      refine W.seq <| W.reg <| OSuf.aop tyOK rfl sm rfl <| OSuf.aop tyOK rfl sm rfl <| OSuf.aop tyOK rfl (so_nilCheck (by simp only [lk] <;> rfl)) rfl <| OSuf.aop tyOK rfl (so_load (by simp only [lk] <;> rfl) (by simp (disch := first | assumption | omega | (simp only [nx] <;> omega) | fail) only [aLoad, ty70, rowOf, hpl, Value.cells, places, ty23, ty27, ty3, ty39, ty67, ty68, ty70, ty72, hrow, hsrow, hlg, hp2] <;> rfl)) rfl <| OSuf.aop tyOK rfl (so_nilCheck (by simp only [lk] <;> rfl)) rfl <| OSuf.aop tyOK rfl (so_fieldAddr (by simp only [lk] <;> rfl) (fa_ok (k := 4) ty72 rfl rfl ty70 rfl rfl)) rfl <| OSuf.aop tyOK rfl (so_load (by simp only [lk] <;> rfl) (by simp (disch := first | assumption | omega | (simp only [nx] <;> omega) | fail) only [aLoad, ty70, rowOf, hpl, Value.cells, places, ty23, ty27, ty3, ty39, ty67, ty68, ty70, ty72, hrow, hsrow, hlg, hp2] <;> rfl)) rfl <| OSuf.aop tyOK rfl (so_nilCheck (by simp only [lk] <;> rfl)) rfl <| OSuf.aop tyOK rfl (so_store (by simp only [lk] <;> rfl) (by simp only [lk] <;> rfl) (by simp (disch := first | assumption | omega | (simp only [nx] <;> omega) | fail) only [aStore, ty70, writeRow, hpl, Value.cells, places, ty23, ty27, ty3, ty39, ty67, ty68, ty70, ty72, hrow, hsrow, hlg, hp2] <;> rfl)) rfl <| OSuf.nil <| SQ.normal ?_
      refine W.seq <| W.reg <| OSuf.aop tyOK rfl sm rfl <| OSuf.aop tyOK rfl (so_nilCheck (by simp only [lk] <;> rfl)) rfl <| OSuf.aop tyOK rfl (so_fieldAddr (by simp only [lk] <;> rfl) (fa_ok (k := 2) ty67 rfl rfl ty3 rfl rfl)) rfl <| OSuf.aop tyOK rfl (so_load (by simp only [lk] <;> rfl) (by simp (disch := first | assumption | omega | (simp only [nx] <;> omega) | fail) only [aLoad, ty3, rowOf, hpl, Value.cells, places, ty23, ty27, ty3, ty39, ty67, ty68, ty70, ty72, hrow, hsrow, hlg, hp2] <;> rfl)) rfl <| OSuf.aop tyOK rfl (so_bin (by simp only [lk] <;> rfl) (by simp only [lk] <;> rfl) (bi_w bi_sub (by first | (simp only [w1] <;> rfl) | rfl))) rfl <| OSuf.aop tyOK rfl (so_nilCheck (by simp only [lk] <;> rfl)) rfl <| OSuf.aop tyOK rfl (so_fieldAddr (by simp only [lk] <;> rfl) (fa_ok (k := 2) ty67 rfl rfl ty3 rfl rfl)) rfl <| OSuf.aop tyOK rfl (so_store (by simp only [lk] <;> rfl) (by simp only [lk] <;> rfl) (by simp (disch := first | assumption | omega | (simp only [nx] <;> omega) | fail) only [aStore, ty3, writeRow, hpl, Value.cells, places, ty23, ty27, ty3, ty39, ty67, ty68, ty70, ty72, hrow, hsrow, hlg, hp2] <;> rfl)) rfl <| OSuf.nil <| SQ.normal ?_
      refine W.seq <| W.reg <| OSuf.aop tyOK rfl (so_assign (by simp only [lk] <;> rfl)) rfl <| OSuf.nil <| SQ.normal ?_
      refine CWp.ret <| FQ.ret (by simp only [aRet, Try.f12, aResults, aResult, lk, Nat.reduceEqDiff, reduceIte] <;> rfl) ?_
      -- leaf: end
      exact ⟨rfl, rfl⟩
    · simp (disch := first | assumption | omega | (simp only [nx] <;> omega) | fail) only [hpl]
    · have z1 : ¬ y.row = M.s := ny2
      simp (disch := first | assumption | omega | (simp only [nx] <;> omega) | fail) only [hpl]
      rw [hsrow, set_eq_self]
      rw [List.getElem?_map, hs.at_, hs.split, hpe, List.append_assoc, List.append_assoc]
      cases pre' <;> rfl
    · have h9 := hA.chn c hcm
      rw [hs.split, hpe, List.append_assoc] at h9
      rw [hpe, List.append_assoc]
      have h8 : ((pre' ++ y :: (l :: post)).map Lk.row).Nodup := by rw [hs.split, hpe, List.append_assoc] at nd1; exact nd1
      refine chn_del (l := l) h9 (by simp) (fun w hw => ?_) ?_
      · have hwc : w ∈ c := by rw [hs.split, hpe]; simp at hw ⊢; rcases hw with h7 | h7 <;> simp [h7]
        have hwn := nd3 w hwc
        have z1 : ¬ r = w.row := fun e => hwn.1 e.symm
        have z2 : ¬ y.row = w.row := fun e => nd_mid h8 w (by simp at hw ⊢; rcases hw with h7 | h7 <;> simp [h7]) e.symm
        simp (disch := first | assumption | omega | (simp only [nx] <;> omega) | fail) only [hpl]
      · simp (disch := first | assumption | omega | (simp only [nx] <;> omega) | fail) only [hpl]
        show _ = some (AObj.cells [_, _, _, _, headV post] 1)
        rw [hhv]
    · intro z hz hzr hzs hzc
      have z1 : ¬ r = z := fun e => hzr e.symm
      have z2 : ¬ y.row = z := fun e => hzc y hyc e.symm
      simp (disch := first | assumption | omega | (simp only [nx] <;> omega) | fail) only [hpl]
    · exact fun y hy => .inl ⟨y, hsub y hy, rfl⟩
    · exact fun y hy => hA.hash _ c hs.at_ y (hsub y hy)
    · intro w hw
      refine avo_mono (hA.av w (chn_sub hA hcm w (hsub w hw))) (by simp) fun z w hz hg => ?_
      have z1 : ¬ r = z := fun e => by rw [← e, hrow] at hg; cases hg
      have z2 : ¬ y.row = z := fun e => by rw [← e, hp2] at hg; cases hg
      simp (disch := first | assumption | omega | (simp only [nx] <;> omega) | fail) only [hpl]
    · intro z hz hzr hzm
      have z1 : ¬ r = z := fun e => hzr e.symm
      have z2 : ¬ y.row = z := fun e => hzm (by rw [← e]; exact ny4)
      simp (disch := first | assumption | omega | (simp only [nx] <;> omega) | fail) only [hpl]
    · intro z hz
      rcases rows_put hs.at_ hz with h9 | h9
      · exact .inl h9
      · obtain ⟨y, hy, rfl⟩ := List.mem_map.1 h9
        exact .inl (nd3 y (hsub y hy)).2.2.2
end Go.Proofs.Ytldhcjfhlfgleaa
