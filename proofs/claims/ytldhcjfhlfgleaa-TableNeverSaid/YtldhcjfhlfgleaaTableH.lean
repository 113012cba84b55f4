/-
  Contracts of the package table: Touch.
-/
import Derived.Test.YtldhcjfhlfgleaaTableG
namespace Go.Proofs.Ytldhcjfhlfgleaa
open Go.Ab
set_option linter.unusedSimpArgs false
set_option linter.unusedVariables false
set_option maxRecDepth 10000
set_option maxHeartbeats 4000000

theorem TB.upd {h H : AHeap} {r : Nat} {fl : Int} {M : TM} {A : List Rec} (hB : TB h r fl M A) {k : List UInt8} {c pre post : List Lk} {l : Lk} (hs : Site M k c pre l post) (l' : Lk) (e1 : l'.row = l.row) (e2 : l'.key = k)
    (hn : h.next ≤ H.next) (hget : H.get l.row = some (.cells (l'.cs post) 1)) (hold : ∀ z, z < h.next → ¬ z = l.row → H.get z = h.get z) (hav : AVo H l'.V l'.vers) :
    TB H r fl (M.put (ix k M.n) (pre ++ l' :: post)) (setR l'.rc A) ∧ FrT h H r M (M.put (ix k M.n) (pre ++ l' :: post)) := by
  have hA := hB.ta
  have hrow := hA.row
  have hsrow := hA.srow
  have hcm := List.mem_of_getElem? hs.at_
  obtain ⟨nd1, nd2, nd3⟩ := hA.chain_nd hs.at_
  have hlm : l ∈ c := by rw [hs.split]; simp
  obtain ⟨nl1, nl2, nl3, nl4⟩ := nd3 l hlm
  have nl1' : ¬ r = l.row := fun e => nl1 e.symm
  have hlg : h.get l.row = some (.cells [encS l.key, U64 l.rts, .bool l.here, l.vers, headV post] 1) := chn_full (by rw [← hs.split]; exact hA.chn c hcm)
  obtain ⟨B, b1, b2, b3, b4⟩ := hB.rest hs
  have hperm : ((M.put (ix k M.n) (pre ++ l' :: post)).all.map Lk.rc).Perm (setR l'.rc A) :=
    (b3 l').trans (setR_perm (x := l'.rc) hB.nodup b1 (by show l.key = l'.key; rw [e2, hs.key]) (by show ∀ z ∈ B, ¬ z.key = l'.key; rw [e2]; exact b2))
  have hlp : (M.put (ix k M.n) (pre ++ l' :: post)).all.length = M.all.length := by
    have := len_put (M := M) (c' := pre ++ l' :: post) hs.at_
    rw [hs.split] at this; simp at this; omega
  have hne : ∀ y ∈ pre ++ post, ¬ y.row = l.row := nd_mid (by rw [← hs.split]; exact nd1)
  have hsub : ∀ y ∈ pre ++ post, y ∈ c := fun y hy => by rw [hs.split]; simp at hy ⊢; rcases hy with h9 | h9 <;> simp [h9]
  have hmem : ∀ y ∈ pre ++ l' :: post, y ∈ pre ++ post ∨ y = l' := fun y hy => by
    simp only [List.mem_append, List.mem_cons] at hy ⊢
    rcases hy with h9 | h9 | h9
    · exact .inl (.inl h9)
    · exact .inr h9
    · exact .inl (.inr h9)
  refine ⟨⟨TA.put hA hs.at_ hn ?_ ?_ ?_ ?_ ?_ ?_ ?_ ?_ ?_, hperm⟩, ⟨hn, ?_, ?_⟩⟩
  · rw [hlp, hold r hA.lt nl1']; exact hrow
  · rw [hold M.s hA.slt (fun e => nl2 e.symm), hsrow, set_eq_self]
    rw [List.getElem?_map, hs.at_, hs.split]
    exact congrArg some (head_app pre l _ post post e1.symm)
  · exact chn_upd (l := l) (l' := l') e1 (pre := pre) (by rw [← hs.split]; exact hA.chn c hcm) hn (fun y hy => hold _ (nd3 y (hsub y hy)).2.2.1 (hne y hy)) hget
  · exact fun z hz hzr hzs hzc => hold z hz fun e => hzc l hlm e
  · intro y hy
    rcases hmem y hy with h9 | h9
    · exact .inl ⟨y, hsub y h9, rfl⟩
    · exact .inl ⟨l, hlm, by rw [h9, e1]⟩
  · rw [hs.split] at nd1
    simp only [List.map_append, List.map_cons, e1] at nd1 ⊢; exact nd1
  · rw [hs.split] at nd2
    have := hs.key
    simp only [List.map_append, List.map_cons, e2] at nd2 ⊢
    rw [this] at nd2; exact nd2
  · intro y hy
    rcases hmem y hy with h9 | h9
    · exact hA.hash _ c hs.at_ y (hsub y h9)
    · rw [h9, e2]
  · intro y hy
    rcases hmem y hy with h9 | h9
    · exact avo_mono (hA.av y (chn_sub hA hcm y (hsub y h9))) hn fun z w hz h8 => hold z hz fun e => by (rw [e, hlg] at h8; simp at h8)
    · rw [h9]; exact hav
  · exact fun z hz hzr hzm => hold z hz fun e => hzm (by rw [e]; exact nl4)
  · intro z hz
    rcases rows_put hs.at_ hz with h9 | h9
    · exact .inl h9
    · obtain ⟨y, hy, rfl⟩ := List.mem_map.1 h9
      rcases hmem y hy with h8 | h8
      · exact .inl (nd3 y (hsub y h8)).2.2.2
      · rw [h8, e1]; exact .inl nl4
def touchR (k : List UInt8) (ts fl : Int) (A : List Rec) : List Rec := match getR k A with
  | some x => setR { x with rts := mx x.rts ts } A
  | none => if okKey k then setR ⟨k, mx fl ts, false, []⟩ A else A
theorem ris_nil : Ris [] := fun i x y h => by simp at h
theorem touch_c (h : AHeap) (r : Nat) (fl : Int) (M : TM) (A : List Rec) (hB : TB h r fl M A) (k : List UInt8) (hk9 : k.length < 9223372036854775807) (ts : Int) (hsz : A.length ≤ 1000000) :
    ∃ H M', FWp Try.prog 10 [P0 r, encS k, U64 ts] h (fun u h' => u = .tuple #[] ∧ h' = H) ∧ TB H r fl M' (touchR k ts fl A) ∧ FrT h H r M M' := by
  have hA := hB.ta
  have hrow := hA.row
  cases hg : getR k A with
  | none =>
    have hno := site_none hB hg
    by_cases hk : okKey k
    · have e : touchR k ts fl A = setR ⟨k, mx fl ts, false, []⟩ A := by rw [touchR, hg]; simp only [if_pos hk]
      rw [e]
      obtain ⟨H, M', h1, h2, h3⟩ := set_c h r fl M A hB k (mx fl ts) false [] (.slice none 0 0) .nil (by simp) hk ris_nil hsz
      refine ⟨H, M', ?_, h2, h3⟩
      refine W.enter tyOK Try.func10 rfl rfl ?_
      simp only [entry]
      refine W.seq <| W.seq <| W.reg <| OSuf.aop tyOK rfl sm rfl <| OSuf.aopF tyOK rfl (so_bin (by simp only [lk] <;> rfl) (by simp only [lk] <;> rfl) (bi_nil ⟨_, _, ty23, rfl⟩)) (fun _ => rfl) rfl <| OSuf.nil <| SQ.normal ?_
      refine W.no (by simp only [lk] <;> rfl) <| CWp.skip <| SQ.normal ?_
      refine W.seq <| W.seq <| W.reg <| OSuf.aop tyOK rfl sm rfl <| OSuf.aop tyOK rfl sm rfl <| OSuf.callD rfl (by simp only [aopnds, lk] <;> rfl) en24 (find_none h r fl M hA k hk9 hno) rfl <| OSuf.aop tyOK rfl (so_assign (by simp only [lk] <;> rfl)) rfl <| OSuf.nil <| SQ.normal ?_
      refine W.seq <| W.reg <| OSuf.aop tyOK rfl sm rfl <| OSuf.aopF tyOK rfl (so_bin (by simp only [lk] <;> rfl) (by simp only [lk] <;> rfl) (bi_nnil0 tyOK ⟨_, _, ty68, rfl⟩)) (fun _ => rfl) rfl <| OSuf.nil <| SQ.normal ?_
      refine W.no (by simp only [lk] <;> rfl) <| CWp.skip <| SQ.normal ?_
      refine W.reg <| OSuf.aop tyOK rfl sm rfl <| OSuf.aop tyOK rfl sm rfl <| OSuf.aop tyOK rfl sm rfl <| OSuf.aop tyOK rfl (so_nilCheck (by simp only [lk] <;> rfl)) rfl <| OSuf.aop tyOK rfl (so_fieldAddr (by simp only [lk] <;> rfl) (fa_ok (k := 1) ty67 rfl rfl ty27 rfl rfl)) rfl <| OSuf.aop tyOK rfl (so_load (by simp only [lk] <;> rfl) (by simp (disch := first | assumption | omega | (simp only [nx] <;> omega) | fail) only [aLoad, ty27, rowOf, hpl, Value.cells, places, ty23, ty27, ty39, ty67, ty68, ty70, ty72, hrow] <;> rfl)) rfl <| OSuf.aop tyOK rfl sm rfl <| OSuf.aop tyOK rfl (so_max (by simp only [aopnds, lk] <;> rfl)) rfl <| OSuf.aop tyOK rfl (so_build (by simp only [aparts, lk] <;> rfl) (by simp (disch := first | assumption | omega | (simp only [nx] <;> omega) | fail) only [aBuild, ty39, hpl, Value.cells, places, ty23, ty27, ty39, ty67, ty68, ty70, ty72, hrow] <;> rfl)) rfl <| OSuf.callD rfl (by simp only [aopnds, lk] <;> rfl) en14 (h1) rfl <| OSuf.nil <| FQ.normal (by simp only [aRet, Try.f10, aResults, aResult, lk, Nat.reduceEqDiff, reduceIte] <;> rfl) ?_
      -- leaf: end
      exact ⟨rfl, rfl⟩
    · have e : touchR k ts fl A = A := by rw [touchR, hg]; simp only [if_neg hk]
      rw [e]
      have h1 := set_arg h r k (mx fl ts) false [] (.slice none 0 0) .nil (by simp) (fun h9 => hk h9.1)
      refine ⟨h, M, ?_, hB, FrT.refl _ _ _⟩
      refine W.enter tyOK Try.func10 rfl rfl ?_
      simp only [entry]
      refine W.seq <| W.seq <| W.reg <| OSuf.aop tyOK rfl sm rfl <| OSuf.aopF tyOK rfl (so_bin (by simp only [lk] <;> rfl) (by simp only [lk] <;> rfl) (bi_nil ⟨_, _, ty23, rfl⟩)) (fun _ => rfl) rfl <| OSuf.nil <| SQ.normal ?_
      refine W.no (by simp only [lk] <;> rfl) <| CWp.skip <| SQ.normal ?_
      refine W.seq <| W.seq <| W.reg <| OSuf.aop tyOK rfl sm rfl <| OSuf.aop tyOK rfl sm rfl <| OSuf.callD rfl (by simp only [aopnds, lk] <;> rfl) en24 (find_none h r fl M hA k hk9 hno) rfl <| OSuf.aop tyOK rfl (so_assign (by simp only [lk] <;> rfl)) rfl <| OSuf.nil <| SQ.normal ?_
      refine W.seq <| W.reg <| OSuf.aop tyOK rfl sm rfl <| OSuf.aopF tyOK rfl (so_bin (by simp only [lk] <;> rfl) (by simp only [lk] <;> rfl) (bi_nnil0 tyOK ⟨_, _, ty68, rfl⟩)) (fun _ => rfl) rfl <| OSuf.nil <| SQ.normal ?_
      refine W.no (by simp only [lk] <;> rfl) <| CWp.skip <| SQ.normal ?_
      refine W.reg <| OSuf.aop tyOK rfl sm rfl <| OSuf.aop tyOK rfl sm rfl <| OSuf.aop tyOK rfl sm rfl <| OSuf.aop tyOK rfl (so_nilCheck (by simp only [lk] <;> rfl)) rfl <| OSuf.aop tyOK rfl (so_fieldAddr (by simp only [lk] <;> rfl) (fa_ok (k := 1) ty67 rfl rfl ty27 rfl rfl)) rfl <| OSuf.aop tyOK rfl (so_load (by simp only [lk] <;> rfl) (by simp (disch := first | assumption | omega | (simp only [nx] <;> omega) | fail) only [aLoad, ty27, rowOf, hpl, Value.cells, places, ty23, ty27, ty39, ty67, ty68, ty70, ty72, hrow] <;> rfl)) rfl <| OSuf.aop tyOK rfl sm rfl <| OSuf.aop tyOK rfl (so_max (by simp only [aopnds, lk] <;> rfl)) rfl <| OSuf.aop tyOK rfl (so_build (by simp only [aparts, lk] <;> rfl) (by simp (disch := first | assumption | omega | (simp only [nx] <;> omega) | fail) only [aBuild, ty39, hpl, Value.cells, places, ty23, ty27, ty39, ty67, ty68, ty70, ty72, hrow] <;> rfl)) rfl <| OSuf.callD rfl (by simp only [aopnds, lk] <;> rfl) en14 (h1) rfl <| OSuf.nil <| FQ.normal (by simp only [aRet, Try.f10, aResults, aResult, lk, Nat.reduceEqDiff, reduceIte] <;> rfl) ?_
      -- leaf: end
      exact ⟨rfl, rfl⟩
  | some x =>
    obtain ⟨c, pre, l, post, hs, hlx⟩ := site_some hB hg
    have hcm := List.mem_of_getElem? hs.at_
    have hlm : l ∈ c := by rw [hs.split]; simp
    have hlg : h.get l.row = some (.cells [encS l.key, U64 l.rts, .bool l.here, l.vers, headV post] 1) := chn_full (by rw [← hs.split]; exact hA.chn c hcm)
    have hf := find_some h r fl M hB.ta k hk9 c pre post l hs.at_ hs.split hs.pre hs.key
    have at0 : At h (PA M.s (ix k M.n)) (headV c) := ⟨_, _, _, rfl, hA.slt, hA.srow, by simp [hs.at_]⟩
    obtain ⟨q, o, vs, q1, q2, q3, q4⟩ := at_plc (pre := pre) (post := l :: post) (by rw [← hs.split]; exact at0) (by rw [← hs.split]; exact hA.chn c hcm)
    have q4' : vs[o]? = some (P0 l.row) := q4
    rw [q1] at hf
    have e : touchR k ts fl A = setR (Lk.rc ⟨l.row, k, mx l.rts ts, l.here, l.vers, l.V⟩) A := by
      rw [touchR, hg]
      simp only [← hlx, Lk.rc, hs.key]
    have hget : (h.set l.row (.cells [encS l.key, U64 (mx l.rts ts), .bool l.here, l.vers, headV post] 1)).get l.row = some (.cells (Lk.cs ⟨l.row, k, mx l.rts ts, l.here, l.vers, l.V⟩ post) 1) := by
      rw [AHeap.get_set_same, hs.key]; rfl
    obtain ⟨g1, g2⟩ := hB.upd (H := h.set l.row (.cells [encS l.key, U64 (mx l.rts ts), .bool l.here, l.vers, headV post] 1)) hs ⟨l.row, k, mx l.rts ts, l.here, l.vers, l.V⟩ rfl rfl (by simp) hget (fun z hz hzl => AHeap.get_set_ne fun e => hzl e.symm) (avo_mono (hA.av l (chn_sub hA hcm l hlm)) (by simp) fun z w hz h8 => AHeap.get_set_ne fun e => by (rw [← e, hlg] at h8; simp at h8))
    rw [e]
    refine ⟨_, _, ?_, g1, g2⟩
    refine W.enter tyOK Try.func10 rfl rfl ?_
    simp only [entry]
    refine W.seq <| W.seq <| W.reg <| OSuf.aop tyOK rfl sm rfl <| OSuf.aopF tyOK rfl (so_bin (by simp only [lk] <;> rfl) (by simp only [lk] <;> rfl) (bi_nil ⟨_, _, ty23, rfl⟩)) (fun _ => rfl) rfl <| OSuf.nil <| SQ.normal ?_
    refine W.no (by simp only [lk] <;> rfl) <| CWp.skip <| SQ.normal ?_
    refine W.seq <| W.seq <| W.reg <| OSuf.aop tyOK rfl sm rfl <| OSuf.aop tyOK rfl sm rfl <| OSuf.callD rfl (by simp only [aopnds, lk] <;> rfl) en24 (hf) rfl <| OSuf.aop tyOK rfl (so_assign (by simp only [lk] <;> rfl)) rfl <| OSuf.nil <| SQ.normal ?_
    refine W.seq <| W.reg <| OSuf.aop tyOK rfl sm rfl <| OSuf.aopT tyOK rfl (so_bin (by simp only [lk] <;> rfl) (by simp only [lk] <;> rfl) (bi_nnil ⟨_, _, ty68, rfl⟩)) (fun _ => rfl) rfl <| OSuf.nil <| SQ.normal ?_
    refine W.yes (by simp only [lk] <;> rfl) <| W.seq <| W.regD tyOK mixed (by kernel_rfl) <| SqW.aop rfl sm rfl <| SqW.aop rfl (so_nilCheck (by simp only [lk] <;> rfl)) rfl <| SqW.aop rfl (so_load (by simp only [lk] <;> rfl) (by simp (disch := first | assumption | omega | (simp only [nx] <;> omega) | fail) only [aLoad, ty70, rowOf, hpl, Value.cells, places, ty23, ty27, ty39, ty67, ty68, ty70, ty72, hrow, q3, q4', hlg] <;> rfl)) rfl <| SqW.aop rfl sm rfl <| SqW.aop rfl (so_nilCheck (by simp only [lk] <;> rfl)) rfl <| SqW.aop rfl (so_load (by simp only [lk] <;> rfl) (by simp (disch := first | assumption | omega | (simp only [nx] <;> omega) | fail) only [aLoad, ty70, rowOf, hpl, Value.cells, places, ty23, ty27, ty39, ty67, ty68, ty70, ty72, hrow, q3, q4', hlg] <;> rfl)) rfl <| SqW.aop rfl (so_nilCheck (by simp only [lk] <;> rfl)) rfl <| SqW.aop rfl (so_fieldAddr (by simp only [lk] <;> rfl) (fa_ok (k := 0) ty72 rfl rfl ty39 rfl rfl)) rfl <| SqW.aop rfl (so_fieldAddr (by simp only [lk] <;> rfl) (fa_ok (k := 1) ty39 rfl rfl ty27 rfl rfl)) rfl <| SqW.aop rfl (so_load (by simp only [lk] <;> rfl) (by simp (disch := first | assumption | omega | (simp only [nx] <;> omega) | fail) only [aLoad, ty27, rowOf, hpl, Value.cells, places, ty23, ty27, ty39, ty67, ty68, ty70, ty72, hrow, q3, q4', hlg] <;> rfl)) rfl <| SqW.aop rfl sm rfl <| SqW.aop rfl (so_max (by simp only [aopnds, lk] <;> rfl)) rfl <| SqW.aop rfl (so_nilCheck (by simp only [lk] <;> rfl)) rfl <| SqW.aop rfl (so_fieldAddr (by simp only [lk] <;> rfl) (fa_ok (k := 0) ty72 rfl rfl ty39 rfl rfl)) rfl <| SqW.aop rfl (so_fieldAddr (by simp only [lk] <;> rfl) (fa_ok (k := 1) ty39 rfl rfl ty27 rfl rfl)) rfl <| SqW.aop rfl (so_store (by simp only [lk] <;> rfl) (by simp only [lk] <;> rfl) (by simp (disch := first | assumption | omega | (simp only [nx] <;> omega) | fail) only [aStore, ty27, writeRow, hpl, Value.cells, places, ty23, ty27, ty39, ty67, ty68, ty70, ty72, hrow, q3, q4', hlg] <;> rfl)) rfl <| SqW.nil <| SQ.normal ?_
    refine CWp.ret <| SQ.ret <| FQ.ret (by simp only [aRet, Try.f10, aResults, aResult, lk, Nat.reduceEqDiff, reduceIte] <;> rfl) ?_
    -- leaf: end
    exact ⟨rfl, rfl⟩
end Go.Proofs.Ytldhcjfhlfgleaa
