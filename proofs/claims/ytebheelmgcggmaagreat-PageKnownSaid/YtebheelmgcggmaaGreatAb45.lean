/-
  The walk in an order of its own is right: one operation more.
-/
import Derived.Test.YtebheelmgcggmaaGreatAb44
namespace Go.Ab.Nx
open Go.Ab
set_option linter.unusedSimpArgs false
set_option linter.unusedVariables false
section
variable {P : Program} {T : Tr TI} {cx : Cx} {ops : Array Oper} {M : Tr Nat} {a0 : Tr Value} {h0 : AHeap}
theorem may_less {kd : Nat → Kind} {n j t : Nat} {kn : Kind} (hk : kd n = .skip) (h : May ops (KB M) (ups kd n kn) j t) : May ops (KB M) kd j t :=
  ⟨fun i s hi hs hkb => h.1 i s hi (by rw [ups_ne _ _ (fun e => by subst e; rw [hk] at hs; cases hs)]; exact hs) hkb,
   fun i s hi hs hkb => h.2 i s hi (by rw [ups_ne _ _ (fun e => by subst e; rw [hk] at hs; cases hs)]; exact hs) hkb⟩
theorem KOne.keep {kd : Nat → Kind} {n : Nat} {kn : Kind} (hk : kd n = .skip) {H H' : Nat → AHeap} {m m' : Nat} (hkn : ∀ s, kn.no = some s → s = m) (hH : ∀ t, t ≤ m → H' t = H t) (hm : m ≤ m') {reads reads' : List (Nat × Oper × Tr Value × Value)} (hr : ∀ x ∈ reads, x ∈ reads') {v : Value} {pa : Tr Value} {j : Nat} {o : Oper} (hjn : j ≠ n)
    (hq : kd j = .quiet → ((memKind T o.op = 0 ∧ ∃ y, aop P T o (aopnd pa) y = some (v, y)) ∨ (memKind T o.op = 1 ∧ (j, o, pa, v) ∈ reads)) → ∀ t, m < t → t ≤ m' → May ops (KB M) (ups kd n kn) j t → ∃ h', aop P T o (aopnd pa) (H' t) = some (v, h') ∧ h' = H' t)
    (h : KOne P T ops M kd H m reads v pa j o) : KOne P T ops M (ups kd n kn) H' m' reads' v pa j o := by
  have old : ∀ i s, s < m → (ups kd n kn i).no = some s → (kd i).no = some s := by
    intro i s hsm hs
    by_cases e : i = n
    · subst e; rw [ups_same] at hs; have := hkn s hs; omega
    · rw [ups_ne _ _ e] at hs; exact hs
  unfold KOne at h ⊢
  rw [ups_ne _ _ hjn]
  cases hkd : kd j with
  | skip => rw [hkd] at h; exact h
  | quiet =>
    rw [hkd] at h
    obtain ⟨h1, h2, h3⟩ := h
    refine ⟨h1, fun t ht hmay => ?_, h3.imp id fun ⟨a, b⟩ => ⟨a, hr _ b⟩⟩
    by_cases e : t ≤ m
    · rw [hH t e]; exact h2 t e (may_less hk hmay)
    · exact hq hkd h3 t (by omega) ht hmay
  | change s =>
    rw [hkd] at h
    obtain ⟨⟨h1, h2, h3⟩, h4, h5⟩ := h
    refine ⟨⟨h1, ?_, fun i s' hs' hlt => h3 i s' (old i s' (by omega) hs') hlt⟩, by omega, fun i he => h5 i (old i s h4 he)⟩
    rw [hH s (by omega), hH (s + 1) (by omega)]; exact h2
  | late s =>
    rw [hkd] at h
    obtain ⟨⟨h1, rv, ob, q1, q2, q3, q4⟩, h4, h5⟩ := h
    refine ⟨⟨h1, rv, ob, q1, by rw [hH s (by omega)]; exact q2, by rw [hH s (by omega), hH (s + 1) (by omega)]; exact q3, q4⟩, by omega, fun i he => h5 i (old i s h4 he)⟩
  | pure l =>
    rw [hkd] at h
    exact ⟨h.1, h.2.1, by have := h.2.2; omega⟩
theorem bit_new {dn n j : Nat} (h : Nat.testBit (Nat.lor dn (Nat.shiftLeft 1 n)) j = true) : j = n ∨ Nat.testBit dn j = true := by
  rw [bit_add] at h
  simp only [Bool.or_eq_true, decide_eq_true_eq] at h
  exact h.symm
theorem bit_old {dn n j : Nat} (h : Nat.testBit dn j = true) : Nat.testBit (Nat.lor dn (Nat.shiftLeft 1 n)) j = true := by rw [bit_add, h]; rfl
theorem bit_self (dn n : Nat) : Nat.testBit (Nat.lor dn (Nat.shiftLeft 1 n)) n = true := by rw [bit_add]; simp
theorem DP.no {σ : DSt} {v : Nat → Value} {pa : Nat → Tr Value} {kd : Nat → Kind} {H : Nat → AHeap} {m : Nat} (D : DP P T cx ops M a0 h0 σ v pa kd H m) {i s : Nat} (hs : (kd i).no = some s) : Nat.testBit σ.dn i = true ∧ i < ops.size ∧ s < m ∧ ∀ c, (kd c).no = some s → c = i := by
  have hd : Nat.testBit σ.dn i = true := by
    cases hb : Nat.testBit σ.dn i with
    | true => rfl
    | false => rw [D.kdun i hb] at hs; cases hs
  have hl := D.dlt i hd
  have := (D.one i _ hd (Array.getElem?_eq_getElem hl)).at hs
  exact ⟨hd, hl, this.1, this.2⟩
theorem DP.add (hM : MOK ops M) {σ : DSt} {v : Nat → Value} {pa : Nat → Tr Value} {kd : Nat → Kind} {H : Nat → AHeap} {m : Nat} (D : DP P T cx ops M a0 h0 σ v pa kd H m) {n : Nat} {o : Oper} (ho : ops[n]? = some o) {mk : Nat} (hmk : M.get n = some mk) (hsub : ∀ p, Nat.testBit mk p = true → Nat.testBit σ.dn p = true) (hnd : Nat.testBit σ.dn n = false)
    {pn : Tr Value} (hpn : dAct a0 σ.a σ.W mk (needs ops o) .leaf = some pn) (hdst : dDst cx.nt σ.W (dReads σ.W n (needs ops o) σ.R) n mk o.dst = true) (hdf : isDefer o.op = false)
    (val : Value) (kn : Kind) {hist' : List (Nat × Bool × AHeap)} {lvs' : List (Nat × List (Nat × Bool × AHeap))} {reads' : List (Nat × Oper × Tr Value × Value)} {h' : AHeap} {m' : Nat} {H' : Nat → AHeap} (hH : ∀ t, t ≤ m → H' t = H t) (hle : m ≤ m') (hm' : H' m' = h')
    (hhist : HistOK ops.size (ups kd n kn) H' hist' m') (hall : ∀ s, s < m' → ∃ i, (ups kd n kn i).no = some s) (hkn : ∀ s, kn.no = some s → s = m) (hlv : kn.lv ≤ m') (hmono : ∀ s, m ≤ s → s < m' → (H' s).next ≤ (H' (s + 1)).next)
    (hbel : (∀ l, kn ≠ .pure l) → dBelow mk σ.hist = true ∧ dPures mk σ.lvs = true) (hpl : ∀ l, kn = .pure l → l = m)
    (hlvs : ∀ x ∈ σ.lvs, x ∈ lvs') (hlvn : ∀ l, kn = .pure l → (n, σ.hist) ∈ lvs')
    (hnew : KOne P T ops M (ups kd n kn) H' m' reads' val pn n o)
    (hold : ∀ (j : Nat) (p : Oper), Nat.testBit σ.dn j = true → ops[j]? = some p → j ≠ n → KOne P T ops M kd H m σ.reads (v j) (pa j) j p → KOne P T ops M (ups kd n kn) H' m' reads' (v j) (pa j) j p) :
    DP P T cx ops M a0 h0 (dFin σ n o (needs ops o) val hist' lvs' reads' h') (ups v n val) (ups pa n pn) (ups kd n kn) H' m' := by
  have km := hM.mask n mk hmk
  have hks : kd n = .skip := D.kdun n hnd
  have hnl : n < ops.size := (Array.getElem?_eq_some_iff.1 ho).1
  have nen : ∀ {j}, Nat.testBit σ.dn j = true → j ≠ n := fun hj e => by subst e; rw [hnd] at hj; cases hj
  -- the slot is written for the first time
  have hfresh : ∀ d, o.dst = some d → d < cx.nt ∧ σ.W.get d = none ∧ ∀ r, (dReads σ.W n (needs ops o) σ.R).get d = some r → ∀ j, Nat.testBit r j = true → j = n ∨ Known ops j n := by
    intro d hd
    rw [hd] at hdst
    simp only [dDst, Bool.and_eq_true] at hdst
    obtain ⟨d1, d2, d3⟩ := hdst
    refine ⟨Nat.le_of_ble_eq_true d1, by simpa using d2, fun r hr j hj => ?_⟩
    rw [hr] at d3
    simp only at d3
    have e := Nat.eq_of_beq_eq_true d3
    have hb : Nat.testBit (Nat.lor mk (Nat.shiftLeft 1 n)) j = true := by rw [← e, testBit_lor', hj]; rfl
    rw [testBit_lor', testBit_one] at hb
    simp only [Bool.or_eq_true, decide_eq_true_eq] at hb
    rcases hb with hb | hb
    · exact .inr (km j hb).1
    · exact .inl hb
  have hW : ∀ d, (dFin σ n o (needs ops o) val hist' lvs' reads' h').W.get d = if o.dst = some d then some n else σ.W.get d := by
    intro d
    simp only [dFin]
    cases hd : o.dst with
    | none => simp
    | some d' =>
      rw [Tr.get_put]
      by_cases e : d' = d
      · simp [e]
      · simp [e]
  have oldlv : ∀ i, Nat.testBit σ.dn i = true → (ups kd n kn i).lv ≤ m := fun i hi => by rw [ups_ne _ _ (nen hi)]; exact D.lvm i
  have oldno : ∀ i s, s < m → (ups kd n kn i).no = some s → (kd i).no = some s := by
    intro i s hsm hs
    by_cases e : i = n
    · subst e; rw [ups_same] at hs; have := hkn s hs; omega
    · rw [ups_ne _ _ e] at hs; exact hs
  refine ⟨by rw [hH 0 (Nat.zero_le _)]; exact D.hz, hm', hhist, fun j hj => ?_, fun j hj => ?_, fun j hj i hkb => ?_, fun d j hj => ?_, fun j p d hj hp hd => ?_, fun d => ?_, hall, fun i => ?_, fun s hs => ?_, fun j i hj hnp hkb i' s' hs' hlt => ?_, fun j i l hkj hkb => ?_, fun i l hki => ?_, fun j p hj hp d u hu => ?_, fun j p hj hp => ?_, fun j p hj hp => ?_⟩
  · have hj' : Nat.testBit (Nat.lor σ.dn (Nat.shiftLeft 1 n)) j = false := hj
    rw [bit_add] at hj'
    simp only [Bool.or_eq_false_iff, decide_eq_false_iff_not] at hj'
    rw [ups_ne _ _ hj'.2]; exact D.kdun j hj'.1
  · rcases bit_new hj with rfl | h
    · exact hnl
    · exact D.dlt j h
  · refine bit_old ?_
    rcases bit_new hj with rfl | h
    · obtain ⟨mk2, g1, g2⟩ := hkb
      rw [hmk] at g1; cases g1; exact hsub i g2
    · exact D.down j h i hkb
  · rw [hW] at hj
    split at hj
    · rename_i e; cases hj; exact ⟨bit_self _ _, o, ho, e⟩
    · obtain ⟨h1, h2⟩ := D.wr d j hj; exact ⟨bit_old h1, h2⟩
  · rw [hW]
    rcases bit_new hj with rfl | h
    · rw [ho] at hp; cases hp
      exact ⟨by rw [if_pos hd], (hfresh d hd).1⟩
    · obtain ⟨h1, h2⟩ := D.wr2 j p d h hp hd
      refine ⟨?_, h2⟩
      rw [if_neg, h1]
      intro ho2
      have := (hfresh d ho2).2.1
      rw [h1] at this; cases this
  · rw [hW]
    simp only [dFin]
    cases hd : o.dst with
    | none =>
      simp only [reduceCtorEq, if_false]
      rw [D.act d]
      split
      · rename_i j hj
        rw [ups_ne _ _ (nen (D.wr d j hj).1)]
      · rfl
    | some d' =>
      rw [Tr.get_put]
      by_cases e : d' = d
      · subst e; simp [ups_same]
      · rw [if_neg e, if_neg (by simpa using e), D.act d]
        split
        · rename_i j hj
          rw [ups_ne _ _ (nen (D.wr d j hj).1)]
        · rfl
  · by_cases e : i = n
    · subst e; rw [ups_same]; exact hlv
    · rw [ups_ne _ _ e]; exact Nat.le_trans (D.lvm i) hle
  · by_cases e : s < m
    · rw [hH s (by omega), hH (s + 1) (by omega)]; exact D.monoH s e
    · exact hmono s (by omega) hs
  · have hin : Nat.testBit σ.dn i = true := by
      rcases bit_new hj with rfl | h
      · obtain ⟨mk2, g1, g2⟩ := hkb
        rw [hmk] at g1; cases g1; exact hsub i g2
      · exact D.down j h i hkb
    have hil := oldlv i hin
    have hs2 := oldno i' s' (by omega) hs'
    rw [ups_ne _ _ (nen hin)] at hlt
    rcases bit_new hj with rfl | h
    · rw [ups_same] at hnp
      obtain ⟨hb1, hb2⟩ := hbel hnp
      obtain ⟨mk2, g1, g2⟩ := hkb
      rw [hmk] at g1; cases g1
      refine ⟨mk, hmk, ?_⟩
      have D2 := D.no hs2
      cases hki : kd i with
      | skip => rw [hki] at hlt; exact absurd hlt (Nat.not_lt_zero _)
      | quiet => rw [hki] at hlt; exact absurd hlt (Nat.not_lt_zero _)
      | change s => rw [hki] at hlt; exact absurd hlt (Nat.not_lt_zero _)
      | late s =>
        rw [hki] at hlt
        have hlt' : s' < s + 1 := hlt
        have Ds := D.no (i := i) (s := s) (by rw [hki]; rfl)
        by_cases e : s' = s
        · subst e
          have := Ds.2.2.2 i' hs2
          subst this; exact g2
        · obtain ⟨c, _, q1, q2⟩ := dBelow_bit D.hist hb1 i s hki Ds.2.2.1 Ds.2.2.2 g2 s' (by omega)
          have := D2.2.2.2 c q1
          subst this; exact q2
      | pure l =>
        rw [hki] at hlt
        have hlt' : s' < l := hlt
        obtain ⟨hs, q1, q2⟩ := D.lvs i l hki
        obtain ⟨c, _, q3, q4⟩ := dAll_bit q2 (dPures_all hb2 q1 g2) s' hlt'
        have := D2.2.2.2 c q3
        subst this; exact q4
    · rw [ups_ne _ _ (nen h)] at hnp
      exact D.below j i h hnp hkb i' s' hs2 hlt
  · by_cases e : j = n
    · subst e
      rw [ups_same] at hkj
      have := hpl l hkj
      subst this
      obtain ⟨mk2, g1, g2⟩ := hkb
      rw [hmk] at g1; cases g1
      exact oldlv i (hsub i g2)
    · rw [ups_ne _ _ e] at hkj
      have hjd : Nat.testBit σ.dn j = true := by
        cases hb : Nat.testBit σ.dn j with
        | true => rfl
        | false => rw [D.kdun j hb] at hkj; cases hkj
      rw [ups_ne _ _ (nen (D.down j hjd i hkb))]
      exact D.belowP j i l hkj hkb
  · by_cases e : i = n
    · subst e
      rw [ups_same] at hki
      have := hpl l hki
      subst this
      exact ⟨σ.hist, hlvn _ hki, D.hist.mono kn hks fun t ht => hH t (by omega)⟩
    · rw [ups_ne _ _ e] at hki
      obtain ⟨hs, q1, q2⟩ := D.lvs i l hki
      have := D.lvm i
      rw [hki] at this
      have hlm : l ≤ m := this
      exact ⟨hs, hlvs _ q1, q2.mono kn hks fun t ht => hH t (by omega)⟩
  · rcases bit_new hj with rfl | h
    · rw [ho] at hp; cases hp
      rw [ups_same] at hu
      rcases dAct_spec hpn d u hu with h | ⟨i, h1, h2, h3⟩ | ⟨h1, h2, h3⟩
      · cases h
      · obtain ⟨g1, p', g2, g3⟩ := D.wr d i h1
        refine .inl ⟨i, p', g2, g3, ⟨mk, hmk, h2⟩, ?_⟩
        rw [D.act d, h1] at h3
        simp only [Option.some.injEq] at h3
        rw [ups_ne _ _ (nen g1)]; exact h3.symm
      · refine .inr ⟨h2, dReads_new _ _ h3 h1, fun i p' hi hp' hd' => ?_⟩
        rcases bit_new hi with rfl | hi
        · exact .inl rfl
        · have := (D.wr2 i p' d hi hp' hd').1
          rw [h1] at this; cases this
    · rw [ups_ne _ _ (nen h)] at hu
      rcases D.pas j p h hp d u hu with ⟨i, p', g1, g2, g3, g4⟩ | ⟨g1, ⟨r, g2, g3⟩, g4⟩
      · exact .inl ⟨i, p', g1, g2, g3, by rw [ups_ne _ _ (nen (D.down j h i g3))]; exact g4⟩
      · obtain ⟨r', g5, g6⟩ := dReads_keeps (W := σ.W) (j := n) (needs ops o) σ.R g2 g3
        refine .inr ⟨g1, ⟨r', g5, g6⟩, fun i p' hi hp' hd' => ?_⟩
        rcases bit_new hi with rfl | hi
        · rw [ho] at hp'; cases hp'
          rcases (hfresh d hd').2.2 r' g5 j g6 with h9 | h9
          · exact (nen h h9).elim
          · exact .inr h9
        · exact g4 i p' hi hp' hd'
  · rcases bit_new hj with rfl | h
    · rw [ho] at hp; cases hp; exact hdf
    · exact D.dfr j p h hp
  · rcases bit_new hj with rfl | h
    · rw [ho] at hp; cases hp; rw [ups_same, ups_same]; exact hnew
    · rw [ups_ne _ _ (nen h), ups_ne _ _ (nen h)]; exact hold j p h hp (nen h) (D.one j p h hp)
end
end Go.Ab.Nx
