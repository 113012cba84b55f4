/-
  The walk in an order of its own is right: the whole of it.
-/
import Derived.Test.YtebheelmgcggmaaGreatAb45
namespace Go.Ab.Nx
open Go.Ab
set_option linter.unusedSimpArgs false
set_option linter.unusedVariables false
section
variable {P : Program} {T : Tr TI} {cx : Cx} {ops : Array Oper} {M : Tr Nat} {a0 : Tr Value} {h0 : AHeap}
theorem dHist_all {kd : Nat → Kind} {H : Nat → AHeap} {mk j : Nat} {o : Oper} {pa : Tr Value} {v : Value} (hk : memKind T o.op = 1) (hmk : M.get j = some mk) :
    ∀ {l : List (Nat × Bool × AHeap)} {m : Nat}, HistOK ops.size kd H l m → dHist P T o pa v mk l = true → ∀ t, t < m → May ops (KB M) kd j t → aop P T o (aopnd pa) (H t) = some (v, H t)
  | _, _, .nil, _, t, ht, _ => by omega
  | _, _, .cons (c := c) (m := m) (l := l) hc hkc hr, hd, t, ht, hmay => by
    simp only [dHist, Bool.or_eq_true, Bool.and_eq_true] at hd
    rcases hd with hd | ⟨hd1, hd2⟩
    · have := hmay.1 c m hc (by rw [hkc]; exact bif_no l m) ⟨mk, hmk, hd⟩
      omega
    · by_cases e : t = m
      · subst e; exact sameAt_eq hk hd1
      · exact dHist_all hk hmk hr hd2 t (by omega) hmay
theorem dStep_sound (ok : TyOK P T) (hM : MOK ops M) {op : Oper → (Operand → Option Value) → AHeap → Option (Value × AHeap)} (hop : ∀ o ρ h u h', op o ρ h = some (u, h') → OpWp P o ρ h fun x y => x = u ∧ y = h') {σ σ' : DSt} {v : Nat → Value} {pa : Nat → Tr Value} {kd : Nat → Kind} {H : Nat → AHeap} {m : Nat}
    (D : DP P T cx ops M a0 h0 σ v pa kd H m) {n : Nat} {o : Oper} (ho : ops[n]? = some o) (hs : dStep P T op ops cx.nt a0 M σ n o = some σ') : ∃ v' pa' kd' H' m', DP P T cx ops M a0 h0 σ' v' pa' kd' H' m' := by
  unfold dStep at hs
  split at hs
  · cases hs
  rename_i mk hmk
  cases hc : Nat.beq (Nat.lor mk σ.dn) σ.dn && !Nat.testBit σ.dn n
  · rw [hc, cond_false] at hs; cases hs
  rw [hc, cond_true] at hs
  simp only [Bool.and_eq_true, Bool.not_eq_true'] at hc
  obtain ⟨hc1, hnd⟩ := hc
  have hsub : ∀ p, Nat.testBit mk p = true → Nat.testBit σ.dn p = true := fun p hp => bit_sub hc1 hp
  split at hs
  · cases hs
  rename_i pn hpn
  cases hb : dDst cx.nt σ.W (dReads σ.W n (needs ops o) σ.R) n mk o.dst && !isDefer o.op
  · rw [hb, cond_false] at hs; cases hs
  rw [hb, cond_true] at hs
  simp only [Bool.and_eq_true, Bool.not_eq_true'] at hb
  obtain ⟨hdst, hdf⟩ := hb
  have hks : kd n = .skip := D.kdun n hnd
  have hnl : n < ops.size := (Array.getElem?_eq_some_iff.1 ho).1
  have allk : ∀ kn s, s < m → ∃ i, (ups kd n kn i).no = some s := by
    intro kn s hs
    obtain ⟨i, h2⟩ := D.all s hs
    exact ⟨i, by rw [ups_ne _ _ (fun e => by subst e; rw [hks] at h2; cases h2)]; exact h2⟩
  -- no change
  have quiet : ∀ (u : Value) (kn : Kind) (lvs' : List (Nat × List (Nat × Bool × AHeap))) (reads' : List (Nat × Oper × Tr Value × Value)), kn.no = none → kn.lv ≤ m → ((∀ l, kn ≠ .pure l) → dBelow mk σ.hist = true ∧ dPures mk σ.lvs = true) → (∀ l, kn = .pure l → l = m) → (∀ x ∈ σ.lvs, x ∈ lvs') → (∀ l, kn = .pure l → (n, σ.hist) ∈ lvs') → (∀ x ∈ σ.reads, x ∈ reads') →
      KOne P T ops M (ups kd n kn) H m reads' u pn n o → ∃ v' pa' kd' H' m', DP P T cx ops M a0 h0 (dFin σ n o (needs ops o) u σ.hist lvs' reads' σ.h) v' pa' kd' H' m' := by
    intro u kn lvs' reads' g1 g2 g3 g4 g5 g6 g7 g8
    refine ⟨_, _, _, H, m, D.add hM ho hmk hsub hnd hpn hdst hdf u kn (fun _ _ => rfl) (Nat.le_refl _) D.hm (D.hist.mono kn hks fun _ _ => rfl) (allk kn) (fun s hs => by rw [g1] at hs; cases hs) g2 (fun s h1 h2 => by omega) g3 g4 g5 g6 g8 fun j p hj hp hjn hk => ?_⟩
    exact hk.keep hks (fun s hs => by rw [g1] at hs; cases hs) (fun _ _ => rfl) (Nat.le_refl _) g7 hjn fun _ _ t h1 h2 => by omega
  -- one more change, plain or late
  have change : ∀ (u : Value) (h' : AHeap) (l : Bool), dBelow mk σ.hist = true ∧ dPures mk σ.lvs = true → σ.reads.all (fun x => Nat.testBit mk x.1 || sameAt P T x.2.1 x.2.2.1 x.2.2.2 h') = true → σ.h.next ≤ h'.next →
      KOne P T ops M (ups kd n (bif l then .late m else .change m)) (ups H (m + 1) h') (m + 1) σ.reads u pn n o →
      ∃ v' pa' kd' H' m', DP P T cx ops M a0 h0 (dFin σ n o (needs ops o) u ((n, l, σ.h) :: σ.hist) σ.lvs σ.reads h') v' pa' kd' H' m' := by
    intro u h' l hbel hrd hnx hnew
    have hHle : ∀ t, t ≤ m → ups H (m + 1) h' t = H t := fun t ht => ups_ne _ _ (by omega)
    have hnp : ∀ l', (bif l then Kind.late m else .change m) ≠ .pure l' := fun l' => by cases l <;> simp
    refine ⟨_, _, _, ups H (m + 1) h', m + 1, D.add hM ho hmk hsub hnd hpn hdst hdf u (bif l then .late m else .change m) hHle (Nat.le_succ _) (ups_same _ _ _) ?_ ?_ (fun s hs => by rw [bif_no] at hs; cases hs; rfl) ?_ ?_ (fun _ => hbel) (fun l' e => (hnp l' e).elim) (fun _ h => h) (fun l' e => (hnp l' e).elim) hnew fun j p hj hp hjn hk => ?_⟩
    · have := HistOK.cons (size := ops.size) (kd := ups kd n (bif l then .late m else .change m)) (H := ups H (m + 1) h') (l := l) hnl (ups_same _ _ _) (D.hist.mono (bif l then .late m else .change m) hks (H' := ups H (m + 1) h') fun t ht => hHle t (by omega))
      rw [hHle m (Nat.le_refl _), D.hm] at this
      exact this
    · intro s hs
      by_cases e : s = m
      · exact ⟨n, by rw [ups_same, e]; exact bif_no l m⟩
      · exact allk _ s (by omega)
    · cases l
      · exact Nat.zero_le _
      · exact Nat.le_refl _
    · intro s h1 h2
      have : s = m := by omega
      subst this
      rw [ups_same, hHle s (Nat.le_refl _), D.hm]; exact hnx
    · refine hk.keep hks (fun s hs => by rw [bif_no] at hs; cases hs; rfl) hHle (Nat.le_succ _) (fun _ h => h) hjn fun hq hrd' t h1 h2 hmay => ?_
      have : t = m + 1 := by omega
      subst this
      rw [ups_same]
      rcases hrd' with ⟨k3, y, hy⟩ | ⟨k3, k4⟩
      · exact ⟨h', (aop_free k3 hy).2 _, rfl⟩
      · have := List.all_eq_true.1 hrd _ k4
        simp only [Bool.or_eq_true] at this
        rcases this with this | this
        · have := hmay.2 n m hnl (by rw [ups_same]; exact bif_no l m) ⟨mk, hmk, this⟩
          omega
        · exact ⟨_, sameAt_eq k3 this, rfl⟩
  have uq : ∀ (kn : Kind), ∀ i, (ups kd n kn i).no = some m → i = n := by
    intro kn i he
    by_cases e : i = n
    · exact e
    · rw [ups_ne _ _ e] at he
      have := (D.no he).2.2.1
      omega
  cases hbp : dBelow mk σ.hist && dPures mk σ.lvs
  · -- an operation on what waits
    rw [hbp, cond_false] at hs
    split at hs
    · rename_i hg
      cases hp : isPure o.op
      · rw [hp, cond_false] at hs; cases hs
      rw [hp, cond_true] at hs
      split at hs
      · rename_i u hx ha
        cases hs
        refine quiet u (.pure m) _ _ rfl (Nat.le_refl _) (fun h => (h m rfl).elim) (fun l e => by cases e; rfl) (fun _ h => List.mem_cons_of_mem _ h) (fun l e => List.mem_cons_self) (fun _ h => h) ?_
        unfold KOne; rw [ups_same]
        exact ⟨hg, aop_pure ok hp ha, Nat.le_refl _⟩
      · cases hs
    · cases hs
  · rw [hbp, cond_true] at hs
    simp only [Bool.and_eq_true] at hbp
    split at hs
    · cases hs
    · rename_i hg
      cases hs
      refine quiet (.tuple #[]) .skip _ _ rfl (Nat.zero_le _) (fun _ => hbp) (fun l e => by cases e) (fun _ h => h) (fun l e => by cases e) (fun _ h => h) ?_
      unfold KOne; rw [ups_same]; exact ⟨hg, rfl⟩
    · rename_i hg
      split at hs
      · rename_i hk0
        split at hs
        · rename_i u hx ha
          cases hs
          obtain ⟨e1, e2⟩ := aop_free hk0 ha
          refine quiet u .quiet _ _ rfl (Nat.zero_le _) (fun _ => hbp) (fun l e => by cases e) (fun _ h => h) (fun l e => by cases e) (fun _ h => h) ?_
          unfold KOne; rw [ups_same]
          exact ⟨hg, fun t _ _ => ⟨H t, e2 _, rfl⟩, .inl ⟨hk0, _, e2 σ.h⟩⟩
        · cases hs
      · rename_i hk1
        split at hs
        · rename_i u hx ha
          cases hdh : dHist P T o pn u mk σ.hist
          · rw [hdh, cond_false] at hs; cases hs
          · rw [hdh, cond_true] at hs
            cases hs
            have e1 := aop_read hk1 ha
            subst e1
            refine quiet u .quiet _ _ rfl (Nat.zero_le _) (fun _ => hbp) (fun l e => by cases e) (fun _ h => h) (fun l e => by cases e) (fun _ h => List.mem_cons_of_mem _ h) ?_
            unfold KOne; rw [ups_same]
            refine ⟨hg, fun t ht hmay => ?_, .inr ⟨hk1, List.mem_cons_self⟩⟩
            by_cases e : t = m
            · subst e; rw [D.hm]; exact ⟨_, ha, rfl⟩
            · exact ⟨_, dHist_all hk1 hmk D.hist hdh t (by omega) (may_less hks hmay), rfl⟩
        · cases hs
      · cases hch : dAll mk σ.hist
        rotate_left
        · rw [hch, cond_true] at hs
          split at hs
          · rename_i u h' ha
            cases hrd : σ.reads.all (fun x => Nat.testBit mk x.1 || sameAt P T x.2.1 x.2.2.1 x.2.2.2 h') && Nat.ble σ.h.next h'.next
            · rw [hrd, cond_false] at hs; cases hs
            · rw [hrd, cond_true] at hs
              simp only [Bool.and_eq_true] at hrd
              cases hs
              refine change u h' false hbp hrd.1 (Nat.le_of_ble_eq_true hrd.2) ?_
              unfold KOne; rw [ups_same]
              simp only [cond_false]
              refine ⟨⟨hg, ?_, fun i s' hs' hlt => ?_⟩, by omega, uq _⟩
              · rw [ups_ne _ _ (by omega), ups_same, D.hm]; exact hop _ _ _ _ _ ha
              · have hs2 : (kd i).no = some s' := by
                  by_cases e : i = n
                  · subst e; rw [ups_same] at hs'; cases hs'; omega
                  · rw [ups_ne _ _ e] at hs'; exact hs'
                obtain ⟨c, g1, g2, g3⟩ := dAll_bit D.hist hch s' hlt
                have := (D.no hs2).2.2.2 c g2
                subst this; exact (hM.mask n mk hmk c g3).1
          · cases hs
        · rw [hch, cond_false] at hs
          cases hnw : isNew o.op
          · rw [hnw, cond_false] at hs; cases hs
          rw [hnw, cond_true] at hs
          split at hs
          · rename_i u h' ha
            cases hrd : σ.reads.all (fun x => Nat.testBit mk x.1 || sameAt P T x.2.1 x.2.2.1 x.2.2.2 h') && Nat.ble σ.h.next h'.next
            · rw [hrd, cond_false] at hs; cases hs
            · rw [hrd, cond_true] at hs
              simp only [Bool.and_eq_true] at hrd
              cases hs
              refine change u h' true hbp hrd.1 (Nat.le_of_ble_eq_true hrd.2) ?_
              obtain ⟨rv, ob, n1, n2, n3, n4, n5, n6⟩ := aop_new hnw ha
              unfold KOne; rw [ups_same]
              simp only [cond_true]
              refine ⟨⟨hg, rv, ob, n1, ?_, ?_, n4, n6, n5⟩, by omega, uq _⟩
              · rw [ups_ne _ _ (by omega), D.hm]; exact n2
              · rw [ups_same, ups_ne H h' (show m ≠ m + 1 by omega), D.hm]; exact n3
          · cases hs
theorem dRun_sound (ok : TyOK P T) (hM : MOK ops M) {op : Oper → (Operand → Option Value) → AHeap → Option (Value × AHeap)} (hop : ∀ o ρ h u h', op o ρ h = some (u, h') → OpWp P o ρ h fun x y => x = u ∧ y = h') :
    ∀ {os : List (Nat × Oper)} {σ σ' : DSt} {v : Nat → Value} {pa : Nat → Tr Value} {kd : Nat → Kind} {H : Nat → AHeap} {m : Nat}, DP P T cx ops M a0 h0 σ v pa kd H m → (∀ x ∈ os, ops[x.1]? = some x.2) → dRun P T op ops cx.nt a0 M os σ = some σ' →
      ∃ v' pa' kd' H' m', DP P T cx ops M a0 h0 σ' v' pa' kd' H' m'
  | [], σ, σ', v, pa, kd, H, m, D, _, hr => by simp only [dRun, Option.some.injEq] at hr; subst hr; exact ⟨v, pa, kd, H, m, D⟩
  | (j, o) :: os, σ, σ', v, pa, kd, H, m, D, hd, hr => by
    simp only [dRun] at hr
    split at hr
    · rename_i σ1 h1
      obtain ⟨v1, pa1, kd1, H1, m1, D1⟩ := dStep_sound ok hM hop D (hd (j, o) List.mem_cons_self) h1
      exact dRun_sound ok hM hop D1 (fun x hx => hd x (List.mem_cons_of_mem _ hx)) hr
    · cases hr
theorem nums_mem : ∀ {os : List Oper} {j : Nat}, ops.toList.drop j = os → ∀ x ∈ nums os j, ops[x.1]? = some x.2
  | [], j, _, x, hx => by cases hx
  | o :: os, j, hd, x, hx => by
    simp only [nums] at hx
    rcases List.mem_cons.1 hx with rfl | hx
    · rw [← Array.getElem?_toList]
      have := congrArg (fun l : List Oper => l[0]?) hd
      simpa using this
    · exact nums_mem (j := j + 1) (by rw [← List.drop_drop, hd]; rfl) x hx
theorem lateOrd_mem {all : List (Nat × Oper)} {p : Nat × Oper → Prop} (ha : ∀ x ∈ all, p x) : ∀ {os : List (Nat × Oper)} {dn : Nat} {acc : List (Nat × Oper)}, (∀ x ∈ os, p x) → (∀ x ∈ acc, p x) → ∀ x ∈ lateOrd T M all os dn acc, p x
  | [], dn, acc, _, hacc, x, hx => by
    simp only [lateOrd, List.mem_append, List.mem_reverse, List.mem_filter] at hx
    rcases hx with hx | hx
    · exact hacc x hx
    · exact ha x hx.1
  | (j, o) :: os, dn, acc, hos, hacc, x, hx => by
    simp only [lateOrd] at hx
    cases hb : (Nat.beq (memKind T o.op) 2 && !isNew o.op) && !Nat.testBit dn j
    · rw [hb, cond_false] at hx
      exact lateOrd_mem ha (fun y hy => hos y (List.mem_cons_of_mem _ hy)) hacc x hx
    · rw [hb, cond_true] at hx
      refine lateOrd_mem ha (fun y hy => hos y (List.mem_cons_of_mem _ hy)) (fun y hy => ?_) x hx
      rcases List.mem_cons.1 hy with rfl | hy
      · exact hos _ List.mem_cons_self
      · rcases List.mem_append.1 hy with hy | hy
        · exact ha y (List.mem_filter.1 (List.mem_reverse.1 hy)).1
        · exact hacc y hy
theorem DP.fin (ok : TyOK P T) (hmix : P.follows .mixedOrders = true) (hM : MOK ops M) {a : Tr Value} {h : AHeap} {σ : DSt} {v : Nat → Value} {pa : Nat → Tr Value} {kd : Nat → Kind} {H : Nat → AHeap} {m : Nat} (D : DP P T cx ops M a h σ v pa kd H m) (hn : Nat.beq σ.dn (Nat.sub (Nat.shiftLeft 1 ops.size) 1) = true)
    {id : Nat} {Q : AExit → Tr Value → AHeap → Prop} (hQ : Q .normal σ.a σ.h) : CWp P cx (.region id ops true) a h Q := by
  have dn : ∀ j, j < ops.size → Nat.testBit σ.dn j = true := by
    intro j hj
    rw [Nat.eq_of_beq_eq_true hn]
    show Nat.testBit ((1 <<< ops.size) - 1) j = true
    rw [Nat.one_shiftLeft, Nat.testBit_two_pow_sub_one]
    simpa using hj
  have lt : ∀ {j : Nat} {o : Oper}, ops[j]? = some o → Nat.testBit σ.dn j = true := fun hj => dn _ (Array.getElem?_eq_some_iff.1 hj).1
  have R : DRun P cx ops (KB M) a v kd H m := by
    refine { kno := fun i j hk => by (obtain ⟨mk, h1, h2⟩ := hk; exact (hM.mask j mk h1 i h2).1), back := fun j o ho => hM.back j o ho, inj := fun i j o p d hi hj hdo hdp => ?_, dlt := fun i o d hi hd => (D.wr2 i o d (lt hi) hi hd).2, all := fun s hs => ?_, uniq := fun i j s hi hj h1 h2 => (D.no h2).2.2.2 i h1, lts := fun i s hi h1 => (D.no h1).2.2.1, prev := fun j s hj hk i s' hi hs' hlt => ?_, below := fun j i hj hi hk hkb i' s' hi' hs' hlt => D.below j i (dn j hj) hk hkb i' s' hs' hlt, belowP := fun j i l hj hi hk hkb => D.belowP j i l hk hkb, mono := D.monoH, lev := fun j _ => D.lvm j, one := fun j o ho => ⟨pa j, fun d u hu => ?_, D.dfr j o (lt ho) ho, ?_⟩ }
    · have h1 := (D.wr2 i o d (lt hi) hi hdo).1
      have h2 := (D.wr2 j p d (lt hj) hj hdp).1
      rw [h1] at h2; cases h2; rfl
    · obtain ⟨i, h2⟩ := D.all s hs; exact ⟨i, (D.no h2).2.1, h2⟩
    · have hone := D.one j _ (dn j hj) (Array.getElem?_eq_getElem hj)
      unfold KOne at hone
      rw [hk] at hone
      exact hone.1.2.2 i s' hs' hlt
    · rcases D.pas j o (lt ho) ho d u hu with ⟨i, p, g1, g2, g3, g4⟩ | ⟨g1, _, g3⟩
      · exact .inl ⟨i, p, g1, g2, g3, g4⟩
      · exact .inr ⟨g1, fun i p hp hd => g3 i p (lt hp) hp hd⟩
    · have hk := D.one j o (lt ho) ho
      unfold KOne at hk
      cases hkd : kd j with
      | skip => rw [hkd] at hk; exact hk
      | quiet =>
        rw [hkd] at hk
        obtain ⟨k1, k2, k3⟩ := hk
        refine ⟨k1, fun t ht hmay => ?_⟩
        obtain ⟨h', g1, g2⟩ := k2 t ht hmay
        exact aop_sound ok g1 ⟨rfl, g2⟩
      | change s =>
        rw [hkd] at hk
        exact ⟨hk.1.1, hk.1.2.1⟩
      | late s =>
        rw [hkd] at hk
        obtain ⟨⟨k1, rv, ob, q1, q2, q3, q4, q5, q6⟩, _⟩ := hk
        exact ⟨k1, rv, ob, q1, q2, q3, q4, q5, fun h => aop_sound ok (q6 h) ⟨rfl, rfl⟩⟩
      | pure l => rw [hkd] at hk; exact ⟨hk.1, hk.2.1⟩
  have hd := CWp.drawn (id := id) (aF := σ.a) (Q := Q) hmix R (fun d u hu => by
    rw [D.act d] at hu
    split at hu
    · rename_i j hj
      obtain ⟨_, p, g1, g2⟩ := D.wr d j hj
      simp only [Option.some.injEq] at hu
      exact .inl ⟨j, p, g1, g2, hu.symm⟩
    · rename_i hw
      refine .inr ⟨hu, fun i p hp hdp => ?_⟩
      have := (D.wr2 i p d (lt hp) hp hdp).1
      rw [hw] at this; cases this) (by rw [D.hm]; exact hQ)
  rw [D.hz] at hd
  exact hd
theorem evDrawn_sound (ok : TyOK P T) (hmix : P.follows .mixedOrders = true) {op : Oper → (Operand → Option Value) → AHeap → Option (Value × AHeap)} (hop : ∀ o ρ h u h', op o ρ h = some (u, h') → OpWp P o ρ h fun x y => x = u ∧ y = h')
    {id : Nat} {a aF : Tr Value} {h hF : AHeap} (he : evDrawn P T op ops cx.nt a h = some (aF, hF)) {Q : AExit → Tr Value → AHeap → Prop} (hQ : Q .normal aF hF) : CWp P cx (.region id ops true) a h Q := by
  unfold evDrawn at he
  split at he
  · cases he
  rename_i M hM0
  have hM : MOK ops M := dMasks_ok (j := 0) (by simp) hM0 (fun i mk hi => by cases hi) (fun i o hi => absurd hi (Nat.not_lt_zero _))
  have z : ∀ j, Nat.testBit 0 j = true → False := fun j hj => by simp at hj
  have D0 : DP P T cx ops M a h ⟨0, a, .leaf, .leaf, [], [], [], h⟩ (fun _ => .tuple #[]) (fun _ => .leaf) (fun _ => .skip) (fun _ => h) 0 :=
    { hz := rfl
      hm := rfl
      hist := .nil
      kdun := fun _ _ => rfl
      dlt := fun j hj => (z j hj).elim
      down := fun j hj => (z j hj).elim
      wr := fun d j hj => by cases hj
      wr2 := fun j o d hj => (z j hj).elim
      act := fun d => rfl
      all := fun s hs => absurd hs (Nat.not_lt_zero _)
      lvm := fun i => Nat.le_refl _
      monoH := fun s hs => absurd hs (Nat.not_lt_zero _)
      below := fun j i hj => (z j hj).elim
      belowP := fun j i l hk => by cases hk
      lvs := fun i l hk => by cases hk
      pas := fun j o hj => (z j hj).elim
      dfr := fun j o hj => (z j hj).elim
      one := fun j o hj => (z j hj).elim }
  have hn0 : ∀ x ∈ nums ops.toList 0, ops[x.1]? = some x.2 := nums_mem (by simp)
  split at he
  · rename_i σ hσ
    cases hb : Nat.beq σ.dn (Nat.sub (Nat.shiftLeft 1 ops.size) 1)
    · rw [hb, cond_false] at he; cases he
    · rw [hb, cond_true] at he
      simp only [Option.some.injEq, Prod.mk.injEq] at he
      obtain ⟨rfl, rfl⟩ := he
      obtain ⟨v, pa, kd, H, m, D⟩ := dRun_sound ok hM hop D0 hn0 hσ
      exact D.fin ok hmix hM hb hQ
  · split at he
    · rename_i σ hσ
      cases hb : Nat.beq σ.dn (Nat.sub (Nat.shiftLeft 1 ops.size) 1)
      · rw [hb, cond_false] at he; cases he
      · rw [hb, cond_true] at he
        simp only [Option.some.injEq, Prod.mk.injEq] at he
        obtain ⟨rfl, rfl⟩ := he
        obtain ⟨v, pa, kd, H, m, D⟩ := dRun_sound ok hM hop D0 (lateOrd_mem hn0 hn0 fun x hx => by cases hx) hσ
        exact D.fin ok hmix hM hb hQ
    · cases he
end
end Go.Ab.Nx
