/-
  The walk through a region whose order is left open is right. An evaluator of the view, and that it is right. The tables of a program; a closed call by the evaluator. Words for contracts: straight stretches of code by the evaluator's functions, loops by an invariant, calls by contracts.
-/
import Derived.Test.YtimbhgkiohbkdaaGreatAb9
import Derived.ChangeSame
namespace Go.Ab
set_option linter.unusedSimpArgs false
set_option linter.unusedVariables false
theorem testBit_one (k p : Nat) : Nat.testBit (Nat.shiftLeft 1 k) p = decide (p = k) := by
  show Nat.testBit (1 <<< k) p = _
  rw [Nat.one_shiftLeft, Nat.testBit_two_pow]
  exact decide_eq_decide.2 eq_comm
theorem testBit_lor' (a b p : Nat) : Nat.testBit (Nat.lor a b) p = (Nat.testBit a p || Nat.testBit b p) := Nat.testBit_or a b p
section
variable {P : Program} {T : Tr TI} {cx : Cx} {ops : Array Oper} {a0 : Tr Value} {h0 : AHeap}
theorem dMask_known {M : Tr Nat} {j : Nat} {o : Oper} (ho : ops[j]? = some o) (hM : ∀ i mk, M.get i = some mk → ∀ p, Nat.testBit mk p = true → Known ops p i ∧ p < i) : ∀ {es : List Edge} {m mk : Nat}, (∀ e ∈ es, e ∈ o.after) → dMask M j es m = some mk →
    (∀ p, Nat.testBit m p = true → Known ops p j ∧ p < j) → (∀ p, Nat.testBit mk p = true → Known ops p j ∧ p < j) ∧ ∀ e ∈ es, Region.binds .any e = true → e.on < j
  | [], m, mk, _, hd, hm => by simp only [dMask, Option.some.injEq] at hd; subst hd; exact ⟨hm, fun e he => by cases he⟩
  | e :: es, m, mk, hin, hd, hm => by
    simp only [dMask] at hd
    cases hb : Region.binds .any e
    · rw [hb, cond_false] at hd
      obtain ⟨r1, r2⟩ := dMask_known ho hM (fun x hx => hin x (List.mem_cons_of_mem _ hx)) hd hm
      refine ⟨r1, fun x hx hbx => ?_⟩
      cases hx with
      | head => rw [hb] at hbx; cases hbx
      | tail _ hx => exact r2 x hx hbx
    · rw [hb, cond_true] at hd
      cases hl : Nat.ble (e.on + 1) j
      · rw [hl, cond_false] at hd; cases hd
      · rw [hl, cond_true] at hd
        split at hd
        · rename_i k hk
          have hel : e.on < j := Nat.le_of_ble_eq_true hl
          have hk' : ∀ p, Nat.testBit k p = true → Known ops p j ∧ p < j := by
            intro p hp
            refine ⟨fun X hX hE => ?_, by have := (hM _ _ hk p hp).2; omega⟩
            have hXe : X e.on = true := hE o ho e (hin e List.mem_cons_self) hb
            exact (hM _ _ hk p hp).1 X hX (hX _ hXe)
          have he' : Known ops e.on j ∧ e.on < j := ⟨fun X _ hE => hE o ho e (hin e List.mem_cons_self) hb, hel⟩
          obtain ⟨r1, r2⟩ := dMask_known ho hM (fun x hx => hin x (List.mem_cons_of_mem _ hx)) hd (fun p hp => by
            rw [testBit_lor', testBit_lor', testBit_one] at hp
            simp only [Bool.or_eq_true, decide_eq_true_eq] at hp
            rcases hp with (hp | rfl) | hp
            · exact hm p hp
            · exact he'
            · exact hk' p hp)
          refine ⟨r1, fun x hx hbx => ?_⟩
          cases hx with
          | head => exact Nat.le_of_ble_eq_true hl
          | tail _ hx => exact r2 x hx hbx
        · cases hd
theorem dAct_spec {a : Tr Value} {W : Tr Nat} {mk : Nat} : ∀ {nd : List Tmp} {pa0 pa : Tr Value}, dAct a0 a W mk nd pa0 = some pa → ∀ d u, pa.get d = some u →
    pa0.get d = some u ∨ (∃ i, W.get d = some i ∧ Nat.testBit mk i = true ∧ a.get d = some u) ∨ (W.get d = none ∧ a0.get d = some u ∧ d ∈ nd)
  | [], pa0, pa, hd, d, u, hu => by simp only [dAct, Option.some.injEq] at hd; subst hd; exact .inl hu
  | t :: ts, pa0, pa, hd, d, u, hu => by
    simp only [dAct] at hd
    have fin : ∀ {x : Value} {rest}, dAct a0 a W mk ts (pa0.put t (some x)) = some rest → rest = pa → ((∃ i, W.get t = some i ∧ Nat.testBit mk i = true ∧ a.get t = some x) ∨ (W.get t = none ∧ a0.get t = some x)) →
        pa0.get d = some u ∨ (∃ i, W.get d = some i ∧ Nat.testBit mk i = true ∧ a.get d = some u) ∨ (W.get d = none ∧ a0.get d = some u ∧ d ∈ t :: ts) := by
      rintro x rest hr rfl hx
      rcases dAct_spec hr d u hu with h | h | ⟨h1, h2, h3⟩
      · rw [Tr.get_put] at h
        split at h
        · rename_i e; subst e; cases h
          rcases hx with hx | ⟨hx1, hx2⟩
          · exact .inr (.inl hx)
          · exact .inr (.inr ⟨hx1, hx2, List.mem_cons_self⟩)
        · exact .inl h
      · exact .inr (.inl h)
      · exact .inr (.inr ⟨h1, h2, List.mem_cons_of_mem _ h3⟩)
    split at hd
    · rename_i hw
      split at hd
      · rename_i x hx; exact fin hd rfl (.inr ⟨hw, hx⟩)
      · rcases dAct_spec hd d u hu with h | h | ⟨h1, h2, h3⟩
        · exact .inl h
        · exact .inr (.inl h)
        · exact .inr (.inr ⟨h1, h2, List.mem_cons_of_mem _ h3⟩)
    · rename_i i hw
      cases hb : Nat.testBit mk i
      · rw [hb, cond_false] at hd; cases hd
      · rw [hb, cond_true] at hd
        split at hd
        · rename_i x hx; exact fin hd rfl (.inl ⟨i, hw, hb, hx⟩)
        · cases hd
theorem dReads_keeps {W : Tr Nat} {j : Nat} : ∀ (nd : List Tmp) (R : Tr Nat) {d r p : Nat}, R.get d = some r → Nat.testBit r p = true → ∃ r', (dReads W j nd R).get d = some r' ∧ Nat.testBit r' p = true
  | [], R, d, r, p, h1, h2 => ⟨r, h1, h2⟩
  | t :: ts, R, d, r, p, h1, h2 => by
    simp only [dReads]
    split
    · by_cases htd : t = d
      · subst htd
        refine dReads_keeps ts _ (r := Nat.lor r (Nat.shiftLeft 1 j)) ?_ ?_
        · rw [Tr.get_put, if_pos rfl, h1]; rfl
        · rw [testBit_lor', h2]; rfl
      · exact dReads_keeps ts _ (by rw [Tr.get_put, if_neg htd]; exact h1) h2
    · exact dReads_keeps ts _ h1 h2
theorem dReads_new {W : Tr Nat} {j : Nat} : ∀ (nd : List Tmp) (R : Tr Nat) {d : Nat}, d ∈ nd → W.get d = none → ∃ r, (dReads W j nd R).get d = some r ∧ Nat.testBit r j = true
  | [], _, _, hd, _ => absurd hd List.not_mem_nil
  | t :: ts, R, d, hd, hw => by
    simp only [dReads]
    by_cases htd : t = d
    · subst htd
      rw [hw]
      simp only
      refine dReads_keeps ts _ (r := Nat.lor ((R.get t).getD 0) (Nat.shiftLeft 1 j)) (by rw [Tr.get_put, if_pos rfl]) ?_
      rw [testBit_lor', testBit_one]; simp
    · have hd' : d ∈ ts := by
        cases hd with
        | head => exact (htd rfl).elim
        | tail _ h => exact h
      split
      · exact dReads_new ts _ hd' hw
      · exact dReads_new ts _ hd' hw
inductive HistOK (kd : Nat → Kind) (H : Nat → AHeap) (n : Nat) : List (Nat × Bool × AHeap) → Nat → Prop
  | nil : HistOK kd H n [] 0
  | cons {c m : Nat} {l : Bool} {r : List (Nat × Bool × AHeap)} (hc : c < n) (hk : kd c = bif l then .late m else .change m) (t : HistOK kd H n r m) : HistOK kd H n ((c, l, H m) :: r) (m + 1)
theorem bif_no (l : Bool) (m : Nat) : (bif l then Kind.late m else Kind.change m).no = some m := by cases l <;> rfl
noncomputable def KB (M : Tr Nat) (i j : Nat) : Prop := ∃ mk, M.get j = some mk ∧ Nat.testBit mk i = true
noncomputable def KOne (P : Program) (T : Tr TI) (ops : Array Oper) (M : Tr Nat) (n : Nat) (kd : Nat → Kind) (H : Nat → AHeap) (m : Nat) (reads : List (Nat × Oper × Tr Value × Value)) (v : Value) (pa : Tr Value) (j : Nat) (o : Oper) : Prop :=
  match kd j with
  | .skip => aguard ops pa o = some false ∧ v = .tuple #[]
  | .quiet => aguard ops pa o = some true ∧ (∀ t, t ≤ m → May ops (KB M) kd j t → ∃ h', aop P T o (aopnd pa) (H t) = some (v, h') ∧ h' = H t) ∧ ((memKind T o.op = 0 ∧ ∃ y, aop P T o (aopnd pa) y = some (v, y)) ∨ (memKind T o.op = 1 ∧ (j, o, pa, v) ∈ reads))
  | .change s => (aguard ops pa o = some true ∧ OpWp P o (aopnd pa) (H s) (fun u h' => u = v ∧ h' = H (s + 1)) ∧ ∀ i s', i < n → (kd i).no = some s' → s' < s → Known ops i j) ∧ s < m ∧ (∀ i, i < n → (kd i).no = some s → i = j)
  | .late s => (aguard ops pa o = some true ∧ ∃ rv ob, NewV rv ∧ v = rv (H s).next ∧ H (s + 1) = (H s).new ob ∧ ob.own = true ∧ (∀ (μ : Emb) (n : Nat) (ρ' : Operand → Value), OpRel μ n (aopnd pa) ρ' → BO n ob) ∧ ∀ h, aop P T o (aopnd pa) h = some (rv h.next, h.new ob)) ∧ s < m ∧ (∀ i, i < n → (kd i).no = some s → i = j)
theorem KOne.at {M : Tr Nat} {n : Nat} {kd : Nat → Kind} {H : Nat → AHeap} {m : Nat} {reads : List (Nat × Oper × Tr Value × Value)} {v : Value} {pa : Tr Value} {j : Nat} {o : Oper} (h : KOne P T ops M n kd H m reads v pa j o) {s : Nat} (hs : (kd j).no = some s) : s < m ∧ ∀ i, i < n → (kd i).no = some s → i = j := by
  unfold KOne at h
  cases hk : kd j with
  | skip => rw [hk] at hs; cases hs
  | quiet => rw [hk] at hs; cases hs
  | change s' => rw [hk] at hs h; cases hs; exact h.2
  | late s' => rw [hk] at hs h; cases hs; exact h.2
structure DP (P : Program) (T : Tr TI) (cx : Cx) (ops : Array Oper) (a0 : Tr Value) (h0 : AHeap) (σ : DSt) (v : Nat → Value) (pa : Nat → Tr Value) (kd : Nat → Kind) (H : Nat → AHeap) (m : Nat) : Prop where
  hz : H 0 = h0
  hm : H m = σ.h
  hist : HistOK kd H σ.i σ.hist m
  kdge : ∀ j, σ.i ≤ j → kd j = .skip
  mask : ∀ j mk, σ.M.get j = some mk → ∀ p, Nat.testBit mk p = true → Known ops p j ∧ p < j
  back : ∀ (j : Nat) (o : Oper), j < σ.i → ops[j]? = some o → ∀ e ∈ o.after, Region.binds .any e = true → e.on < j
  wr : ∀ d j, σ.W.get d = some j → j < σ.i ∧ ∃ o, ops[j]? = some o ∧ o.dst = some d
  wr2 : ∀ (j : Nat) (o : Oper) (d : Tmp), j < σ.i → ops[j]? = some o → o.dst = some d → σ.W.get d = some j ∧ d < cx.nt
  act : ∀ d, σ.a.get d = match σ.W.get d with | some j => some (v j) | none => a0.get d
  all : ∀ s, s < m → ∃ i, i < σ.i ∧ (kd i).no = some s
  below : ∀ j i s, j < σ.i → i < σ.i → kd i = .late s → KB σ.M i j → ∀ i' s', i' < σ.i → (kd i').no = some s' → s' < s → KB σ.M i' j
  mget : ∀ j mk, σ.M.get j = some mk → j < σ.i
  pas : ∀ (j : Nat) (o : Oper), j < σ.i → ops[j]? = some o → ∀ d u, (pa j).get d = some u → (∃ i p, ops[i]? = some p ∧ p.dst = some d ∧ KB σ.M i j ∧ u = v i ∧ i < σ.i) ∨
    (a0.get d = some u ∧ (∃ r, σ.R.get d = some r ∧ Nat.testBit r j = true) ∧ ∀ (i : Nat) (p : Oper), i < σ.i → ops[i]? = some p → p.dst = some d → i = j ∨ Known ops j i)
  dfr : ∀ (j : Nat) (o : Oper), j < σ.i → ops[j]? = some o → isDefer o.op = false
  one : ∀ (j : Nat) (o : Oper), j < σ.i → ops[j]? = some o → KOne P T ops σ.M σ.i kd H m σ.reads (v j) (pa j) j o
noncomputable def ups {α : Type} (f : Nat → α) (n : Nat) (x : α) : Nat → α := fun i => if i = n then x else f i
theorem ups_same {α : Type} (f : Nat → α) (n : Nat) (x : α) : ups f n x n = x := by simp [ups]
theorem ups_ne {α : Type} (f : Nat → α) {n i : Nat} (x : α) (h : i ≠ n) : ups f n x i = f i := by simp [ups, h]
theorem dAll_bit {kd : Nat → Kind} {H : Nat → AHeap} {n mk : Nat} : ∀ {l : List (Nat × Bool × AHeap)} {m : Nat}, HistOK kd H n l m → dAll mk l = true → ∀ s, s < m → ∃ c, c < n ∧ (kd c).no = some s ∧ Nat.testBit mk c = true
  | _, _, .nil, _, s, hs => by omega
  | _, _, .cons (c := c) (m := m) (l := l) hc hk t, hd, s, hs => by
    simp only [dAll, Bool.and_eq_true] at hd
    by_cases e : s = m
    · subst e; exact ⟨c, hc, by rw [hk]; exact bif_no l s, hd.1⟩
    · exact dAll_bit t hd.2 s (by omega)
theorem dBelow_bit {kd : Nat → Kind} {H : Nat → AHeap} {n mk : Nat} : ∀ {l : List (Nat × Bool × AHeap)} {m : Nat}, HistOK kd H n l m → dBelow mk l = true → ∀ i s, i < n → kd i = .late s → s < m → (∀ c, c < n → (kd c).no = some s → c = i) → Nat.testBit mk i = true → ∀ s', s' < s → ∃ c, c < n ∧ (kd c).no = some s' ∧ Nat.testBit mk c = true
  | _, _, .nil, _, i, s, _, _, hs, _, _, _, _ => by omega
  | _, _, .cons (c := c) (m := m) (l := l) hc hk t, hd, i, s, hi, hks, hs, hu, hb, s', hlt => by
    simp only [dBelow, Bool.and_eq_true] at hd
    by_cases e : s = m
    · subst e
      have hci : c = i := hu c hc (by rw [hk]; exact bif_no l s)
      subst hci
      have hl : l = true := by
        cases l with
        | true => rfl
        | false => rw [hk] at hks; cases hks
      subst hl
      rw [hb] at hd
      exact dAll_bit t (by simpa using hd.1) s' hlt
    · exact dBelow_bit t hd.2 i s hi hks (by omega) hu hb s' hlt
theorem below_bit {σ : DSt} {v : Nat → Value} {pa : Nat → Tr Value} {kd : Nat → Kind} {H : Nat → AHeap} {m : Nat} (D : DP P T cx ops a0 h0 σ v pa kd H m) (hle : σ.i ≤ ops.size) {mk : Nat} (hbel : dBelow mk σ.hist = true) {i s : Nat} (hi : i < σ.i) (hks : kd i = .late s) (hb : Nat.testBit mk i = true) {i' s' : Nat} (hi' : i' < σ.i) (hs' : (kd i').no = some s') (hlt : s' < s) : Nat.testBit mk i' = true := by
  have h1 := (D.one i _ hi (Array.getElem?_eq_getElem (by omega))).at (s := s) (by rw [hks]; rfl)
  have h2 := (D.one i' _ hi' (Array.getElem?_eq_getElem (by omega))).at hs'
  obtain ⟨c, g1, g2, g3⟩ := dBelow_bit D.hist hbel i s hi hks h1.1 h1.2 hb s' hlt
  have := h2.2 c g1 g2
  subst this; exact g3
theorem DP.add {σ : DSt} {v : Nat → Value} {pa : Nat → Tr Value} {kd : Nat → Kind} {H : Nat → AHeap} {m : Nat} (D : DP P T cx ops a0 h0 σ v pa kd H m) {o : Oper} (ho : ops[σ.i]? = some o) {mk : Nat} (hmk : dMask σ.M σ.i o.after.toList 0 = some mk)
    {pn : Tr Value} (hpn : dAct a0 σ.a σ.W mk (needs ops o) .leaf = some pn) (hdst : dDst cx.nt σ.W (dReads σ.W σ.i (needs ops o) σ.R) σ.i mk o.dst = true) (hdf : isDefer o.op = false)
    (val : Value) (kn : Kind) {hist' : List (Nat × Bool × AHeap)} {reads' : List (Nat × Oper × Tr Value × Value)} {h' : AHeap} {m' : Nat} {H' : Nat → AHeap} (hz' : H' 0 = h0) (hm' : H' m' = h')
    (hhist : HistOK (ups kd σ.i kn) H' (σ.i + 1) hist' m') (hall : ∀ s, s < m' → ∃ i, i < σ.i + 1 ∧ (ups kd σ.i kn i).no = some s) (hbel : dBelow mk σ.hist = true) (hkn : ∀ s, kn.no = some s → m ≤ s)
    (hnew : KOne P T ops (σ.M.put σ.i (some mk)) (σ.i + 1) (ups kd σ.i kn) H' m' reads' val pn σ.i o)
    (hold : ∀ (j : Nat) (p : Oper), j < σ.i → ops[j]? = some p → KOne P T ops σ.M σ.i kd H m σ.reads (v j) (pa j) j p → KOne P T ops (σ.M.put σ.i (some mk)) (σ.i + 1) (ups kd σ.i kn) H' m' reads' (v j) (pa j) j p) :
    DP P T cx ops a0 h0 (dFin σ o (needs ops o) mk val hist' reads' h') (ups v σ.i val) (ups pa σ.i pn) (ups kd σ.i kn) H' m' := by
  obtain ⟨km, kb⟩ := dMask_known ho D.mask (fun e he => by simpa using he) hmk (fun p hp => by simp at hp)
  -- the slot is written for the first time
  have hfresh : ∀ d, o.dst = some d → d < cx.nt ∧ σ.W.get d = none ∧ ∀ r, (dReads σ.W σ.i (needs ops o) σ.R).get d = some r → ∀ j, Nat.testBit r j = true → j = σ.i ∨ Known ops j σ.i := by
    intro d hd
    rw [hd] at hdst
    simp only [dDst, Bool.and_eq_true] at hdst
    obtain ⟨d1, d2, d3⟩ := hdst
    refine ⟨Nat.le_of_ble_eq_true d1, by simpa using d2, fun r hr j hj => ?_⟩
    rw [hr] at d3
    simp only at d3
    have e := Nat.eq_of_beq_eq_true d3
    have hb : Nat.testBit (Nat.lor mk (Nat.shiftLeft 1 σ.i)) j = true := by rw [← e, testBit_lor', hj]; rfl
    rw [testBit_lor', testBit_one] at hb
    simp only [Bool.or_eq_true, decide_eq_true_eq] at hb
    rcases hb with hb | hb
    · exact .inr (km j hb).1
    · exact .inl hb
  have hW : ∀ d, (dFin σ o (needs ops o) mk val hist' reads' h').W.get d = if o.dst = some d then some σ.i else σ.W.get d := by
    intro d
    simp only [dFin]
    cases hd : o.dst with
    | none => simp
    | some d' =>
      rw [Tr.get_put]
      by_cases e : d' = d
      · simp [e]
      · simp [e]
  refine ⟨hz', hm', hhist, fun j hj => ?_, fun j mk' hj p hp => ?_, fun j p hj hp => ?_, fun d j hj => ?_, fun j p d hj hp hd => ?_, fun d => ?_, hall, fun j i s hj hi hks hkb i' s' hi' hs' hlt => ?_, fun j mk' hj => ?_, fun j p hj hp d u hu => ?_, fun j p hj hp => ?_, fun j p hj hp => ?_⟩
  · have hj' : σ.i + 1 ≤ j := hj
    rw [ups_ne _ _ (by omega)]; exact D.kdge j (by omega)
  · simp only [dFin] at hj
    rw [Tr.get_put] at hj
    split at hj
    · rename_i e; subst e; cases hj; exact km p hp
    · exact D.mask j mk' hj p hp
  · have hj' : j < σ.i + 1 := hj
    by_cases e : j = σ.i
    · subst e; rw [ho] at hp; cases hp
      intro e he hb
      exact kb e (by simpa using he) hb
    · exact D.back j p (by omega) hp
  · rw [hW] at hj
    split at hj
    · rename_i e; cases hj; exact ⟨Nat.lt_succ_self _, o, ho, e⟩
    · obtain ⟨h1, h2⟩ := D.wr d j hj; exact ⟨Nat.lt_succ_of_lt h1, h2⟩
  · have hj' : j < σ.i + 1 := hj
    rw [hW]
    by_cases e : j = σ.i
    · subst e; rw [ho] at hp; cases hp
      exact ⟨by rw [if_pos hd], (hfresh d hd).1⟩
    · obtain ⟨h1, h2⟩ := D.wr2 j p d (by omega) hp hd
      refine ⟨?_, h2⟩
      rw [if_neg, h1]
      intro ho2
      have := (hfresh d ho2).2.1
      rw [h1] at this; cases this
  · rw [hW]
    simp only [dFin]
    cases hd : o.dst with
    | none =>
      simp only [reduceCtorEq, if_false]
      rw [D.act d]
      split
      · rename_i j hj
        have := (D.wr d j hj).1
        rw [ups_ne _ _ (by omega)]
      · rfl
    | some d' =>
      rw [Tr.get_put]
      by_cases e : d' = d
      · subst e; simp [ups_same]
      · rw [if_neg e, if_neg (by simpa using e), D.act d]
        split
        · rename_i j hj
          have := (D.wr d j hj).1
          rw [ups_ne _ _ (by omega)]
        · rfl
  · have hj' : j < σ.i + 1 := hj
    have hi1 : i < σ.i + 1 := hi
    have hi2 : i' < σ.i + 1 := hi'
    show KB (σ.M.put σ.i (some mk)) i' j
    have hkb : KB (σ.M.put σ.i (some mk)) i j := hkb
    by_cases e : j = σ.i
    · subst e
      refine ⟨mk, Tr.get_put_same _ _ _, ?_⟩
      obtain ⟨mk2, h1, h2⟩ := hkb
      rw [Tr.get_put_same] at h1; cases h1
      have hil : i < σ.i := (km i h2).2
      rw [ups_ne _ _ (by omega)] at hks
      have hsm := ((D.one i _ hil (Array.getElem?_eq_getElem (by have := (Array.getElem?_eq_some_iff.1 ho).1; omega))).at (by rw [hks]; rfl)).1
      by_cases e2 : i' = σ.i
      · subst e2
        rw [ups_same] at hs'
        have := hkn s' hs'; omega
      · rw [ups_ne _ _ e2] at hs'
        exact below_bit D (by have := (Array.getElem?_eq_some_iff.1 ho).1; omega) hbel hil hks h2 (by omega) hs' hlt
    · obtain ⟨mk2, h1, h2⟩ := hkb
      rw [Tr.get_put, if_neg (Ne.symm e)] at h1
      have hij := (D.mask j mk2 h1 i h2).2
      rw [ups_ne _ _ (by omega)] at hks
      have hsm := ((D.one i _ (by omega) (Array.getElem?_eq_getElem (by have := (Array.getElem?_eq_some_iff.1 ho).1; omega))).at (by rw [hks]; rfl)).1
      by_cases e2 : i' = σ.i
      · subst e2
        rw [ups_same] at hs'
        have := hkn s' hs'; omega
      · rw [ups_ne _ _ e2] at hs'
        obtain ⟨mk3, g1, g2⟩ := D.below j i s (by omega) (by omega) hks ⟨mk2, h1, h2⟩ i' s' (by omega) hs' hlt
        exact ⟨mk3, by rw [Tr.get_put, if_neg (Ne.symm e)]; exact g1, g2⟩
  · simp only [dFin] at hj ⊢
    rw [Tr.get_put] at hj
    split at hj
    · rename_i e; omega
    · have := D.mget j mk' hj; omega
  · have hj' : j < σ.i + 1 := hj
    by_cases e : j = σ.i
    · subst e
      rw [ups_same] at hu
      rcases dAct_spec hpn d u hu with h | ⟨i, h1, h2, h3⟩ | ⟨h1, h2, h3⟩
      · first | cases h | (rw [Tr.get_leaf] at h; cases h)
      · obtain ⟨g1, p', g2, g3⟩ := D.wr d i h1
        refine .inl ⟨i, p', g2, g3, ⟨mk, Tr.get_put_same _ _ _, h2⟩, ?_, Nat.lt_succ_of_lt g1⟩
        rw [D.act d, h1] at h3
        simp only [Option.some.injEq] at h3
        rw [ups_ne _ _ (by omega)]; exact h3.symm
      · refine .inr ⟨h2, dReads_new _ _ h3 h1, fun i p' hi hp' hd' => ?_⟩
        have hi' : i < σ.i + 1 := hi
        by_cases e2 : i = σ.i
        · exact .inl e2
        · have := (D.wr2 i p' d (by omega) hp' hd').1
          rw [h1] at this; cases this
    · rw [ups_ne _ _ e] at hu
      rcases D.pas j p (by omega) hp d u hu with ⟨i, p', g1, g2, g3, g4, g5⟩ | ⟨g1, ⟨r, g2, g3⟩, g4⟩
      · exact .inl ⟨i, p', g1, g2, by obtain ⟨mk2, q1, q2⟩ := g3; exact ⟨mk2, by simp only [dFin]; rw [Tr.get_put, if_neg (Ne.symm e)]; exact q1, q2⟩, by rw [ups_ne _ _ (by omega)]; exact g4, Nat.lt_succ_of_lt g5⟩
      · obtain ⟨r', g5, g6⟩ := dReads_keeps (W := σ.W) (j := σ.i) (needs ops o) σ.R g2 g3
        refine .inr ⟨g1, ⟨r', g5, g6⟩, fun i p' hi hp' hd' => ?_⟩
        have hi' : i < σ.i + 1 := hi
        by_cases e2 : i = σ.i
        · subst e2
          rw [ho] at hp'; cases hp'
          rcases (hfresh d hd').2.2 r' g5 j g6 with h | h
          · exact (e h).elim
          · exact .inr h
        · exact g4 i p' (by omega) hp' hd'
  · have hj' : j < σ.i + 1 := hj
    by_cases e : j = σ.i
    · subst e; rw [ho] at hp; cases hp; exact hdf
    · exact D.dfr j p (by omega) hp
  · have hj' : j < σ.i + 1 := hj
    by_cases e : j = σ.i
    · subst e; rw [ho] at hp; cases hp; rw [ups_same, ups_same]; exact hnew
    · rw [ups_ne _ _ e, ups_ne _ _ e]; exact hold j p (by omega) hp (D.one j p (by omega) hp)
theorem HistOK.mono {kd : Nat → Kind} {H : Nat → AHeap} {n : Nat} (kn : Kind) {H' : Nat → AHeap} : ∀ {l : List (Nat × Bool × AHeap)} {m : Nat}, HistOK kd H n l m → (∀ t, t < m → H' t = H t) → HistOK (ups kd n kn) H' (n + 1) l m
  | _, _, .nil, _ => .nil
  | _, _, .cons (m := m) hc hk t, hh => by
    rw [← hh m (by omega)]
    exact .cons (by omega) (by rw [ups_ne _ _ (by omega)]; exact hk) (t.mono kn fun s hs => hh s (by omega))
theorem kb_put {M : Tr Nat} {n mk i j : Nat} (hj : j ≠ n) : KB (M.put n (some mk)) i j ↔ KB M i j := by
  unfold KB; rw [Tr.get_put, if_neg (Ne.symm hj)]
theorem may_less {M : Tr Nat} {kd : Nat → Kind} {n mk j t : Nat} {kn : Kind} (hj : j < n) (hk : kd n = .skip) (h : May ops (KB (M.put n (some mk))) (ups kd n kn) j t) (hM : ∀ i mk', M.get i = some mk' → i < n) : May ops (KB M) kd j t := by
  refine ⟨fun i s hi hs hkb => h.1 i s hi ?_ ((kb_put (by omega)).2 hkb), fun i s hi hs hkb => h.2 i s hi ?_ ((kb_put ?_).2 hkb)⟩
  · rw [ups_ne _ _ (fun e => by subst e; rw [hk] at hs; cases hs)]; exact hs
  · rw [ups_ne _ _ (fun e => by subst e; rw [hk] at hs; cases hs)]; exact hs
  · obtain ⟨mk', h1, _⟩ := hkb
    have := hM i mk' h1; omega
theorem kone_keep {n' : Nat} {M : Tr Nat} {mk : Nat} (hM : ∀ i mk', M.get i = some mk' → i < n') {kd : Nat → Kind} {kn : Kind} (hkn : kn.no = none) (hk : kd n' = .skip) {H : Nat → AHeap} {m : Nat} {reads reads' : List (Nat × Oper × Tr Value × Value)} (hr : ∀ x ∈ reads, x ∈ reads') {v : Value} {pa : Tr Value} {j : Nat} {o : Oper} (hj : j < n')
    (h : KOne P T ops M n' kd H m reads v pa j o) : KOne P T ops (M.put n' (some mk)) (n' + 1) (ups kd n' kn) H m reads' v pa j o := by
  have old : ∀ i s, i < n' + 1 → (ups kd n' kn i).no = some s → i < n' ∧ (kd i).no = some s := by
    intro i s hi hs
    by_cases e : i = n'
    · subst e; rw [ups_same, hkn] at hs; cases hs
    · rw [ups_ne _ _ e] at hs; exact ⟨by omega, hs⟩
  unfold KOne at h ⊢
  rw [ups_ne _ _ (by omega)]
  cases hkd : kd j with
  | skip => rw [hkd] at h; exact h
  | quiet =>
    rw [hkd] at h
    obtain ⟨h1, h2, h3⟩ := h
    exact ⟨h1, fun t ht hm => h2 t ht (may_less hj hk hm hM), h3.imp id fun ⟨a, b⟩ => ⟨a, hr _ b⟩⟩
  | change s =>
    rw [hkd] at h
    obtain ⟨⟨h1, h2, h3⟩, h4, h5⟩ := h
    exact ⟨⟨h1, h2, fun i s' hi hs' hlt => h3 i s' (old i s' hi hs').1 (old i s' hi hs').2 hlt⟩, h4, fun i hi he => h5 i (old i s hi he).1 (old i s hi he).2⟩
  | late s =>
    rw [hkd] at h
    obtain ⟨h1, h4, h5⟩ := h
    exact ⟨h1, h4, fun i hi he => h5 i (old i s hi he).1 (old i s hi he).2⟩
theorem sameAt_eq {o : Oper} {pa : Tr Value} {v : Value} {h : AHeap} (hk : memKind T o.op = 1) (hs : sameAt P T o pa v h = true) : aop P T o (aopnd pa) h = some (v, h) := by
  unfold sameAt at hs
  split at hs
  · rename_i u h' ha
    have e1 := veq_eq hs
    have e2 := aop_read hk ha
    rw [ha, e1, e2]
  · cases hs
theorem dHist_all {K : Nat → Nat → Prop} {kd : Nat → Kind} {H : Nat → AHeap} {n mk j : Nat} {o : Oper} {pa : Tr Value} {v : Value} (hk : memKind T o.op = 1) (hn : n ≤ ops.size) (hmk : ∀ p, Nat.testBit mk p = true → K p j) :
    ∀ {l : List (Nat × Bool × AHeap)} {m : Nat}, HistOK kd H n l m → dHist P T o pa v mk l = true → ∀ t, t < m → May ops K kd j t → aop P T o (aopnd pa) (H t) = some (v, H t)
  | _, _, .nil, _, t, ht, _ => by omega
  | _, _, .cons (c := c) (m := m) (l := l) hc hkc hr, hd, t, ht, hmay => by
    simp only [dHist, Bool.or_eq_true, Bool.and_eq_true] at hd
    rcases hd with hd | ⟨hd1, hd2⟩
    · have := hmay.1 c m (by omega) (by rw [hkc]; exact bif_no l m) (hmk c hd)
      omega
    · by_cases e : t = m
      · subst e; exact sameAt_eq hk hd1
      · exact dHist_all hk hn hmk hr hd2 t (by omega) hmay
theorem dStep_sound (ok : TyOK P T) {op : Oper → (Operand → Option Value) → AHeap → Option (Value × AHeap)} (hop : ∀ o ρ h u h', op o ρ h = some (u, h') → OpWp P o ρ h fun x y => x = u ∧ y = h') {σ σ' : DSt} {v : Nat → Value} {pa : Nat → Tr Value} {kd : Nat → Kind} {H : Nat → AHeap} {m : Nat}
    (D : DP P T cx ops a0 h0 σ v pa kd H m) {o : Oper} (ho : ops[σ.i]? = some o) (hs : dStep P T op ops cx.nt a0 σ o = some σ') : σ'.i = σ.i + 1 ∧ ∃ v' pa' kd' H' m', DP P T cx ops a0 h0 σ' v' pa' kd' H' m' := by
  have hil : σ.i < ops.size := (Array.getElem?_eq_some_iff.1 ho).1
  have hks : kd σ.i = .skip := D.kdge _ (Nat.le_refl _)
  unfold dStep at hs
  split at hs
  · cases hs
  · rename_i mk hmk
    split at hs
    · cases hs
    · rename_i pn hpn
      cases hb : (dDst cx.nt σ.W (dReads σ.W σ.i (needs ops o) σ.R) σ.i mk o.dst && !isDefer o.op) && dBelow mk σ.hist
      · rw [hb, cond_false] at hs; cases hs
      · rw [hb, cond_true] at hs
        simp only [Bool.and_eq_true, Bool.not_eq_true'] at hb
        obtain ⟨⟨hdst, hdf⟩, hbel⟩ := hb
        have km := (dMask_known ho D.mask (fun e he => by simpa using he) hmk (fun p hp => by simp at hp)).1
        have kbn : ∀ p, Nat.testBit mk p = true → KB (σ.M.put σ.i (some mk)) p σ.i := fun p hp => ⟨mk, Tr.get_put_same _ _ _, hp⟩
        have allk : ∀ kn, (∀ s, s < m → ∃ i, i < σ.i + 1 ∧ (ups kd σ.i kn i).no = some s) := by
          intro kn s hs
          obtain ⟨i, h1, h2⟩ := D.all s hs
          exact ⟨i, by omega, by rw [ups_ne _ _ (by omega)]; exact h2⟩
        have lts : ∀ i s, i < σ.i → (kd i).no = some s → s < m := fun i s hi hs' => ((D.one i _ hi (Array.getElem?_eq_getElem (by omega))).at hs').1
        -- one more change, plain or late
        have change : ∀ (u : Value) (h' : AHeap) (l : Bool), σ.reads.all (fun x => Nat.testBit mk x.1 || sameAt P T x.2.1 x.2.2.1 x.2.2.2 h') = true →
            KOne P T ops (σ.M.put σ.i (some mk)) (σ.i + 1) (ups kd σ.i (bif l then .late m else .change m)) (ups H (m + 1) h') (m + 1) σ.reads u pn σ.i o →
            ∃ v' pa' kd' H' m', DP P T cx ops a0 h0 (dFin σ o (needs ops o) mk u ((σ.i, l, σ.h) :: σ.hist) σ.reads h') v' pa' kd' H' m' := by
          intro u h' l hrd hnew
          have hHle : ∀ t, t ≤ m → ups H (m + 1) h' t = H t := fun t ht => ups_ne _ _ (by omega)
          refine ⟨_, _, _, ups H (m + 1) h', m + 1, D.add ho hmk hpn hdst hdf u (bif l then .late m else .change m) (by rw [hHle 0 (by omega)]; exact D.hz) (ups_same _ _ _) ?_ ?_ hbel (fun s hs => by rw [bif_no] at hs; cases hs; exact Nat.le_refl _) hnew ?_⟩
          · have := HistOK.cons (kd := ups kd σ.i (bif l then .late m else .change m)) (H := ups H (m + 1) h') (n := σ.i + 1) (l := l) (Nat.lt_succ_self σ.i) (ups_same _ _ _) (D.hist.mono (bif l then .late m else .change m) (H' := ups H (m + 1) h') fun t ht => hHle t (by omega))
            rw [hHle m (Nat.le_refl _), D.hm] at this
            exact this
          · intro s hs
            by_cases e : s = m
            · exact ⟨σ.i, by omega, by rw [ups_same, e]; exact bif_no l m⟩
            · exact allk _ s (by omega)
          · intro j p hj hp hk
            have old : ∀ i s, i < σ.i + 1 → s < m → (ups kd σ.i (bif l then .late m else .change m) i).no = some s → i < σ.i ∧ (kd i).no = some s := by
              intro i s hi hsm hs
              by_cases e : i = σ.i
              · subst e; rw [ups_same, bif_no] at hs; cases hs; omega
              · rw [ups_ne _ _ e] at hs; exact ⟨by omega, hs⟩
            unfold KOne at hk ⊢
            rw [ups_ne _ _ (by omega)]
            cases hkd : kd j with
            | skip => rw [hkd] at hk; exact hk
            | quiet =>
              rw [hkd] at hk
              obtain ⟨k1, k2, k3⟩ := hk
              refine ⟨k1, fun t ht hmay => ?_, k3⟩
              have hmay0 := may_less hj hks hmay D.mget
              by_cases e : t = m + 1
              · subst e
                rw [ups_same]
                rcases k3 with ⟨k3, y, hy⟩ | ⟨k3, k4⟩
                · exact ⟨h', (aop_free k3 hy).2 _, rfl⟩
                · have := List.all_eq_true.1 hrd _ k4
                  simp only [Bool.or_eq_true] at this
                  rcases this with this | this
                  · have := hmay.2 σ.i m hil (by rw [ups_same]; exact bif_no l m) (kbn j this)
                    omega
                  · exact ⟨_, sameAt_eq k3 this, rfl⟩
              · rw [hHle t (by omega)]; exact k2 t (by omega) hmay0
            | change s =>
              rw [hkd] at hk
              obtain ⟨⟨k1, k2, k3⟩, k4, k5⟩ := hk
              refine ⟨⟨k1, ?_, fun i s' hi hs' hlt => k3 i s' (old i s' hi (by omega) hs').1 (old i s' hi (by omega) hs').2 hlt⟩, by omega, fun i hi he => k5 i (old i s hi k4 he).1 (old i s hi k4 he).2⟩
              rw [hHle s (by omega), hHle (s + 1) (by omega)]; exact k2
            | late s =>
              rw [hkd] at hk
              obtain ⟨⟨k1, rv, ob, q1, q2, q3, q4⟩, k4, k5⟩ := hk
              refine ⟨⟨k1, rv, ob, q1, by rw [hHle s (by omega)]; exact q2, by rw [hHle s (by omega), hHle (s + 1) (by omega)]; exact q3, q4⟩, by omega, fun i hi he => k5 i (old i s hi k4 he).1 (old i s hi k4 he).2⟩
        have uq : ∀ (kn : Kind), ∀ i, i < σ.i + 1 → (ups kd σ.i kn i).no = some m → i = σ.i := by
          intro kn i hi he
          by_cases e : i = σ.i
          · exact e
          · rw [ups_ne _ _ e] at he
            have := lts i m (by omega) he
            omega
        split at hs
        · cases hs
        · rename_i hg
          cases hs
          refine ⟨rfl, _, _, _, H, m, D.add ho hmk hpn hdst hdf (.tuple #[]) .skip D.hz D.hm (D.hist.mono _ fun _ _ => rfl) (allk _) hbel (fun s hs => by cases hs) ?_ (fun j p hj hp hk => kone_keep D.mget rfl hks (fun _ h => h) hj hk)⟩
          unfold KOne; rw [ups_same]; exact ⟨hg, rfl⟩
        · rename_i hg
          split at hs
          · rename_i hk0
            split at hs
            · rename_i u hx ha
              cases hs
              obtain ⟨e1, e2⟩ := aop_free hk0 ha
              refine ⟨rfl, _, _, _, H, m, D.add ho hmk hpn hdst hdf u .quiet D.hz D.hm (D.hist.mono _ fun _ _ => rfl) (allk _) hbel (fun s hs => by cases hs) ?_ (fun j p hj hp hk => kone_keep D.mget rfl hks (fun _ h => h) hj hk)⟩
              unfold KOne; rw [ups_same]
              exact ⟨hg, fun t _ _ => ⟨H t, e2 _, rfl⟩, .inl ⟨hk0, _, e2 σ.h⟩⟩
            · cases hs
          · rename_i hk1
            split at hs
            · rename_i u hx ha
              cases hdh : dHist P T o pn u mk σ.hist
              · rw [hdh, cond_false] at hs; cases hs
              · rw [hdh, cond_true] at hs
                cases hs
                have e1 := aop_read hk1 ha
                subst e1
                refine ⟨rfl, _, _, _, H, m, D.add ho hmk hpn hdst hdf u .quiet D.hz D.hm (D.hist.mono _ fun _ _ => rfl) (allk _) hbel (fun s hs => by cases hs) ?_ (fun j p hj hp hk => kone_keep D.mget rfl hks (fun _ h => List.mem_cons_of_mem _ h) hj hk)⟩
                unfold KOne; rw [ups_same]
                refine ⟨hg, fun t ht hmay => ?_, .inr ⟨hk1, List.mem_cons_self⟩⟩
                by_cases e : t = m
                · subst e; rw [D.hm]; exact ⟨_, ha, rfl⟩
                · exact ⟨_, dHist_all hk1 (Nat.succ_le_of_lt hil) kbn (D.hist.mono .quiet fun _ _ => rfl) hdh t (by omega) hmay, rfl⟩
            · cases hs
          · cases hch : dAll mk σ.hist
            rotate_left
            · rw [hch, cond_true] at hs
              · split at hs
                · rename_i u h' ha
                  cases hrd : σ.reads.all (fun x => Nat.testBit mk x.1 || sameAt P T x.2.1 x.2.2.1 x.2.2.2 h')
                  · rw [hrd, cond_false] at hs; cases hs
                  · rw [hrd, cond_true] at hs
                    cases hs
                    refine ⟨rfl, change u h' false hrd ?_⟩
                    unfold KOne; rw [ups_same]
                    simp only [cond_false]
                    refine ⟨⟨hg, ?_, fun i s' hi hs' hlt => ?_⟩, by omega, uq _⟩
                    · rw [ups_ne _ _ (by omega), ups_same, D.hm]; exact hop _ _ _ _ _ ha
                    · have hi' : i < σ.i := by
                        by_cases e : i = σ.i
                        · subst e; rw [ups_same] at hs'; cases hs'; omega
                        · omega
                      rw [ups_ne _ _ (by omega)] at hs'
                      obtain ⟨c, g1, g2, g3⟩ := dAll_bit D.hist hch s' hlt
                      have := ((D.one i _ hi' (Array.getElem?_eq_getElem (by omega))).at hs').2 c g1 g2
                      subst this; exact (km c g3).1
                · cases hs
            · rw [hch, cond_false] at hs
              cases hnw : isNew o.op
              · rw [hnw, cond_false] at hs; cases hs
              rw [hnw, cond_true] at hs
              split at hs
              · rename_i u h' ha
                cases hrd : σ.reads.all (fun x => Nat.testBit mk x.1 || sameAt P T x.2.1 x.2.2.1 x.2.2.2 h')
                · rw [hrd, cond_false] at hs; cases hs
                · rw [hrd, cond_true] at hs
                  cases hs
                  refine ⟨rfl, change u h' true hrd ?_⟩
                  obtain ⟨rv, ob, n1, n2, n3, n4, n5, n6⟩ := aop_new hnw ha
                  unfold KOne; rw [ups_same]
                  simp only [cond_true]
                  refine ⟨⟨hg, rv, ob, n1, ?_, ?_, n4, n6, n5⟩, by omega, uq _⟩
                  · rw [ups_ne _ _ (by omega), D.hm]; exact n2
                  · rw [ups_same, ups_ne H h' (show m ≠ m + 1 by omega), D.hm]; exact n3
              · cases hs
end
end Go.Ab
namespace Go.Ab
set_option linter.unusedSimpArgs false
set_option linter.unusedVariables false
section
variable {P : Program} {T : Tr TI} {cx : Cx} {ops : Array Oper} {a0 : Tr Value} {h0 : AHeap}
theorem dRun_sound (ok : TyOK P T) {op : Oper → (Operand → Option Value) → AHeap → Option (Value × AHeap)} (hop : ∀ o ρ h u h', op o ρ h = some (u, h') → OpWp P o ρ h fun x y => x = u ∧ y = h') :
    ∀ {os : List Oper} {σ σ' : DSt} {v : Nat → Value} {pa : Nat → Tr Value} {kd : Nat → Kind} {H : Nat → AHeap} {m : Nat}, DP P T cx ops a0 h0 σ v pa kd H m → ops.toList.drop σ.i = os → dRun P T op ops cx.nt a0 os σ = some σ' →
      σ'.i = σ.i + os.length ∧ ∃ v' pa' kd' H' m', DP P T cx ops a0 h0 σ' v' pa' kd' H' m'
  | [], σ, σ', v, pa, kd, H, m, D, _, hr => by simp only [dRun, Option.some.injEq] at hr; subst hr; exact ⟨by simp, v, pa, kd, H, m, D⟩
  | o :: os, σ, σ', v, pa, kd, H, m, D, hd, hr => by
    simp only [dRun] at hr
    split at hr
    · rename_i σ1 h1
      have ho : ops[σ.i]? = some o := by
        rw [← Array.getElem?_toList]
        have := congrArg (fun l : List Oper => l[0]?) hd
        simpa using this
      obtain ⟨e1, v1, pa1, kd1, H1, m1, D1⟩ := dStep_sound ok hop D ho h1
      have hd1 : ops.toList.drop σ1.i = os := by
        rw [e1, ← List.drop_drop, hd]; rfl
      obtain ⟨e2, r⟩ := dRun_sound ok hop D1 hd1 hr
      exact ⟨by rw [e2, e1]; simp; omega, r⟩
    · cases hr
theorem evDrawn_sound (ok : TyOK P T) (hmix : P.follows .mixedOrders = true) {op : Oper → (Operand → Option Value) → AHeap → Option (Value × AHeap)} (hop : ∀ o ρ h u h', op o ρ h = some (u, h') → OpWp P o ρ h fun x y => x = u ∧ y = h')
    {id : Nat} {a aF : Tr Value} {h hF : AHeap} (he : evDrawn P T op ops cx.nt a h = some (aF, hF)) {Q : AExit → Tr Value → AHeap → Prop} (hQ : Q .normal aF hF) : CWp P cx (.region id ops true) a h Q := by
  unfold evDrawn at he
  split at he
  · rename_i σ hσ
    simp only [Option.some.injEq, Prod.mk.injEq] at he
    obtain ⟨rfl, rfl⟩ := he
    have D0 : DP P T cx ops a h ⟨0, a, .leaf, .leaf, .leaf, [], [], h⟩ (fun _ => .tuple #[]) (fun _ => .leaf) (fun _ => .skip) (fun _ => h) 0 :=
      { hz := rfl
        hm := rfl
        hist := .nil
        kdge := fun _ _ => rfl
        mask := fun j mk hj => by first | cases hj | (rw [Tr.get_leaf] at hj; cases hj)
        back := fun j o hj => absurd hj (Nat.not_lt_zero _)
        wr := fun d j hj => by first | cases hj | (rw [Tr.get_leaf] at hj; cases hj)
        wr2 := fun j o d hj => absurd hj (Nat.not_lt_zero _)
        act := fun d => by first | rfl | (simp only [Tr.get_leaf])
        all := fun s hs => absurd hs (Nat.not_lt_zero _)
        below := fun j i s hj => absurd hj (Nat.not_lt_zero _)
        mget := fun j mk hj => by first | cases hj | (rw [Tr.get_leaf] at hj; cases hj)
        pas := fun j o hj => absurd hj (Nat.not_lt_zero _)
        dfr := fun j o hj => absurd hj (Nat.not_lt_zero _)
        one := fun j o hj => absurd hj (Nat.not_lt_zero _) }
    obtain ⟨e1, v, pa, kd, H, m, D⟩ := dRun_sound ok hop D0 (by simp) hσ
    have hn : σ.i = ops.size := by rw [e1]; simp
    have lt : ∀ {j : Nat} {o : Oper}, ops[j]? = some o → j < σ.i := fun hj => by rw [hn]; exact (Array.getElem?_eq_some_iff.1 hj).1
    have at_ : ∀ j s, j < ops.size → (kd j).no = some s → s < m ∧ ∀ i, i < σ.i → (kd i).no = some s → i = j := fun j s hj hs => (D.one j _ (by omega) (Array.getElem?_eq_getElem hj)).at hs
    have R : DRun P cx ops (KB σ.M) a v kd H m := by
      refine ⟨fun i j ⟨mk, h1, h2⟩ => (D.mask j mk h1 i h2).1, fun j o ho => D.back j o (lt ho) ho, fun i j o p d hi hj hdo hdp => ?_, fun i o d hi hd => (D.wr2 i o d (lt hi) hi hd).2, fun s hs => ?_, fun i j s hi hj h1 h2 => (at_ j s hj h2).2 i (by omega) h1, fun i s hi h1 => (at_ i s hi h1).1, fun j s hj hk i s' hi hs' hlt => ?_, fun j i s hj hi hk hkb i' s' hi' hs' hlt => D.below j i s (by omega) (by omega) hk hkb i' s' (by omega) hs' hlt, fun j o ho => ⟨pa j, fun d u hu => ?_, D.dfr j o (lt ho) ho, ?_⟩⟩
      · have h1 := (D.wr2 i o d (lt hi) hi hdo).1
        have h2 := (D.wr2 j p d (lt hj) hj hdp).1
        rw [h1] at h2; cases h2; rfl
      · obtain ⟨i, h1, h2⟩ := D.all s hs; exact ⟨i, by omega, h2⟩
      · have hone := D.one j _ (by omega) (Array.getElem?_eq_getElem hj)
        unfold KOne at hone
        rw [hk] at hone
        exact hone.1.2.2 i s' (by omega) hs' hlt
      · rcases D.pas j o (lt ho) ho d u hu with ⟨i, p, g1, g2, g3, g4, _⟩ | ⟨g1, _, g3⟩
        · exact .inl ⟨i, p, g1, g2, g3, g4⟩
        · exact .inr ⟨g1, fun i p hp hd => g3 i p (lt hp) hp hd⟩
      · have hk := D.one j o (lt ho) ho
        unfold KOne at hk
        cases hkd : kd j with
        | skip => rw [hkd] at hk; exact hk
        | quiet =>
          rw [hkd] at hk
          obtain ⟨k1, k2, k3⟩ := hk
          refine ⟨k1, fun t ht hmay => ?_⟩
          obtain ⟨h', g1, g2⟩ := k2 t ht hmay
          exact aop_sound ok g1 ⟨rfl, g2⟩
        | change s =>
          rw [hkd] at hk
          exact ⟨hk.1.1, hk.1.2.1⟩
        | late s =>
          rw [hkd] at hk
          obtain ⟨⟨k1, rv, ob, q1, q2, q3, q4, q5, q6⟩, _⟩ := hk
          exact ⟨k1, rv, ob, q1, q2, q3, q4, q5, fun h => aop_sound ok (q6 h) ⟨rfl, rfl⟩⟩
    have hd := CWp.drawn (id := id) (aF := σ.a) (Q := Q) hmix R (fun d u hu => by
      rw [D.act d] at hu
      split at hu
      · rename_i j hj
        obtain ⟨_, p, g1, g2⟩ := D.wr d j hj
        simp only [Option.some.injEq] at hu
        exact .inl ⟨j, p, g1, g2, hu.symm⟩
      · rename_i hw
        refine .inr ⟨hu, fun i p hp hdp => ?_⟩
        have := (D.wr2 i p d (lt hp) hp hdp).1
        rw [hw] at this; cases this) (by rw [D.hm]; exact hQ)
    rw [D.hz] at hd
    exact hd
  · cases he
end
structure Env where
  P : Program
  T : Tr TI
  F : Tr Func
  S : FuncId → List Value → AHeap → Option (Value × AHeap)
structure EnvOK (E : Env) : Prop where
  ty : TyOK E.P E.T
  mix : E.P.follows .mixedOrders = true
  fn : ∀ f fn, E.F.get f = some fn → Entered E.P f fn
  sum : ∀ f args h v h', E.S f args h = some (v, h') → (∃ fn, Entered E.P f fn) ∧ FWp E.P f args h fun x y => x = v ∧ y = h'
noncomputable abbrev CodeF := Cx → Code → Tr Value → AHeap → Option (AExit × Tr Value × AHeap)
noncomputable def evYield (code : CodeF) (l : Nat) (vs : List Value) (h : AHeap) : Option (Value × AHeap) :=
  match h.get l with
  | some (.loop lp) => match bindParams lp.nt lp.params.toList vs lp.tmps with
    | some a0 => match code ⟨lp.fn, lp.nt, some l⟩ lp.assign a0 h with
      | some (.normal, a1, h1) => match h1.get l with
        | some (.loop lp1) => match lp1.state with
          | .ready => match code ⟨lp.fn, lp.nt, some l⟩ lp.body a1 (h1.set l (.loop (lp1.with .busy lp1.pending))) with
            | some (e, _, h2) => match h2.get l with
              | some (.loop lp2) => some (.bool (roundEnd lp2 e).2, h2.set l (.loop (roundEnd lp2 e).1))
              | _ => none
            | none => none
          | _ => none
        | _ => none
      | _ => none
    | none => none
  | _ => none
noncomputable def evCall (E : Env) (code : CodeF) (f : FuncId) (args : List Value) (h : AHeap) : Option (Value × AHeap) :=
  match E.S f args h with
  | some r => some r
  | none => match E.F.get f with
    | some fn => match fn.body with
      | some c => bif Nat.ble args.length fn.ntmps then match code ⟨f, fn.ntmps, none⟩ c (entry args 0 .leaf) h with
          | some (.normal, a', h') => match aRet E.T fn a' h' with
            | some v => some (v, h')
            | none => none
          | some (.ret, a', h') => match aRet E.T fn a' h' with
            | some v => some (v, h')
            | none => none
          | _ => none
        else none
      | none => none
    | none => none
noncomputable def evVal (E : Env) (code : CodeF) (fv : Value) (vs : List Value) (h : AHeap) : Option (Value × AHeap) :=
  match fv with
  | .func (.func f) first cap => evCall E code f (first.toList ++ vs ++ cap.toList) h
  | .func (.yield l) first cap => bif first.isEmpty && cap.isEmpty then evYield code l vs h else none
  | _ => none
noncomputable def evOp (E : Env) (code : CodeF) (o : Oper) (ρ : Operand → Option Value) (h : AHeap) : Option (Value × AHeap) :=
  match o.op with
  | .call ⟨.value f, xs, _⟩ => match ρ f, aopnds ρ xs.toList with
    | some fv, some vs => evVal E code fv vs h
    | _, _ => none
  | _ => aop E.P E.T o ρ h
noncomputable def loopRow (h : AHeap) (l : Nat) : Bool :=
  match h.get l with
  | some (.loop _) => true
  | _ => false
section
variable {E : Env} (ok : EnvOK E)
end
end Go.Ab
namespace Go.Ab
set_option linter.unusedSimpArgs false
set_option linter.unusedVariables false
noncomputable def tyOf (P : Program) (t : TypeId) : Option TI :=
  match P.info? t, P.underlying t with
  | some i, some d => some ⟨i.size, i.bytes, d, i.zero⟩
  | _, _ => none
noncomputable def fnOf (P : Program) (f : FuncId) : Option Func :=
  match P.funcs[f]? with
  | some fn => bif fn.name == "runtime.NumGoroutine" || fn.body.isNone then none else some fn
  | none => none
noncomputable def tab {α : Type} (g : Nat → Option α) : Nat → Tr α
  | 0 => .leaf
  | n + 1 => (tab g n).put n (g n)
theorem tab_get {α : Type} (g : Nat → Option α) : ∀ (n i : Nat) {x : α}, (tab g n).get i = some x → g i = some x
  | 0, i, x, h => by have h : (Tr.leaf : Tr α).get i = some x := h; rw [Tr.get_leaf] at h; cases h
  | n + 1, i, x, h => by
    simp only [tab] at h
    rw [Tr.get_put] at h
    split at h
    · rename_i e; subst e; exact h
    · exact tab_get g n i h
theorem tyOK_of (P : Program) (n : Nat) : TyOK P (tab (tyOf P) n) := by
  refine ⟨fun t ti ht => ?_⟩
  have h := tab_get _ _ _ ht
  unfold tyOf at h
  split at h
  · rename_i i d h1 h2
    cases h
    exact ⟨i, h1, rfl, rfl, rfl, h2⟩
  · cases h
theorem fnOK_of (P : Program) (n : Nat) (f : FuncId) (fn : Func) (h : (tab (fnOf P) n).get f = some fn) : Entered P f fn := by
  have h := tab_get _ _ _ h
  unfold fnOf at h
  split at h
  · rename_i fn' hf
    cases hb : fn'.name == "runtime.NumGoroutine" || fn'.body.isNone
    · rw [hb, cond_false] at h
      cases h
      simp only [Bool.or_eq_false_iff] at hb
      exact ⟨hf, hb.1, hb.2⟩
    · rw [hb, cond_true] at h; cases h
  · cases h
noncomputable def envOf (P : Program) (nt nf : Nat) : Env := ⟨P, tab (tyOf P) nt, tab (fnOf P) nf, fun _ _ _ => none⟩
structure Kept (w w' : World) : Prop where
  os : w'.os = w.os
  output : w'.output = w.output
  size : w.heap.size ≤ w'.heap.size
  heap : ∀ b, b < w.heap.size → w'.heap[b]? = w.heap[b]?
theorem Kept.but {w w' : World} (h : Kept w w') (may : MemPlace → Prop) : w.keptBut w' may := by
  refine ⟨h.os, h.output, fun i hi => ?_⟩
  rw [h.heap i hi]
  cases hw : w.heap[i]? with
  | none => rfl
  | some o =>
    cases o <;> simp only [implies_true, and_self, or_true]
theorem Kept.frozen {w w' : World} (h : Kept w w') {b off : Nat} (hb : b < w.heap.size) : w'.frozen? ⟨b, off, none⟩ = w.frozen? ⟨b, off, none⟩ := by
  simp only [World.frozen?, h.heap b hb]
theorem post_of_kept {H : Type} {enc : TypeId × Value → H} {P : Program} {f : Func} {s : ChangeSpec} {apart fresh handsOn again : Bool} {W W' : World} {args : Array Value} {v : Value} {ds gs : List (DataW H)} {before pa pv : List MemPlace}
    (hW : DataW.Whole enc P f.params.toList s.vars apart W args.toList ds gs before)
    (hres : ∀ (b : Nat) (sp : Nat → Bool) (hd : Bool), DataW.TrodAll enc P W' b sp hd f.resultTypes.toList (v.resultList f.resultTypes.size) (s.fn H (ds ++ gs)).results [])
    (hargs : ∀ sp : Nat → Bool, (∀ p ∈ before, sp p.block = true) → DataW.TrodAll enc P W' 0 sp true f.params.toList args.toList (s.fn H (ds ++ gs)).args pa)
    (hvars : ∀ sp : Nat → Bool, (∀ p ∈ before, sp p.block = true) → DataW.TrodVars enc P W' sp s.vars (s.fn H (ds ++ gs)).vars pv)
    (hps : before = pa ++ pv) (hk : Kept W W')
    (hok : ∀ (j : Nat) (t : TypeId) (r : Value), f.resultTypes[j]? = some t → (v.resultList f.resultTypes.size)[j]? = some r → Value.okWide P W' .any 0 t r) :
    s.post enc P f apart fresh handsOn again W args v W' := by
  have hlt := hW.lt
  have hold : ∀ p ∈ before, (fun b => decide (b < W.heap.size)) p.block = true := fun p hp => by simpa using hlt p hp
  refine ⟨ds, gs, before, [], pa, pv, hW, hres _ _ _, hargs _ hold, hvars _ hold, World.keptBut_mono (fun p hp => ⟨hp, ?_⟩) (hk.but (· ∈ before)), fun _ => ?_⟩
  · rw [hps, List.mem_append] at hp
    exact Or.inr hp
  · obtain ⟨_, _, _, _, _, hz, hn⟩ := hW
    refine ⟨hok, _, _, ([] ++ pa) ++ pv, ⟨[] ++ pa, pv, ChangeShapes.trodAll_append (hargs _ (fun _ _ => rfl)) (hres _ _ _), hvars _ (fun _ _ => rfl), rfl, ?_, ?_⟩, ?_⟩
    · intro b off hp
      have hm : MemPlace.cell b off ∈ before := by rw [hps]; simpa using hp
      have hb : b < W.heap.size := hlt _ hm
      rw [hk.frozen hb]
      exact hz b off hm
    · intro ha
      have := hn ha
      rw [hps] at this
      simpa using this
    · intro p hp _
      rw [hps]
      simpa using hp
end Go.Ab
namespace Go.Ab
set_option linter.unusedSimpArgs false
set_option linter.unusedVariables false
section
variable {P : Program} {T : Tr TI} {cx : Cx} {a : Tr Value} {h : AHeap}
noncomputable def OSuf (P : Program) (cx : Cx) (ops : Array Oper) (os : List Oper) (a : Tr Value) (h : AHeap) (Q : Tr Value → AHeap → Prop) : Prop :=
  ∀ i, ops.toList.drop i = os → OWp P cx ops (List.range' i os.length) a h Q
theorem OSuf.nil {ops : Array Oper} {Q : Tr Value → AHeap → Prop} (hq : Q a h) : OSuf P cx ops [] a h Q := fun _ _ => OWp.nil hq
theorem OSuf.op {ops : Array Oper} {Q : Tr Value → AHeap → Prop} {o : Oper} {os : List Oper} (hg : aguard ops a o = some true) (hd : isDefer o.op = false)
    (hop : OpWp P o (aopnd a) h fun v h' => ∃ a', aput cx.nt a o.dst v = some a' ∧ OSuf P cx ops os a' h' Q) : OSuf P cx ops (o :: os) a h Q := by
  intro i hi
  have ho : ops[i]? = some o := by
    rw [← Array.getElem?_toList]
    have := congrArg (fun l : List Oper => l[0]?) hi
    simpa using this
  rw [List.length_cons, List.range'_succ]
  refine OWp.op ho hg hd (hop.mono ?_)
  rintro v h' ⟨a', h1, h2⟩
  exact ⟨a', h1, h2 (i + 1) (by rw [← List.drop_drop, hi]; rfl)⟩
theorem OSuf.skip {ops : Array Oper} {Q : Tr Value → AHeap → Prop} {o : Oper} {os : List Oper} {a' : Tr Value} (hg : aguard ops a o = some false) (hp : aput cx.nt a o.dst (.tuple #[]) = some a') (hr : OSuf P cx ops os a' h Q) : OSuf P cx ops (o :: os) a h Q := by
  intro i hi
  have ho : ops[i]? = some o := by
    rw [← Array.getElem?_toList]
    have := congrArg (fun l : List Oper => l[0]?) hi
    simpa using this
  rw [List.length_cons, List.range'_succ]
  exact OWp.skip ho hg hp (hr (i + 1) (by rw [← List.drop_drop, hi]; rfl))
theorem CWp.reg {id : Nat} {ops : Array Oper} {Q : AExit → Tr Value → AHeap → Prop} (hr : OSuf P cx ops ops.toList a h fun a' h' => Q .normal a' h') : CWp P cx (.region id ops false) a h Q := by
  refine CWp.region ?_
  have := hr 0 (by simp)
  rwa [Array.length_toList, ← List.range_eq_range'] at this
theorem aop_nodefer {o : Oper} {ρ : Operand → Option Value} {h h' : AHeap} {v : Value} (ha : aop P T o ρ h = some (v, h')) : isDefer o.op = false := by
  obtain ⟨dst, op, ty, pos, after, guard⟩ := o
  cases op <;> first | rfl | cases ha
theorem CWp.loopI {c : Code} {Q : AExit → Tr Value → AHeap → Prop} (I : Nat → Tr Value → AHeap → Prop) (round : ∀ n a h, I n a h → CWp P cx c a h fun e a' h' => match e with | .normal => ∃ m, m < n ∧ I m a' h' | e => Q e a' h') :
    ∀ n a h, I n a h → CWp P cx (.loop c) a h Q := by
  intro n
  induction n using Nat.strongRecOn with
  | _ n ih =>
    intro a h hI
    refine CWp.loop1 ((round n a h hI).mono fun e a' h' hq => ?_)
    cases e with
    | normal => obtain ⟨m, hm, hI'⟩ := hq; exact ih m hm a' h' hI'
    | exit i => exact hq
    | ret => exact hq
theorem CWp.forget {c : Code} {Q : AExit → Tr Value → AHeap → Prop} {b : Tr Value} (hb : ∀ t v, b.get t = some v → a.get t = some v) (hc : CWp P cx c b h Q) : CWp P cx c a h Q :=
  fun μ base tmps defers rd w k cs p => hc μ base tmps defers rd w k cs ⟨fun t v hv => p.act t v (hb t v hv), p.size, p.rdr, p.dok, p.dno, p.dge, p.bsz, p.st⟩
end
end Go.Ab
