/-
  The walk in an order of its own is right.
-/
import Derived.Test.YtebheelmgcggmaaGreatAb43
namespace Go.Ab.Nx
open Go.Ab
set_option linter.unusedSimpArgs false
set_option linter.unusedVariables false
section
variable {P : Program} {T : Tr TI} {cx : Cx} {ops : Array Oper} {a0 : Tr Value} {h0 : AHeap}
structure MOK (ops : Array Oper) (M : Tr Nat) : Prop where
  mask : ∀ j mk, M.get j = some mk → ∀ p, Nat.testBit mk p = true → Known ops p j ∧ p < j
  back : ∀ (j : Nat) (o : Oper), ops[j]? = some o → ∀ e ∈ o.after, Region.binds .any e = true → e.on < j
theorem dMasks_ok : ∀ {os : List Oper} {j : Nat} {M M' : Tr Nat}, ops.toList.drop j = os → dMasks os j M = some M' → (∀ i mk, M.get i = some mk → ∀ p, Nat.testBit mk p = true → Known ops p i ∧ p < i) → (∀ (i : Nat) (o : Oper), i < j → ops[i]? = some o → ∀ e ∈ o.after, Region.binds .any e = true → e.on < i) → MOK ops M'
  | [], j, M, M', hd, h, hM, hb => by
    simp only [dMasks, Option.some.injEq] at h
    subst h
    refine ⟨hM, fun i o ho => hb i o ?_ ho⟩
    have h1 := (Array.getElem?_eq_some_iff.1 ho).1
    have h2 := List.drop_eq_nil_iff.1 hd
    simp at h2; omega
  | o :: os, j, M, M', hd, h, hM, hb => by
    simp only [dMasks] at h
    split at h
    · rename_i mk hmk
      have ho : ops[j]? = some o := by
        rw [← Array.getElem?_toList]
        have := congrArg (fun l : List Oper => l[0]?) hd
        simpa using this
      obtain ⟨km, kb⟩ := dMask_known ho hM (fun e he => by simpa using he) hmk (fun p hp => by simp at hp)
      refine dMasks_ok (j := j + 1) (by rw [← List.drop_drop, hd]; rfl) h (fun i mk' hi p hp => ?_) fun i o' hi ho' e he hbi => ?_
      · rw [Tr.get_put] at hi
        split at hi
        · rename_i e; subst e; cases hi; exact km p hp
        · exact hM i mk' hi p hp
      · by_cases e2 : i = j
        · subst e2; rw [ho] at ho'; cases ho'; exact kb e (by simpa using he) hbi
        · exact hb i o' (by omega) ho' e he hbi
    · cases h
theorem bit_add (dn j i : Nat) : Nat.testBit (Nat.lor dn (Nat.shiftLeft 1 j)) i = (Nat.testBit dn i || decide (i = j)) := by rw [testBit_lor', testBit_one]
theorem bit_sub {mk dn : Nat} (h : Nat.beq (Nat.lor mk dn) dn = true) {p : Nat} (hp : Nat.testBit mk p = true) : Nat.testBit dn p = true := by
  rw [← Nat.eq_of_beq_eq_true h, testBit_lor', hp]; rfl
inductive HistOK (size : Nat) (kd : Nat → Kind) (H : Nat → AHeap) : List (Nat × Bool × AHeap) → Nat → Prop
  | nil : HistOK size kd H [] 0
  | cons {c m : Nat} {l : Bool} {r : List (Nat × Bool × AHeap)} (hc : c < size) (hk : kd c = bif l then .late m else .change m) (t : HistOK size kd H r m) : HistOK size kd H ((c, l, H m) :: r) (m + 1)
theorem bif_no (l : Bool) (m : Nat) : (bif l then Kind.late m else Kind.change m).no = some m := by cases l <;> rfl
noncomputable def KB (M : Tr Nat) (i j : Nat) : Prop := ∃ mk, M.get j = some mk ∧ Nat.testBit mk i = true
theorem HistOK.mono {size n : Nat} {kd : Nat → Kind} {H H' : Nat → AHeap} (kn : Kind) (hk : kd n = .skip) : ∀ {l : List (Nat × Bool × AHeap)} {m : Nat}, HistOK size kd H l m → (∀ t, t < m → H' t = H t) → HistOK size (ups kd n kn) H' l m
  | _, _, .nil, _ => .nil
  | _, _, .cons (c := c) (m := m) (l := l) hc hk' t, hh => by
    have hne : c ≠ n := fun e => by
      subst e; rw [hk] at hk'
      cases l <;> cases hk'
    rw [← hh m (by omega)]
    exact .cons hc (by rw [ups_ne _ _ hne]; exact hk') (t.mono kn hk fun s hs => hh s (by omega))
noncomputable def KOne (P : Program) (T : Tr TI) (ops : Array Oper) (M : Tr Nat) (kd : Nat → Kind) (H : Nat → AHeap) (m : Nat) (reads : List (Nat × Oper × Tr Value × Value)) (v : Value) (pa : Tr Value) (j : Nat) (o : Oper) : Prop :=
  match kd j with
  | .skip => aguard ops pa o = some false ∧ v = .tuple #[]
  | .quiet => aguard ops pa o = some true ∧ (∀ t, t ≤ m → May ops (KB M) kd j t → ∃ h', aop P T o (aopnd pa) (H t) = some (v, h') ∧ h' = H t) ∧ ((memKind T o.op = 0 ∧ ∃ y, aop P T o (aopnd pa) y = some (v, y)) ∨ (memKind T o.op = 1 ∧ (j, o, pa, v) ∈ reads))
  | .change s => (aguard ops pa o = some true ∧ OpWp P o (aopnd pa) (H s) (fun u h' => u = v ∧ h' = H (s + 1)) ∧ ∀ i s', (kd i).no = some s' → s' < s → Known ops i j) ∧ s < m ∧ (∀ i, (kd i).no = some s → i = j)
  | .late s => (aguard ops pa o = some true ∧ ∃ rv ob, NewV rv ∧ v = rv (H s).next ∧ H (s + 1) = (H s).new ob ∧ ob.own = true ∧ (∀ (μ : Emb) (n : Nat) (ρ' : Operand → Value), OpRel μ n (aopnd pa) ρ' → BO n ob) ∧ ∀ h, aop P T o (aopnd pa) h = some (rv h.next, h.new ob)) ∧ s < m ∧ (∀ i, (kd i).no = some s → i = j)
  | .pure l => aguard ops pa o = some true ∧ PureOp P o (aopnd pa) v ∧ l ≤ m
theorem KOne.at {M : Tr Nat} {kd : Nat → Kind} {H : Nat → AHeap} {m : Nat} {reads : List (Nat × Oper × Tr Value × Value)} {v : Value} {pa : Tr Value} {j : Nat} {o : Oper} (h : KOne P T ops M kd H m reads v pa j o) {s : Nat} (hs : (kd j).no = some s) : s < m ∧ ∀ i, (kd i).no = some s → i = j := by
  unfold KOne at h
  cases hk : kd j with
  | skip => rw [hk] at hs; cases hs
  | quiet => rw [hk] at hs; cases hs
  | pure l => rw [hk] at hs; cases hs
  | change s' => rw [hk] at hs h; cases hs; exact h.2
  | late s' => rw [hk] at hs h; cases hs; exact h.2
structure DP (P : Program) (T : Tr TI) (cx : Cx) (ops : Array Oper) (M : Tr Nat) (a0 : Tr Value) (h0 : AHeap) (σ : DSt) (v : Nat → Value) (pa : Nat → Tr Value) (kd : Nat → Kind) (H : Nat → AHeap) (m : Nat) : Prop where
  hz : H 0 = h0
  hm : H m = σ.h
  hist : HistOK ops.size kd H σ.hist m
  kdun : ∀ j, Nat.testBit σ.dn j = false → kd j = .skip
  dlt : ∀ j, Nat.testBit σ.dn j = true → j < ops.size
  down : ∀ j, Nat.testBit σ.dn j = true → ∀ i, KB M i j → Nat.testBit σ.dn i = true
  wr : ∀ d j, σ.W.get d = some j → Nat.testBit σ.dn j = true ∧ ∃ o, ops[j]? = some o ∧ o.dst = some d
  wr2 : ∀ (j : Nat) (o : Oper) (d : Tmp), Nat.testBit σ.dn j = true → ops[j]? = some o → o.dst = some d → σ.W.get d = some j ∧ d < cx.nt
  act : ∀ d, σ.a.get d = match σ.W.get d with | some j => some (v j) | none => a0.get d
  all : ∀ s, s < m → ∃ i, (kd i).no = some s
  lvm : ∀ i, (kd i).lv ≤ m
  monoH : ∀ s, s < m → (H s).next ≤ (H (s + 1)).next
  below : ∀ j i, Nat.testBit σ.dn j = true → (∀ l, kd j ≠ .pure l) → KB M i j → ∀ i' s', (kd i').no = some s' → s' < (kd i).lv → KB M i' j
  belowP : ∀ j i l, kd j = .pure l → KB M i j → (kd i).lv ≤ l
  lvs : ∀ i l, kd i = .pure l → ∃ hs, (i, hs) ∈ σ.lvs ∧ HistOK ops.size kd H hs l
  pas : ∀ (j : Nat) (o : Oper), Nat.testBit σ.dn j = true → ops[j]? = some o → ∀ d u, (pa j).get d = some u → (∃ i p, ops[i]? = some p ∧ p.dst = some d ∧ KB M i j ∧ u = v i) ∨
    (a0.get d = some u ∧ (∃ r, σ.R.get d = some r ∧ Nat.testBit r j = true) ∧ ∀ (i : Nat) (p : Oper), Nat.testBit σ.dn i = true → ops[i]? = some p → p.dst = some d → i = j ∨ Known ops j i)
  dfr : ∀ (j : Nat) (o : Oper), Nat.testBit σ.dn j = true → ops[j]? = some o → isDefer o.op = false
  one : ∀ (j : Nat) (o : Oper), Nat.testBit σ.dn j = true → ops[j]? = some o → KOne P T ops M kd H m σ.reads (v j) (pa j) j o
theorem dAll_bit {size : Nat} {kd : Nat → Kind} {H : Nat → AHeap} {mk : Nat} : ∀ {l : List (Nat × Bool × AHeap)} {m : Nat}, HistOK size kd H l m → dAll mk l = true → ∀ s, s < m → ∃ c, c < size ∧ (kd c).no = some s ∧ Nat.testBit mk c = true
  | _, _, .nil, _, s, hs => by omega
  | _, _, .cons (c := c) (m := m) (l := l) hc hk t, hd, s, hs => by
    simp only [dAll, Bool.and_eq_true] at hd
    by_cases e : s = m
    · subst e; exact ⟨c, hc, by rw [hk]; exact bif_no l s, hd.1⟩
    · exact dAll_bit t hd.2 s (by omega)
theorem dBelow_bit {size : Nat} {kd : Nat → Kind} {H : Nat → AHeap} {mk : Nat} : ∀ {l : List (Nat × Bool × AHeap)} {m : Nat}, HistOK size kd H l m → dBelow mk l = true → ∀ i s, kd i = .late s → s < m → (∀ c, (kd c).no = some s → c = i) → Nat.testBit mk i = true → ∀ s', s' < s → ∃ c, c < size ∧ (kd c).no = some s' ∧ Nat.testBit mk c = true
  | _, _, .nil, _, i, s, _, hs, _, _, _, _ => by omega
  | _, _, .cons (c := c) (m := m) (l := l) hc hk t, hd, i, s, hks, hs, hu, hb, s', hlt => by
    simp only [dBelow, Bool.and_eq_true] at hd
    by_cases e : s = m
    · subst e
      have hci : c = i := hu c (by rw [hk]; exact bif_no l s)
      subst hci
      have hl : l = true := by
        cases l with
        | true => rfl
        | false => rw [hk] at hks; cases hks
      subst hl
      rw [hb] at hd
      exact dAll_bit t (by simpa using hd.1) s' hlt
    · exact dBelow_bit t hd.2 i s hks (by omega) hu hb s' hlt
theorem dPures_all {mk i : Nat} {hs : List (Nat × Bool × AHeap)} : ∀ {l : List (Nat × List (Nat × Bool × AHeap))}, dPures mk l = true → (i, hs) ∈ l → Nat.testBit mk i = true → dAll mk hs = true
  | [], _, h, _ => by cases h
  | (j, gs) :: l, hd, h, hb => by
    simp only [dPures, Bool.and_eq_true] at hd
    rcases List.mem_cons.1 h with h | h
    · cases h
      rw [hb] at hd
      simpa using hd.1
    · exact dPures_all hd.2 h hb
end
end Go.Ab.Nx
